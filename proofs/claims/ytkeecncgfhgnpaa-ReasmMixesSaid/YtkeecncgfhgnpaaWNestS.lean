/- A part of the proof: lemmas; nothing is claimed here. -/
import Derived.Test.YtkeecncgfhgnpaaWNest
set_option linter.all false
namespace Go.Wf
open Go Go.RowKit
variable {P : Program} {T : TT} {ops : Array Oper}

theorem guardK_split {o : Oper} {e : Env} {go pass : Env → Prop} (h : guardK ops o e go pass) :
    (wantE ops o e = true ∧ go e) ∨ (wantE ops o e = false ∧ pass (upd e o.dst undef)) := by
  unfold guardK at h
  unfold wantE dstAt
  cases hg : o.guard with
  | none => simp only [hg] at h; exact .inl ⟨rfl, h⟩
  | some jw =>
    obtain ⟨j, want⟩ := jw
    simp only [hg] at h ⊢
    cases hd : (ops[j]?).bind (·.dst) with
    | none => simp only [hd] at h
    | some d =>
      simp only [hd] at h ⊢
      cases hb : e d <;> simp only [hb] at h ⊢ <;> try (first | exact .inr ⟨rfl, h⟩ | exact .inr ⟨trivial, h⟩)
      rename_i b
      have hself : ∀ b', e d = .bool b' → upd e (some d) (.bool b') = e := fun b' hb' => by rw [← hb']; exact upd_self e d
      cases b <;> cases want <;> simp only [ifK, hself _ hb] at h
      · exact .inl ⟨rfl, h⟩
      · exact .inr ⟨rfl, h⟩
      · exact .inr ⟨rfl, h⟩
      · exact .inl ⟨rfl, h⟩
/-- A guarded step, made. -/
theorem guardK_mk {o : Oper} {e : Env} {go pass go' pass' : Env → Prop} (h : guardK ops o e go pass) (h1 : go e → go' e) (h2 : pass (upd e o.dst undef) → pass' (upd e o.dst undef)) : guardK ops o e go' pass' := by
  unfold guardK at *
  cases hg : o.guard with
  | none => simp only [hg] at h ⊢; exact h1 h
  | some jw =>
    obtain ⟨j, want⟩ := jw
    simp only [hg] at h ⊢
    cases hd : (ops[j]?).bind (·.dst) with
    | none => simp only [hd] at h
    | some d =>
      simp only [hd] at h ⊢
      cases hb : e d <;> simp only [hb] at h ⊢ <;> try exact h2 h
      rename_i b
      have hself : ∀ b', e d = .bool b' → upd e (some d) (.bool b') = e := fun b' hb' => by rw [← hb']; exact upd_self e d
      cases b <;> cases want <;> simp only [ifK, hself _ hb] at h ⊢ <;> first | exact h1 h | exact h2 h

theorem wanted_eq {o : Oper} {a : Act} {e : Env} (h : ∀ t ∈ o.looksAt ops, a.tmps[t]? = some (e t)) (hg : ∀ j want, o.guard = some (j, want) → (dstAt ops j).isSome = true) :
    Region.wanted o (yielded ops a.tmps) = wantE ops o e := by
  unfold wantE
  cases hgd : o.guard with
  | none => simp [Region.wanted, hgd]
  | some jw =>
    obtain ⟨j, want⟩ := jw
    obtain ⟨d, hd⟩ := Option.isSome_iff_exists.1 (hg j want hgd)
    have hd' : (ops[j]?).bind (·.dst) = some d := hd
    have ht : d ∈ o.looksAt ops := by simp [Oper.looksAt, hgd, hd']
    simp only [Region.wanted, hgd, hd, yielded, hd', Option.bind_some, h d ht]
    cases e d <;> simp
theorem eval_eq {o : Oper} {a : Act} {e : Env} (h : ∀ t ∈ o.looksAt ops, a.tmps[t]? = some (e t)) : ∀ y ∈ o.op.operands, a.eval y = ev e y := fun y hy => by
  cases y with
  | tmp t =>
    have ht : t ∈ o.looksAt ops := by
      simp only [Oper.looksAt, List.mem_append, List.mem_filterMap]
      exact .inl ⟨.tmp t, by simpa using hy, rfl⟩
    simp [Act.eval, ev, Array.getD_eq_getD_getElem?, h t ht]
  | _ => rfl
theorem ev_eq {o : Oper} {e e' : Env} (h : ∀ t ∈ o.looksAt ops, e' t = e t) : ∀ y ∈ o.op.operands, ev e' y = ev e y := fun y hy => by
  cases y with
  | tmp t =>
    have ht : t ∈ o.looksAt ops := by
      simp only [Oper.looksAt, List.mem_append, List.mem_filterMap]
      exact .inl ⟨.tmp t, by simpa using hy, rfl⟩
    simp [ev, h t ht]
  | _ => rfl
theorem newOf_congr {o : Oper} {e e' : Env} (h : ∀ y ∈ o.op.operands, ev e' y = ev e y) : newOf T o e' = newOf T o e := by
  obtain ⟨dst, op, ty, pos, after, guard⟩ := o
  unfold newOf
  cases op <;> simp only [Op.operands] at h ⊢
  case box t x => rw [h x (by simp)]
  case buildSlice t n parts =>
    have : (parts.toList.map fun x => (x.1, ev e' x.2)) = (parts.toList.map fun x => (x.1, ev e x.2)) := List.map_congr_left fun p hm => by
      rw [h p.2 (by simp only [List.mem_toArray, List.mem_map]; exact ⟨p, hm, rfl⟩)]
    rw [this]
  case makeMap t r => cases r <;> rfl
theorem wantE_congr {o : Oper} {e e' : Env} (h : ∀ t ∈ o.looksAt ops, e' t = e t) : wantE ops o e' = wantE ops o e := by
  unfold wantE
  cases hgd : o.guard with
  | none => rfl
  | some jw =>
    obtain ⟨j, want⟩ := jw
    simp only
    cases hd : dstAt ops j with
    | none => rfl
    | some d =>
      have hd' : (ops[j]?).bind (·.dst) = some d := hd
      have ht : d ∈ o.looksAt ops := by simp [Oper.looksAt, hgd, hd']
      simp only [h d ht]

/-! ### Blocks that came early -/
def Th.pendo (th : Th) (mv : Option Nat) : Th := { th with pd := fun x => th.pd x ∨ mv = some x }
def Fresh (mv : Option Nat) (th : Th) : Prop := ∀ b, mv = some b → th.w0.heap.size ≤ b ∧ ¬ th.av b ∧ ¬ th.pd b
theorem opN_pend {mv : Option Nat} {o : Oper} {e : Env} {th : Th} {k k' : Value → Th → Prop} (h : opN P T o e th k)
    (hk : ∀ v th', k v th' → (Fresh mv th → Fresh mv th') → k' v (th'.pendo mv)) : opN P T o e (th.pendo mv) k' := by
  unfold opN at *
  split at h
  · cases hp : pureOk o e with
    | false => rw [hp] at h; exact h.elim
    | true =>
      rw [hp] at h
      simp only [cond_true] at h ⊢
      obtain ⟨v, hv, hall⟩ := pure_split hp h
      exact hall _ _ (hk v th hv id)
  · split at h
    · split at h
      · unfold adK at *
        split at h
        · obtain ⟨p, hp, hkk⟩ := h
          exact ⟨p, hp, hk _ _ hkk id⟩
        · exact h.elim
      · exact h.elim
    · split at h
      · rename_i s hs
        obtain ⟨p, hp, hkk⟩ := h
        exact ⟨p, hp, hk _ _ hkk id⟩
      · exact h.elim
  · split at h
    · rename_i ob f hn
      intro b h1 h2 h3
      refine hk _ _ (h b h1 h2 (fun h4 => h3 (.inl h4))) fun hf c hc => ?_
      obtain ⟨g1, g2, g3⟩ := hf c hc
      refine ⟨g1, fun g => ?_, g3⟩
      rcases g with g | rfl
      · exact g2 g
      · exact h3 (.inr hc)
    · exact h.elim
  · split at h
    · rename_i F hF
      obtain ⟨φ, hs, hrun, hkk⟩ := h
      refine ⟨φ, hs, hrun, fun r N hN hw => hk _ _ (hkk r N (fun x hx => ?_) hw) fun hf c hc => ?_⟩
      · obtain ⟨g1, g2, g3⟩ := hN x hx
        exact ⟨g1, g2, fun h4 => g3 (.inl h4)⟩
      · obtain ⟨g1, g2, g3⟩ := hf c hc
        refine ⟨g1, fun g => ?_, g3⟩
        rcases g with g | g
        · exact g2 g
        · exact (hN c g).2.2 (.inr hc)
    · exact h.elim
  · exact h.elim
def Pendable (K : Env → Th → Prop) : Prop := ∀ e th mv, K e th → K e (th.pendo mv)
theorem nest_pend {mk : Marks} {K : Env → Th → Prop} (hK : Pendable K) {mv : Option Nat} : ∀ (l : List Nat) (e : Env) (th : Th), nestK P T ops mk K l e th → nestK P T ops mk K l e (th.pendo mv)
  | [], e, th, h => hK e th mv h
  | i :: l, e, th, h => by
    unfold nestK at *
    cases ho : ops[i]? with
    | none => simp only [ho] at h
    | some o =>
      simp only [ho] at h ⊢
      split at h
      · exact nest_pend hK l _ _ h
      · split at h
        · exact nest_pend hK l _ (th.new _ _) h
        · exact h.elim
      · exact cond_mk h fun h => guardK_mk h (fun h => opN_pend h fun v th' hv _ => nest_pend hK l _ _ hv) (fun h => nest_pend hK l _ _ h)
theorem opN_mono_aux {o : Oper} {e : Env} {th : Th} {k k' : Value → Th → Prop} (h : opN P T o e th k) (hk : ∀ v th', k v th' → k' v th') : opN P T o e th k' := by
  unfold opN at *
  split at h
  · cases hp : pureOk o e with
    | false => rw [hp] at h; exact h.elim
    | true =>
      rw [hp] at h
      simp only [cond_true] at h ⊢
      obtain ⟨v, hv, hall⟩ := pure_split hp h
      exact hall _ _ (hk v th hv)
  · split at h
    · split at h
      · unfold adK at *
        split at h
        · obtain ⟨p, hp, hkk⟩ := h
          exact ⟨p, hp, hk _ _ hkk⟩
        · exact h.elim
      · exact h.elim
    · split at h
      · rename_i s hs
        obtain ⟨p, hp, hkk⟩ := h
        exact ⟨p, hp, hk _ _ hkk⟩
      · exact h.elim
  · split at h
    · intro b h1 h2 h3
      exact hk _ _ (h b h1 h2 h3)
    · exact h.elim
  · split at h
    · obtain ⟨φ, hs, hrun, hkk⟩ := h
      exact ⟨φ, hs, hrun, fun r N hN hw => hk _ _ (hkk r N hN hw)⟩
    · exact h.elim
  · exact h.elim
def Marks.put (mk : Marks) (j : Nat) (mv : Option Nat) : Marks := fun i => if i = j then some mv else mk i
theorem nest_marks {mk : Marks} {K : Env → Th → Prop} {j : Nat} {mv : Option Nat} : ∀ (l : List Nat) (e : Env) (th : Th), j ∉ l → nestK P T ops mk K l e th → nestK P T ops (mk.put j mv) K l e th
  | [], _, _, _, h => h
  | i :: l, e, th, hj, h => by
    have hi : i ≠ j := fun h => hj (by simp [h])
    have hl : j ∉ l := fun h => hj (by simp [h])
    unfold nestK at *
    cases ho : ops[i]? with
    | none => simp only [ho] at h
    | some o =>
      simp only [ho, Marks.put, if_neg hi] at h ⊢
      split at h
      · exact nest_marks l _ _ hl h
      · split at h
        · exact nest_marks l _ _ hl h
        · exact h.elim
      · refine cond_mk h fun h => guardK_mk h (fun h => ?_) (fun h => nest_marks l _ _ hl h)
        have := opN_mono_aux h fun v th' hv => nest_marks (mv := mv) l _ _ hl hv
        exact this
theorem upd_get (e : Env) (d : Option Nat) (v : Value) {t : Nat} (h : d ≠ some t) : upd e d v t = e t := by
  cases d with
  | none => rfl
  | some d => exact upd_other e (fun he => h (by rw [he])) v
/-- One of those that make a block came up early. -/
theorem nest_mark {mk : Marks} {K : Env → Th → Prop} (hK : Pendable K) {j : Nat} {o : Oper} {mv : Option Nat} (hj : ops[j]? = some o) (hkd : kdOf T o = 2) (hmk : mk j = none) {e0 : Env} (l2 : List Nat) (hl2 : j ∉ l2) (hdis : ∀ i b, mk i = some (some b) → mv ≠ some b)
    (hw : ∀ e' : Env, (∀ t ∈ o.looksAt ops, e' t = e0 t) → wantE ops o e' = mv.isSome) :
    ∀ (l1 : List Nat) (e : Env) (th : Th), (∀ t ∈ o.looksAt ops, e t = e0 t) → j ∉ l1 → (∀ i ∈ l1, ∀ t, dstAt ops i = some t → t ∉ o.looksAt ops) → Fresh mv th →
      nestK P T ops mk K (l1 ++ j :: l2) e th → nestK P T ops (mk.put j mv) K (l1 ++ j :: l2) e (th.pendo mv)
  | [], e, th, he, _, _, hf, h => by
    simp only [List.nil_append, nestK, hj, hmk, Marks.put, if_true] at h ⊢
    have hwe := hw e he
    rcases guardK_split (cond_out h).2 with ⟨h1, h2⟩ | ⟨h1, h2⟩
    · rw [hwe] at h1
      obtain ⟨b, rfl⟩ := Option.isSome_iff_exists.1 h1
      simp only
      unfold opN at h2
      simp only [hkd] at h2
      split at h2
      · rename_i ob f hn
        have h3 := h2 b (hf b rfl).1 (hf b rfl).2.1 (hf b rfl).2.2
        exact nest_marks l2 _ _ hl2 (nest_pend hK (mv := some b) l2 _ _ h3)
      · exact h2.elim
    · rw [hwe] at h1
      cases mv with
      | some b => cases h1
      | none => exact nest_marks l2 _ _ hl2 (nest_pend hK (mv := none) l2 _ _ h2)
  | i :: l1, e, th, he, hj1, hd, hf, h => by
    have hi : i ≠ j := fun h => hj1 (by simp [h])
    have hl : j ∉ l1 := fun h => hj1 (by simp [h])
    simp only [List.cons_append] at h ⊢
    unfold nestK at *
    cases ho : ops[i]? with
    | none => simp only [ho] at h
    | some oi =>
      have hdi : ∀ t, oi.dst = some t → t ∉ o.looksAt ops := fun t ht => hd i (by simp) t (by simp [dstAt, ho, ht])
      have hupd : ∀ v, ∀ t ∈ o.looksAt ops, upd e oi.dst v t = e0 t := fun v t ht => by
        rw [upd_get e oi.dst v (fun h => hdi t h ht)]; exact he t ht
      have hd' : ∀ i ∈ l1, ∀ t, dstAt ops i = some t → t ∉ o.looksAt ops := fun q hq => hd q (by simp [hq])
      simp only [ho, Marks.put, if_neg hi] at h ⊢
      split at h
      · exact nest_mark hK hj hkd hmk l2 hl2 hdis hw l1 _ _ (hupd _) hl hd' hf h
      · rename_i b hb
        split at h
        · rename_i ob f hn
          refine nest_mark hK hj hkd hmk l2 hl2 hdis hw l1 _ (th.new b ob) (hupd _) hl hd' (fun c hc => ?_) h
          refine ⟨(hf c hc).1, fun g => ?_, (hf c hc).2.2⟩
          rcases g with g | rfl
          · exact (hf c hc).2.1 g
          · exact hdis i c hb hc
        · exact h.elim
      · exact cond_mk h fun h => guardK_mk h (fun h => opN_pend h fun v th' hv hff => nest_mark hK hj hkd hmk l2 hl2 hdis hw l1 _ _ (hupd v) hl hd' (hff hf) hv)
          (fun h => nest_mark hK hj hkd hmk l2 hl2 hdis hw l1 _ _ (hupd _) hl hd' hf h)

/-! ### What the check says -/
theorem memB_mem {l : List Nat} {n : Nat} (h : memB l n = true) : n ∈ l := (memB_iff l n).1 h
theorem memB_of {l : List Nat} {n : Nat} (h : n ∈ l) : memB l n = true := (memB_iff l n).2 h
theorem chkAll_at {f : List Nat → Nat → Bool} : ∀ (l1 : List Nat) (pre : List Nat) (i : Nat) (l2 : List Nat), chkAll f pre (l1 ++ i :: l2) = true → memB (l1.reverse ++ pre) i = false ∧ f (l1.reverse ++ pre) i = true
  | [], pre, i, l2, h => by
    simp only [List.nil_append, chkAll, Bool.and_eq_true, Bool.not_eq_true'] at h
    exact ⟨h.1.1, h.1.2⟩
  | a :: l1, pre, i, l2, h => by
    simp only [List.cons_append, chkAll, Bool.and_eq_true] at h
    have := chkAll_at l1 (a :: pre) i l2 h.2
    simpa using this
/-- One operation's share. -/
structure OpF (ops : Array Oper) (i : Nat) (o : Oper) : Prop where
  edge : ∀ j ∈ edgesOf o, j ∈ bef (befOf ops) i
  under : ∀ j ∈ bef (befOf ops) i, ∃ e ∈ edgesOf o, e = j ∨ j ∈ bef (befOf ops) e
  sel : (match o.op with | .select .. => false | .defer .. => false | .go .. => false | _ => true) = true
  uniq : ∀ j t, j ≠ i → dstAt ops j = some t → o.dst ≠ some t
  look : ∀ j t, j ≠ i → dstAt ops j = some t → t ∈ o.looksAt ops → j ∈ bef (befOf ops) i ∨ i ∈ bef (befOf ops) j
  grd : ∀ j want, o.guard = some (j, want) → (dstAt ops j).isSome = true
structure Good (T : TT) (ops : Array Oper) (hd tl : List Nat) : Prop where
  lt : ∀ i ∈ hd ++ tl, i < ops.size
  all : ∀ i, i < ops.size → i ∈ hd ∨ i ∈ tl
  pos : 0 < ops.size
  opf : ∀ i o, ops[i]? = some o → OpF ops i o
  hnew : ∀ l1 i l2, hd = l1 ++ i :: l2 → i ∉ l1
  hpre : ∀ l1 i l2, hd = l1 ++ i :: l2 → ∀ j ∈ bef (befOf ops) i, j ∈ l1
  h4 : ∀ i ∈ hd, kdAt T ops i = 0 ∨ kdAt T ops i = 1 ∨ kdAt T ops i = 2 ∨ kdAt T ops i = 3
  hnn : ∀ i ∈ hd, kdAt T ops i = 2 → ∀ o, ops[i]? = some o → ∀ j ∈ hd, kdAt T ops j = 2 → ∀ t, dstAt ops j = some t → t ∉ o.looksAt ops
  heff : ∀ l1 i l2, hd = l1 ++ i :: l2 → kdAt T ops i ≠ 2 → ∀ j ∈ l1, isEffB T ops j = true → j ∈ bef (befOf ops) i
  tnew : ∀ l1 i l2, tl = l1 ++ i :: l2 → i ∉ l1 ∧ i ∉ hd
  tpre : ∀ l1 i l2, tl = l1 ++ i :: l2 → ∀ j ∈ bef (befOf ops) i, j ∈ l1 ∨ j ∈ hd
  teff : ∀ i ∈ tl, ∀ j ∈ hd, isEffB T ops j = true → j ∈ bef (befOf ops) i
  tseq : ∀ l1 i l2, tl = l1 ++ i :: l2 → ∀ j ∈ l1, kdAt T ops j = 0 ∨ j ∈ bef (befOf ops) i
  tread : ∀ i ∈ tl, kdAt T ops i = 0 ∨ ∀ j ∈ hd, j ∈ bef (befOf ops) i ∨ kdAt T ops j = 0 ∨ ∃ l1 l2, hd = l1 ++ j :: l2 ∧ ∀ x ∈ l1, isEffB T ops x = false
  tfst : ∀ i l, tl = i :: l → kdAt T ops i ≠ 0
theorem span_split {j : Nat} : ∀ (l : List Nat), j ∈ l → ∃ l2, l = (l.takeWhile fun x => !Nat.beq x j) ++ j :: l2
  | [], h => by cases h
  | x :: l, h => by
    simp only [List.takeWhile_cons]
    cases hb : Nat.beq x j with
    | true =>
      have := Nat.eq_of_beq_eq_true hb
      subst this
      exact ⟨l, by simp⟩
    | false =>
      have hne : j ≠ x := fun e => by subst e; simp at hb
      obtain ⟨l2, h2⟩ := span_split l (by simpa [hne] using h)
      exact ⟨l2, by simpa using h2⟩
theorem good_of_chk {hd tl : List Nat} (h : nestChk T ops hd tl = true) : Good T ops hd tl := by
  simp only [nestChk, Bool.and_eq_true] at h
  obtain ⟨⟨⟨⟨⟨hH, hT⟩, hall⟩, hlt⟩, hfst⟩, hpos⟩ := h
  have all : ∀ i, i < ops.size → i ∈ hd ∨ i ∈ tl := fun i hi => by
    have := List.all_eq_true.1 hall i (List.mem_range.2 hi)
    rw [Bool.or_eq_true] at this
    exact this.imp memB_mem memB_mem
  have lt : ∀ i ∈ hd ++ tl, i < ops.size := fun i hi => by simpa [Nat.blt_eq] using List.all_eq_true.1 hlt i hi
  have hop : ∀ pre i o, ops[i]? = some o → chkOp ops (befOf ops) hd tl pre i = true → OpF ops i o ∧ ∀ j ∈ bef (befOf ops) i, j ∈ pre := fun pre i o ho hc => by
    simp only [chkOp, ho, Bool.and_eq_true] at hc
    obtain ⟨h1, h2, h3, h4, h5, h6⟩ := hc
    refine ⟨⟨fun j hj => memB_mem (List.all_eq_true.1 h2 j hj), fun j hj => ?_, h4, fun j t hne hd' => ?_, fun j t hne hd' ht => ?_, fun j want hg => ?_⟩, fun j hj => memB_mem (List.all_eq_true.1 h1 j hj)⟩
    · have := List.all_eq_true.1 h3 j hj
      rw [List.any_eq_true] at this
      obtain ⟨e, he, hh⟩ := this
      rw [Bool.or_eq_true] at hh
      exact ⟨e, he, hh.imp Nat.eq_of_beq_eq_true memB_mem⟩
    · have hjl : j < ops.size := by
        have : (ops[j]?).bind (·.dst) = some t := hd'
        obtain ⟨p, hp, _⟩ := Option.bind_eq_some_iff.1 this
        exact (Array.getElem?_eq_some_iff.1 hp).1
      have := List.all_eq_true.1 h5 j (by simpa using all j hjl)
      simp only [hd', Bool.or_eq_true, Bool.and_eq_true] at this
      have h7 := this.resolve_left (fun hh => hne (Nat.eq_of_beq_eq_true hh))
      simpa using h7.1
    · have hjl : j < ops.size := by
        have : (ops[j]?).bind (·.dst) = some t := hd'
        obtain ⟨p, hp, _⟩ := Option.bind_eq_some_iff.1 this
        exact (Array.getElem?_eq_some_iff.1 hp).1
      have := List.all_eq_true.1 h5 j (by simpa using all j hjl)
      simp only [hd', Bool.or_eq_true, Bool.and_eq_true, Bool.not_eq_true'] at this
      have h7 := this.resolve_left (fun hh => hne (Nat.eq_of_beq_eq_true hh))
      rcases h7.2 with (hh | hh) | hh
      · rw [show memB (looksB ops o) t = true from memB_of ht] at hh; cases hh
      · exact .inl (memB_mem hh)
      · exact .inr (memB_mem hh)
    · simp only [hg, Bool.and_eq_true] at h6
      exact h6.2
  have hat : ∀ l1 i l2, hd = l1 ++ i :: l2 → i ∉ l1 ∧ chkHead T ops (befOf ops) hd tl l1.reverse i = true := fun l1 i l2 he => by
    have hH' := hH
    conv at hH' => arg 1; arg 3; rw [he]
    obtain ⟨h1, h2⟩ := chkAll_at l1 [] i l2 hH'
    simp only [List.append_nil] at h1 h2
    exact ⟨fun hm => (by rw [memB_of (List.mem_reverse.2 hm)] at h1; cases h1), h2⟩
  have tat : ∀ l1 i l2, tl = l1 ++ i :: l2 → (i ∉ l1 ∧ i ∉ hd) ∧ chkTail T ops (befOf ops) hd tl (l1.reverse ++ hd.reverse) i = true := fun l1 i l2 he => by
    have hT' := hT
    conv at hT' => arg 1; arg 3; rw [he]
    obtain ⟨h1, h2⟩ := chkAll_at l1 hd.reverse i l2 hT'
    refine ⟨⟨fun hm => ?_, fun hm => ?_⟩, h2⟩
    · rw [memB_of (by simp [hm])] at h1; cases h1
    · rw [memB_of (by simp [hm])] at h1; cases h1
  have some_of : ∀ i, i < ops.size → ∃ o, ops[i]? = some o := fun i hi => ⟨ops[i], by simp [hi]⟩
  refine ⟨lt, all, by simpa [Nat.blt_eq] using hpos, fun i o ho => ?_, fun l1 i l2 he => (hat l1 i l2 he).1, fun l1 i l2 he j hj => ?_, fun i hi => ?_, fun i hi hk o ho j hj hk2 t ht => ?_, fun l1 i l2 he hk j hj hje => ?_,
    fun l1 i l2 he => (tat l1 i l2 he).1, fun l1 i l2 he j hj => ?_, fun i hi j hj hje => ?_, fun l1 i l2 he j hj => ?_, fun i hi => ?_, fun i l he => ?_⟩
  · rcases all i (Array.getElem?_eq_some_iff.1 ho).1 with hm | hm
    · obtain ⟨l1, l2, he⟩ := List.append_of_mem hm
      have := (hat l1 i l2 he).2
      simp only [chkHead, Bool.and_eq_true] at this
      exact (hop _ _ _ ho this.1.1).1
    · obtain ⟨l1, l2, he⟩ := List.append_of_mem hm
      have := (tat l1 i l2 he).2
      simp only [chkTail, Bool.and_eq_true] at this
      exact (hop _ _ _ ho this.1.1.1).1
  · obtain ⟨o, ho⟩ := some_of i (lt i (by simp [he]))
    have := (hat l1 i l2 he).2
    simp only [chkHead, Bool.and_eq_true] at this
    simpa using (hop _ _ _ ho this.1.1).2 j hj
  · obtain ⟨l1, l2, he⟩ := List.append_of_mem hi
    have := (hat l1 i l2 he).2
    simp only [chkHead, Bool.and_eq_true, Bool.not_eq_true'] at this
    have h4 : kdAt T ops i ≠ 4 := fun hk => by rw [hk] at this; simp at this
    have h5 : kdAt T ops i ≤ 4 := by
      obtain ⟨o, ho⟩ := some_of i (lt i (by simp [he]))
      simp only [kdAt, ho]
      unfold kdOf
      split <;> (try split) <;> (try omega)
    omega
  · obtain ⟨l1, l2, he⟩ := List.append_of_mem hi
    have := (hat l1 i l2 he).2
    simp only [chkHead, Bool.and_eq_true, hk, ho, List.all_eq_true] at this
    have h2 := this.2 j hj
    intro htl
    simp only [hk2, ht] at h2
    rw [show memB (looksB ops o) t = true from memB_of htl] at h2
    simp at h2
  · have := (hat l1 i l2 he).2
    simp only [chkHead, Bool.and_eq_true] at this
    have hk' : Nat.beq (kdAt T ops i) 2 = false := by
      cases hb : Nat.beq (kdAt T ops i) 2 with
      | false => rfl
      | true => exact absurd (Nat.eq_of_beq_eq_true hb) hk
    simp only [hk', List.all_eq_true] at this
    have h2 := this.2 j (by simpa using hj)
    rw [hje] at h2
    simpa using memB_mem (by simpa using h2)
  · obtain ⟨o, ho⟩ := some_of i (lt i (by simp [he]))
    have := (tat l1 i l2 he).2
    simp only [chkTail, Bool.and_eq_true] at this
    simpa using (hop _ _ _ ho this.1.1.1).2 j hj
  · obtain ⟨l1, l2, he⟩ := List.append_of_mem hi
    have := (tat l1 i l2 he).2
    simp only [chkTail, Bool.and_eq_true, List.all_eq_true] at this
    have h2 := this.1.1.2 j hj
    rw [hje] at h2
    exact memB_mem (by simpa using h2)
  · have := (tat l1 i l2 he).2
    simp only [chkTail, Bool.and_eq_true, List.all_eq_true] at this
    have h2 := this.1.2 j (by simp [hj])
    simp only [Bool.or_eq_true] at h2
    rcases h2 with (h2 | h2) | h2
    · obtain ⟨m1, m2, hm⟩ := List.append_of_mem hj
      exact absurd (memB_mem h2) (tat m1 j (m2 ++ i :: l2) (by rw [he, hm]; simp)).1.2
    · exact .inl (Nat.eq_of_beq_eq_true h2)
    · exact .inr (memB_mem h2)
  · obtain ⟨l1, l2, he⟩ := List.append_of_mem hi
    have := (tat l1 i l2 he).2
    simp only [chkTail, Bool.and_eq_true, Bool.or_eq_true, List.all_eq_true] at this
    rcases this.2 with h2 | h2
    · exact .inl (Nat.eq_of_beq_eq_true h2)
    · refine .inr fun j hj => ?_
      rcases h2 j hj with (h3 | h3) | h3
      · exact .inl (memB_mem h3)
      · exact .inr (.inl (Nat.eq_of_beq_eq_true h3))
      · obtain ⟨l3, h4⟩ := span_split hd hj
        refine .inr (.inr ⟨_, l3, h4, fun x hx => ?_⟩)
        have := h3 x hx
        simpa using this
  · subst he
    simp only [Bool.not_eq_true'] at hfst
    intro hk
    rw [hk] at hfst
    cases hfst
end Go.Wf
