/- A part of the proof: lemmas; nothing is claimed here. -/
import Derived.Test.YtkeecncgfhgnpaaWNestV
set_option linter.all false
namespace Go.Wf
open Go Go.RowKit
variable {P : Program} {T : TT} {ops : Array Oper} {hd tl : List Nat} {n : Nat} {w0 : World} {G0 : World → Prop} {e0 : Env} {D : List Deferred}

theorem ofK_mono {I : TI} {v : Value} {k k' : I.ty → Prop} (hk : ∀ p, k p → k' p) (h : ofK I v k) : ofK I v k' := by
  unfold ofK at *
  split at h
  · exact hk _ h
  · exact h.elim
theorem runT_mono {I : TI} {s : Sem Value} {w : World} {k k' : I.ty → World → Prop} (hk : ∀ p w, k p w → k' p w) (h : runT P I s w k) : runT P I s w k' := by
  unfold runT at *
  split at h
  · exact ofK_mono (fun p => hk p _) h
  · exact h.elim
theorem callK_mono' {I : TI} {f : Value} {args : List Value} {w : World} {k k' : I.ty → World → Prop} (hk : ∀ p w, k p w → k' p w) (h : callK P T I f args w k) : callK P T I f args w k' := by
  unfold callK at *
  split at h
  · split at h
    · refine Calls.mono h ?_
      intro e w hR
      cases e with
      | returned v => exact ofK_mono (fun p => hk p _) hR
      | panicked c => exact hR.elim
      | outgrown => exact hR.elim
    · exact runK_mono0 (fun v w' hh => ofK_mono (fun p => hk p _) hh) h
  · obtain ⟨f', tmps, asg, body, hy, hR⟩ := h
    refine ⟨f', tmps, asg, body, hy, hR.mono ?_⟩
    intro e w hR
    cases e with
    | returned v => exact ofK_mono (fun p => hk p _) hR
    | panicked c => exact hR.elim
    | outgrown => exact hR.elim
  · exact h.elim
theorem eff_mono {o : Oper} {e : Env} {F : World → ((T.ti o.type).ty → World → Prop) → Prop} (h : effF P T o e = some F) {W : World} {k k' : (T.ti o.type).ty → World → Prop} (hk : ∀ p w, k p w → k' p w) (hF : F W k) : F W k' := by
  obtain ⟨dst, op, ty, pos, after, guard⟩ := o
  unfold effF at h
  cases op <;> simp only at h <;> try (cases h; done)
  case makeSlice => cases h; exact runT_mono hk hF
  case convert src dst x =>
    cases hx : ev e x <;> simp only [hx] at h <;> try (cases h; done)
    cases h
    exact runT_mono hk hF
  case call c =>
    obtain ⟨callee, args, ats⟩ := c
    cases callee with
    | builtin b => cases b <;> simp only at h <;> first | (cases h; done) | (cases h; exact runT_mono hk hF)
    | value f => simp only at h; cases h; exact callK_mono' hk hF
    | invoke r m => simp only at h; cases h
theorem marked_put (G : Good T ops hd tl) {a : Act} {W W' : World} {e : Env} {th th' : Th} {mk mk' : Marks} {i j : Nat} {o : Oper} (ho : ops[i]? = some o) (hij : j ≠ i) (v : Value) (hx : Ext W W') (hmk : mk' j = mk j)
    (hav : ∀ b, mk j = some (some b) → b < W.heap.size → ¬ th.av b → ¬ th'.av b) (h : Marked T ops w0 e0 a W e th mk j) : Marked T ops w0 e0 (a.put o.dst v) W' e th' mk' j := by
  obtain ⟨oj, ej, hoj, hk, hs, h4⟩ := h
  have hput : ∀ (d : Nat), oj.dst = some d → (a.put o.dst v).tmps[d]? = a.tmps[d]? := fun d hd' => by
    have h2 := (G.opf i o ho).uniq j d hij (by rw [dstAt_of hoj, hd'])
    cases hdd : o.dst with
    | none => rfl
    | some d' =>
      have : d' ≠ d := fun h => h2 (by rw [hdd, h])
      simp [Act.put, this]
  refine ⟨oj, ej, hoj, hk, hs, ?_⟩
  rcases h4 with ⟨h5, h6, h7⟩ | ⟨b, ob, f, h5, h6, h7, h8, h9, h10, h11⟩
  · exact .inl ⟨by rw [hmk, h5], h6, fun d hd' => by rw [hput d hd']; exact h7 d hd'⟩
  · exact .inr ⟨b, ob, f, by rw [hmk, h5], h6, h7, fun d hd' => by rw [hput d hd']; exact h8 d hd', hx.at h9, h10, hav b h5 (Array.getElem?_eq_some_iff.1 h9).1 h11⟩
section
variable {Kf : Env → World → Prop} {listed : Array Bool} {a : Act} {W : World} {mk : Marks}
def headK (P : Program) (T : TT) (ops : Array Oper) (hd tl : List Nat) (G0 : World → Prop) (Kf : Env → World → Prop) : Env → Th → Prop :=
  fun e th => gEnd th fun W => tailK P T ops G0 (flagOf T ops (befOf ops) hd) Kf tl e W
theorem headK_pend : Pendable (headK P T ops hd tl G0 Kf) := fun _ _ _ h => h

theorem HInv.step (hT : TOk P T) (ro : Option Nat) (m : Nat) (G : Good T ops hd tl) (N : Within ops n) {pl hr : List Nat} {e : Env} {th : Th}
    (I : HInv P T ops hd tl n w0 G0 e0 D (headK P T ops hd tl G0 Kf) listed a W pl hr e th mk) (hn : HNorm T ops listed hr)
    {i : Nat} (hi : i ∈ Region.ready .any ops listed) {K' : Act → World → Prop} {Q : Exit → Act → World → Prop}
    (hH : ∀ a' W' pl' hr' e' th' mk', HInv P T ops hd tl n w0 G0 e0 D (headK P T ops hd tl G0 Kf) (listed.setIfInBounds i true) a' W' pl' hr' e' th' mk' → HNorm T ops (listed.setIfInBounds i true) hr' → K' a' W')
    (hTl : ∀ a' W' tp' rest' e', TInv P T ops hd tl n G0 e0 D Kf (listed.setIfInBounds i true) a' W' tp' rest' e' → TNorm T ops rest' → K' a' W') : wpOpIn (fenceR ro) m P ops Q i K' a W := by
  obtain ⟨o, ho, hun, hb⟩ := ready_facts hi G I.inv.closed
  have hl : i < listed.size := by rw [I.inv.lsize]; exact (Array.getElem?_eq_some_iff.1 ho).1
  have hset : ∀ q, (listed.setIfInBounds i true)[q]? = some true ↔ (q = i ∨ listed[q]? = some true) := fun q => by
    by_cases hq : q = i
    · subst hq; simp [hl]
    · simp [Ne.symm hq, hq]
  have heffk : ∀ x o', ops[x]? = some o' → kdAt T ops x = 2 ∨ kdAt T ops x = 3 → isEffB T ops x = true := fun x o' ho' h => by
    rw [isEff_of ho', ← kdAt_of ho']; rcases h with h | h <;> rw [h] <;> rfl
  have someo : ∀ x, x ∈ hd → ∃ o, ops[x]? = some o := fun x hx => ⟨ops[x]'(G.lt x (by simp [hx])), by simp [G.lt x (by simp [hx])]⟩
  have htl : ∀ j ∈ tl, i ∈ hd → (listed.setIfInBounds i true)[j]? ≠ some true := fun j hj hid h => by
    rcases (hset j).1 h with rfl | h
    · obtain ⟨l1, l2, he⟩ := List.append_of_mem hj
      exact (G.tnew l1 j l2 he).2 hid
    · exact I.tun j hj h
  by_cases hp : i ∈ pl
  · have hid : i ∈ hd := by rw [I.split]; simp [hp]
    have hne : ∀ j ∈ hr, j ≠ i := fun j hj e => by
      subst e
      obtain ⟨l1, l2, he⟩ := List.append_of_mem hj
      exact G.hnew (pl ++ l1) j l2 (by rw [I.split, he]; simp) (by simp [hp])
    refine I.inv.due ro m G N ho hun hb hp fun v hI => ?_
    refine hH _ _ pl hr e th mk ⟨hI, I.split, I.nest, I.thw, I.hG, I.stab, I.base, I.bnd, fun j hj hj' => (hset j).2 (.inr (I.effs j hj hj')), I.early, fun j hj h => ?_, fun j hj h => ?_, I.mpd, I.mdis, fun j hj => htl j hj hid⟩ fun x r h => ?_
    · exact marked_put G ho (hne j hj) v (Ext.refl W) rfl (fun _ _ _ h => h) (I.mark j hj (((hset j).1 h).resolve_left (hne j hj)))
    · exact I.unm j hj fun h' => h ((hset j).2 (.inr h'))
    · exact ⟨fun h' => (((hset x).1 h').elim (hne x (by simp [h])) (hn x r h).1), (hn x r h).2⟩
  · rcases G.all i (Array.getElem?_eq_some_iff.1 ho).1 with hid | hit
    · have hir : i ∈ hr := by rw [I.split] at hid; exact (List.mem_append.1 hid).resolve_left hp
      cases hr with
      | nil => cases hir
      | cons x r =>
        obtain ⟨hxun, hxk⟩ := hn x r rfl
        by_cases hix : i = x
        · -- the first that is still to come
          subst hix
          have hnew : i ∉ pl := hp
          have hbp : ∀ j ∈ bef (befOf ops) i, j ∈ pl := G.hpre pl i r I.split
          have hself := sees_self G I.inv ho hnew
          have hag := I.inv.see N ho hun hb (fun j hj _ _ _ => hbp j hj) hself
          have hnest := I.nest
          simp only [nestK, ho, I.unm i (by simp) hun] at hnest
          have heff := heffk i o ho hxk
          have hrne : ∀ j ∈ r, j ≠ i := fun j hj e => by
            subst e
            obtain ⟨l1, l2, he⟩ := List.append_of_mem hj
            exact G.hnew (pl ++ j :: l1) j l2 (by rw [I.split, he]; simp) (by simp)
          have cont : ∀ v W' th', Ext W W' → nestK P T ops mk (headK P T ops hd tl G0 Kf) r (upd e o.dst v) th' → th'.w0 = th.w0 → th'.G W' → (∀ W W', th'.G W → Ext W W' → th'.G W') → (∀ W, th'.G W → th.G W) →
              (∀ b, th'.av b ∨ th'.pd b → b < W'.heap.size) → th'.pd = th.pd → (∀ b, b < W.heap.size → ¬ th.av b → ¬ th'.av b) → K' (a.put o.dst v) W' := fun v W' th' hx hv h1 h2 h3 h4 h5 h6 h7 => by
            have hI := I.inv.list G N ho hun hb (v := v) (W' := W') (fun _ _ _ _ h => h.ext hx) (fun h => absurd h hnew)
            have hI2 := hI.resolve G ho hnew hbp (v := v) (fun _ d hd' => by
              have := (N i o ho).2 d hd'
              simp [hd', Act.put, I.inv.tsize, this]) (fun h => absurd ((hset i).2 (.inl rfl)) h)
            rw [pre_snoc'] at hI2
            obtain ⟨pl', hr', e', th2, hH', hN'⟩ := HInv.norm (mk := mk) hT G r (pl ++ [i]) _ th' ⟨hI2, by rw [I.split]; simp, hv, by rw [h1]; exact I.thw, ⟨h2, I.hG.2.trans hx⟩, h3, fun W hW => I.base W (h4 W hW), h5, fun j hj hj' => (by
              rcases List.mem_append.1 hj with hj | hj
              · exact (hset j).2 (.inr (I.effs j hj hj'))
              · simp at hj; subst hj; exact (hset j).2 (.inl rfl)), fun hno => (by
              have := hno i (by simp)
              rw [heff] at this; cases this), fun j hj hjl => (by
              have hjl' := ((hset j).1 hjl).resolve_left (hrne j hj)
              have hm := marked_put G ho (hrne j hj) v hx rfl (fun b _ hb' h => h7 b hb' h) (I.mark j (by simp [hj]) hjl') (th' := th')
              exact marked_upd G ho v (fun oj hoj t ht hxx => absurd (I.inv.closed j hjl' i hxx) hun) (Ext.refl W') (fun _ _ h => h) hm), fun j hj hjl => I.unm j (by simp [hj]) fun h => hjl ((hset j).2 (.inr h)),
              fun q b hq => by rw [h6]; exact I.mpd q b hq, I.mdis, fun j hj => htl j hj hid⟩
            exact hH _ _ pl' hr' e' th2 mk hH' hN'
          refine comes ro m G ho hag ?_
          rcases guardK_split (cond_out hnest).2 with ⟨h1, h2⟩ | ⟨h1, h2⟩
          · refine .inl ⟨h1, ?_⟩
            rcases hxk with hk | hk
            · rw [kdAt_of ho] at hk
              simp only [opN, hk] at h2
              split at h2
              · rename_i ob f hnw
                refine opK_run hT (new_run hnw fun W' hx hsz hblk => ?_)
                have hb0 := h2 W.heap.size (by rw [I.thw]; exact I.hG.2.size) (fun h => Nat.lt_irrefl _ (I.bnd _ (.inl h))) (fun h => Nat.lt_irrefl _ (I.bnd _ (.inr h)))
                refine cont _ W' (th.new W.heap.size ob) hx hb0 rfl ⟨I.stab _ _ I.hG.1 hx, hblk⟩ (fun W W' hW hx => ⟨I.stab _ _ hW.1 hx, hx.at hW.2⟩) (fun W hW => hW.1) ?_ rfl ?_
                · rintro b ((h | rfl) | h)
                  · have := I.bnd b (.inl h); omega
                  · omega
                  · have := I.bnd b (.inr h); omega
                · rintro b hb' h (h' | rfl)
                  · exact h h'
                  · omega
              · exact h2.elim
            · rw [kdAt_of ho] at hk
              simp only [opN, hk] at h2
              split at h2
              · rename_i F hF
                obtain ⟨φ, hst, hrun, hkk⟩ := h2
                refine opK_run hT (eff_run hF (eff_mono hF (fun p W' hW' => ?_) (hrun W I.hG.1)))
                obtain ⟨hx, hφ⟩ := hW'
                have hsz := hx.size
                have hb0 := hkk p (newB W W') (fun b hb' => ⟨by
                  have := I.hG.2.size
                  rw [I.thw]
                  have := hb'.1
                  omega, fun h => (by have := I.bnd b (.inl h); have := hb'.1; omega), fun h => (by have := I.bnd b (.inr h); have := hb'.1; omega)⟩) ⟨W', I.stab _ _ I.hG.1 hx, hφ⟩
                refine cont _ W' _ hx hb0 rfl ⟨I.stab _ _ I.hG.1 hx, hφ⟩ (fun W W' hW hx => ⟨I.stab _ _ hW.1 hx, hst _ _ _ _ hW.2 hx⟩) (fun W hW => hW.1) ?_ rfl ?_
                · rintro b ((h | h) | h)
                  · have := I.bnd b (.inl h); omega
                  · exact h.2
                  · have := I.bnd b (.inr h); omega
                · rintro b hb' h (h' | h')
                  · exact h h'
                  · have := h'.1; omega
              · exact h2.elim
          · exact .inr ⟨h1, cont undef W th (Ext.refl W) h2 rfl I.hG.1 I.stab (fun _ h => h) I.bnd rfl (fun _ _ h => h)⟩
        · -- it comes up early
          obtain ⟨l1, l2, he⟩ := List.append_of_mem hir
          have hxl1 : x ∈ l1 := by
            cases l1 with
            | nil => simp only [List.nil_append, List.cons.injEq] at he; exact absurd he.1.symm hix
            | cons y l1 => simp only [List.cons_append, List.cons.injEq] at he; simp [he.1]
          have hsp : hd = (pl ++ l1) ++ i :: l2 := by rw [I.split, he]; simp
          have hnewi := G.hnew _ i l2 hsp
          have hkd : kdAt T ops i = 2 := Classical.byContradiction fun hk => by
            obtain ⟨ox, hox⟩ := someo x (by rw [I.split]; simp)
            exact hxun (hb x (G.heff _ i l2 hsp hk x (by simp [hxl1]) (heffk x ox hox hxk)))
          have hkd' : kdOf T o = 2 := by rw [← kdAt_of ho]; exact hkd
          have hself := sees_self G I.inv ho hp
          have hbp : ∀ j ∈ bef (befOf ops) i, ∀ t, dstAt ops j = some t → t ∈ o.looksAt ops → j ∈ pl := fun j hj t ht hto => by
            apply Classical.byContradiction
            intro hjp
            have hjr : j ∈ l1 := (List.mem_append.1 (G.hpre _ i l2 hsp j hj)).resolve_left hjp
            have hjh : j ∈ x :: r := by rw [he]; simp [hjr]
            obtain ⟨oj, _, hoj, hkj, _⟩ := I.mark j hjh (hb j hj)
            exact G.hnn i hid hkd o ho j (by rw [I.split]; exact List.mem_append.2 (.inr hjh)) (by rw [kdAt_of hoj, hkj]) t ht hto
          have hag := I.inv.see N ho hun hb hbp hself
          have hl1d : ∀ q ∈ l1, ∀ t, dstAt ops q = some t → t ∉ o.looksAt ops := fun q hq t ht hto => by
            have hqi : q ≠ i := fun h => hnewi (by simp [← h, hq])
            rcases (G.opf i o ho).look q t hqi ht hto with h | h
            · have := hbp q h t ht hto
              obtain ⟨m1, m2, hm⟩ := List.append_of_mem hq
              exact G.hnew (pl ++ m1) q (m2 ++ i :: l2) (by rw [hsp, hm]; simp) (by simp [this])
            · obtain ⟨m1, m2, hm⟩ := List.append_of_mem hq
              have := G.hpre (pl ++ m1) q (m2 ++ i :: l2) (by rw [hsp, hm]; simp) i h
              exact hnewi (by rw [hm]; simp only [List.mem_append] at this ⊢; rcases this with h | h <;> simp [h])
          have hl2i : i ∉ l2 := fun hm => by
            obtain ⟨m1, m2, hm⟩ := List.append_of_mem hm
            exact G.hnew (pl ++ l1 ++ i :: m1) i m2 (by rw [hsp, hm]; simp) (by simp)
          have hrne : ∀ (mv : Option Nat) v W', Ext W W' → (∀ b, mv = some b → b < W'.heap.size) → wantE ops o e = mv.isSome → Fresh mv th → (∀ b, mv = some b → W.heap.size ≤ b) →
              Marked T ops w0 e0 (a.put o.dst v) W' e (th.pendo mv) (mk.put i mv) i → K' (a.put o.dst v) W' := fun mv v W' hx hsz hw hf hge hm => by
            have hI := I.inv.list G N ho hun hb (v := v) (W' := W') (fun _ _ _ _ h => h.ext hx) (fun h => absurd h hp)
            have hnest' := I.nest
            rw [he] at hnest'
            have hnm := nest_mark headK_pend ho hkd' (I.unm i hir hun) l2 hl2i (e0 := e) (mv := mv) (fun q b hq hmv => (by
              have := I.bnd b (.inr (I.mpd q b hq))
              have := hge b hmv
              omega)) (fun e' he' => by rw [wantE_congr he', hw]) l1 e th (fun _ _ => rfl) (fun h => hnewi (by simp [h])) hl1d hf hnest'
            rw [← he] at hnm
            refine hH _ _ pl (x :: r) e (th.pendo mv) (mk.put i mv) ⟨hI, I.split, hnm, I.thw, ⟨I.stab _ _ I.hG.1 hx, I.hG.2.trans hx⟩, I.stab, I.base, ?_, fun j hj hj' => (hset j).2 (.inr (I.effs j hj hj')), I.early, fun j hj h => ?_, fun j hj h => ?_, ?_, ?_, fun j hj => htl j hj hid⟩ fun y r' h => ?_
            · have := hx.size
              rintro b (h | h | h)
              · have := I.bnd b (.inl h); omega
              · have := I.bnd b (.inr h); omega
              · exact hsz b h
            · by_cases hji : j = i
              · subst hji; exact hm
              · exact marked_put G ho hji v hx (by simp [Marks.put, hji]) (fun _ _ _ h => h) (I.mark j hj (((hset j).1 h).resolve_left hji))
            · have hji : j ≠ i := fun e => h ((hset j).2 (.inl e))
              simp only [Marks.put, if_neg hji]
              exact I.unm j hj fun h' => h ((hset j).2 (.inr h'))
            · intro q b hq
              by_cases hqi : q = i
              · simp only [Marks.put, if_pos hqi, Option.some.injEq] at hq
                exact .inr hq
              · simp only [Marks.put, if_neg hqi] at hq
                exact .inl (I.mpd q b hq)
            · intro q q' b hq hq'
              by_cases h1 : q = i <;> by_cases h2 : q' = i
              · rw [h1, h2]
              · simp only [Marks.put, if_pos h1, Option.some.injEq] at hq
                simp only [Marks.put, if_neg h2] at hq'
                have := I.bnd b (.inr (I.mpd q' b hq'))
                have := hge b hq
                omega
              · simp only [Marks.put, if_pos h2, Option.some.injEq] at hq'
                simp only [Marks.put, if_neg h1] at hq
                have := I.bnd b (.inr (I.mpd q b hq))
                have := hge b hq'
                omega
              · simp only [Marks.put, if_neg h1] at hq
                simp only [Marks.put, if_neg h2] at hq'
                exact I.mdis q q' b hq hq'
            · cases h
              exact ⟨fun h' => ((hset x).1 h').elim (fun h => hix h.symm) hxun, hxk⟩
          have hnest' := I.nest
          have hputi : ∀ v (d : Nat), o.dst = some d → (a.put o.dst v).tmps[d]? = some v := fun v d hd' => by
            have := (N i o ho).2 d hd'
            simp [hd', Act.put, I.inv.tsize, this]
          refine comes ro m G ho hag ?_
          cases hw : wantE ops o e with
          | false =>
            refine .inr ⟨rfl, hrne none undef W (Ext.refl W) (fun _ h => by cases h) (by rw [hw]; rfl) (fun _ h => by cases h) (fun _ h => by cases h) ?_⟩
            exact ⟨o, e, ho, hkd', hself, .inl ⟨by simp [Marks.put], hw, hputi undef⟩⟩
          | true =>
            refine .inl ⟨rfl, ?_⟩
            -- the nest says that it can be made
            have hno : ∃ ob f, newOf T o e = some (ob, f) := by
              obtain ⟨ox, hox⟩ := someo x (by rw [I.split]; simp)
              have hnest' := I.nest
              simp only [nestK, hox, I.unm x (by simp) hxun] at hnest'
              have hc := (cond_out hnest').1
              have hc' : newsOk T ops e x r = true := by
                rw [kdAt_of hox] at hxk
                rcases hxk with h | h <;> (rw [h] at hc; exact hc)
              have := List.all_eq_true.1 hc' i ((List.mem_cons.1 hir).resolve_left hix)
              simp only [ho, hkd', hw, Bool.or_eq_true] at this
              have hm : memB (bef (befOf ops) i) x = false := by
                cases hm : memB (bef (befOf ops) i) x with
                | false => rfl
                | true => exact absurd (hb x (memB_mem hm)) hxun
              rw [hm] at this
              have hs : (newOf T o e).isSome = true := by simpa using this
              obtain ⟨p, hp⟩ := Option.isSome_iff_exists.1 hs
              exact ⟨p.1, p.2, hp⟩
            obtain ⟨ob, f, hno⟩ := hno
            refine opK_run hT (new_run hno fun W' hx hsz hblk => ?_)
            refine hrne (some W.heap.size) (f W.heap.size) W' hx (fun b h => by cases h; omega) (by rw [hw]; rfl) (fun b h => ?_) (fun b h => by cases h; omega) ?_
            · cases h
              exact ⟨by rw [I.thw]; exact I.hG.2.size, fun h => Nat.lt_irrefl _ (I.bnd _ (.inl h)), fun h => Nat.lt_irrefl _ (I.bnd _ (.inr h))⟩
            · exact ⟨o, e, ho, hkd', hself, .inr ⟨W.heap.size, ob, f, by simp [Marks.put], hw, hno, hputi _, hblk, I.hG.2.size, fun h => Nat.lt_irrefl _ (I.bnd _ (.inl h))⟩⟩
    · -- the tail begins
      have hrn : hr = [] := by
        cases hr with
        | nil => rfl
        | cons x r =>
          obtain ⟨hxun, hxk⟩ := hn x r rfl
          have hxd : x ∈ hd := by rw [I.split]; simp
          obtain ⟨ox, hox⟩ := someo x hxd
          exact absurd (hb x (G.teff i hit x hxd (heffk x ox hox hxk))) hxun
      subst hrn
      have hpl : hd = pl := by rw [I.split]; simp
      have hK : headK P T ops hd tl G0 Kf e th := I.nest
      refine TInv.step (tp := []) (rest := tl) (e := e) hT ro m G N ⟨?_, rfl, hK W I.hG.1 (by rw [I.thw]; exact I.hG.2), fun j hj => I.effs j (hpl ▸ hj), fun j hj => (by cases hj), I.tun, fun _ => I.base W I.hG.1⟩ (fun x r h => G.tfst x r h) hi hTl
      have : (fun j => j ∈ hd ∨ j ∈ ([] : List Nat)) = fun j => j ∈ pl := by funext j; simp [hpl]
      rw [this]
      exact I.inv
theorem head_main (hT : TOk P T) (ro : Option Nat) (m : Nat) (G : Good T ops hd tl) (N : Within ops n) {Q : Exit → Act → World → Prop} (hQ : ∀ a W e, Rep n a e → a.defers = D → (∀ t, (∀ q, dstAt ops q ≠ some t) → e t = e0 t) → Kf e W → Q .normal a W) :
    ∀ (fuel : Nat) (listed : Array Bool) (a : Act) (W : World), (∃ pl hr e th mk, HInv P T ops hd tl n w0 G0 e0 D (headK P T ops hd tl G0 Kf) listed a W pl hr e th mk ∧ HNorm T ops listed hr) →
      (listed.toList.filter (· = false)).length ≤ fuel → wpAnyIn (fenceR ro) m P .any ops Q fuel listed a W := by
  have fin : ∀ (listed : Array Bool) (a : Act) (W : World), (∃ pl hr e th mk, HInv P T ops hd tl n w0 G0 e0 D (headK P T ops hd tl G0 Kf) listed a W pl hr e th mk ∧ HNorm T ops listed hr) → Region.ready .any ops listed = [] → Q .normal a W := by
    rintro listed a W ⟨pl, hr, e, th, mk, I, hn⟩ hrd
    have hall := all_listed G I.inv.lsize hrd
    have hrest : hr = [] := by
      cases hr with
      | nil => rfl
      | cons x r => exact absurd (hall x (G.lt x (by simp [I.split]))) (hn x r rfl).1
    have htl : tl = [] := by
      cases tl with
      | nil => rfl
      | cons x r => exact absurd (hall x (G.lt x (by simp))) (I.tun x (by simp))
    subst hrest
    subst htl
    have hK : headK P T ops hd [] G0 Kf e th := I.nest
    refine hQ a W e (I.inv.full G hall fun i hi => ?_) I.inv.defers (fun t ht => I.inv.clean t fun q _ => ht q) (hK W I.hG.1 (by rw [I.thw]; exact I.hG.2))
    rcases G.all i hi with h | h
    · rw [I.split] at h; simpa using h
    · cases h
  intro fuel
  induction fuel with
  | zero =>
    intro listed a W hI hf
    have hr : Region.ready .any ops listed = [] := by
      apply List.eq_nil_iff_forall_not_mem.2
      intro i hi
      obtain ⟨pl, hr, e, th, mk, I, hn⟩ := hI
      obtain ⟨o, ho, hun, hb⟩ := ready_facts hi G I.inv.closed
      have := count_pos (by rw [I.inv.lsize]; exact (Array.getElem?_eq_some_iff.1 ho).1) hun
      omega
    exact ⟨hr, fin _ _ _ hI hr⟩
  | succ fuel ih =>
    intro listed a W hI hf
    refine ⟨fun hr => fin _ _ _ hI hr, fun i hi => ?_⟩
    obtain ⟨pl, hr, e, th, mk, I, hn⟩ := hI
    obtain ⟨o, ho, hun, hb⟩ := ready_facts hi G I.inv.closed
    have hc := count_set (by rw [I.inv.lsize]; exact (Array.getElem?_eq_some_iff.1 ho).1) hun hf
    exact I.step hT ro m G N hn hi (fun a' W' pl' hr' e' th' mk' hI' hn' => ih _ _ _ ⟨pl', hr', e', th', mk', hI', hn'⟩ hc)
      (fun a' W' tp' rest' e' hI' hn' => tail_main hT ro m G N hQ fuel _ _ _ ⟨tp', rest', e', hI', hn'⟩ hc)
end

theorem ext_drew (w : World) : Ext w w.drew := ⟨rfl, rfl, rfl, Nat.le_refl _, fun _ _ _ => rfl⟩
/-- A region that draws its order comes to what its nest says. -/
theorem nest_sound (hT : TOk P T) (ro : Option Nat) (m : Nat) {ops : Array Oper} {hd tl : List Nat} {n : Nat} {Wr : List Nat} (hchk : nestChk T ops hd tl = true) (hok : ops.toList.all (okOp n Wr ops) = true)
    {Q : Exit → Env → World → Prop} {e : Env} {a : Act} {w : World} {D : List Deferred} (hr : Rep n a e) (hd0 : a.defers = D) (h : nestR P T ops hd tl e w (Q .normal)) :
    wpAnyIn (fenceR ro) m P .any ops (postA n D Wr e Q) ops.size (Array.replicate ops.size false) a w.drew := by
  have G := good_of_chk hchk
  have N : Within ops n := fun i o ho => by
    have hmem : o ∈ ops.toList := by
      obtain ⟨hlt, rfl⟩ := Array.getElem?_eq_some_iff.1 ho
      simp
    have := List.all_eq_true.1 hok o hmem
    simp only [okOp, Bool.and_eq_true] at this
    obtain ⟨⟨⟨h1, h2⟩, h3⟩, h4⟩ := this
    refine ⟨fun t ht => ?_, fun d hd' => ?_⟩
    · simp only [Oper.looksAt, List.mem_append, List.mem_filterMap] at ht
      rcases ht with ⟨y, hy, hyt⟩ | ht
      · have := List.all_eq_true.1 h2 y (by simpa using hy)
        cases y <;> simp only [reduceCtorEq, Option.some.injEq] at hyt
        subst hyt
        simpa [okOperand, Nat.blt_eq] using this
      · cases hg : o.guard with
        | none => simp [hg] at ht
        | some jw =>
          obtain ⟨j, want⟩ := jw
          simp only [hg] at h4 ht
          cases hd' : (ops[j]?).bind (·.dst) with
          | none => simp [hd'] at h4
          | some d =>
            simp only [hd'] at h4 ht
            simp at ht
            subst ht
            simpa [Nat.blt_eq] using h4
    · simp only [hd', okDst, Bool.and_eq_true, Nat.blt_eq] at h1
      exact h1.1
  have hag : ∀ t, memB Wr t = false → ∀ q, dstAt ops q ≠ some t := fun t ht q hq => by
    obtain ⟨p, hp, hpd⟩ := Option.bind_eq_some_iff.1 (show (ops[q]?).bind (·.dst) = some t from hq)
    have hmem : p ∈ ops.toList := by
      obtain ⟨hlt, rfl⟩ := Array.getElem?_eq_some_iff.1 hp
      simp
    have := List.all_eq_true.1 hok p hmem
    simp only [okOp, Bool.and_eq_true, okDst, hpd] at this
    rw [this.1.1.1.2] at ht
    cases ht
  have hun : ∀ (j : Nat), (Array.replicate ops.size false)[j]? ≠ some true := fun j hj => by
    simp only [Array.getElem?_replicate] at hj
    split at hj <;> simp at hj
  obtain ⟨G0, hG0, h⟩ := h.out
  have I00 : Inv P T ops hd n G0 e D (Array.replicate ops.size false) a w.drew (fun j => j ∈ ([] : List Nat)) e :=
    ⟨by simp, hr.1, hd0, fun i hi => absurd hi (hun i), fun i hi => (by cases hi), fun t _ => rfl, fun q t hq => absurd hq (hun q), fun t ht _ => hr.2 t ht, fun j hj => (by cases hj)⟩
  have I0 : HInv P T ops hd tl n w G0 e D (headK P T ops hd tl G0 (Q .normal)) (Array.replicate ops.size false) a w.drew [] hd e (Th.from w G0) (fun _ => none) :=
    ⟨I00, rfl, h, rfl, ⟨hG0.stab _ _ hG0.here (ext_drew w), ext_drew w⟩, hG0.stab, fun _ h => h, fun b hb => hb.elim (fun h => h.elim) (fun h => h.elim), fun j hj => (by cases hj), fun _ _ h => h,
      fun j _ hj => absurd hj (hun j), fun _ _ _ => rfl, fun i b hb => (by cases hb), fun i j b hb => (by cases hb), fun j _ => hun j⟩
  obtain ⟨pl, hr', e', th, I1, hn1⟩ := HInv.norm hT G _ _ _ _ I0
  refine head_main (Kf := Q .normal) hT ro m G N (fun a W e' hr hd hcl h => ⟨e', hr, hd, fun t ht => hcl t (hag t ht), h⟩) _ _ _ _ ⟨pl, hr', e', th, _, I1, hn1⟩ ?_
  have := List.length_filter_le (· = false) (Array.replicate ops.size false).toList
  simpa using this
end Go.Wf
