/- A part of the proof: lemmas; nothing is claimed here. -/
import Derived.Test.YtkeecncgfhgnpaaWNestS
set_option linter.all false
namespace Go.Wf
open Go Go.RowKit
variable {P : Program} {T : TT} {ops : Array Oper} {hd tl : List Nat} {n : Nat} {w0 : World → Prop} {e0 : Env} {D : List Deferred}

def Sees (ops : Array Oper) (e0 e : Env) (i : Nat) (o : Oper) (ei : Env) : Prop :=
  ∀ t ∈ o.looksAt ops, (∃ q ∈ bef (befOf ops) i, dstAt ops q = some t ∧ ei t = e t) ∨ ((∀ q, dstAt ops q = some t → q = i ∨ i ∈ bef (befOf ops) q) ∧ ei t = e0 t)
def Duty (P : Program) (ops : Array Oper) (o : Oper) (e : Env) (v : Value) (C : World → Prop) : Prop :=
  (wantE ops o e = true ∧ ∀ W, C W → runK P (Only v W) ((execOp (ev e) o).run P W)) ∨ (wantE ops o e = false ∧ v = undef)
def Early (T : TT) (ops : Array Oper) (hd : List Nat) (j : Nat) : Prop := ∃ l1 l2, hd = l1 ++ j :: l2 ∧ ∀ x ∈ l1, isEffB T ops x = false
def Due (P : Program) (T : TT) (ops : Array Oper) (hd : List Nat) (w0 : World → Prop) (e0 e : Env) (j : Nat) (W : World) : Prop :=
  ∃ o ej v, ∃ C : World → Prop, ops[j]? = some o ∧ Sees ops e0 e j o ej ∧ (∀ d, o.dst = some d → e d = v) ∧ Duty P ops o ej v C ∧ C W ∧ (∀ W W', C W → Ext W W' → C W') ∧
    (kdOf T o = 0 → ∀ W, C W) ∧ (Early T ops hd j → ∀ W, w0 W → C W) ∧ (kdOf T o = 0 ∨ (kdOf T o = 1 ∧ j ∈ hd))
structure Inv (P : Program) (T : TT) (ops : Array Oper) (hd : List Nat) (n : Nat) (w0 : World → Prop) (e0 : Env) (D : List Deferred) (listed : Array Bool) (a : Act) (W : World) (pre : Nat → Prop) (e : Env) : Prop where
  lsize : listed.size = ops.size
  tsize : a.tmps.size = n
  defers : a.defers = D
  closed : ∀ (i : Nat), listed[i]? = some true → ∀ j ∈ bef (befOf ops) i, listed[j]? = some true
  pclosed : ∀ i, pre i → ∀ j ∈ bef (befOf ops) i, pre j
  clean : ∀ t, (∀ q, pre q → dstAt ops q ≠ some t) → e t = e0 t
  mach1 : ∀ (q t : Nat), listed[q]? = some true → pre q → dstAt ops q = some t → a.tmps[t]? = some (e t)
  mach2 : ∀ (t : Nat), t < n → (∀ (q : Nat), listed[q]? = some true → dstAt ops q ≠ some t) → a.tmps[t]? = some (e0 t)
  duty : ∀ (j : Nat), pre j → listed[j]? ≠ some true → Due P T ops hd w0 e0 e j W

/-- The slots are there. -/
def Within (ops : Array Oper) (n : Nat) : Prop := ∀ (i : Nat) (o : Oper), ops[i]? = some o → (∀ t ∈ o.looksAt ops, t < n) ∧ (∀ d, o.dst = some d → d < n)

theorem dstAt_of {i : Nat} {o : Oper} (h : ops[i]? = some o) : dstAt ops i = o.dst := by simp [dstAt, h]
theorem kdAt_of {i : Nat} {o : Oper} (h : ops[i]? = some o) : kdAt T ops i = kdOf T o := by simp [kdAt, h]
theorem ready_facts {listed : Array Bool} {i : Nat} (hi : i ∈ Region.ready .any ops listed) (G : Good T ops hd tl) (hcl : ∀ (i : Nat), listed[i]? = some true → ∀ j ∈ bef (befOf ops) i, listed[j]? = some true) :
    ∃ o, ops[i]? = some o ∧ listed[i]? ≠ some true ∧ ∀ j ∈ bef (befOf ops) i, listed[j]? = some true := by
  simp only [Region.ready, List.mem_filter, List.mem_range, Bool.and_eq_true, Bool.not_eq_true'] at hi
  obtain ⟨hilt, hunl, hrdy⟩ := hi
  have hio : ops[i]? = some ops[i] := by simp [hilt]
  refine ⟨_, hio, fun h => by simp [Array.getD_eq_getD_getElem?, h] at hunl, ?_⟩
  simp only [hio, Option.map_some, Option.getD_some, Array.all_eq_true_iff_forall_mem, Bool.or_eq_true, Bool.not_eq_true'] at hrdy
  have hel : ∀ j ∈ edgesOf ops[i], listed[j]? = some true := fun j hj => by
    simp only [edgesOf, List.mem_map, List.mem_filter] at hj
    obtain ⟨e, ⟨he, hb⟩, rfl⟩ := hj
    have := hrdy e (by simpa using he)
    rw [hb] at this
    have h2 := this.resolve_left (by simp)
    cases hl : listed[e.on]? with
    | none => simp [Array.getD_eq_getD_getElem?, hl] at h2
    | some b => simp [Array.getD_eq_getD_getElem?, hl] at h2; rw [h2]
  intro j hj
  obtain ⟨e, he, hh⟩ := (G.opf i _ hio).under j hj
  rcases hh with rfl | hh
  · exact hel _ he
  · exact hcl e (hel e he) j hh

section
variable {listed : Array Bool} {a : Act} {W : World} {pre : Nat → Prop} {e : Env}
theorem Inv.see (I : Inv P T ops hd n w0 e0 D listed a W pre e) (N : Within ops n) {i : Nat} {o : Oper} (ho : ops[i]? = some o) (hun : listed[i]? ≠ some true)
    (hb : ∀ j ∈ bef (befOf ops) i, listed[j]? = some true) (hp : ∀ j ∈ bef (befOf ops) i, ∀ t, dstAt ops j = some t → t ∈ o.looksAt ops → pre j) {ei : Env} (hs : Sees ops e0 e i o ei) : ∀ t ∈ o.looksAt ops, a.tmps[t]? = some (ei t) := by
  intro t ht
  rcases hs t ht with ⟨q, hq, hd', he⟩ | ⟨hq, he⟩
  · rw [he]; exact I.mach1 q t (hb q hq) (hp q hq t hd' ht) hd'
  · rw [he]
    refine I.mach2 t ((N i o ho).1 t ht) fun q hl hd' => ?_
    rcases hq q hd' with rfl | h
    · exact hun hl
    · exact hun (I.closed q hl i h)
theorem sees_self (G : Good T ops hd tl) (I : Inv P T ops hd n w0 e0 D listed a W pre e) {i : Nat} {o : Oper} (ho : ops[i]? = some o) (hn : ¬ pre i) : Sees ops e0 e i o e := by
  intro t ht
  by_cases h : ∃ q, q ≠ i ∧ dstAt ops q = some t
  · obtain ⟨q, hq, hd'⟩ := h
    have uni : ∀ q', dstAt ops q' = some t → q' = q := fun q' h' => by
      apply Classical.byContradiction
      intro hne
      obtain ⟨o', ho', _⟩ := Option.bind_eq_some_iff.1 (show (ops[q]?).bind (·.dst) = some t from hd')
      exact (G.opf q o' ho').uniq q' t hne h' (by rw [← dstAt_of ho']; exact hd')
    rcases (G.opf i o ho).look q t hq hd' ht with h | h
    · exact .inl ⟨q, h, hd', rfl⟩
    · refine .inr ⟨fun q' h' => .inr (uni q' h' ▸ h), I.clean t fun q' hp h' => ?_⟩
      rw [uni q' h'] at hp
      exact hn (I.pclosed q hp i h)
  · have hno : ∀ q, dstAt ops q = some t → q = i := fun q hq => Classical.byContradiction fun hne => h ⟨q, hne, hq⟩
    exact .inr ⟨fun q hq => .inl (hno q hq), I.clean t fun q hp hq => hn (hno q hq ▸ hp)⟩
theorem sees_upd {i x : Nat} {o ox : Oper} {ei : Env} (hox : ops[x]? = some ox) (h : ∀ t ∈ o.looksAt ops, x ∈ bef (befOf ops) i → ox.dst ≠ some t) (G : Good T ops hd tl) (hs : Sees ops e0 e i o ei) (v : Value) :
    Sees ops e0 (upd e ox.dst v) i o ei := by
  intro t ht
  rcases hs t ht with ⟨q, hq, hd', he⟩ | hh
  · refine .inl ⟨q, hq, hd', ?_⟩
    rw [he]
    by_cases hqx : q = x
    · subst hqx
      exact absurd (by rw [← dstAt_of hox]; exact hd') (h t ht hq)
    · rw [upd_get]
      exact (G.opf x ox hox).uniq q t hqx hd'
  · exact .inr hh
theorem sees_agree (I : Inv P T ops hd n w0 e0 D listed a W pre e) {i : Nat} {o : Oper} (hn : ¬ pre i) {ei : Env} (hs : Sees ops e0 e i o ei) : ∀ t ∈ o.looksAt ops, e t = ei t := by
  intro t ht
  rcases hs t ht with ⟨q, hq, hd', he⟩ | ⟨hq, he⟩
  · exact he.symm
  · rw [he]
    refine I.clean t fun q hp hd' => ?_
    rcases hq q hd' with rfl | h
    · exact hn hp
    · exact hn (I.pclosed q hp i h)

theorem Inv.list (I : Inv P T ops hd n w0 e0 D listed a W pre e) (G : Good T ops hd tl) (N : Within ops n) {i : Nat} {o : Oper} (ho : ops[i]? = some o) (hun : listed[i]? ≠ some true)
    (hb : ∀ j ∈ bef (befOf ops) i, listed[j]? = some true) {v : Value} {W' : World} (hW : ∀ (j : Nat), pre j → j ≠ i → listed[j]? ≠ some true → Due P T ops hd w0 e0 e j W → Due P T ops hd w0 e0 e j W')
    (hv : pre i → ∀ d, o.dst = some d → e d = v) : Inv P T ops hd n w0 e0 D (listed.setIfInBounds i true) (a.put o.dst v) W' pre e := by
  have hilt := (Array.getElem?_eq_some_iff.1 ho).1
  have hl : i < listed.size := by rw [I.lsize]; exact hilt
  have hset : ∀ q, (listed.setIfInBounds i true)[q]? = some true ↔ (q = i ∨ listed[q]? = some true) := fun q => by
    by_cases hq : q = i
    · subst hq; simp [hl]
    · simp [Ne.symm hq, hq]
  refine ⟨by simp [I.lsize], by cases hdd : o.dst <;> simp [Act.put, I.tsize], by rw [put_defers]; exact I.defers, ?_, I.pclosed, I.clean, ?_, ?_, ?_⟩
  · intro q hq j hj
    rw [hset] at hq ⊢
    rcases hq with rfl | hq
    · exact .inr (hb j hj)
    · exact .inr (I.closed q hq j hj)
  · intro q t hq hp hd'
    rw [hset] at hq
    by_cases hqi : q = i
    · subst hqi
      have hdd : o.dst = some t := by rw [← dstAt_of ho]; exact hd'
      simp [hdd, Act.put, I.tsize, (N q o ho).2 t hdd, hv hp t hdd]
    · have h1 := I.mach1 q t (hq.resolve_left hqi) hp hd'
      have h2 := (G.opf i o ho).uniq q t hqi hd'
      cases hdd : o.dst with
      | none => exact h1
      | some d =>
        have : d ≠ t := fun h => h2 (by rw [hdd, h])
        simpa [Act.put, this] using h1
  · intro t ht hno
    have h2 : o.dst ≠ some t := fun h => hno i ((hset i).2 (.inl rfl)) (by rw [dstAt_of ho, h])
    have h1 := I.mach2 t ht fun q hq => hno q ((hset q).2 (.inr hq))
    cases hdd : o.dst with
    | none => exact h1
    | some d =>
      have : d ≠ t := fun h => h2 (by rw [hdd, h])
      simpa [Act.put, this] using h1
  · intro j hp hj
    rw [Ne, hset, not_or] at hj
    exact hW j hp hj.1 hj.2 (I.duty j hp hj.2)
theorem due_upd (G : Good T ops hd tl) {x j : Nat} {ox : Oper} (hox : ops[x]? = some ox) (hjx : j ≠ x) (hb : x ∉ bef (befOf ops) j) (v : Value) (h : Due P T ops hd w0 e0 e j W) : Due P T ops hd w0 e0 (upd e ox.dst v) j W := by
  obtain ⟨o, ej, u, C, ho, hs, hd', h3, h4, h5, h6, h7, h8⟩ := h
  refine ⟨o, ej, u, C, ho, sees_upd hox (fun t _ hx => absurd hx hb) G hs v, fun d hdd => ?_, h3, h4, h5, h6, h7, h8⟩
  rw [← hd' d hdd]
  refine upd_get _ _ _ ((G.opf x ox hox).uniq j d hjx (by rw [dstAt_of ho, hdd]))
theorem Inv.resolve (I : Inv P T ops hd n w0 e0 D listed a W pre e) (G : Good T ops hd tl) {x : Nat} {o : Oper} (ho : ops[x]? = some o) (hn : ¬ pre x) (hb : ∀ j ∈ bef (befOf ops) x, pre j) {v : Value}
    (h1 : listed[x]? = some true → ∀ (d : Nat), o.dst = some d → a.tmps[d]? = some v) (h2 : listed[x]? ≠ some true → Due P T ops hd w0 e0 (upd e o.dst v) x W) :
    Inv P T ops hd n w0 e0 D listed a W (fun j => pre j ∨ j = x) (upd e o.dst v) := by
  refine ⟨I.lsize, I.tsize, I.defers, I.closed, ?_, ?_, ?_, I.mach2, ?_⟩
  · rintro i (hi | rfl) j hj
    · exact .inl (I.pclosed i hi j hj)
    · exact .inl (hb j hj)
  · intro t ht
    rw [upd_get _ _ _ (fun h => ht x (.inr rfl) (by rw [dstAt_of ho, h]))]
    exact I.clean t fun q hq => ht q (.inl hq)
  · rintro q t hl (hp | rfl) hd'
    · have hqx : q ≠ x := fun h => hn (h ▸ hp)
      rw [upd_get _ _ _ ((G.opf x o ho).uniq q t hqx hd')]
      exact I.mach1 q t hl hp hd'
    · have hdd : o.dst = some t := by rw [← dstAt_of ho]; exact hd'
      rw [h1 hl t hdd, hdd, upd_same]
  · rintro j (hp | rfl) hl
    · have hjx : j ≠ x := fun h => hn (h ▸ hp)
      exact due_upd G ho hjx (fun h => hn (I.pclosed j hp x h)) v (I.duty j hp hl)
    · exact h2 hl
theorem Due.ext {j : Nat} {W' : World} (h : Due P T ops hd w0 e0 e j W) (hx : Ext W W') : Due P T ops hd w0 e0 e j W' := by
  obtain ⟨o, ej, u, C, ho, hs, hd', h3, h4, h5, h6⟩ := h
  exact ⟨o, ej, u, C, ho, hs, hd', h3, h5 _ _ h4 hx, h5, h6⟩
theorem run_wpN (ro : Option Nat) (m : Nat) {o : Oper} (h3 : (match o.op with | .select .. => false | .defer .. => false | .go .. => false | _ => true) = true) {a : Act} {w : World}
    {k : Value → World → Prop} {next : Act → World → Prop} {Q : Exit → Act → World → Prop} (hk : ∀ v w', k v w' → next (a.put o.dst v) w') (hrun : runK P k ((execOp a.eval o).run P w)) :
    o.wpIn (fenceR ro) m P a w next Q := by
  have hsem : o.semAt (fenceR ro).round a.eval = execOp a.eval o := Oper.semAt_eq _ _ _ (fun c hh => by rw [hh] at h3; cases h3)
  refine ⟨about_true ro o w _, ?_⟩
  rw [hsem]
  generalize (execOp a.eval o).run P w = r at hrun
  match r, hrun with
  | .ok (.value v) w', hh => exact hk _ _ hh
  | .ok .skip w', hh => exact hk _ _ hh
  | .ok (.enter f args) w', hh =>
    refine ⟨fun hd => ?_, ?_⟩
    · rw [depth_fenceR] at hd; cases hd
    · refine (callsIn_fenceR ro (m - 1) hh).mono ?_
      intro e' w'' hR
      cases e' with
      | returned v => exact hk _ _ hR
      | panicked c => exact hR.elim
      | outgrown => exact hR.elim
  | .ok (.round l f tmps asg body) w', hh =>
    refine ⟨fun hd => ?_, ?_⟩
    · rw [depth_fenceR] at hd; cases hd
    · refine (roundIn_fenceR ro (m - 1) hh).mono ?_
      intro e' w'' hR
      cases e' with
      | returned v => exact hk _ _ hR
      | panicked c => exact hR.elim
      | outgrown => exact hR.elim
/-- An operation comes up: it is run, or it is passed over. -/
theorem comes (ro : Option Nat) (m : Nat) (G : Good T ops hd tl) {i : Nat} {o : Oper} (ho : ops[i]? = some o) {ei : Env} (hag : ∀ t ∈ o.looksAt ops, a.tmps[t]? = some (ei t))
    {K : Act → World → Prop} {Q : Exit → Act → World → Prop} (h : (wantE ops o ei = true ∧ runK P (fun v W' => K (a.put o.dst v) W') ((execOp (ev ei) o).run P W)) ∨ (wantE ops o ei = false ∧ K (a.put o.dst undef) W)) :
    wpOpIn (fenceR ro) m P ops Q i K a W := by
  unfold wpOpIn
  simp only [ho, wanted_eq hag (G.opf i o ho).grd]
  have hsel := (G.opf i o ho).sel
  rcases h with ⟨h1, h2⟩ | ⟨h1, h2⟩
  · simp only [h1, if_true]
    refine run_wpN ro m hsel (k := fun v W' => K (a.put o.dst v) W') (fun _ _ h => h) ?_
    rw [execOp_congr o (fun cs b hh => by rw [hh] at hsel; cases hsel) (eval_eq hag)]
    exact h2
  · simp only [h1, Bool.false_eq_true, if_false]
    exact ⟨about_true ro o W _, h2⟩
theorem runK_mono {k k' : Value → World → Prop} (hk : ∀ v w, k v w → k' v w) {r : Result Next} (h : runK P k r) : runK P k' r := runK_mono0 hk h
/-- A resolved operation comes up. -/
theorem Inv.due (I : Inv P T ops hd n w0 e0 D listed a W pre e) (ro : Option Nat) (m : Nat) (G : Good T ops hd tl) (N : Within ops n) {i : Nat} {o : Oper} (ho : ops[i]? = some o) (hun : listed[i]? ≠ some true)
    (hb : ∀ j ∈ bef (befOf ops) i, listed[j]? = some true) (hp : pre i) {K : Act → World → Prop} {Q : Exit → Act → World → Prop}
    (hK : ∀ v, Inv P T ops hd n w0 e0 D (listed.setIfInBounds i true) (a.put o.dst v) W pre e → K (a.put o.dst v) W) : wpOpIn (fenceR ro) m P ops Q i K a W := by
  obtain ⟨o', ei, v, C, ho', hs, hd', hduty, hC, _⟩ := I.duty i hp hun
  obtain rfl : o = o' := by rw [ho] at ho'; exact Option.some.inj ho'
  have hag := I.see N ho hun hb (fun j hj _ _ _ => I.pclosed i hp j hj) hs
  have hI := I.list G N ho hun hb (v := v) (fun _ _ _ _ h => h) (fun _ => hd')
  refine comes ro m G ho hag ?_
  rcases hduty with ⟨h1, h2⟩ | ⟨h1, rfl⟩
  · refine .inl ⟨h1, runK_mono (fun u W' hu => ?_) (h2 W hC)⟩
    obtain ⟨rfl, rfl⟩ := hu
    exact hK _ hI
  · exact .inr ⟨h1, hK _ hI⟩
end
end Go.Wf
