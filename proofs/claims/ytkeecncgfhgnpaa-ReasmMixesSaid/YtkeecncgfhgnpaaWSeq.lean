/- A part of the proof: lemmas; nothing is claimed here. -/
import Derived.Test.YtkeecncgfhgnpaaWOps
import Derived.OrdersIn
set_option linter.all false
namespace Go.Wf
open Go Go.RowKit
variable {P : Program} {T : TT}

/-! ### A list of operations -/
def opsL (P : Program) (T : TT) (ops : Array Oper) (Q : Env → World → Prop) : List Oper → Env → World → Prop
  | [], e, w => Q e w
  | o :: r, e, w => match o.guard with
    | none => opK P T o e w fun v w' => opsL P T ops Q r (upd e o.dst v) w'
    | some (j, want) => match (ops[j]?).bind (·.dst) with
      | none => False
      | some d => match e d with
        | .bool b => ifK b
            (match want with
              | true => opK P T o (upd e (some d) (.bool true)) w fun v w' => opsL P T ops Q r (upd (upd e (some d) (.bool true)) o.dst v) w'
              | false => opsL P T ops Q r (upd (upd e (some d) (.bool true)) o.dst undef) w)
            (match want with
              | false => opK P T o (upd e (some d) (.bool false)) w fun v w' => opsL P T ops Q r (upd (upd e (some d) (.bool false)) o.dst v) w'
              | true => opsL P T ops Q r (upd (upd e (some d) (.bool false)) o.dst undef) w)
        | _ => opsL P T ops Q r (upd e o.dst undef) w

def memB : List Nat → Nat → Bool
  | [], _ => false
  | x :: l, n => cond (Nat.beq n x) true (memB l n)
/-- The fences in which the walks go: the wide one, and the rounds in it. -/
def fenceR : Option Nat → Fence
  | none => Fence.wide
  | some l => Fence.wide.inRound l
/-! ### What is asked of a text, once -/
def okOperand (n : Nat) : Operand → Bool
  | .tmp t => Nat.blt t n
  | _ => true
def okDst (n : Nat) (W : List Nat) : Option Nat → Bool
  | some d => Nat.blt d n && memB W d
  | none => true
def okOp (n : Nat) (W : List Nat) (ops : Array Oper) (o : Oper) : Bool :=
  okDst n W o.dst && o.op.operands.toList.all (okOperand n) && (match o.op with | .select .. | .defer .. | .go .. => false | _ => true) &&
  (match o.guard with
    | none => true
    | some (j, _) => match (ops[j]?).bind (·.dst) with
      | some d => Nat.blt d n
      | none => false)
/-! ### Soundness -/
def Rep (n : Nat) (a : Act) (e : Env) : Prop := a.tmps.size = n ∧ ∀ t, t < n → a.tmps[t]? = some (e t)
theorem Rep.eval {n : Nat} {a : Act} {e : Env} (h : Rep n a e) {x : Operand} (hx : okOperand n x = true) : a.eval x = ev e x := by
  cases x <;> try rfl
  case tmp t =>
    have ht : t < n := by simpa [okOperand, Nat.blt_eq] using hx
    simp [Act.eval, ev, Array.getD_eq_getD_getElem?, h.2 t ht]
theorem upd_same (e : Env) (d : Nat) (v : Value) : upd e (some d) v d = v := by simp [upd]
theorem upd_other (e : Env) {d t : Nat} (h : t ≠ d) (v : Value) : upd e (some d) v t = e t := by
  have : Nat.beq t d = false := by
    cases hb : Nat.beq t d with
    | false => rfl
    | true => exact absurd (Nat.eq_of_beq_eq_true hb) h
  simp only [upd, this, cond_false]
theorem Rep.put {n : Nat} {a : Act} {e : Env} (h : Rep n a e) {W : List Nat} {d : Option Nat} (hd : okDst n W d = true) (v : Value) : Rep n (a.put d v) (upd e d v) := by
  cases d with
  | none => exact h
  | some d =>
    have hd' : d < n := by simp [okDst, Nat.blt_eq] at hd; exact hd.1
    refine ⟨by simp [Act.put, h.1], fun t ht => ?_⟩
    by_cases e1 : t = d
    · subst e1; rw [upd_same]; simp [Act.put, h.1, ht]
    · rw [upd_other e e1, ← h.2 t ht]; simp [Act.put, Ne.symm e1]
theorem put_defers (a : Act) (d : Option Nat) (v : Value) : (a.put d v).defers = a.defers := by cases d <;> rfl
def Agree (W : List Nat) (e e' : Env) : Prop := ∀ t, memB W t = false → e' t = e t
theorem Agree.refl (W : List Nat) (e : Env) : Agree W e e := fun _ _ => rfl
theorem Agree.trans {W : List Nat} {a b c : Env} (h : Agree W a b) (k : Agree W b c) : Agree W a c := fun t ht => (k t ht).trans (h t ht)
theorem Agree.upd {W : List Nat} {n : Nat} {d : Option Nat} (hd : okDst n W d = true) (e : Env) (v : Value) : Agree W e (upd e d v) := by
  intro t ht
  cases d with
  | none => rfl
  | some d =>
    have : memB W d = true := by simp [okDst] at hd; exact hd.2
    exact upd_other e (fun e1 => by subst e1; rw [this] at ht; cases ht) v

theorem callsIn_fenceR (ro : Option Nat) (m : Nat) {f : FuncId} {args : Array Value} {w : World} {R : Ending → World → Prop} (h : Calls P f args w R) : CallsIn (fenceR ro) m P f args w R := by
  cases ro with
  | none => exact callsIn_wide.2 h
  | some l => exact ⟨trivial, fun cs _ => let ⟨e, w', fr, r, s, x⟩ := h cs; ⟨e, w', fr, r, comesIn_wide.2 s, x⟩⟩

theorem roundIn_fenceR (ro : Option Nat) (m : Nat) {l : Nat} {f : FuncId} {tmps : Array Value} {assign body : Code} {w : World} {R : Ending → World → Prop} (h : RoundIn Fence.wide 0 P l f tmps assign body w R) : RoundIn (fenceR ro) m P l f tmps assign body w R := by
  refine ⟨by cases ro <;> trivial, fun c cs _ => ?_⟩
  obtain ⟨e, w', r, s⟩ := h.2 c cs (room_wide _)
  cases ro with
  | none => exact ⟨e, w', r, s⟩
  | some l0 => exact ⟨e, w', r, comesIn_wide.2 (comesIn_wide.1 s)⟩
theorem upd_self (e : Env) (d : Nat) : upd e (some d) (e d) = e := by
  funext t
  by_cases h : t = d
  · subst h; exact upd_same _ _ _
  · exact upd_other e h _

/-- The post of a walk, in the machine's frames. -/
def postA (n : Nat) (D : List Deferred) (W : List Nat) (e : Env) (Q : Exit → Env → World → Prop) : Exit → Act → World → Prop :=
  fun x a w => ∃ e', Rep n a e' ∧ a.defers = D ∧ Agree W e e' ∧ Q x e' w
theorem about_true (ro : Option Nat) (o : Oper) (w : World) (ρ : Operand → Value) : ∀ f, o.about P w ρ = some f → (fenceR ro).fn f := by
  intro f _; cases ro <;> trivial
theorem depth_fenceR (ro : Option Nat) : (fenceR ro).depth = none := by cases ro <;> rfl

theorem opK_wpIn (hT : TOk P T) (ro : Option Nat) (m : Nat) {n : Nat} {W : List Nat} {ops : Array Oper} {o : Oper} (ho : okOp n W ops o = true) {a : Act} {e : Env} (hr : Rep n a e) {w : World}
    {k : Value → World → Prop} {next : Act → World → Prop} {Q : Exit → Act → World → Prop} (hk : ∀ v w', k v w' → next (a.put o.dst v) w') (h : opK P T o e w k) :
    o.wpIn (fenceR ro) m P a w next Q := by
  simp only [okOp, Bool.and_eq_true] at ho
  obtain ⟨⟨⟨h1, h2⟩, h3⟩, h4⟩ := ho
  have hcong : execOp a.eval o = execOp (ev e) o := execOp_congr o (fun cs b hh => by rw [hh] at h3; cases h3) (fun x hx => hr.eval (List.all_eq_true.1 h2 x (by simpa using hx)))
  have hsem : o.semAt (fenceR ro).round a.eval = execOp a.eval o := Oper.semAt_eq _ _ _ (fun c hh => by rw [hh] at h3; cases h3)
  refine ⟨about_true ro o w _, ?_⟩
  rw [hsem, hcong]
  have hrun := opK_run hT h
  generalize (execOp (ev e) o).run P w = r at hrun
  match r, hrun with
  | .ok (.value v) w', hh => exact hk _ _ hh
  | .ok .skip w', hh => exact hk _ _ hh
  | .ok (.enter f args) w', hh =>
    refine ⟨fun hd => ?_, ?_⟩
    · rw [depth_fenceR] at hd; cases hd
    · refine (callsIn_fenceR ro (m - 1) hh).mono ?_
      intro e' w'' hR
      cases e' with
      | returned v => exact hk _ _ hR
      | panicked c => exact hR.elim
      | outgrown => exact hR.elim
  | .ok (.round l f tmps asg body) w', hh =>
    refine ⟨fun hd => ?_, ?_⟩
    · rw [depth_fenceR] at hd; cases hd
    · refine (roundIn_fenceR ro (m - 1) hh).mono ?_
      intro e' w'' hR
      cases e' with
      | returned v => exact hk _ _ hR
      | panicked c => exact hR.elim
      | outgrown => exact hR.elim

theorem opsL_sound (hT : TOk P T) (ro : Option Nat) (m : Nat) {n : Nat} {W : List Nat} {ops : Array Oper} (hok : ops.toList.all (okOp n W ops) = true)
    {Q : Exit → Env → World → Prop} {D : List Deferred} {e0 : Env} : ∀ (idx : List Nat) (e : Env) (a : Act) (w : World), Rep n a e → a.defers = D → Agree W e0 e →
      opsL P T ops (Q .normal) (idx.filterMap (ops[·]?)) e w → wpOpsIn (fenceR ro) m P ops (postA n D W e0 Q) idx a w := by
  intro idx
  induction idx with
  | nil => intro e a w hr hd hag h; exact ⟨e, hr, hd, hag, h⟩
  | cons i rest ih =>
    intro e a w hr hd hag h
    simp only [wpOpsIn]
    cases hi : ops[i]? with
    | none =>
      rw [List.filterMap_cons, hi] at h
      exact ih e a w hr hd hag h
    | some o =>
      rw [List.filterMap_cons, hi] at h
      simp only [opsL] at h
      have hoo : okOp n W ops o = true := List.all_eq_true.1 hok o (by
        obtain ⟨hlt, rfl⟩ := Array.getElem?_eq_some_iff.1 hi
        simp)
      have hoo' := hoo
      simp only [okOp, Bool.and_eq_true] at hoo'
      obtain ⟨⟨⟨h1, h2⟩, h3⟩, h4⟩ := hoo'
      have go : opK P T o e w (fun v w' => opsL P T ops (Q .normal) (rest.filterMap (ops[·]?)) (upd e o.dst v) w') → o.wpIn (fenceR ro) m P a w (wpOpsIn (fenceR ro) m P ops (postA n D W e0 Q) rest) (postA n D W e0 Q) := by
        intro h
        refine opK_wpIn hT ro m hoo hr (fun v w' hh => ?_) h
        exact ih _ _ _ (hr.put h1 v) (by rw [put_defers]; exact hd) (hag.trans (Agree.upd h1 e v)) hh
      have pass : opsL P T ops (Q .normal) (rest.filterMap (ops[·]?)) (upd e o.dst undef) w → (∀ f, o.about P w a.eval = some f → (fenceR ro).fn f) ∧ wpOpsIn (fenceR ro) m P ops (postA n D W e0 Q) rest (a.put o.dst undef) w :=
        fun h => ⟨about_true ro o w _, ih _ _ _ (hr.put h1 undef) (by rw [put_defers]; exact hd) (hag.trans (Agree.upd h1 e undef)) h⟩
      cases hg : o.guard with
      | none =>
        simp only [hg] at h
        simp only [Region.wanted, hg, if_true]
        exact go h
      | some jw =>
        obtain ⟨j, want⟩ := jw
        simp only [hg] at h h4
        simp only [Region.wanted, hg, yielded]
        cases hd' : (ops[j]?).bind (·.dst) with
        | none => simp only [hd'] at h
        | some d =>
          simp only [hd'] at h h4
          have hdn : d < n := by simpa [Nat.blt_eq] using h4
          simp only [Option.bind_some, hr.2 d hdn]
          cases hb : e d with
          | bool b =>
            simp only [hb] at h
            have hself : ∀ b', e d = .bool b' → upd e (some d) (.bool b') = e := fun b' hb' => by rw [← hb']; exact upd_self e d
            cases b with
            | true =>
              simp only [ifK, hself true hb] at h
              cases want with
              | true => simpa using go h
              | false => simpa using pass h
            | false =>
              simp only [ifK, hself false hb] at h
              cases want with
              | true => simpa using pass h
              | false => simpa using go h
          | _ =>
            simp only [hb] at h
            simpa using pass h

theorem filterMap_range_list {α : Type} (l : List α) : (List.range l.length).filterMap (l[·]?) = l := by
  induction l with
  | nil => rfl
  | cons a l ih =>
    rw [List.length_cons, List.range_succ_eq_map, List.filterMap_cons]
    simp only [List.getElem?_cons_zero, List.filterMap_map]
    congr 1
theorem filterMap_range (ops : Array Oper) : (List.range ops.size).filterMap (ops[·]?) = ops.toList := by
  have := filterMap_range_list ops.toList
  simpa using this

theorem memB_iff (W : List Nat) (n : Nat) : memB W n = true ↔ n ∈ W := by
  induction W with
  | nil => simp [memB]
  | cons x l ih =>
    unfold memB
    cases hb : Nat.beq n x with
    | true => simp [Nat.eq_of_beq_eq_true hb]
    | false =>
      have : n ≠ x := fun h => by subst h; simp at hb
      simp [ih, this]

end Go.Wf
