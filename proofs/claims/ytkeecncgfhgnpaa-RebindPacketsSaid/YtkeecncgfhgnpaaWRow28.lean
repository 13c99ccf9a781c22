/- RebindPackets: called with any packet and any plan that can be read, the law's function returns true and leaves its arguments as they were; no condition. -/
import Derived.Test.YtkeecncgfhgnpaaWOp1
import Derived.Test.YtkeecncgfhgnpaaWT1
import Derived.Test.YtkeecncgfhgnpaaRows
import Derived.WalkKit
set_option linter.all false
namespace Go.Proofs.Ytkeecncgfhgnpaa
open Go Go.Wf Go.Wf2 Go.ChangeShapes Go.WideShapes Go.ChangeAt Go.RowKit
set_option maxRecDepth 100000
theorem own : ownKnob Try.prog.godebug = none := by kernel_rfl
theorem laid : laidOutB Try.prog = true := by kernel_rfl
theorem u4 : Try.prog.underlying 4 = some .bool := by kernel_rfl
theorem o24 {H : Type} {enc : TypeId × Value → H} {w : World} {sp : Nat → Bool} {held : Bool} : OpT enc w sp held 24 (cSl rChunks w 256 fun x => x.ok ∧ x.small 140737488355328) :=
  open_sl (by kernel_rfl) (by kernel_rfl) (by kernel_rfl) ok145 o145
theorem o26 {H : Type} {enc : TypeId × Value → H} {w : World} {sp : Nat → Bool} {held : Bool} : OpT enc w sp held 26 fun cs => ∃ g x, cs = wrT ti26 g ∧ rPacket.R w (allB w) g x ∧ (∀ (i : Nat) c, x.Chunks[i]? = some c → c.ok ∧ c.small 140737488355328) := by
  refine (open_struct [⟨22, 1, cInt .i64⟩, ⟨22, 1, cInt .i64⟩, ⟨23, 1, cInt .u32⟩, ⟨24, 1, cSl rChunks w 256 fun x => x.ok ∧ x.small 140737488355328⟩] (n := 4) (by kernel_rfl) rfl ?_).imp ?_
  · intro f hf
    simp only [List.mem_cons, List.not_mem_nil, or_false] at hf
    rcases hf with rfl | rfl | rfl | rfl <;> first | exact o22 | exact o23 | exact o24
  · rintro cs ⟨_, _, rfl, ⟨n1, rfl, h1⟩, _, _, rfl, ⟨n2, rfl, h2⟩, _, _, rfl, ⟨n3, rfl, h3⟩, _, _, rfl, ⟨s, xs, rfl, h4, h5, h6⟩, rfl⟩
    exact ⟨⟨n1, n2, n3, s⟩, ⟨n1, n2, n3, xs⟩, rfl, ⟨h4, rfl⟩, h6⟩
theorem o29 {H : Type} {enc : TypeId × Value → H} {w : World} {sp : Nat → Bool} {held : Bool} : OpT enc w sp held 29 fun cs => ∃ g x, cs = wrT ti29 g ∧ rdPlan.R w (allB w) g x := by
  refine (open_struct [⟨27, 1, cSl rAddrs w 8 (inK .i64)⟩, ⟨27, 1, cSl rAddrs w 8 (inK .i64)⟩] (n := 2) (by kernel_rfl) rfl ?_).imp ?_
  · intro f hf
    simp only [List.mem_cons, List.not_mem_nil, or_false] at hf
    rcases hf with rfl | rfl <;> exact o27
  · rintro cs ⟨_, _, rfl, ⟨s, xs, rfl, h4, h5, h6⟩, _, _, rfl, ⟨s2, xs2, rfl, h7, h8, h9⟩, rfl⟩
    exact ⟨⟨s, s2⟩, ⟨xs, xs2⟩, rfl, h4, h7⟩
theorem agg_of {t : Nat} {w : World} {b : Nat} {v : Value} {l : List Value} (hs : ∃ fs, Try.prog.underlying t = some (.struct fs)) (hv : Value.okWide Try.prog w .any b t v) (hl : v.cells.toList = l) : v = .agg l.toArray := by
  obtain ⟨fs, hs⟩ := hs
  obtain ⟨cs, rfl, _⟩ := okWide_struct hs hv
  subst hl
  rfl
theorem callsOf {f : Nat} {args : List Value} {w : World} (h : callK Try.prog TT ti4 (.func (.func f) #[] #[]) args w (Val w true)) : Calls Try.prog f args.toArray w fun e w' => e = .returned (.bool true) ∧ Ext w w' := by
  unfold callK at h
  simp only at h
  split at h
  · rename_i hg
    simp only [Array.toList_empty, List.nil_append, List.append_nil] at h
    refine h.mono fun e w' hR => ?_
    cases e with
    | returned v =>
      have hR' : ofK ti4 v fun p => Val w true p w' := hR
      unfold ofK at hR'
      split at hR'
      · rename_i p hp
        obtain ⟨h1, rfl⟩ := hR'
        have := tik4.of _ _ hp
        rw [this]
        exact ⟨rfl, h1⟩
      · exact hR'.elim
    | panicked c => exact hR.elim
    | outgrown => exact hR.elim
  · exact h.elim
theorem rebind_lifted (os : Os) (started : os.Started) (H : Type) (enc : TypeId × Value → H) :
    ReturnsInHanded {} Try.checked os 3 .any (Rows.rebindPacketsSpec.pre6 enc Try.prog Try.f3 Rows.rebindPacketsRow.domain false) (Rows.rebindPacketsSpec.post enc Try.prog Try.f3 false true false false) := by
  refine returnsInHanded_of_change_sized (C := Try.checked) own started (by kernel_rfl) Try.func3
    (ChangeSpec.witness6 (enc := enc) (C := Try.checked) false ⟨#[], #[.agg #[.int .i64 0, .int .i64 0, .int .u32 0, .slice none 0 0], .agg #[.slice none 0 0, .slice none 0 0]], []⟩ 8 (by kernel_rfl) (by kernel_rfl) (by kernel_rfl) (by kernel_rfl)) ?_
  intro W base args ds gs before hval0 hW _ hsz0 _
  have hval : ∀ (j : Nat) t v, Try.f3.params[j]? = some t → args[j]? = some v → Value.okWide Try.prog W .any base t v := hval0
  have hsz : (DataW.weightsEach Try.prog (Try.f3.params.toList ++ Rows.rebindPacketsSpec.plain.varTypes Try.prog) (ds ++ gs)).all (· ≤ reachBytes) = true := hsz0
  have hW' : DataW.Whole enc Try.prog Try.f3.params.toList Rows.rebindPacketsSpec.vars false W args.toList ds gs before := hW
  obtain ⟨p, q, hA0, hV, _, _, _⟩ := hW
  have hA : DataW.TrodAll enc Try.prog W 0 (fun _ => true) true Try.f3.params.toList args.toList ds p := hA0
  rw [Try.params3] at hA hval hsz
  obtain ⟨v0, vs0, d0, ds0, p0, q0, hargs, rfl, rfl, h0, r0⟩ := trodAll_cons hA
  obtain ⟨v1, vs1, d1, ds1, p1, q1, rfl, rfl, rfl, h1, r1⟩ := trodAll_cons r0
  obtain ⟨rfl, rfl, rfl⟩ := trodAll_nil r1
  obtain rfl : args = #[v0, v1] := by cases args; simp_all
  obtain ⟨rfl, rfl⟩ := trodVars_none hV
  obtain ⟨fu0, ht0⟩ := h0
  obtain ⟨fu1, ht1⟩ := h1
  have hw : ∀ (j : Nat) t d, [26, 29][j]? = some t → [d0, d1][j]? = some d → ∀ n ∈ d.weights Try.prog t, n ≤ reachBytes := by
    exact fun j t d hj hd => weights_at (ts := [26, 29]) hsz hj hd
  obtain ⟨g0, x0, e0, k0, c0⟩ := o26 _ _ _ ht0 (hw 0 26 d0 rfl rfl)
  obtain ⟨g1, x1, e1, k1⟩ := o29 _ _ _ ht1 (hw 1 29 d1 rfl rfl)
  have f0 := agg_of (t := 26) ⟨_, Try.underlying26⟩ (hval 0 26 v0 rfl rfl) e0
  have f1 := agg_of (t := 29) ⟨_, Try.underlying29⟩ (hval 1 29 v1 rfl rfl) e1
  refine (callsOf (f := 3) (args := [v0, v1]) ?_).mono fun e W' ⟨he, hx⟩ => ⟨_, he, ?_⟩
  · rw [f0, f1]
    exact rebindPackets_spec k0 k1 (fun i c hc => (c0 i c hc).1) fun i c hc => (c0 i c hc).2
  · exact law_post laid u4 rfl rfl (by rw [Try.params3]; intro t ht; simp at ht; rcases ht with rfl | rfl <;> exact ⟨by kernel_rfl, of_decide_eq_true (by kernel_rfl)⟩) rfl hW' hx
theorem rebindPackets_holds : Rows.RebindPacketsSaid :=
  OpenClaim.holds_of_wide 3 Try.f3 rfl rfl rfl rfl rfl rfl rfl ⟨rfl, rfl, rfl, rfl, rfl⟩ rfl rfl rfl rfl rfl (by kernel_rfl) Try.func3 (by kernel_rfl)
    (of_decide_eq_true (by kernel_rfl)) (by unfold Func.isWrapper; first | (rw [if_pos (by decide +kernel)]; kernel_rfl) | (rw [if_neg (by decide +kernel)]; exact ⟨rfl, rfl⟩))
    (fun os started H enc _ => rebind_lifted os started H enc)
#print axioms rebindPackets_holds
end Go.Proofs.Ytkeecncgfhgnpaa
