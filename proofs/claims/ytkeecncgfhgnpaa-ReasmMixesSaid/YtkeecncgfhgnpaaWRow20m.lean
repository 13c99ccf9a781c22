/- THE CLAIM: ReasmMixes holds of the program. -/
import Derived.Test.YtkeecncgfhgnpaaWOp1
import Derived.Test.YtkeecncgfhgnpaaWPl4
import Derived.Test.YtkeecncgfhgnpaaRows
import Derived.WalkKit
set_option linter.all false
namespace Go.Proofs.Ytkeecncgfhgnpaa
open Go Go.Wf Go.Wf2 Go.ChangeShapes Go.WideShapes Go.ChangeAt Go.RowKit
set_option maxRecDepth 100000
theorem own : ownKnob Try.prog.godebug = none := by kernel_rfl
theorem laid : laidOutB Try.prog = true := by kernel_rfl
theorem u4 : Try.prog.underlying 4 = some .bool := by kernel_rfl
theorem by8 (l : List Int) (h : ∀ (i : Nat) n, l[i]? = some n → inK .u8 n) : bytesOk l := fun n hn => by
  obtain ⟨i, hi, rfl⟩ := List.getElem_of_mem hn
  have := h i _ (List.getElem?_eq_getElem hi)
  simpa [inK, Lit.wf, IntKind.min, IntKind.max, IntKind.signed, IntKind.bits, Int.le_iff_lt_add_one] using this
theorem o54 {H : Type} {enc : TypeId × Value → H} {w : World} {sp : Nat → Bool} {held : Bool} : OpT enc w sp held 54 fun cs => ∃ g x, cs = wrT ti54 g ∧ rMessage.R w (allB w) g x ∧ bytesOk x.Text := by
  refine (open_struct [⟨3, 1, cInt .i64⟩, ⟨4, 1, cBool⟩, ⟨52, 1, cSl rBytes w 1 (inK .u8)⟩] (n := 3) (by kernel_rfl) rfl ?_).imp ?_
  · intro f hf
    simp only [List.mem_cons, List.not_mem_nil, or_false] at hf
    rcases hf with rfl | rfl | rfl <;> first | exact o3 | exact o4 | exact o52
  · rintro cs ⟨_, _, rfl, ⟨n1, rfl, h1⟩, _, _, rfl, ⟨b2, rfl⟩, _, _, rfl, ⟨s, xs, rfl, h4, h5, h6⟩, rfl⟩
    exact ⟨⟨n1, b2, s⟩, ⟨n1, b2, xs⟩, rfl, ⟨h4, rfl, rfl⟩, by8 _ h6⟩
def rMessages : Rdr Sl (List XMessage) := Rdr.sl ok54 rMessage
theorem o44 {H : Type} {enc : TypeId × Value → H} {w : World} {sp : Nat → Bool} {held : Bool} : OpT enc w sp held 44 (cSl rMessages w 40 fun x => bytesOk x.Text) :=
  open_sl (by kernel_rfl) (by kernel_rfl) (by kernel_rfl) ok54 o54
theorem o47 {H : Type} {enc : TypeId × Value → H} {w : World} {sp : Nat → Bool} {held : Bool} : OpT enc w sp held 47 fun cs => ∃ g : GStart, cs = wrT ti47 g := by
  refine (open_struct [⟨23, 1, cInt .u32⟩, ⟨45, 1, cInt .u16⟩, ⟨3, 1, cInt .i64⟩] (n := 3) (by kernel_rfl) rfl ?_).imp ?_
  · intro f hf
    simp only [List.mem_cons, List.not_mem_nil, or_false] at hf
    rcases hf with rfl | rfl | rfl <;> first | exact o23 | exact o45 | exact o3
  · rintro cs ⟨_, _, rfl, ⟨n1, rfl, h1⟩, _, _, rfl, ⟨n2, rfl, h2⟩, _, _, rfl, ⟨n3, rfl, h3⟩, rfl⟩
    exact ⟨⟨n1, n2, n3⟩, rfl⟩
theorem o50 {H : Type} {enc : TypeId × Value → H} {w : World} {sp : Nat → Bool} {held : Bool} : OpT enc w sp held 50 fun cs => ∃ (g : GMix) (xms : List XMessage) (os : List Int), cs = wrT ti50 g ∧ rMessages.R w (allB w) g.List xms ∧ xms.length * 40 ≤ reachBytes ∧ msgsOk xms ∧ (Rdr.sl0 ok3).R w (allB w) g.Order os := by
  refine (open_struct [⟨44, 1, cSl rMessages w 40 fun x => bytesOk x.Text⟩, ⟨47, 3, fun cs => ∃ g : GStart, cs = wrT ti47 g⟩, ⟨48, 1, cSl (Rdr.sl0 ok3) w 8 (inK .i64)⟩] (n := 5) (by kernel_rfl) rfl ?_).imp ?_
  · intro f hf
    simp only [List.mem_cons, List.not_mem_nil, or_false] at hf
    rcases hf with rfl | rfl | rfl <;> first | exact o44 | exact o47 | exact o48
  · rintro cs ⟨_, _, rfl, ⟨s, xs, rfl, h4, h5, h6⟩, _, _, rfl, ⟨g, rfl⟩, _, _, rfl, ⟨s2, os, rfl, h7, h8, h9⟩, rfl⟩
    exact ⟨⟨s, g, s2⟩, xs, os, rfl, h4, h5, h6, h7⟩
theorem agg_of {t : Nat} {w : World} {b : Nat} {v : Value} {l : List Value} (hs : ∃ fs, Try.prog.underlying t = some (.struct fs)) (hv : Value.okWide Try.prog w .any b t v) (hl : v.cells.toList = l) : v = .agg l.toArray := by
  obtain ⟨fs, hs⟩ := hs
  obtain ⟨cs, rfl, _⟩ := okWide_struct hs hv
  subst hl
  rfl
theorem callsOf {f : Nat} {args : List Value} {w : World} (hf : Go.Wf.TT.fn Go.Wf2.TT f = true) (h : callK Try.prog TT ti4 (.func (.func f) #[] #[]) args w (Val w true)) : Calls Try.prog f args.toArray w fun e w' => e = .returned (.bool true) ∧ Ext w w' := by
  unfold callK at h
  simp only at h
  rw [hf] at h
  have h2 : Calls Try.prog f (([] : List Value) ++ args ++ []).toArray w (Ret fun v w' => ofK ti4 v fun p => Val w true p w') := h
  simp only [List.nil_append, List.append_nil] at h2
  refine h2.mono fun e w' hR => ?_
  cases e with
  | returned v =>
    have hR' : ofK ti4 v fun p => Val w true p w' := hR
    unfold ofK at hR'
    split at hR'
    · rename_i p hp
      obtain ⟨h1, rfl⟩ := hR'
      have := tik4.of _ _ hp
      rw [this]
      exact ⟨rfl, h1⟩
    · exact hR'.elim
  | panicked c => exact hR.elim
  | outgrown => exact hR.elim
theorem mixes_lifted (os : Os) (started : os.Started) (H : Type) (enc : TypeId × Value → H) :
    ReturnsInHanded {} Try.checked os 4 .any (Rows.reasmMixesSpec.pre6 enc Try.prog Try.f4 Rows.reasmMixesRow.domain false) (Rows.reasmMixesSpec.post enc Try.prog Try.f4 false true false false) := by
  refine returnsInHanded_of_change_sized (C := Try.checked) own started (by kernel_rfl) Try.func4
    (ChangeSpec.witness6 (enc := enc) (C := Try.checked) false ⟨#[], #[.agg #[.slice none 0 0, .int .u32 0, .int .u16 0, .int .i64 0, .slice none 0 0]], []⟩ 8 (by kernel_rfl) (by kernel_rfl) (by kernel_rfl) (by kernel_rfl)) ?_
  intro W base args ds gs before hval0 hW _ hsz0 _
  have hval : ∀ (j : Nat) t v, Try.f4.params[j]? = some t → args[j]? = some v → Value.okWide Try.prog W .any base t v := hval0
  have hsz : (DataW.weightsEach Try.prog (Try.f4.params.toList ++ Rows.reasmMixesSpec.plain.varTypes Try.prog) (ds ++ gs)).all (· ≤ reachBytes) = true := hsz0
  have hW' : DataW.Whole enc Try.prog Try.f4.params.toList Rows.reasmMixesSpec.vars false W args.toList ds gs before := hW
  obtain ⟨p, q, hA0, hV, _, _, _⟩ := hW
  have hA : DataW.TrodAll enc Try.prog W 0 (fun _ => true) true Try.f4.params.toList args.toList ds p := hA0
  rw [Try.params4] at hA hval hsz
  obtain ⟨v0, vs0, d0, ds0, p0, q0, hargs, rfl, rfl, h0, r0⟩ := trodAll_cons hA
  obtain ⟨rfl, rfl, rfl⟩ := trodAll_nil r0
  obtain rfl : args = #[v0] := by cases args; simp_all
  obtain ⟨rfl, rfl⟩ := trodVars_none hV
  obtain ⟨fu0, ht0⟩ := h0
  have hw : ∀ (j : Nat) t d, [50][j]? = some t → [d0][j]? = some d → ∀ n ∈ d.weights Try.prog t, n ≤ reachBytes := by
    exact fun j t d hj hd => weights_at (ts := [50]) hsz hj hd
  obtain ⟨g0, xms, os', e0, k0, c0, c1, k1⟩ := o50 _ _ _ ht0 (hw 0 50 d0 rfl rfl)
  have f0 := agg_of (t := 50) ⟨_, Try.underlying50⟩ (hval 0 50 v0 rfl rfl) e0
  refine (callsOf (f := 4) (args := [v0]) (by kernel_rfl) ?_).mono fun e W' ⟨he, hx⟩ => ⟨_, he, ?_⟩
  · rw [f0]
    obtain ⟨gms, m1, m2⟩ := k0
    have hl := m2.len
    exact mixes_all m1 (All2.imp (fun _ _ h => ⟨_, h⟩) m2) k1 c1 (by simp only [reachBytes] at c0; omega)
  · exact law_post laid u4 rfl rfl (by rw [Try.params4]; intro t ht; simp at ht; rcases ht with rfl; exact ⟨by kernel_rfl, of_decide_eq_true (by kernel_rfl)⟩) rfl hW' hx
theorem reasmMixes_holds : Rows.ReasmMixesSaid :=
  OpenClaim.holds_of_wide 4 Try.f4 rfl rfl rfl rfl rfl rfl rfl ⟨rfl, rfl, rfl, rfl, rfl⟩ rfl rfl rfl rfl rfl (by kernel_rfl) Try.func4 (by kernel_rfl)
    (of_decide_eq_true (by kernel_rfl)) (by unfold Func.isWrapper; first | (rw [if_pos (by decide +kernel)]; kernel_rfl) | (rw [if_neg (by decide +kernel)]; exact ⟨rfl, rfl⟩))
    (fun os started H enc _ => mixes_lifted os started H enc)
#print axioms reasmMixes_holds
end Go.Proofs.Ytkeecncgfhgnpaa
