/- A part of the proof: lemmas; nothing is claimed here. -/
import Derived.Test.YtkeecncgfhgnpaaWR4
set_option linter.all false
namespace Go.Wf2
open Go Go.Wf Go.Proofs
set_option linter.unusedVariables false
set_option linter.deprecated false
set_option maxRecDepth 4000
theorem index_val {s : Sl} {a : Int} {w : World} {S : Nat → Prop} {xs : List Int} (hx : rAddrs.R w S s xs) (hlen : xs.length < 1000000) : C_slices_Index_Addr s a w (Val w (findI xs a)) :=
  (index_spec (adF_of hx) hlen).mono fun r w' h => ⟨by rw [h.1]; exact Step.refl _ _, h.2⟩
theorem rightR_spec {p : GPlan} {w : World} {S : Nat → Prop} {xs ys : List Int} (hx : rAddrs.R w S p.From xs) (hy : rAddrs.R w S p.To ys) (h1 : xs.length ≤ 100000) (h2 : ys.length ≤ 100000) : C_rebind_Right p w (Val w (rightB xs ys)) := by
  refine E_rebind_Right _ _ _ ?_
  have lx := hx.1
  have ly := hy.1
  have H := Own.start none_ w
  have no : ∀ w', (Ext w w' ∧ ¬ rightP xs ys) → Val w (rightB xs ys) false w' := fun w' h => ⟨h.1, by
    cases hr : rightB xs ys with
    | false => rfl
    | true => exact absurd ((rightB_iff xs ys).1 hr) h.2⟩
  refine H.new fun b w1 H _ => ?_
  refine H.ld 0 0 rfl rfl rfl (p := p.From) ?_
  refine H.ld 0 1 rfl rfl rfl (p := p.To) ?_
  refine H.new fun b2 w2 H _ => ?_
  refine C_slices_Concat_Addr.mono (concat_spec (S := fun k => k = b2 ∨ S k) (xss := [xs, ys]) ⟨[p.From, p.To], SlT.mono (H.varSl 0 (J := ti27) [p.From, p.To] rfl rfl) (fun _ => Or.inl), rAddrs.mono (fun _ => Or.inr) (rAddrs.ext hx H.step), rAddrs.mono (fun _ => Or.inr) (rAddrs.ext hy H.step), trivial⟩ (by simp) (by intro i zs hi; match i, hi with | 0, hi => (simp at hi; subst hi; omega) | 1, hi => (simp at hi; subst hi; omega))) fun v3 w3 h_v3 => ?_
  have H := H.made h_v3
  have p_v3 := h_v3.2.2.2
  have hv : rAddrs.R w3 (newB w2 w3) v3 (xs ++ ys) := by
    have : rAddrs.R w3 (newB w2 w3) v3 [xs, ys].flatten := (H.hold.at 0 rfl)
    simpa using this
  have hvn : v3.n = (xs ++ ys).length := hv.1
  rw [List.length_append] at hvn
  refine H.ld 2 0 rfl rfl rfl (p := p.From) ?_
  refine H.ld 2 1 rfl rfl rfl (p := p.To) ?_
  refine ifK.mk (fun hc1 => ?_) (fun hc1 => ?_)
  · skip
    have hc1 := by simpa using hc1
    exact no _ ⟨H.step, fun h => by have := h.2.2.1; omega⟩
  · skip
    have hc1 := by simpa using hc1
    refine H.ld 2 0 rfl rfl rfl (p := p.From) ?_
    refine ifK.mk (fun hc2 => ?_) (fun hc2 => ?_)
    · skip
      have hc2 := of_decide_eq_true hc2
      exact no _ ⟨H.step, fun h => by have := h.1; omega⟩
    · skip
      have hc2 := of_decide_eq_false hc2
      refine H.ld 2 0 rfl rfl rfl (p := p.From) ?_
      refine ifK.mk (fun hc3 => ?_) (fun hc3 => ?_)
      · skip
        have hc3 := of_decide_eq_true hc3
        exact no _ ⟨H.step, fun h => by have := h.2.1; omega⟩
      · skip
        have hc3 := of_decide_eq_false hc3
        refine RInv0.loop (n := (xs ++ ys).length) (I := fun i w' => (∀ j, j < i → ∀ a, (xs ++ ys)[j]? = some a → addrB a = true ∧ findI (xs ++ ys) a = (j : Int)) ∧ Go.Wf.Own none_ w w' [rAddrs.ent (newB w2 w3) v3 [xs, ys].flatten, (Var b2 27 [.slice p.From.a p.From.n p.From.c, .slice p.To.a p.To.n p.To.c]), (Var b 38 [.slice p.From.a p.From.n p.From.c, .slice p.To.a p.To.n p.To.c])]) (⟨by simp, H⟩) ?_
        rintro i  w4 hi hI d
        obtain ⟨hA, H⟩ := hI
        dsimp only
        have hv : rAddrs.R w4 (newB w2 w3) v3 (xs ++ ys) := by
          have : rAddrs.R w4 (newB w2 w3) v3 [xs, ys].flatten := (H.hold.at 0 rfl)
          simpa using this
        refine ifK.mk (fun hc4 => ?_) (fun hc4 => ?_)
        · skip
          have hc4 := of_decide_eq_true hc4
          refine SlT.getN ok22 hv (by simp; omega) fun v8 hv8 => ?_
          refine ifK.mk (fun hc5 => ?_) (fun hc5 => ?_)
          · skip
            have hc5 := of_decide_eq_true hc5
            exact no _ ⟨H.step, fun h => by have := (rightP_at h hv8).1; simp [addrB] at this; omega⟩
          · skip
            have hc5 := of_decide_eq_false hc5
            refine ifK.mk (fun hc6 => ?_) (fun hc6 => ?_)
            · skip
              have hc6 := of_decide_eq_true hc6
              exact no _ ⟨H.step, fun h => by have := (rightP_at h hv8).1; simp [addrB] at this; omega⟩
            · skip
              have hc6 := of_decide_eq_false hc6
              refine C_slices_Index_Addr.mono (index_val hv (by simp; omega)) fun v9 w5 h_v9 => ?_
              obtain ⟨hx_w5, rfl⟩ := h_v9
              have H := H.ext hx_w5
              refine ifK.mk (fun q9 => ?_) (fun q9 => ?_)
              · skip
                have q9 := by simpa using q9
                exact no _ ⟨H.step, fun h => q9 (rightP_at h hv8).2⟩
              · skip
                have q9 := by simpa using q9
                refine RInv0.next (by simp; omega) (by simp; omega) ⟨fun j hj a ha => ?_, H⟩
                by_cases hji : j = i
                · subst hji
                  rw [hv8] at ha
                  cases ha
                  exact ⟨by simp [addrB]; omega, q9⟩
                · exact hA j (by omega) a ha
        · skip
          have hc4 := of_decide_eq_false hc4
          refine ⟨H.step, ((rightB_iff xs ys).2 (rightP_of (by omega) (by omega) (by omega) fun j hj => ?_)).symm⟩
          exact hA j (by simp at hj; omega) _ (by simp)
theorem ofR_spec {p : GPlan} {a : Int} {w : World} {S : Nat → Prop} {xs ys : List Int} (hx : rAddrs.R w S p.From xs) (hy : rAddrs.R w S p.To ys) (h1 : xs.length ≤ 100000) (h2 : ys.length ≤ 100000) : C_rebind_Plan_Of p a w (Val w (ofA xs ys a)) := by
  refine E_rebind_Plan_Of _ _ _ _ ?_
  have H := Own.start none_ w
  refine H.new fun b w1 H _ => ?_
  refine H.ld 0 0 rfl rfl rfl (p := p.From) ?_
  refine C_slices_Index_Addr.mono (index_val (rAddrs.ext hx H.step) (by omega)) fun v2 w2 h_v2 => ?_
  obtain ⟨hx_w2, rfl⟩ := h_v2
  have H := H.ext hx_w2
  refine ifK.mk (fun hc1 => ?_) (fun hc1 => ?_)
  · skip
    have hc1 := of_decide_eq_true hc1
    refine H.ld 0 0 rfl rfl rfl (p := p) ?_
    refine C_rebind_Right.mono (rightR_spec (rAddrs.ext hx H.step) (rAddrs.ext hy H.step) (by omega) (by omega)) fun v4 w3 h_v4 => ?_
    obtain ⟨hx_w3, rfl⟩ := h_v4
    have H := H.ext hx_w3
    refine ifK.mk (fun hr => ?_) (fun hr => ?_)
    · skip
      have h0 : ∃ k : Nat, xs.findIdx? (· == a) = some k ∧ findI xs a = (k : Int) := by
        unfold findI at hc1 ⊢
        cases hk : xs.findIdx? (· == a) with
        | none => rw [hk] at hc1; simp at hc1
        | some k => exact ⟨k, rfl, rfl⟩
      obtain ⟨k, hk, hk2⟩ := h0
      have hkl : k < ys.length := by
        have := (List.findIdx?_eq_some_iff_getElem.1 hk).1
        have := ((rightB_iff xs ys).1 hr).2.2.1
        omega
      rw [hk2]
      refine H.ld 0 1 rfl rfl rfl (p := p.To) ?_
      refine SlT.getN ok22 (rAddrs.ext hy H.step) (by omega) fun v6 hv6 => ?_
      refine ⟨H.step, ?_⟩
      simp only [ofA, hr, hk, if_true, List.getD_eq_getElem?_getD, hv6, Option.getD_some]
    · skip
      exact ⟨H.step, by simp [ofA, hr]⟩
  · skip
    have hc1 := of_decide_eq_false hc1
    refine ⟨H.step, ?_⟩
    have : xs.findIdx? (· == a) = none := by
      unfold findI at hc1
      cases hk : xs.findIdx? (· == a) with
      | none => rfl
      | some k => rw [hk] at hc1; simp at hc1
    simp [ofA, this]
theorem of28_val {p : GPlan} {a : Int} {w : World} {S : Nat → Prop} {xs ys : List Int} (hx : rAddrs.R w S p.From xs) (hy : rAddrs.R w S p.To ys) (h1 : xs.length < 1000000) (h2 : ys.length < 1000000) : C_weftlineref28_Of p a w (Val w (ofA xs ys a)) :=
  (of28_spec (adF_of hx) (adF_of hy) h1 h2).mono fun _ _ h => h
def rPlan (p : GPlan) (w : World) (S : Nat → Prop) (xs ys : List Int) : Prop := rAddrs.R w S p.From xs ∧ rAddrs.R w S p.To ys
structure XPlan where
  From : List Int
  To : List Int
def rdPlan : Rdr GPlan XPlan where
  R := fun w S g x => rAddrs.R w S g.From x.From ∧ rAddrs.R w S g.To x.To
  fr := fun h hr => ⟨rAddrs.fr h hr.1, rAddrs.fr h hr.2⟩
  mono := fun h hr => ⟨rAddrs.mono h hr.1, rAddrs.mono h hr.2⟩
  lim := fun hr => ⟨rAddrs.lim hr.1, rAddrs.lim hr.2⟩
theorem program28_spec {p : GPlan} {w : World} {S : Nat → Prop} {x : XPlan} (hx : rdPlan.R w S p x) (h1 : x.From.length ≤ 1000000) (h2 : x.To.length ≤ 1000000) : C_weftlinelaw28_Program p w (Made w (fun r N => rdPlan.ent N r x) (fun _ => True)) := by
  refine E_weftlinelaw28_Program _ _ _ ?_
  have H := Own.start none_ w
  refine H.new fun b w1 H _ => ?_
  refine H.new fun b2 w2 H _ => ?_
  have HN := H.nest
  refine HN.ld 1 0 rfl rfl rfl (p := p.From) ?_
  refine HN.ld 1 1 rfl rfl rfl (p := p.To) ?_
  refine HN.newb fun b3 th hb_b3 HN => ?_
  refine HN.eff (fun r N => (Rdr.sl0 ok22).ent N r x.From) (fun _ => True) (fun _ _ _ h => h) (fun W K K' hk h => runT_mono hk h) (fun W hW H => append_fresh ok22 el27 _ (x := p.From) (rAddrs.ext hx.1 H.step) (by omega) (I := ti27) (fun s => s) (fun _ => rfl) (fun _ _ h => h)) fun v3 N th2 p_v3 HN => ?_
  refine HN.newb fun b4 th3 hb_b4 HN => ?_
  refine HN.fin fun w6 hx_w6 H => ?_
  have hX := hx_w6
  refine append_fresh ok22 el27 _ (x := p.To) (rAddrs.ext hx.2 H.step) (by omega) (I := ti27) (fun s => s) (fun _ => rfl) fun v4 w7 h_v4 => ?_
  have H := H.made h_v4
  have hX := hX.trans h_v4.1
  refine H.st 4 0 rfl rfl rfl fun w8 H => ?_
  replace H : Go.Wf.Own _ _ _ (_ :: _ :: _ :: _ :: Var b2 _ [.slice v3.a v3.n v3.c, .slice v4.a v4.n v4.c] :: _) := H
  refine H.ld 4 0 rfl rfl rfl (p := (⟨v3, v4⟩ : GPlan)) ?_
  exact ⟨H.step, ⟨(H.got 2 rfl), (H.got 0 rfl)⟩, fun _ h => h, trivial⟩
theorem rebindPacket_spec {x1 : GPacket} {p : GPlan} {w : World} {S S' : Nat → Prop} {x : XPacket} {y : XPlan} (hx : rPacket.R w S x1 x) (hy : rdPlan.R w S' p y) (hn : chunksSmall x.Chunks 1000000) (h1 : y.From.length ≤ 100000) (h2 : y.To.length ≤ 100000) : C_rebind_Packet x1 p w (Made w (fun r N => rPacket.ent N r ⟨ofA y.From y.To x.From, ofA y.From y.To x.To, x.Tag, x.Chunks⟩) (fun _ => True)) := by
  refine E_rebind_Packet _ _ _ _ ?_
  have H := Own.start none_ w
  refine H.new fun b w1 H _ => ?_
  refine H.new fun b2 w2 H _ => ?_
  refine H.new fun b3 w3 H _ => ?_
  refine H.ld 2 0 rfl rfl rfl (p := x1) ?_
  refine C_packet_Copy.mono (packetCopy_spec (rPacket.ext hx H.step) hn) fun v2 w4 h_v2 => ?_
  have H := H.made h_v2
  have p_v2 := h_v2.2.2.2
  have e := ((H.hold.at 0 rfl) : rPacket.R w4 _ v2 x).2
  refine H.st 3 0 rfl rfl rfl fun w5 H => ?_
  replace H : Go.Wf.Own _ _ _ (_ :: _ :: _ :: Var b _ [.int .i64 v2.From, .int .i64 v2.To, .int .u32 v2.Tag, .slice v2.Chunks.a v2.Chunks.n v2.Chunks.c] :: _) := H
  refine ⟨_, GOk.ext _, ?_⟩
  have HN := H.nest
  refine HN.ld 2 0 rfl rfl rfl (p := p) ?_
  refine HN.ld 3 0 rfl rfl rfl (p := v2.From) ?_
  refine HN.ld 2 0 rfl rfl rfl (p := p) ?_
  refine HN.ld 3 1 rfl rfl rfl (p := v2.To) ?_
  refine HN.fin fun w6 hx_w6 H => ?_
  have hX := hx_w6
  refine C_rebind_Plan_Of.mono (ofR_spec (rAddrs.ext hy.1 H.step) (rAddrs.ext hy.2 H.step) h1 h2) fun v7 w7 h_v7 => ?_
  obtain ⟨hx_w7, e_v7⟩ := h_v7
  have H := H.ext hx_w7
  have hX := hX.trans hx_w7
  refine ⟨hX, ?_⟩
  refine C_rebind_Plan_Of.mono (ofR_spec (rAddrs.ext hy.1 H.step) (rAddrs.ext hy.2 H.step) h1 h2) fun v8 w8 h_v8 => ?_
  obtain ⟨hx_w8, e_v8⟩ := h_v8
  have H := H.ext hx_w8
  have hX := hX.trans hx_w8
  refine H.st 3 0 rfl rfl rfl fun w9 H => ?_
  replace H : Go.Wf.Own _ _ _ (_ :: _ :: _ :: Var b _ [.int .i64 v7, .int .i64 v2.To, .int .u32 v2.Tag, .slice v2.Chunks.a v2.Chunks.n v2.Chunks.c] :: _) := H
  refine H.st 3 1 rfl rfl rfl fun w10 H => ?_
  replace H : Go.Wf.Own _ _ _ (_ :: _ :: _ :: Var b _ [.int .i64 v7, .int .i64 v8, .int .u32 v2.Tag, .slice v2.Chunks.a v2.Chunks.n v2.Chunks.c] :: _) := H
  refine H.ld 3 0 rfl rfl rfl (p := (⟨v7, v8, v2.Tag, v2.Chunks⟩ : GPacket)) ?_
  refine H.st 1 0 rfl rfl rfl fun w11 H => ?_
  replace H : Go.Wf.Own _ _ _ (_ :: Var b3 _ [.int .i64 v7, .int .i64 v8, .int .u32 v2.Tag, .slice v2.Chunks.a v2.Chunks.n v2.Chunks.c] :: _) := H
  refine H.ld 1 0 rfl rfl rfl (p := (⟨v7, v8, v2.Tag, v2.Chunks⟩ : GPacket)) ?_
  have e1 : x.From = v2.From := congrArg XPacket.From e
  have e2 : x.To = v2.To := congrArg XPacket.To e
  have e3 : x.Tag = v2.Tag := congrArg XPacket.Tag e
  exact ⟨H.step, ⟨((H.got 0 rfl)).1, by simp [xPacket, e1, e2, e3, e_v7, e_v8]⟩, fun _ h => h, trivial⟩
end Go.Wf2
