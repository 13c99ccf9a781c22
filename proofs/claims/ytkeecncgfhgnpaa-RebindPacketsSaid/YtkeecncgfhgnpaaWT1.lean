/- A part of the proof: lemmas; nothing is claimed here. -/
import Derived.Test.YtkeecncgfhgnpaaWS9
set_option linter.all false
namespace Go.Wf2
open Go Go.Wf Go.Proofs
set_option linter.unusedVariables false
set_option linter.deprecated false
set_option maxRecDepth 4000
theorem sizeL_ge : ∀ (l : List XChunk), (l.length : Int) ≤ sizeL l ∧ ∀ (i : Nat) c, l[i]? = some c → sizeC c ≤ sizeL l
  | [] => by simp [sizeL]
  | x :: l => by
    have ih := sizeL_ge l
    have h0 := sizeC_nonneg x
    have e : sizeL (x :: l) = 1 + sizeC x + sizeL l := by simp [sizeL]
    refine ⟨by rw [e]; simp; omega, fun i c hi => ?_⟩
    rw [e]
    cases i with
    | zero => simp at hi; subst hi; omega
    | succ i => have := ih.2 i c (by simpa using hi); omega
theorem small_of {l : List XChunk} (h : sizeL l ≤ 3000) : chunksSmall l 1000000 := by
  have h1 := sizeL_ge l
  refine ⟨by omega, fun i c hi => ?_⟩
  have := h1.2 i c hi
  unfold sizeC at this
  unfold XChunk.small
  omega
theorem rebindPackets_spec {q : GPacket} {p : GPlan} {w : World} {S : Nat → Prop} {x : XPacket} {y : XPlan} (hq : rPacket.R w S q x) (hp : rdPlan.R w S p y) (ok : chunksOk x.Chunks) (hn : ∀ (i : Nat) c, x.Chunks[i]? = some c → c.small 140737488355328) : C_weftlinelaw28_RebindPackets q p w (Val w true) := by
  refine E_weftlinelaw28_RebindPackets _ _ _ _ ?_
  have ly1 := hp.1.1
  have ly2 := hp.2.1
  have lc : q.Chunks.n = x.Chunks.length := by obtain ⟨gs, g1, g2⟩ := hq.1; rw [g1.len, g2.len]
  have e1 : x.From = q.From := congrArg XPacket.From hq.2
  have e2 : x.To = q.To := congrArg XPacket.To hq.2
  have e3 : x.Tag = q.Tag := congrArg XPacket.Tag hq.2
  have H := Own.start none_ w
  refine H.new fun b w1 H _ => ?_
  refine H.new fun b2 w2 H _ => ?_
  refine C_weftlinelaw28_alive.mono (alive28_spec) fun v w3 h_v => ?_
  obtain ⟨hx_w3, rfl⟩ := h_v
  have H := H.ext hx_w3
  refine ifK.mk (fun q1 => ?_) (fun q1 => ?_)
  · skip
    cases q1
  · skip
    refine H.ld 0 0 rfl rfl rfl (p := p.From) ?_
    refine ifK.mk (fun hc2 => ?_) (fun hc2 => ?_)
    · skip
      have hc2 := of_decide_eq_true hc2
      exact ⟨H.step, rfl⟩
    · skip
      have hc2 := of_decide_eq_false hc2
      refine H.ld 0 1 rfl rfl rfl (p := p.To) ?_
      refine ifK.mk (fun hc3 => ?_) (fun hc3 => ?_)
      · skip
        have hc3 := of_decide_eq_true hc3
        exact ⟨H.step, rfl⟩
      · skip
        have hc3 := of_decide_eq_false hc3
        refine H.ld 1 3 rfl rfl rfl (p := q.Chunks) ?_
        refine ifK.mk (fun hc4 => ?_) (fun hc4 => ?_)
        · skip
          have hc4 := of_decide_eq_true hc4
          exact ⟨H.step, rfl⟩
        · skip
          have hc4 := of_decide_eq_false hc4
          refine H.ld 1 3 rfl rfl rfl (p := q.Chunks) ?_
          refine C_weftlinelaw08_Size.mono (size08_spec (rChunks.ext hq.1 H.step) (by omega) hn) fun v6 w4 h_v6 => ?_
          obtain ⟨hx_w4, rfl⟩ := h_v6
          have H := H.ext hx_w4
          refine ifK.mk (fun hc5 => ?_) (fun hc5 => ?_)
          · skip
            have hc5 := of_decide_eq_true hc5
            exact ⟨H.step, rfl⟩
          · skip
            have hc5 := of_decide_eq_false hc5
            have hs := small_of (show sizeL x.Chunks ≤ 3000 by omega)
            refine H.ld 1 0 rfl rfl rfl (p := q) ?_
            refine C_weftlinelaw08_Program.mono (program08_spec (rPacket.ext hq H.step) hs) fun v8 w5 h_v8 => ?_
            have H := H.made h_v8
            have p_v8 := h_v8.2.2.2
            refine H.new fun b3 w6 H _ => ?_
            refine H.st 0 0 rfl rfl rfl fun w7 H => ?_
            replace H : Go.Wf.Own _ _ _ (Var b3 _ [.int .i64 v8.From, .int .i64 v8.To, .int .u32 v8.Tag, .slice v8.Chunks.a v8.Chunks.n v8.Chunks.c] :: _) := H
            have HN := H.nest
            refine HN.ld 0 0 rfl rfl rfl (p := v8) ?_
            refine HN.ld 2 0 rfl rfl rfl (p := p) ?_
            refine HN.eff (fun r N => rdPlan.ent N r y) (fun _ => True) (fun _ _ _ h => h) (fun W K K' hk h => C_weftlinelaw28_Program.mono h hk) (fun W hW H => program28_spec (rdPlan.ext hp H.step) (by omega) (by omega)) fun v11 N th p_v11 HN => ?_
            refine HN.eff (fun r N => rPacket.ent N r ⟨ofA y.From y.To x.From, ofA y.From y.To x.To, x.Tag, x.Chunks⟩) (fun _ => True) (fun _ _ _ h => h) (fun W K K' hk h => C_rebind_Packet.mono h hk) (fun W hW H => rebindPacket_spec ((H.hold.at 2 rfl)) ((H.hold.at 0 rfl)) hs (by omega) (by omega)) fun v12 N2 th2 p_v12 HN => ?_
            refine NOwn.effOn HN rPacket ⟨ofA y.From y.To x.From, ofA y.From y.To x.To, x.Tag, x.Chunks⟩ (fun W K K' hk h => C_weftlinelaw08_Document.mono h hk) (fun W hW H => document08_spec ((H.hold.at 0 rfl)) hs) fun v13 N3 th3 HN => ?_
            refine HN.newb fun b4 th4 hb_b4 HN => ?_
            refine HN.fin fun w12 hx_w12 H => ?_
            have hX := hx_w12
            have e13 : (⟨ofA y.From y.To x.From, ofA y.From y.To x.To, x.Tag, x.Chunks⟩ : XPacket) = xPacket v13 x.Chunks := (show rPacket.R w12 _ v13 ⟨ofA y.From y.To x.From, ofA y.From y.To x.To, x.Tag, x.Chunks⟩ from (H.hold.at 1 rfl)).2
            have g1 : ofA y.From y.To x.From = v13.From := congrArg XPacket.From e13
            have g2 : ofA y.From y.To x.To = v13.To := congrArg XPacket.To e13
            have g3 : x.Tag = v13.Tag := congrArg XPacket.Tag e13
            refine H.stx 0 0 rfl rfl rfl fun w13 hs_w13 H => ?_
            have hX := hs_w13 _ hX hb_b4
            replace H : Go.Wf.Own _ _ _ (Var b4 _ [.int .i64 v13.From, .int .i64 v13.To, .int .u32 v13.Tag, .slice v13.Chunks.a v13.Chunks.n v13.Chunks.c] :: _) := H
            have HN := H.nest
            refine HN.ld 0 0 rfl rfl rfl (p := v13.From) ?_
            refine HN.ld 5 0 rfl rfl rfl (p := p) ?_
            refine HN.ld 6 0 rfl rfl rfl (p := q.From) ?_
            refine HN.val _ (fun W hW H => of28_val (rdPlan.ext hp H.step).1 (rdPlan.ext hp H.step).2 (by omega) (by omega)) fun N4 th5 HN => ?_
            refine ifK.mk (fun q7 => ?_) (fun q7 => ?_)
            · skip
              have q7 := by simpa using q7
              refine HN.ld 0 1 rfl rfl rfl (p := v13.To) ?_
              refine HN.ld 5 0 rfl rfl rfl (p := p) ?_
              refine HN.ld 6 1 rfl rfl rfl (p := q.To) ?_
              refine HN.val _ (fun W hW H => of28_val (rdPlan.ext hp H.step).1 (rdPlan.ext hp H.step).2 (by omega) (by omega)) fun N5 th6 HN => ?_
              refine ifK.mk (fun q8 => ?_) (fun q8 => ?_)
              · skip
                have q8 := by simpa using q8
                refine HN.ld 0 2 rfl rfl rfl (p := v13.Tag) ?_
                refine HN.ld 6 2 rfl rfl rfl (p := q.Tag) ?_
                refine ifK.mk (fun q9 => ?_) (fun q9 => ?_)
                · skip
                  have q9 := by simpa using q9
                  refine HN.ld 0 3 rfl rfl rfl (p := v13.Chunks) ?_
                  refine HN.ld 6 3 rfl rfl rfl (p := q.Chunks) ?_
                  refine HN.val _ (fun W hW H => (sameChunks_spec (show rChunks.R W _ v13.Chunks x.Chunks from (show rPacket.R W _ v13 ⟨ofA y.From y.To x.From, ofA y.From y.To x.To, x.Tag, x.Chunks⟩ from (H.hold.at 1 rfl)).1) (rChunks.ext hq.1 H.step) hs hs ok ok).mono fun r W' h => ⟨h.1, h.2.2 rfl⟩) fun N6 th7 HN => ?_
                  refine ifK.mk (fun q10 => ?_) (fun q10 => ?_)
                  · skip
                    have HN := HN.front 4 rfl
                    refine HN.ld 4 0 rfl rfl rfl (p := v8) ?_
                    refine HN.ld 6 0 rfl rfl rfl (p := q) ?_
                    refine NOwn.effOn HN rPacket x (fun W K K' hk h => C_weftlinelaw08_Document.mono h hk) (fun W hW H => document08_spec ((H.hold.at 0 rfl)) hs) fun v29 N7 th8 HN => ?_
                    refine HN.fin fun w18 hx_w18 H => ?_
                    have hX := hx_w18
                    refine C_weftlineref08_Same.mono (same08_spec (show rPacket.R w18 _ v29 x from (H.hold.at 0 rfl)) (rPacket.ext hq H.step) hs hs ok ok) fun v30 w19 h_v30 => ?_
                    have H := H.ext h_v30.1
                    have p_v30 := h_v30.2
                    have hX := hX.trans h_v30.1
                    exact ⟨H.step, p_v30.2 rfl⟩
                  · skip
                    refine HN.fin fun w20 hx_w20 H => ?_
                    have hX := hx_w20
                    cases q10
                · skip
                  have q9 := by simpa using q9
                  refine HN.fin fun w21 hx_w21 H => ?_
                  have hX := hx_w21
                  exact absurd (g3.symm.trans e3) q9
              · skip
                have q8 := by simpa using q8
                refine HN.fin fun w22 hx_w22 H => ?_
                have hX := hx_w22
                exact absurd (g2.symm.trans (by rw [e2])) q8
            · skip
              have q7 := by simpa using q7
              refine HN.fin fun w23 hx_w23 H => ?_
              have hX := hx_w23
              exact absurd (g1.symm.trans (by rw [e1])) q7
end Go.Wf2
