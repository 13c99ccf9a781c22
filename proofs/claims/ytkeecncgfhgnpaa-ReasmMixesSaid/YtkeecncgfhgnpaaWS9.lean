/- A part of the proof: lemmas; nothing is claimed here. -/
import Derived.Test.YtkeecncgfhgnpaaWS8
set_option linter.all false
namespace Go.Wf2
open Go Go.Wf Go.Proofs
set_option linter.unusedVariables false
set_option linter.deprecated false
set_option maxRecDepth 4000
def chunksOk (l : List XChunk) : Prop := ∀ (i : Nat) c, l[i]? = some c → c.ok
theorem sameChunks_spec {a b : Sl} {w : World} {S S' : Nat → Prop} {xs ys : List XChunk} (hx : rChunks.R w S a xs) (hy : rChunks.R w S' b ys) (nx : chunksSmall xs 1000000) (ny : chunksSmall ys 1000000) (ox : chunksOk xs) (oy : chunksOk ys) : C_weftlineref08_SameChunks a b w (fun r w' => Ext w w' ∧ (r = true ↔ xs = ys)) := by
  refine E_weftlineref08_SameChunks _ _ _ _ ?_
  obtain ⟨gs, g1, g2⟩ := hx
  obtain ⟨hs, h1, h2⟩ := hy
  have l1 := g2.len
  have l2 := h2.len
  have k1 := g1.len
  have k2 := h1.len
  have n1 := nx.1
  have H := Own.start none_ w
  refine ifK.mk (fun q1 => ?_) (fun q1 => ?_)
  · skip
    have q1 := by simpa using q1
    exact ⟨H.step, by simp only [Bool.false_eq_true, false_iff]; intro h; subst h; omega⟩
  · skip
    have q1 := by simpa using q1
    refine RInv0.loop (n := gs.length) (I := fun i w' => xs.take i = ys.take i ∧ Go.Wf.Own none_ w w' []) (⟨rfl, H⟩) ?_
    rintro i  w1 hi hI d
    obtain ⟨t, H⟩ := hI
    dsimp only
    refine ifK.mk (fun hc2 => ?_) (fun hc2 => ?_)
    · skip
      have hc2 := of_decide_eq_true hc2
      have HN := H.nest
      refine SlT.gget ok145 HN (SlT.ext g1 ok145 H.step) (by omega) fun v hv => ?_
      refine SlT.gget ok145 HN (SlT.ext h1 ok145 H.step) (by omega) fun v2 hv2 => ?_
      obtain ⟨x, hx, r1⟩ := g2.at? hv
      obtain ⟨y, hy, r2⟩ := h2.at? hv2
      refine HN.fin fun w2 hx_w2 H => ?_
      have hX := hx_w2
      refine C_weftlineref07_Same.mono (same07_spec (rChunk.ext r1 H.step) (rChunk.ext r2 H.step) (nx.2 i x hx) (ny.2 i y hy) (ox i x hx) (oy i y hy)) fun v3 w3 h_v3 => ?_
      have H := H.ext h_v3.1
      have p_v3 := h_v3.2
      have hX := hX.trans h_v3.1
      refine ifK.mk (fun q2 => ?_) (fun q2 => ?_)
      · skip
        exact ⟨H.step, by simp only [Bool.false_eq_true, false_iff]; intro h; subst h; rw [hx] at hy; cases hy; have := p_v3.2 rfl; rw [this] at q2; cases q2⟩
      · skip
        exact RInv0.next (by omega) (by omega) ⟨take_eq_snoc t hx hy (p_v3.1 (by simpa using q2)), H⟩
    · skip
      have hc2 := of_decide_eq_false hc2
      exact ⟨H.step, ⟨fun _ => take_full t (by omega) (by omega), fun _ => rfl⟩⟩
theorem same08_spec {a b : GPacket} {w : World} {S S' : Nat → Prop} {x y : XPacket} (hx : rPacket.R w S a x) (hy : rPacket.R w S' b y) (nx : chunksSmall x.Chunks 1000000) (ny : chunksSmall y.Chunks 1000000) (ox : chunksOk x.Chunks) (oy : chunksOk y.Chunks) : C_weftlineref08_Same a b w (fun r w' => Ext w w' ∧ (r = true ↔ x = y)) := by
  refine E_weftlineref08_Same _ _ _ _ ?_
  have e1 : x.From = a.From := congrArg XPacket.From hx.2
  have e2 : x.To = a.To := congrArg XPacket.To hx.2
  have e3 : x.Tag = a.Tag := congrArg XPacket.Tag hx.2
  have f1 : y.From = b.From := congrArg XPacket.From hy.2
  have f2 : y.To = b.To := congrArg XPacket.To hy.2
  have f3 : y.Tag = b.Tag := congrArg XPacket.Tag hy.2
  have H := Own.start none_ w
  refine H.new fun b2 w1 H _ => ?_
  refine H.new fun b3 w2 H _ => ?_
  refine H.ld 1 0 rfl rfl rfl (p := a.From) ?_
  refine H.ld 0 0 rfl rfl rfl (p := b.From) ?_
  refine ifK.mk (fun q1 => ?_) (fun q1 => ?_)
  · skip
    have q1 := by simpa using q1
    refine H.ld 1 1 rfl rfl rfl (p := a.To) ?_
    refine H.ld 0 1 rfl rfl rfl (p := b.To) ?_
    refine ifK.mk (fun q2 => ?_) (fun q2 => ?_)
    · skip
      have q2 := by simpa using q2
      refine H.ld 1 2 rfl rfl rfl (p := a.Tag) ?_
      refine H.ld 0 2 rfl rfl rfl (p := b.Tag) ?_
      refine ifK.mk (fun q3 => ?_) (fun q3 => ?_)
      · skip
        have q3 := by simpa using q3
        refine H.ld 1 3 rfl rfl rfl (p := a.Chunks) ?_
        refine H.ld 0 3 rfl rfl rfl (p := b.Chunks) ?_
        refine C_weftlineref08_SameChunks.mono (sameChunks_spec (rChunks.ext hx.1 H.step) (rChunks.ext hy.1 H.step) nx ny ox oy) fun v9 w3 h_v9 => ?_
        have H := H.ext h_v9.1
        have p_v9 := h_v9.2
        refine ⟨H.step, p_v9.trans ⟨fun h => ?_, fun h => by rw [h]⟩⟩
        rw [hx.2, hy.2]
        simp only [xPacket, q1, q2, q3, h]
      · skip
        have q3 := by simpa using q3
        exact ⟨H.step, by simp only [Bool.false_eq_true, false_iff]; intro h; subst h; exact q3 (e3.symm.trans f3)⟩
    · skip
      have q2 := by simpa using q2
      exact ⟨H.step, by simp only [Bool.false_eq_true, false_iff]; intro h; subst h; exact q2 (e2.symm.trans f2)⟩
  · skip
    have q1 := by simpa using q1
    exact ⟨H.step, by simp only [Bool.false_eq_true, false_iff]; intro h; subst h; exact q1 (e1.symm.trans f1)⟩
theorem alive28_spec {w : World} : C_weftlinelaw28_alive w (Val w true) := by
  refine E_weftlinelaw28_alive _ _ ?_
  have H := Own.start none_ w
  refine H.new fun b w1 H _ => ?_
  refine H.new fun b2 w2 H _ => ?_
  refine C_rebind_Ops.mono (ops_spec (S := fun k => k = b ∨ k = b2) (xs := [1]) (ys := [9]) (show SlT ti22 w2 (fun k => k = b ∨ k = b2) ⟨some (bx b), 1, 1⟩ [1] from SlT.mono (H.varSl 1 (J := ti22) ([1] : List Int) rfl rfl) fun _ => Or.inl) (show SlT ti22 w2 (fun k => k = b ∨ k = b2) ⟨some (bx b2), 1, 1⟩ [9] from SlT.mono (H.varSl 0 (J := ti22) ([9] : List Int) rfl rfl) fun _ => Or.inr) (by decide) (by decide) (by decide)) fun v w3 h_v => ?_
  have H := H.ext h_v.1
  obtain ⟨_, hn, hs⟩ := h_v
  refine ⟨by rw [hn]; rfl, ?_⟩
  refine ifK.mk (fun q1 => ?_) (fun q1 => ?_)
  · skip
    have hl : v.1.n = 3 := hs.1
    refine ifK.mk (fun q2 => ?_) (fun q2 => ?_)
    · skip
      have q2 := by simpa using q2
      refine SlT.getNat (i := 0) ok141 hs (by rfl) (by decide) fun v2 hv2 => ?_
      refine runT.of (run_eq2 two141 _ _ _ _ _ _ _ _ _) rfl ?_
      have hv2 : v2 = ⟨1, 9⟩ := (Option.some.inj hv2).symm
      subst hv2
      refine ifK.mk (fun q3 => ?_) (fun q3 => ?_)
      · skip
        refine SlT.getNat (i := 1) ok141 hs (by rfl) (by decide) fun v4 hv4 => ?_
        refine runT.of (run_eq2 two141 _ _ _ _ _ _ _ _ _) rfl ?_
        have hv4 : v4 = ⟨2, 1⟩ := (Option.some.inj hv4).symm
        subst hv4
        refine ifK.mk (fun q4 => ?_) (fun q4 => ?_)
        · skip
          refine SlT.getNat (i := 2) ok141 hs (by rfl) (by decide) fun v6 hv6 => ?_
          refine runT.of (run_eq2 two141 _ _ _ _ _ _ _ _ _) rfl ?_
          have hv6 : v6 = ⟨4, 9⟩ := (Option.some.inj hv6).symm
          subst hv6
          exact ⟨H.step, rfl⟩
        · skip
          cases q4
      · skip
        cases q3
    · skip
      have q2 := by simpa using q2
      exact absurd (by rw [hl]; rfl) q2
  · skip
    rw [hn] at q1; cases q1
end Go.Wf2
