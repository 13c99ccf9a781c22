/- A part of the proof: lemmas; nothing is claimed here. -/
import Derived.Test.YtkeecncgfhgnpaaWS3
import Derived.Test.YtkeecncgfhgnpaaWMx
set_option linter.all false
namespace Go.Wf2
open Go Go.Wf Go.Proofs
set_option linter.unusedVariables false
set_option linter.deprecated false
set_option maxRecDepth 4000
theorem document07_spec {c : GChunk} {w : World} {S : Nat → Prop} {x : XChunk} (hc : rChunk.R w S c x) (hn : x.small 1000000) : C_weftlinelaw07_Document c w (fun r w' => Ext w w' ∧ rChunk.R w' (fun k => S k ∨ newB w w' k) r x) := by
  refine E_weftlinelaw07_Document _ _ _ ?_
  obtain ⟨⟨c1, c1'⟩, c2, c3, c4, c5, c6, c7, c8⟩ := hc
  obtain ⟨n1, n2, n3, n4, n5, n6, n7⟩ := hn
  have l5 := c5.1
  have l7 := c7.1
  have H := Own.start none_ w
  refine H.new fun b w1 H _ => ?_
  refine H.new fun b2 w2 H _ => ?_
  refine H.ld 1 0 rfl rfl rfl (p := c.Kind) ?_
  refine H.ld 1 1 rfl rfl rfl (p := c.Piece) ?_
  refine H.ld 1 8 rfl rfl rfl (p := c.Tag) ?_
  refine H.ld 1 9 rfl rfl rfl (p := c.Window) ?_
  refine H.ld 1 10 rfl rfl rfl (p := c.Out) ?_
  refine H.ld 1 11 rfl rfl rfl (p := c.In) ?_
  refine H.ld 1 12 rfl rfl rfl (p := c.TSN) ?_
  refine H.ld 1 13 rfl rfl rfl (p := c.Random) ?_
  refine H.ld 1 14 rfl rfl rfl (p := c.Addrs) ?_
  refine H.ld 1 15 rfl rfl rfl (p := c.Info) ?_
  refine H.ld 1 17 rfl rfl rfl (p := c.Dups) ?_
  refine H.ld 1 18 rfl rfl rfl (p := c.Cause) ?_
  refine H.ld 1 19 rfl rfl rfl (p := c.Serial) ?_
  refine H.ld 1 21 rfl rfl rfl (p := c.OK) ?_
  refine H.new fun b3 w3 H _ => ?_
  refine H.st 0 0 rfl rfl rfl fun w4 H => ?_
  replace H : Go.Wf.Own _ _ _ (Var b3 _ [.int .i64 c.Kind, .int .u32 c.Piece.TSN, .int .u16 c.Piece.Stream, .int .u16 c.Piece.Seq, .bool c.Piece.Begin, .bool c.Piece.End, .bool c.Piece.Unordered, .slice c.Piece.Text.a c.Piece.Text.n c.Piece.Text.c, .int .u32 c.Tag, .int .i64 c.Window, .int .i64 c.Out, .int .i64 c.In, .int .u32 c.TSN, .slice c.Random.a c.Random.n c.Random.c, .slice c.Addrs.a c.Addrs.n c.Addrs.c, .slice c.Info.a c.Info.n c.Info.c, .slice none 0 0, .slice c.Dups.a c.Dups.n c.Dups.c, .int .i64 c.Cause, .int .u32 c.Serial, .slice none 0 0, .bool c.OK] :: _) := H
  refine H.ld 2 16 rfl rfl rfl (p := c.Gaps) ?_
  refine RInv0.loop (n := x.Gaps.length) (I := fun i w' => ∃ s, Go.Wf.Own none_ w w' [RowT ti228 228 2 s (x.Gaps.take i), (Var b3 145 [.int .i64 c.Kind, .int .u32 c.Piece.TSN, .int .u16 c.Piece.Stream, .int .u16 c.Piece.Seq, .bool c.Piece.Begin, .bool c.Piece.End, .bool c.Piece.Unordered, .slice c.Piece.Text.a c.Piece.Text.n c.Piece.Text.c, .int .u32 c.Tag, .int .i64 c.Window, .int .i64 c.Out, .int .i64 c.In, .int .u32 c.TSN, .slice c.Random.a c.Random.n c.Random.c, .slice c.Addrs.a c.Addrs.n c.Addrs.c, .slice c.Info.a c.Info.n c.Info.c, .slice s.a s.n s.c, .slice c.Dups.a c.Dups.n c.Dups.c, .int .i64 c.Cause, .int .u32 c.Serial, .slice none 0 0, .bool c.OK]), (Var b2 145 [.int .i64 0, .int .u32 0, .int .u16 0, .int .u16 0, .bool false, .bool false, .bool false, .slice none 0 0, .int .u32 0, .int .i64 0, .int .i64 0, .int .i64 0, .int .u32 0, .slice none 0 0, .slice none 0 0, .slice none 0 0, .slice none 0 0, .slice none 0 0, .int .i64 0, .int .u32 0, .slice none 0 0, .bool false]), (Var b 133 [.int .i64 c.Kind, .int .u32 c.Piece.TSN, .int .u16 c.Piece.Stream, .int .u16 c.Piece.Seq, .bool c.Piece.Begin, .bool c.Piece.End, .bool c.Piece.Unordered, .slice c.Piece.Text.a c.Piece.Text.n c.Piece.Text.c, .int .u32 c.Tag, .int .i64 c.Window, .int .i64 c.Out, .int .i64 c.In, .int .u32 c.TSN, .slice c.Random.a c.Random.n c.Random.c, .slice c.Addrs.a c.Addrs.n c.Addrs.c, .slice c.Info.a c.Info.n c.Info.c, .slice c.Gaps.a c.Gaps.n c.Gaps.c, .slice c.Dups.a c.Dups.n c.Dups.c, .int .i64 c.Cause, .int .u32 c.Serial, .slice c.Ops.a c.Ops.n c.Ops.c, .bool c.OK])]) (⟨_, (H.nilT ti228 228 2)⟩) ?_
  rintro i  w5 hi hI d
  obtain ⟨s, H⟩ := hI
  dsimp only
  refine ifK.mk (fun hc1 => ?_) (fun hc1 => ?_)
  · skip
    have hc1 := of_decide_eq_true hc1
    refine SlT.getN ok227 (rGaps.ext c5 H.step) (by omega) fun v16 hv16 => ?_
    refine H.new fun b4 w6 H _ => ?_
    refine H.st 0 0 rfl rfl rfl fun w7 H => ?_
    replace H : Go.Wf.Own _ _ _ (Var b4 _ [.int .i64 v16.From, .int .i64 v16.To] :: _) := H
    refine H.ld 2 16 rfl rfl rfl (p := s) ?_
    refine H.ld 0 0 rfl rfl rfl (p := v16) ?_
    refine H.new fun b5 w8 H _ => ?_
    refine H.appendT 2 ok228 el142 (s := s) (x := (⟨some (bx b5), 1, 1⟩ : Sl)) (fun s => s) (fun _ => rfl) rfl (H.varSl 0 [v16] rfl rfl) (by simp; omega) fun v19 w9 H => ?_
    replace H : Go.Wf.Own _ _ _ (_ :: _ :: RowT _ _ _ v19 _ :: _) := H
    refine H.st 3 16 rfl rfl rfl fun w10 H => ?_
    replace H : Go.Wf.Own _ _ _ (_ :: _ :: _ :: Var b3 _ [.int .i64 c.Kind, .int .u32 c.Piece.TSN, .int .u16 c.Piece.Stream, .int .u16 c.Piece.Seq, .bool c.Piece.Begin, .bool c.Piece.End, .bool c.Piece.Unordered, .slice c.Piece.Text.a c.Piece.Text.n c.Piece.Text.c, .int .u32 c.Tag, .int .i64 c.Window, .int .i64 c.Out, .int .i64 c.In, .int .u32 c.TSN, .slice c.Random.a c.Random.n c.Random.c, .slice c.Addrs.a c.Addrs.n c.Addrs.c, .slice c.Info.a c.Info.n c.Info.c, .slice v19.a v19.n v19.c, .slice c.Dups.a c.Dups.n c.Dups.c, .int .i64 c.Cause, .int .u32 c.Serial, .slice none 0 0, .bool c.OK] :: _) := H
    have H := H.drop 1
    have H := H.drop 0
    exact RInv0.next (by omega) (by omega) ⟨_, by rw [take_snoc hv16]; exact H⟩
  · skip
    have hc1 := of_decide_eq_false hc1
    have hil : i = x.Gaps.length := by omega
    subst hil
    rw [List.take_of_length_le (by omega)] at H
    refine H.ld 3 20 rfl rfl rfl (p := c.Ops) ?_
    refine RInv0.loop (n := x.Ops.length) (I := fun i w' => ∃ s2, Go.Wf.Own none_ w w' [RowT ti229 229 2 s2 (x.Ops.take i), RowT ti228 228 2 s x.Gaps, (Var b3 145 [.int .i64 c.Kind, .int .u32 c.Piece.TSN, .int .u16 c.Piece.Stream, .int .u16 c.Piece.Seq, .bool c.Piece.Begin, .bool c.Piece.End, .bool c.Piece.Unordered, .slice c.Piece.Text.a c.Piece.Text.n c.Piece.Text.c, .int .u32 c.Tag, .int .i64 c.Window, .int .i64 c.Out, .int .i64 c.In, .int .u32 c.TSN, .slice c.Random.a c.Random.n c.Random.c, .slice c.Addrs.a c.Addrs.n c.Addrs.c, .slice c.Info.a c.Info.n c.Info.c, .slice s.a s.n s.c, .slice c.Dups.a c.Dups.n c.Dups.c, .int .i64 c.Cause, .int .u32 c.Serial, .slice s2.a s2.n s2.c, .bool c.OK]), (Var b2 145 [.int .i64 0, .int .u32 0, .int .u16 0, .int .u16 0, .bool false, .bool false, .bool false, .slice none 0 0, .int .u32 0, .int .i64 0, .int .i64 0, .int .i64 0, .int .u32 0, .slice none 0 0, .slice none 0 0, .slice none 0 0, .slice none 0 0, .slice none 0 0, .int .i64 0, .int .u32 0, .slice none 0 0, .bool false]), (Var b 133 [.int .i64 c.Kind, .int .u32 c.Piece.TSN, .int .u16 c.Piece.Stream, .int .u16 c.Piece.Seq, .bool c.Piece.Begin, .bool c.Piece.End, .bool c.Piece.Unordered, .slice c.Piece.Text.a c.Piece.Text.n c.Piece.Text.c, .int .u32 c.Tag, .int .i64 c.Window, .int .i64 c.Out, .int .i64 c.In, .int .u32 c.TSN, .slice c.Random.a c.Random.n c.Random.c, .slice c.Addrs.a c.Addrs.n c.Addrs.c, .slice c.Info.a c.Info.n c.Info.c, .slice c.Gaps.a c.Gaps.n c.Gaps.c, .slice c.Dups.a c.Dups.n c.Dups.c, .int .i64 c.Cause, .int .u32 c.Serial, .slice c.Ops.a c.Ops.n c.Ops.c, .bool c.OK])]) (⟨_, (H.nilT ti229 229 2)⟩) ?_
    rintro i2  w11 hi hI d
    obtain ⟨s2, H⟩ := hI
    dsimp only
    refine ifK.mk (fun hc2 => ?_) (fun hc2 => ?_)
    · skip
      have hc2 := of_decide_eq_true hc2
      refine SlT.getN ok141 (rOps.ext c7 H.step) (by omega) fun v21 hv21 => ?_
      refine H.new fun b6 w12 H _ => ?_
      refine H.st 0 0 rfl rfl rfl fun w13 H => ?_
      replace H : Go.Wf.Own _ _ _ (Var b6 _ [.int .i64 v21.Kind, .int .i64 v21.Addr] :: _) := H
      refine H.ld 3 20 rfl rfl rfl (p := s2) ?_
      refine H.ld 0 0 rfl rfl rfl (p := v21) ?_
      refine H.new fun b7 w14 H _ => ?_
      refine H.appendT 2 ok229 el143 (s := s2) (x := (⟨some (bx b7), 1, 1⟩ : Sl)) (fun s => s) (fun _ => rfl) rfl (H.varSl 0 [v21] rfl rfl) (by simp; omega) fun v24 w15 H => ?_
      replace H : Go.Wf.Own _ _ _ (_ :: _ :: RowT _ _ _ v24 _ :: _) := H
      refine H.st 4 20 rfl rfl rfl fun w16 H => ?_
      replace H : Go.Wf.Own _ _ _ (_ :: _ :: _ :: _ :: Var b3 _ [.int .i64 c.Kind, .int .u32 c.Piece.TSN, .int .u16 c.Piece.Stream, .int .u16 c.Piece.Seq, .bool c.Piece.Begin, .bool c.Piece.End, .bool c.Piece.Unordered, .slice c.Piece.Text.a c.Piece.Text.n c.Piece.Text.c, .int .u32 c.Tag, .int .i64 c.Window, .int .i64 c.Out, .int .i64 c.In, .int .u32 c.TSN, .slice c.Random.a c.Random.n c.Random.c, .slice c.Addrs.a c.Addrs.n c.Addrs.c, .slice c.Info.a c.Info.n c.Info.c, .slice s.a s.n s.c, .slice c.Dups.a c.Dups.n c.Dups.c, .int .i64 c.Cause, .int .u32 c.Serial, .slice v24.a v24.n v24.c, .bool c.OK] :: _) := H
      have H := H.drop 1
      have H := H.drop 0
      exact RInv0.next (by omega) (by omega) ⟨_, by rw [take_snoc hv21]; exact H⟩
    · skip
      have hc2 := of_decide_eq_false hc2
      have hil : i2 = x.Ops.length := by omega
      subst hil
      rw [List.take_of_length_le (by omega)] at H
      refine H.ld 2 0 rfl rfl rfl (p := (⟨c.Kind, c.Piece, c.Tag, c.Window, c.Out, c.In, c.TSN, c.Random, c.Addrs, c.Info, s, c.Dups, c.Cause, c.Serial, s2, c.OK⟩ : GChunk)) ?_
      refine H.st 3 0 rfl rfl rfl fun w17 H => ?_
      replace H : Go.Wf.Own _ _ _ (_ :: _ :: _ :: Var b2 _ [.int .i64 c.Kind, .int .u32 c.Piece.TSN, .int .u16 c.Piece.Stream, .int .u16 c.Piece.Seq, .bool c.Piece.Begin, .bool c.Piece.End, .bool c.Piece.Unordered, .slice c.Piece.Text.a c.Piece.Text.n c.Piece.Text.c, .int .u32 c.Tag, .int .i64 c.Window, .int .i64 c.Out, .int .i64 c.In, .int .u32 c.TSN, .slice c.Random.a c.Random.n c.Random.c, .slice c.Addrs.a c.Addrs.n c.Addrs.c, .slice c.Info.a c.Info.n c.Info.c, .slice s.a s.n s.c, .slice c.Dups.a c.Dups.n c.Dups.c, .int .i64 c.Cause, .int .u32 c.Serial, .slice s2.a s2.n s2.c, .bool c.OK] :: _) := H
      refine H.ld 3 0 rfl rfl rfl (p := (⟨c.Kind, c.Piece, c.Tag, c.Window, c.Out, c.In, c.TSN, c.Random, c.Addrs, c.Info, s, c.Dups, c.Cause, c.Serial, s2, c.OK⟩ : GChunk)) ?_
      have A : ∀ {G X : Type} (R : Rdr G X) {g : G} {y : X}, R.R w S g y → R.R w17 (fun k => S k ∨ newB w w17 k) g y := fun R _ _ h => R.mono (fun _ => .inl) (R.ext h H.step)
      have B : ∀ {G X : Type} (R : Rdr G X) {g : G} {y : X}, R.R w17 (newB w w17) g y → R.R w17 (fun k => S k ∨ newB w w17 k) g y := fun R _ _ h => R.mono (fun _ => .inr) h
      exact ⟨H.step, ⟨A rBytes c1, c1'⟩, A rBytes c2, A rAddrs c3, A rBytes c4, B rGaps (H.slOf0 ok228 1 rfl), A rWords c6, B rOps (H.slOf0 ok229 0 rfl), c8⟩
theorem chunks08_spec {l : Sl} {w : World} {S : Nat → Prop} {xs : List XChunk} (hx : rChunks.R w S l xs) (hn : chunksSmall xs 1000000) : C_weftlinelaw08_Chunks l w (Made w (fun r N => rChunks.ent N r xs) (fun _ => True)) := by
  refine E_weftlinelaw08_Chunks _ _ _ ?_
  obtain ⟨gs, g1, g2⟩ := hx
  have hlen := g2.len
  have hn1 := hn.1
  have hgn := g1.len
  have H := Own.start none_ w
  refine H.new fun b w1 H _ => ?_
  refine RInv.loop (n := gs.length) (I := fun i a w' => ∃ hs N, hs.length = i ∧ Go.Wf.Own none_ w w' [rChunk.list.ent N hs (xs.take i), RowT ti133 133 22 a hs]) (⟨[], none_, rfl, (H.rowT 0 (J := ti133) (z := 22) ok133 [] rfl rfl (by simp)).list0 rChunk⟩) ?_
  rintro i a w2 hi hI d
  obtain ⟨hs, N, hl, H⟩ := hI
  dsimp only
  refine ifK.mk (fun hc1 => ?_) (fun hc1 => ?_)
  · skip
    have hc1 := of_decide_eq_true hc1
    refine SlT.getN ok145 (SlT.ext g1 ok145 H.step) (by omega) fun v hv => ?_
    obtain ⟨x2, hx2, r2⟩ := g2.at? hv
    refine H.new fun b2 w3 H _ => ?_
    refine H.st 0 0 rfl rfl rfl fun w4 H => ?_
    replace H : Go.Wf.Own _ _ _ (Var b2 _ [.int .i64 v.Kind, .int .u32 v.Piece.TSN, .int .u16 v.Piece.Stream, .int .u16 v.Piece.Seq, .bool v.Piece.Begin, .bool v.Piece.End, .bool v.Piece.Unordered, .slice v.Piece.Text.a v.Piece.Text.n v.Piece.Text.c, .int .u32 v.Tag, .int .i64 v.Window, .int .i64 v.Out, .int .i64 v.In, .int .u32 v.TSN, .slice v.Random.a v.Random.n v.Random.c, .slice v.Addrs.a v.Addrs.n v.Addrs.c, .slice v.Info.a v.Info.n v.Info.c, .slice v.Gaps.a v.Gaps.n v.Gaps.c, .slice v.Dups.a v.Dups.n v.Dups.c, .int .i64 v.Cause, .int .u32 v.Serial, .slice v.Ops.a v.Ops.n v.Ops.c, .bool v.OK] :: _) := H
    refine H.ld 0 0 rfl rfl rfl (p := v) ?_
    refine C_weftlinelaw07_Program.mono (program07_spec (rChunk.ext r2 H.step) (hn.2 i x2 hx2)) fun v3 w5 h_v3 => ?_
    have H := H.made h_v3
    have p_v3 := h_v3.2.2.2
    refine H.new fun b3 w6 H _ => ?_
    refine H.appendT 4 ok133 el32 (s := a) (x := (⟨some (bx b3), 1, 1⟩ : Sl)) (fun s => s) (fun _ => rfl) rfl (H.varSl 0 [v3] rfl rfl) (by simp; omega) fun v4 w7 H => ?_
    replace H : Go.Wf.Own _ _ _ (_ :: _ :: _ :: _ :: RowT _ _ _ v4 _ :: _) := H
    have H := H.drop 2
    have H := H.drop 0
    have H := H.snoc
    exact RInv.next (by omega) (by omega) ⟨hs ++ [v3], _, by simp [hl], by rw [take_snoc hx2]; exact H⟩
  · skip
    have hc1 := of_decide_eq_false hc1
    have hil : i = gs.length := by omega
    subst hil
    rw [List.take_of_length_le (by omega)] at H
    exact ⟨H.step, H.slOf ok133 1 0 rfl rfl, fun _ h => h, trivial⟩
theorem program08_spec {p : GPacket} {w : World} {S : Nat → Prop} {x : XPacket} (hx : rPacket.R w S p x) (hn : chunksSmall x.Chunks 1000000) : C_weftlinelaw08_Program p w (Made w (fun r N => rPacket.ent N r x) (fun _ => True)) := by
  refine E_weftlinelaw08_Program _ _ _ ?_
  obtain ⟨hx, x1⟩ := hx
  have H := Own.start none_ w
  refine H.new fun b w1 H _ => ?_
  refine H.new fun b2 w2 H _ => ?_
  refine ⟨_, GOk.ext _, ?_⟩
  have HN := H.nest
  refine HN.ld 1 0 rfl rfl rfl (p := p.From) ?_
  refine HN.ld 1 1 rfl rfl rfl (p := p.To) ?_
  refine HN.ld 1 2 rfl rfl rfl (p := p.Tag) ?_
  refine HN.ld 1 3 rfl rfl rfl (p := p.Chunks) ?_
  refine HN.fin fun w3 hx_w3 H => ?_
  have hX := hx_w3
  refine C_weftlinelaw08_Chunks.mono (chunks08_spec (rChunks.ext hx H.step) hn) fun v5 w4 h_v5 => ?_
  have H := H.made h_v5
  have p_v5 := h_v5.2.2.2
  have hX := hX.trans h_v5.1
  refine ⟨hX, ?_⟩
  refine H.st 1 0 rfl rfl rfl fun w5 H => ?_
  replace H : Go.Wf.Own _ _ _ (_ :: Var b2 _ [.int .i64 p.From, .int .i64 p.To, .int .u32 p.Tag, .slice v5.a v5.n v5.c] :: _) := H
  refine H.ld 1 0 rfl rfl rfl (p := (⟨p.From, p.To, p.Tag, v5⟩ : GPacket)) ?_
  exact ⟨H.step, ⟨(H.got 0 rfl), x1⟩, fun _ h => h, trivial⟩
theorem document08_spec {p : GPacket} {w : World} {S : Nat → Prop} {x : XPacket} (hx : rPacket.R w S p x) (hn : chunksSmall x.Chunks 1000000) : C_weftlinelaw08_Document p w (fun r w' => Ext w w' ∧ rPacket.R w' (fun k => S k ∨ newB w w' k) r x) := by
  refine E_weftlinelaw08_Document _ _ _ ?_
  obtain ⟨⟨gs, g1, g2⟩, x1⟩ := rPacket.lim hx
  have hlen := g2.len
  have hn1 := hn.1
  have hgn := g1.len
  have H := Own.start none_ w
  refine H.new fun b w1 H _ => ?_
  refine H.new fun b2 w2 H _ => ?_
  refine H.ld 1 0 rfl rfl rfl (p := p.From) ?_
  refine H.ld 1 1 rfl rfl rfl (p := p.To) ?_
  refine H.ld 1 2 rfl rfl rfl (p := p.Tag) ?_
  refine H.new fun b3 w3 H _ => ?_
  refine H.st 0 0 rfl rfl rfl fun w4 H => ?_
  replace H : Go.Wf.Own _ _ _ (Var b3 _ [.int .i64 p.From, .int .i64 p.To, .int .u32 p.Tag, .slice none 0 0] :: _) := H
  refine H.ld 2 3 rfl rfl rfl (p := p.Chunks) ?_
  refine RInv0.loop (n := gs.length) (I := fun i w' => ∃ s hs N, hs.length = i ∧ Go.Wf.Own none_ w w' [rChunk.list.mix w (fun k => S k ∧ k < w.heap.size) N hs (x.Chunks.take i), RowT ti145 145 22 s hs, (Var b3 26 [.int .i64 p.From, .int .i64 p.To, .int .u32 p.Tag, .slice s.a s.n s.c]), (Var b2 26 [.int .i64 0, .int .i64 0, .int .u32 0, .slice none 0 0]), (Var b 34 [.int .i64 p.From, .int .i64 p.To, .int .u32 p.Tag, .slice p.Chunks.a p.Chunks.n p.Chunks.c])]) (⟨_, [], none_, rfl, (H.nilT ti145 145 22).list0M rChunk (fun _ hk => hk.2)⟩) ?_
  rintro i  w5 hi hI d
  obtain ⟨s, hs, N, hl, H⟩ := hI
  dsimp only
  refine ifK.mk (fun hc1 => ?_) (fun hc1 => ?_)
  · skip
    have hc1 := of_decide_eq_true hc1
    refine SlT.getN ok133 (g1.ext ok133 H.step) (by omega) fun v5 hv5 => ?_
    obtain ⟨x2, hx2, r2⟩ := g2.at? hv5
    refine H.new fun b4 w6 H _ => ?_
    refine H.st 0 0 rfl rfl rfl fun w7 H => ?_
    replace H : Go.Wf.Own _ _ _ (Var b4 _ [.int .i64 v5.Kind, .int .u32 v5.Piece.TSN, .int .u16 v5.Piece.Stream, .int .u16 v5.Piece.Seq, .bool v5.Piece.Begin, .bool v5.Piece.End, .bool v5.Piece.Unordered, .slice v5.Piece.Text.a v5.Piece.Text.n v5.Piece.Text.c, .int .u32 v5.Tag, .int .i64 v5.Window, .int .i64 v5.Out, .int .i64 v5.In, .int .u32 v5.TSN, .slice v5.Random.a v5.Random.n v5.Random.c, .slice v5.Addrs.a v5.Addrs.n v5.Addrs.c, .slice v5.Info.a v5.Info.n v5.Info.c, .slice v5.Gaps.a v5.Gaps.n v5.Gaps.c, .slice v5.Dups.a v5.Dups.n v5.Dups.c, .int .i64 v5.Cause, .int .u32 v5.Serial, .slice v5.Ops.a v5.Ops.n v5.Ops.c, .bool v5.OK] :: _) := H
    refine ⟨_, GOk.ext _, ?_⟩
    have HN := H.nest
    refine HN.ld 3 3 rfl rfl rfl (p := s) ?_
    refine HN.ld 0 0 rfl rfl rfl (p := v5) ?_
    refine HN.fin fun w8 hx_w8 H => ?_
    have hX := hx_w8
    refine C_weftlinelaw07_Document.mono (document07_spec (rChunk.ext r2 H.step) (hn.2 i x2 hx2)) fun v8 w9 h_v8 => ?_
    have hX := hX.trans h_v8.1
    have H := H.mixed h_v8.1 rChunk (fun _ hk => hk.2) h_v8.2
    refine ⟨hX, ?_⟩
    refine H.new fun b5 w10 H hx_w10 => ?_
    have hX := hX.trans hx_w10
    refine ⟨hX, ?_⟩
    refine H.appendT 4 ok145 el24 (s := s) (x := (⟨some (bx b5), 1, 1⟩ : Sl)) (fun s => s) (fun _ => rfl) rfl (H.varSl 0 [v8] rfl rfl) (by simp; omega) fun v9 w11 H => ?_
    replace H : Go.Wf.Own _ _ _ (_ :: _ :: _ :: _ :: RowT _ _ _ v9 _ :: _) := H
    refine H.st 5 3 rfl rfl rfl fun w12 H => ?_
    replace H : Go.Wf.Own _ _ _ (_ :: _ :: _ :: _ :: _ :: Var b3 _ [.int .i64 p.From, .int .i64 p.To, .int .u32 p.Tag, .slice v9.a v9.n v9.c] :: _) := H
    have H := H.drop 2
    have H := H.drop 0
    have H := H.snocM
    exact RInv0.next (by omega) (by omega) ⟨_, hs ++ [v8], _, by simp [hl], by rw [take_snoc hx2]; exact H⟩
  · skip
    have hc1 := of_decide_eq_false hc1
    have hil : i = gs.length := by omega
    subst hil
    rw [List.take_of_length_le (by omega)] at H
    refine H.ld 2 0 rfl rfl rfl (p := (⟨p.From, p.To, p.Tag, s⟩ : GPacket)) ?_
    refine H.st 3 0 rfl rfl rfl fun w13 H => ?_
    replace H : Go.Wf.Own _ _ _ (_ :: _ :: _ :: Var b2 _ [.int .i64 p.From, .int .i64 p.To, .int .u32 p.Tag, .slice s.a s.n s.c] :: _) := H
    refine H.ld 3 0 rfl rfl rfl (p := (⟨p.From, p.To, p.Tag, s⟩ : GPacket)) ?_
    exact ⟨H.step, rPacket.mono (fun _ hk => hk.imp And.left id) ⟨H.slOfM ok145 1 0 rfl rfl, x1⟩⟩
end Go.Wf2
