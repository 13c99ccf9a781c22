/- A part of the proof: lemmas; nothing is claimed here. -/
import Derived.Test.YtkeecncgfhgnpaaWS1
import Derived.Test.YtkeecncgfhgnpaaWMx
set_option linter.all false
namespace Go.Wf2
open Go Go.Wf Go.Proofs
set_option linter.unusedVariables false
set_option linter.deprecated false
set_option maxRecDepth 4000
def rChunks : Rdr Sl (List XChunk) := Rdr.sl ok133 rChunk
def xPacket (g : GPacket) (l : List XChunk) : XPacket := ⟨g.From, g.To, g.Tag, l⟩
def rPacket : Rdr GPacket XPacket where
  R := fun w S g x => rChunks.R w S g.Chunks x.Chunks ∧ x = xPacket g x.Chunks
  fr := fun h hr => ⟨rChunks.fr h hr.1, hr.2⟩
  mono := fun h hr => ⟨rChunks.mono h hr.1, hr.2⟩
  lim := fun hr => ⟨rChunks.lim hr.1, hr.2⟩
def chunksSmall (l : List XChunk) (n : Nat) : Prop := l.length ≤ n ∧ ∀ (i : Nat) c, l[i]? = some c → c.small n
theorem packetCopy_spec {p : GPacket} {w : World} {S : Nat → Prop} {x : XPacket} (hx : rPacket.R w S p x) (hn : chunksSmall x.Chunks 1000000) : C_packet_Copy p w (Made w (fun r N => rPacket.ent N r x) (fun _ => True)) := by
  refine E_packet_Copy _ _ _ ?_
  obtain ⟨⟨gs, g1, g2⟩, x1⟩ := hx
  have hlen := g2.len
  have hn1 := hn.1
  have hgn := g1.len
  have H := Own.start none_ w
  refine H.new fun b w1 H _ => ?_
  refine H.new fun b2 w2 H _ => ?_
  refine H.ld 1 3 rfl rfl rfl (p := p.Chunks) ?_
  refine RInv.loop (n := gs.length) (I := fun i a w' => ∃ hs N, hs.length = i ∧ Go.Wf.Own none_ w w' [rChunk.list.ent N hs (x.Chunks.take i), RowT ti133 133 22 a hs, (Var b2 34 [.int .i64 0, .int .i64 0, .int .u32 0, .slice none 0 0]), (Var b 34 [.int .i64 p.From, .int .i64 p.To, .int .u32 p.Tag, .slice p.Chunks.a p.Chunks.n p.Chunks.c])]) (⟨[], none_, rfl, (H.nilT ti133 133 22).list0 rChunk⟩) ?_
  rintro i a w3 hi hI d
  obtain ⟨hs, N, hl, H⟩ := hI
  dsimp only
  refine ifK.mk (fun hc1 => ?_) (fun hc1 => ?_)
  · skip
    have hc1 := of_decide_eq_true hc1
    refine SlT.getN ok133 (Rdr.ext (Rdr.sl0 ok133) g1 H.step) (by omega) fun v2 hv2 => ?_
    obtain ⟨x2, hx2, r2⟩ := g2.at? hv2
    refine H.new fun b3 w4 H _ => ?_
    refine H.st 0 0 rfl rfl rfl fun w5 H => ?_
    replace H : Go.Wf.Own _ _ _ (Var b3 _ [.int .i64 v2.Kind, .int .u32 v2.Piece.TSN, .int .u16 v2.Piece.Stream, .int .u16 v2.Piece.Seq, .bool v2.Piece.Begin, .bool v2.Piece.End, .bool v2.Piece.Unordered, .slice v2.Piece.Text.a v2.Piece.Text.n v2.Piece.Text.c, .int .u32 v2.Tag, .int .i64 v2.Window, .int .i64 v2.Out, .int .i64 v2.In, .int .u32 v2.TSN, .slice v2.Random.a v2.Random.n v2.Random.c, .slice v2.Addrs.a v2.Addrs.n v2.Addrs.c, .slice v2.Info.a v2.Info.n v2.Info.c, .slice v2.Gaps.a v2.Gaps.n v2.Gaps.c, .slice v2.Dups.a v2.Dups.n v2.Dups.c, .int .i64 v2.Cause, .int .u32 v2.Serial, .slice v2.Ops.a v2.Ops.n v2.Ops.c, .bool v2.OK] :: _) := H
    refine H.ld 0 0 rfl rfl rfl (p := v2) ?_
    refine C_chunk_Copy.mono (chunkCopy_spec (rChunk.ext r2 H.step) (hn.2 i x2 hx2 |> fun h => by unfold XChunk.small at h ⊢; omega)) fun v4 w6 h_v4 => ?_
    have H := H.made h_v4
    have p_v4 := h_v4.2.2.2
    refine H.new fun b4 w7 H _ => ?_
    refine H.appendT 4 ok133 el32 (s := a) (x := (⟨some (bx b4), 1, 1⟩ : Sl)) (fun s => s) (fun _ => rfl) rfl (H.varSl 0 [v4] rfl rfl) (by simp; omega) fun v5 w8 H => ?_
    replace H : Go.Wf.Own _ _ _ (_ :: _ :: _ :: _ :: RowT _ _ _ v5 _ :: _) := H
    have H := H.drop 2
    have H := H.drop 0
    have H := H.snoc
    exact RInv.next (by omega) (by omega) ⟨hs ++ [v4], _, by simp [hl], by rw [take_snoc hx2]; exact H⟩
  · skip
    have hc1 := of_decide_eq_false hc1
    have hil : i = gs.length := by omega
    subst hil
    rw [List.take_of_length_le (by omega)] at H
    refine H.st 3 3 rfl rfl rfl fun w9 H => ?_
    replace H : Go.Wf.Own _ _ _ (_ :: _ :: _ :: Var b _ [.int .i64 p.From, .int .i64 p.To, .int .u32 p.Tag, .slice a.a a.n a.c] :: _) := H
    refine H.ld 3 0 rfl rfl rfl (p := (⟨p.From, p.To, p.Tag, a⟩ : GPacket)) ?_
    refine H.st 2 0 rfl rfl rfl fun w10 H => ?_
    replace H : Go.Wf.Own _ _ _ (_ :: _ :: Var b2 _ [.int .i64 p.From, .int .i64 p.To, .int .u32 p.Tag, .slice a.a a.n a.c] :: _) := H
    refine H.ld 2 0 rfl rfl rfl (p := (⟨p.From, p.To, p.Tag, a⟩ : GPacket)) ?_
    exact ⟨H.step, ⟨H.slOf ok133 1 0 rfl rfl, x1⟩, fun _ h => h, trivial⟩
end Go.Wf2
