/- A part of the proof: lemmas; nothing is claimed here. -/
import Derived.Test.YtkeecncgfhgnpaaWR3
import Derived.Test.YtkeecncgfhgnpaaWTy
import Derived.Test.YtkeecncgfhgnpaaWEn0
set_option linter.all false
namespace Go.Wf2
open Go Go.Wf Go.Proofs
set_option linter.unusedVariables false
def rBytes : Rdr Sl (List Int) := Rdr.sl0 ok5
def rAddrs : Rdr Sl (List Int) := Rdr.sl0 ok22
def rWords : Rdr Sl (List Int) := Rdr.sl0 ok23
def rGaps : Rdr Sl (List GGap) := Rdr.sl0 ok227
def rOps : Rdr Sl (List GOp) := Rdr.sl0 ok141
theorem clone_byte {s : Sl} {w : World} {S : Nat → Prop} {l : List Int} (hs : rBytes.R w S s l) (hb : l.length ≤ 100000000000) : C_slices_Clone_byte s w (Made w (fun r N => rBytes.ent N r l) (fun _ => True)) :=
  E_slices_Clone_byte _ _ _ (clone_shape ok5 el52 (I := ti52) (fun s => s) (fun _ => rfl) hs (by omega) fun _ _ h => h)
theorem clone_Addr {s : Sl} {w : World} {S : Nat → Prop} {l : List Int} (hs : rAddrs.R w S s l) (hb : l.length ≤ 10000000000) : C_slices_Clone_Addr s w (Made w (fun r N => rAddrs.ent N r l) (fun _ => True)) :=
  E_slices_Clone_Addr _ _ _ (clone_shape ok22 el27 (I := ti27) (fun s => s) (fun _ => rfl) hs (by omega) fun _ _ h => h)
theorem clone_uint32 {s : Sl} {w : World} {S : Nat → Prop} {l : List Int} (hs : rWords.R w S s l) (hb : l.length ≤ 10000000000) : C_slices_Clone_uint32 s w (Made w (fun r N => rWords.ent N r l) (fun _ => True)) :=
  E_slices_Clone_uint32 _ _ _ (clone_shape ok23 el130 (I := ti130) (fun s => s) (fun _ => rfl) hs (by omega) fun _ _ h => h)
theorem clone_Gap {s : Sl} {w : World} {S : Nat → Prop} {l : List GGap} (hs : rGaps.R w S s l) (hb : l.length ≤ 1000000000) : C_slices_Clone_Gap s w (Made w (fun r N => rGaps.ent N r l) (fun _ => True)) :=
  E_slices_Clone_Gap _ _ _ (clone_shape ok227 el129 (I := ti129) (fun s => s) (fun _ => rfl) hs (by omega) fun _ _ h => h)
theorem clone_Op {s : Sl} {w : World} {S : Nat → Prop} {l : List GOp} (hs : rOps.R w S s l) (hb : l.length ≤ 1000000000) : C_slices_Clone_Op s w (Made w (fun r N => rOps.ent N r l) (fun _ => True)) :=
  E_slices_Clone_Op _ _ _ (clone_shape ok141 el131 (I := ti131) (fun s => s) (fun _ => rfl) hs (by omega) fun _ _ h => h)

structure XPiece where
  TSN : Int
  Stream : Int
  Seq : Int
  Begin : Bool
  End : Bool
  Unordered : Bool
  Text : List Int
deriving DecidableEq
structure XChunk where
  Kind : Int
  Piece : XPiece
  Tag : Int
  Window : Int
  Out : Int
  In : Int
  TSN : Int
  Random : List Int
  Addrs : List Int
  Info : List Int
  Gaps : List GGap
  Dups : List Int
  Cause : Int
  Serial : Int
  Ops : List GOp
  OK : Bool
structure XPacket where
  From : Int
  To : Int
  Tag : Int
  Chunks : List XChunk
def xPiece (g : GPiece) (t : List Int) : XPiece := ⟨g.TSN, g.Stream, g.Seq, g.Begin, g.End, g.Unordered, t⟩
def rPiece : Rdr GPiece XPiece where
  R := fun w S g x => rBytes.R w S g.Text x.Text ∧ x = xPiece g x.Text
  fr := fun h hr => ⟨rBytes.fr h hr.1, hr.2⟩
  mono := fun h hr => ⟨rBytes.mono h hr.1, hr.2⟩
  lim := fun hr => ⟨rBytes.lim hr.1, hr.2⟩
def xChunk (g : GChunk) (x : XChunk) : XChunk := { x with Kind := g.Kind, Tag := g.Tag, Window := g.Window, Out := g.Out, In := g.In, TSN := g.TSN, Cause := g.Cause, Serial := g.Serial, OK := g.OK }
def rChunk : Rdr GChunk XChunk where
  R := fun w S g x => rPiece.R w S g.Piece x.Piece ∧ rBytes.R w S g.Random x.Random ∧ rAddrs.R w S g.Addrs x.Addrs ∧ rBytes.R w S g.Info x.Info ∧ rGaps.R w S g.Gaps x.Gaps ∧ rWords.R w S g.Dups x.Dups ∧ rOps.R w S g.Ops x.Ops ∧ x = xChunk g x
  fr := fun h hr => ⟨rPiece.fr h hr.1, rBytes.fr h hr.2.1, rAddrs.fr h hr.2.2.1, rBytes.fr h hr.2.2.2.1, rGaps.fr h hr.2.2.2.2.1, rWords.fr h hr.2.2.2.2.2.1, rOps.fr h hr.2.2.2.2.2.2.1, hr.2.2.2.2.2.2.2⟩
  mono := fun h hr => ⟨rPiece.mono h hr.1, rBytes.mono h hr.2.1, rAddrs.mono h hr.2.2.1, rBytes.mono h hr.2.2.2.1, rGaps.mono h hr.2.2.2.2.1, rWords.mono h hr.2.2.2.2.2.1, rOps.mono h hr.2.2.2.2.2.2.1, hr.2.2.2.2.2.2.2⟩
  lim := fun hr => ⟨rPiece.lim hr.1, rBytes.lim hr.2.1, rAddrs.lim hr.2.2.1, rBytes.lim hr.2.2.2.1, rGaps.lim hr.2.2.2.2.1, rWords.lim hr.2.2.2.2.2.1, rOps.lim hr.2.2.2.2.2.2.1, hr.2.2.2.2.2.2.2⟩
/-- No list of a chunk is longer than this. -/
def XChunk.small (x : XChunk) (n : Nat) : Prop := x.Piece.Text.length ≤ n ∧ x.Random.length ≤ n ∧ x.Addrs.length ≤ n ∧ x.Info.length ≤ n ∧ x.Gaps.length ≤ n ∧ x.Dups.length ≤ n ∧ x.Ops.length ≤ n
theorem chunkCopy_spec {c : GChunk} {w : World} {S : Nat → Prop} {x : XChunk} (hc : rChunk.R w S c x) (hn : x.small 1000000000) : C_chunk_Copy c w (Made w (fun r N => rChunk.ent N r x) (fun _ => True)) := by
  refine E_chunk_Copy _ _ _ ?_
  obtain ⟨⟨c1, c1'⟩, c2, c3, c4, c5, c6, c7, c8⟩ := hc
  obtain ⟨n1, n2, n3, n4, n5, n6, n7⟩ := hn
  have H := Own.start none_ w
  refine H.new fun b w1 H _ => ?_
  refine H.new fun b2 w2 H _ => ?_
  refine ⟨_, GOk.ext _, ?_⟩
  have HN := H.nest
  refine HN.ld 1 7 rfl rfl rfl (p := c.Piece.Text) ?_
  refine HN.ld 1 13 rfl rfl rfl (p := c.Random) ?_
  refine HN.ld 1 15 rfl rfl rfl (p := c.Info) ?_
  refine HN.fin fun w3 hx_w3 H => ?_
  have hX := hx_w3
  refine C_slices_Clone_byte.mono (clone_byte (rBytes.ext c1 H.step) (by omega)) fun v4 w4 h_v4 => ?_
  have H := H.made h_v4
  have p_v4 := h_v4.2.2.2
  have hX := hX.trans h_v4.1
  refine ⟨hX, ?_⟩
  refine C_slices_Clone_byte.mono (clone_byte (rBytes.ext c2 H.step) (by omega)) fun v5 w5 h_v5 => ?_
  have H := H.made h_v5
  have p_v5 := h_v5.2.2.2
  have hX := hX.trans h_v5.1
  refine ⟨hX, ?_⟩
  refine C_slices_Clone_byte.mono (clone_byte (rBytes.ext c4 H.step) (by omega)) fun v6 w6 h_v6 => ?_
  have H := H.made h_v6
  have p_v6 := h_v6.2.2.2
  have hX := hX.trans h_v6.1
  refine H.st 4 7 rfl rfl rfl fun w7 H => ?_
  replace H : Go.Wf.Own _ _ _ (_ :: _ :: _ :: _ :: Var b _ [.int .i64 c.Kind, .int .u32 c.Piece.TSN, .int .u16 c.Piece.Stream, .int .u16 c.Piece.Seq, .bool c.Piece.Begin, .bool c.Piece.End, .bool c.Piece.Unordered, .slice v4.a v4.n v4.c, .int .u32 c.Tag, .int .i64 c.Window, .int .i64 c.Out, .int .i64 c.In, .int .u32 c.TSN, .slice c.Random.a c.Random.n c.Random.c, .slice c.Addrs.a c.Addrs.n c.Addrs.c, .slice c.Info.a c.Info.n c.Info.c, .slice c.Gaps.a c.Gaps.n c.Gaps.c, .slice c.Dups.a c.Dups.n c.Dups.c, .int .i64 c.Cause, .int .u32 c.Serial, .slice c.Ops.a c.Ops.n c.Ops.c, .bool c.OK] :: _) := H
  refine H.st 4 13 rfl rfl rfl fun w8 H => ?_
  replace H : Go.Wf.Own _ _ _ (_ :: _ :: _ :: _ :: Var b _ [.int .i64 c.Kind, .int .u32 c.Piece.TSN, .int .u16 c.Piece.Stream, .int .u16 c.Piece.Seq, .bool c.Piece.Begin, .bool c.Piece.End, .bool c.Piece.Unordered, .slice v4.a v4.n v4.c, .int .u32 c.Tag, .int .i64 c.Window, .int .i64 c.Out, .int .i64 c.In, .int .u32 c.TSN, .slice v5.a v5.n v5.c, .slice c.Addrs.a c.Addrs.n c.Addrs.c, .slice c.Info.a c.Info.n c.Info.c, .slice c.Gaps.a c.Gaps.n c.Gaps.c, .slice c.Dups.a c.Dups.n c.Dups.c, .int .i64 c.Cause, .int .u32 c.Serial, .slice c.Ops.a c.Ops.n c.Ops.c, .bool c.OK] :: _) := H
  refine H.st 4 15 rfl rfl rfl fun w9 H => ?_
  replace H : Go.Wf.Own _ _ _ (_ :: _ :: _ :: _ :: Var b _ [.int .i64 c.Kind, .int .u32 c.Piece.TSN, .int .u16 c.Piece.Stream, .int .u16 c.Piece.Seq, .bool c.Piece.Begin, .bool c.Piece.End, .bool c.Piece.Unordered, .slice v4.a v4.n v4.c, .int .u32 c.Tag, .int .i64 c.Window, .int .i64 c.Out, .int .i64 c.In, .int .u32 c.TSN, .slice v5.a v5.n v5.c, .slice c.Addrs.a c.Addrs.n c.Addrs.c, .slice v6.a v6.n v6.c, .slice c.Gaps.a c.Gaps.n c.Gaps.c, .slice c.Dups.a c.Dups.n c.Dups.c, .int .i64 c.Cause, .int .u32 c.Serial, .slice c.Ops.a c.Ops.n c.Ops.c, .bool c.OK] :: _) := H
  refine ⟨_, GOk.ext _, ?_⟩
  have HN := H.nest
  refine HN.ld 4 14 rfl rfl rfl (p := c.Addrs) ?_
  refine HN.ld 4 16 rfl rfl rfl (p := c.Gaps) ?_
  refine HN.ld 4 17 rfl rfl rfl (p := c.Dups) ?_
  refine HN.ld 4 20 rfl rfl rfl (p := c.Ops) ?_
  refine HN.fin fun w10 hx_w10 H => ?_
  have hX := hx_w10
  refine C_slices_Clone_Addr.mono (clone_Addr (rAddrs.ext c3 H.step) (by omega)) fun v11 w11 h_v11 => ?_
  have H := H.made h_v11
  have p_v11 := h_v11.2.2.2
  have hX := hX.trans h_v11.1
  refine ⟨hX, ?_⟩
  refine C_slices_Clone_Gap.mono (clone_Gap (rGaps.ext c5 H.step) (by omega)) fun v12 w12 h_v12 => ?_
  have H := H.made h_v12
  have p_v12 := h_v12.2.2.2
  have hX := hX.trans h_v12.1
  refine ⟨hX, ?_⟩
  refine C_slices_Clone_uint32.mono (clone_uint32 (rWords.ext c6 H.step) (by omega)) fun v13 w13 h_v13 => ?_
  have H := H.made h_v13
  have p_v13 := h_v13.2.2.2
  have hX := hX.trans h_v13.1
  refine ⟨hX, ?_⟩
  refine C_slices_Clone_Op.mono (clone_Op (rOps.ext c7 H.step) (by omega)) fun v14 w14 h_v14 => ?_
  have H := H.made h_v14
  have p_v14 := h_v14.2.2.2
  have hX := hX.trans h_v14.1
  refine H.st 8 14 rfl rfl rfl fun w15 H => ?_
  replace H : Go.Wf.Own _ _ _ (_ :: _ :: _ :: _ :: _ :: _ :: _ :: _ :: Var b _ [.int .i64 c.Kind, .int .u32 c.Piece.TSN, .int .u16 c.Piece.Stream, .int .u16 c.Piece.Seq, .bool c.Piece.Begin, .bool c.Piece.End, .bool c.Piece.Unordered, .slice v4.a v4.n v4.c, .int .u32 c.Tag, .int .i64 c.Window, .int .i64 c.Out, .int .i64 c.In, .int .u32 c.TSN, .slice v5.a v5.n v5.c, .slice v11.a v11.n v11.c, .slice v6.a v6.n v6.c, .slice c.Gaps.a c.Gaps.n c.Gaps.c, .slice c.Dups.a c.Dups.n c.Dups.c, .int .i64 c.Cause, .int .u32 c.Serial, .slice c.Ops.a c.Ops.n c.Ops.c, .bool c.OK] :: _) := H
  refine H.st 8 16 rfl rfl rfl fun w16 H => ?_
  replace H : Go.Wf.Own _ _ _ (_ :: _ :: _ :: _ :: _ :: _ :: _ :: _ :: Var b _ [.int .i64 c.Kind, .int .u32 c.Piece.TSN, .int .u16 c.Piece.Stream, .int .u16 c.Piece.Seq, .bool c.Piece.Begin, .bool c.Piece.End, .bool c.Piece.Unordered, .slice v4.a v4.n v4.c, .int .u32 c.Tag, .int .i64 c.Window, .int .i64 c.Out, .int .i64 c.In, .int .u32 c.TSN, .slice v5.a v5.n v5.c, .slice v11.a v11.n v11.c, .slice v6.a v6.n v6.c, .slice v12.a v12.n v12.c, .slice c.Dups.a c.Dups.n c.Dups.c, .int .i64 c.Cause, .int .u32 c.Serial, .slice c.Ops.a c.Ops.n c.Ops.c, .bool c.OK] :: _) := H
  refine H.st 8 17 rfl rfl rfl fun w17 H => ?_
  replace H : Go.Wf.Own _ _ _ (_ :: _ :: _ :: _ :: _ :: _ :: _ :: _ :: Var b _ [.int .i64 c.Kind, .int .u32 c.Piece.TSN, .int .u16 c.Piece.Stream, .int .u16 c.Piece.Seq, .bool c.Piece.Begin, .bool c.Piece.End, .bool c.Piece.Unordered, .slice v4.a v4.n v4.c, .int .u32 c.Tag, .int .i64 c.Window, .int .i64 c.Out, .int .i64 c.In, .int .u32 c.TSN, .slice v5.a v5.n v5.c, .slice v11.a v11.n v11.c, .slice v6.a v6.n v6.c, .slice v12.a v12.n v12.c, .slice v13.a v13.n v13.c, .int .i64 c.Cause, .int .u32 c.Serial, .slice c.Ops.a c.Ops.n c.Ops.c, .bool c.OK] :: _) := H
  refine H.st 8 20 rfl rfl rfl fun w18 H => ?_
  replace H : Go.Wf.Own _ _ _ (_ :: _ :: _ :: _ :: _ :: _ :: _ :: _ :: Var b _ [.int .i64 c.Kind, .int .u32 c.Piece.TSN, .int .u16 c.Piece.Stream, .int .u16 c.Piece.Seq, .bool c.Piece.Begin, .bool c.Piece.End, .bool c.Piece.Unordered, .slice v4.a v4.n v4.c, .int .u32 c.Tag, .int .i64 c.Window, .int .i64 c.Out, .int .i64 c.In, .int .u32 c.TSN, .slice v5.a v5.n v5.c, .slice v11.a v11.n v11.c, .slice v6.a v6.n v6.c, .slice v12.a v12.n v12.c, .slice v13.a v13.n v13.c, .int .i64 c.Cause, .int .u32 c.Serial, .slice v14.a v14.n v14.c, .bool c.OK] :: _) := H
  refine H.ld 8 0 rfl rfl rfl (p := (⟨c.Kind, ⟨c.Piece.TSN, c.Piece.Stream, c.Piece.Seq, c.Piece.Begin, c.Piece.End, c.Piece.Unordered, v4⟩, c.Tag, c.Window, c.Out, c.In, c.TSN, v5, v11, v6, v12, v13, c.Cause, c.Serial, v14, c.OK⟩ : GChunk)) ?_
  refine H.st 7 0 rfl rfl rfl fun w19 H => ?_
  replace H : Go.Wf.Own _ _ _ (_ :: _ :: _ :: _ :: _ :: _ :: _ :: Var b2 _ [.int .i64 c.Kind, .int .u32 c.Piece.TSN, .int .u16 c.Piece.Stream, .int .u16 c.Piece.Seq, .bool c.Piece.Begin, .bool c.Piece.End, .bool c.Piece.Unordered, .slice v4.a v4.n v4.c, .int .u32 c.Tag, .int .i64 c.Window, .int .i64 c.Out, .int .i64 c.In, .int .u32 c.TSN, .slice v5.a v5.n v5.c, .slice v11.a v11.n v11.c, .slice v6.a v6.n v6.c, .slice v12.a v12.n v12.c, .slice v13.a v13.n v13.c, .int .i64 c.Cause, .int .u32 c.Serial, .slice v14.a v14.n v14.c, .bool c.OK] :: _) := H
  refine H.ld 7 0 rfl rfl rfl (p := (⟨c.Kind, ⟨c.Piece.TSN, c.Piece.Stream, c.Piece.Seq, c.Piece.Begin, c.Piece.End, c.Piece.Unordered, v4⟩, c.Tag, c.Window, c.Out, c.In, c.TSN, v5, v11, v6, v12, v13, c.Cause, c.Serial, v14, c.OK⟩ : GChunk)) ?_
  exact ⟨H.step, ⟨⟨(H.got 6 rfl), c1'⟩, (H.got 5 rfl), (H.got 3 rfl), (H.got 4 rfl), (H.got 2 rfl), (H.got 1 rfl), (H.got 0 rfl), c8⟩, fun _ h => h, trivial⟩
end Go.Wf2
