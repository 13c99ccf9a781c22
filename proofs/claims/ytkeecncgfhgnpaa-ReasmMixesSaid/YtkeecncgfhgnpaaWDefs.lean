/- A part of the proof: the calls of this program's functions, by a program of the prover's own. -/
import Derived.Test.YtkeecncgfhgnpaaWTypes
set_option linter.all false
namespace Go.Wf2
open Go Go.Wf Go.Proofs
/-- weftline/weftlinelaw20.ReasmMixes -/
def C_weftlinelaw20_ReasmMixes (x1 : GMix) (w : World) (K : Bool → World → Prop) : Prop := Wf.callK Try.prog TT ti4 (.func (.func 4) #[] #[]) [.agg #[.slice x1.List.a x1.List.n x1.List.c, .int .u32 x1.Start.TSN, .int .u16 x1.Start.Seq, .int .i64 x1.Start.Size, .slice x1.Order.a x1.Order.n x1.Order.c]] w K
theorem C_weftlinelaw20_ReasmMixes.mono {x1 : GMix} {w : World} {K K' : Bool → World → Prop} (h : C_weftlinelaw20_ReasmMixes x1 w K) (hk : ∀ r w', K r w' → K' r w') : C_weftlinelaw20_ReasmMixes x1 w K' := Wf.callK_mono h hk

/-- weftline/weftlinelaw28.alive -/
def C_weftlinelaw28_alive  (w : World) (K : Bool → World → Prop) : Prop := Wf.callK Try.prog TT ti4 (.func (.func 13) #[] #[]) [] w K
theorem C_weftlinelaw28_alive.mono  {w : World} {K K' : Bool → World → Prop} (h : C_weftlinelaw28_alive  w K) (hk : ∀ r w', K r w' → K' r w') : C_weftlinelaw28_alive  w K' := Wf.callK_mono h hk

/-- weftline/weftlinelaw08.Size -/
def C_weftlinelaw08_Size (l : Sl) (w : World) (K : Int → World → Prop) : Prop := Wf.callK Try.prog TT ti3 (.func (.func 14) #[] #[]) [.slice l.a l.n l.c] w K
theorem C_weftlinelaw08_Size.mono {l : Sl} {w : World} {K K' : Int → World → Prop} (h : C_weftlinelaw08_Size l w K) (hk : ∀ r w', K r w' → K' r w') : C_weftlinelaw08_Size l w K' := Wf.callK_mono h hk

/-- weftline/weftlinelaw08.Program -/
def C_weftlinelaw08_Program (p : GPacket) (w : World) (K : GPacket → World → Prop) : Prop := Wf.callK Try.prog TT ti34 (.func (.func 15) #[] #[]) [.agg #[.int .i64 p.From, .int .i64 p.To, .int .u32 p.Tag, .slice p.Chunks.a p.Chunks.n p.Chunks.c]] w K
theorem C_weftlinelaw08_Program.mono {p : GPacket} {w : World} {K K' : GPacket → World → Prop} (h : C_weftlinelaw08_Program p w K) (hk : ∀ r w', K r w' → K' r w') : C_weftlinelaw08_Program p w K' := Wf.callK_mono h hk

/-- weftline/weftlinelaw08.Document -/
def C_weftlinelaw08_Document (p : GPacket) (w : World) (K : GPacket → World → Prop) : Prop := Wf.callK Try.prog TT ti26 (.func (.func 16) #[] #[]) [.agg #[.int .i64 p.From, .int .i64 p.To, .int .u32 p.Tag, .slice p.Chunks.a p.Chunks.n p.Chunks.c]] w K
theorem C_weftlinelaw08_Document.mono {p : GPacket} {w : World} {K K' : GPacket → World → Prop} (h : C_weftlinelaw08_Document p w K) (hk : ∀ r w', K r w' → K' r w') : C_weftlinelaw08_Document p w K' := Wf.callK_mono h hk

/-- weftline/rebind.Packet -/
def C_rebind_Packet (x1 : GPacket) (p : GPlan) (w : World) (K : GPacket → World → Prop) : Prop := Wf.callK Try.prog TT ti34 (.func (.func 17) #[] #[]) [.agg #[.int .i64 x1.From, .int .i64 x1.To, .int .u32 x1.Tag, .slice x1.Chunks.a x1.Chunks.n x1.Chunks.c], .agg #[.slice p.From.a p.From.n p.From.c, .slice p.To.a p.To.n p.To.c]] w K
theorem C_rebind_Packet.mono {x1 : GPacket} {p : GPlan} {w : World} {K K' : GPacket → World → Prop} (h : C_rebind_Packet x1 p w K) (hk : ∀ r w', K r w' → K' r w') : C_rebind_Packet x1 p w K' := Wf.callK_mono h hk

/-- weftline/weftlinelaw28.Program -/
def C_weftlinelaw28_Program (p : GPlan) (w : World) (K : GPlan → World → Prop) : Prop := Wf.callK Try.prog TT ti38 (.func (.func 18) #[] #[]) [.agg #[.slice p.From.a p.From.n p.From.c, .slice p.To.a p.To.n p.To.c]] w K
theorem C_weftlinelaw28_Program.mono {p : GPlan} {w : World} {K K' : GPlan → World → Prop} (h : C_weftlinelaw28_Program p w K) (hk : ∀ r w', K r w' → K' r w') : C_weftlinelaw28_Program p w K' := Wf.callK_mono h hk

/-- weftline/weftlineref28.Of -/
def C_weftlineref28_Of (p : GPlan) (a : Int) (w : World) (K : Int → World → Prop) : Prop := Wf.callK Try.prog TT ti22 (.func (.func 19) #[] #[]) [.agg #[.slice p.From.a p.From.n p.From.c, .slice p.To.a p.To.n p.To.c], .int .i64 a] w K
theorem C_weftlineref28_Of.mono {p : GPlan} {a : Int} {w : World} {K K' : Int → World → Prop} (h : C_weftlineref28_Of p a w K) (hk : ∀ r w', K r w' → K' r w') : C_weftlineref28_Of p a w K' := Wf.callK_mono h hk

/-- weftline/weftlineref08.SameChunks -/
def C_weftlineref08_SameChunks (a : Sl) (b : Sl) (w : World) (K : Bool → World → Prop) : Prop := Wf.callK Try.prog TT ti4 (.func (.func 20) #[] #[]) [.slice a.a a.n a.c, .slice b.a b.n b.c] w K
theorem C_weftlineref08_SameChunks.mono {a : Sl} {b : Sl} {w : World} {K K' : Bool → World → Prop} (h : C_weftlineref08_SameChunks a b w K) (hk : ∀ r w', K r w' → K' r w') : C_weftlineref08_SameChunks a b w K' := Wf.callK_mono h hk

/-- weftline/weftlineref08.Same -/
def C_weftlineref08_Same (a : GPacket) (b : GPacket) (w : World) (K : Bool → World → Prop) : Prop := Wf.callK Try.prog TT ti4 (.func (.func 21) #[] #[]) [.agg #[.int .i64 a.From, .int .i64 a.To, .int .u32 a.Tag, .slice a.Chunks.a a.Chunks.n a.Chunks.c], .agg #[.int .i64 b.From, .int .i64 b.To, .int .u32 b.Tag, .slice b.Chunks.a b.Chunks.n b.Chunks.c]] w K
theorem C_weftlineref08_Same.mono {a : GPacket} {b : GPacket} {w : World} {K K' : Bool → World → Prop} (h : C_weftlineref08_Same a b w K) (hk : ∀ r w', K r w' → K' r w') : C_weftlineref08_Same a b w K' := Wf.callK_mono h hk

/-- weftline/weftlinelaw20.alive -/
def C_weftlinelaw20_alive  (w : World) (K : Bool → World → Prop) : Prop := Wf.callK Try.prog TT ti4 (.func (.func 22) #[] #[]) [] w K
theorem C_weftlinelaw20_alive.mono  {w : World} {K K' : Bool → World → Prop} (h : C_weftlinelaw20_alive  w K) (hk : ∀ r w', K r w' → K' r w') : C_weftlinelaw20_alive  w K' := Wf.callK_mono h hk

/-- weftline/frag.Cut -/
def C_frag_Cut (m : GMessage) (s : GStart) (w : World) (K : (Sl × Value) → World → Prop) : Prop := Wf.callK Try.prog TT ti57 (.func (.func 23) #[] #[]) [.agg #[.int .i64 m.Stream, .bool m.Unordered, .slice m.Text.a m.Text.n m.Text.c], .agg #[.int .u32 s.TSN, .int .u16 s.Seq, .int .i64 s.Size]] w K
theorem C_frag_Cut.mono {m : GMessage} {s : GStart} {w : World} {K K' : (Sl × Value) → World → Prop} (h : C_frag_Cut m s w K) (hk : ∀ r w', K r w' → K' r w') : C_frag_Cut m s w K' := Wf.callK_mono h hk

/-- weftline/reasm.New -/
def C_reasm_New  (w : World) (K : (Option Addr) → World → Prop) : Prop := Wf.callK Try.prog TT ti61 (.func (.func 24) #[] #[]) [] w K
theorem C_reasm_New.mono  {w : World} {K K' : (Option Addr) → World → Prop} (h : C_reasm_New  w K) (hk : ∀ r w', K r w' → K' r w') : C_reasm_New  w K' := Wf.callK_mono h hk

/-- (*weftline/reasm.Bench).Put -/
def C_reasm_Bench_Put (b : (Option Addr)) (p : GPiece) (w : World) (K : (GDone × Bool × Value) → World → Prop) : Prop := Wf.callK Try.prog TT ti66 (.func (.func 25) #[] #[]) [.pointer b, .agg #[.int .u32 p.TSN, .int .u16 p.Stream, .int .u16 p.Seq, .bool p.Begin, .bool p.End, .bool p.Unordered, .slice p.Text.a p.Text.n p.Text.c]] w K
theorem C_reasm_Bench_Put.mono {b : (Option Addr)} {p : GPiece} {w : World} {K K' : (GDone × Bool × Value) → World → Prop} (h : C_reasm_Bench_Put b p w K) (hk : ∀ r w', K r w' → K' r w') : C_reasm_Bench_Put b p w K' := Wf.callK_mono h hk

/-- weftline/weftlinenum.Messages -/
def C_weftlinenum_Messages (a : Sl) (b : Sl) (w : World) (K : Bool → World → Prop) : Prop := Wf.callK Try.prog TT ti4 (.func (.func 26) #[] #[]) [.slice a.a a.n a.c, .slice b.a b.n b.c] w K
theorem C_weftlinenum_Messages.mono {a : Sl} {b : Sl} {w : World} {K K' : Bool → World → Prop} (h : C_weftlinenum_Messages a b w K) (hk : ∀ r w', K r w' → K' r w') : C_weftlinenum_Messages a b w K' := Wf.callK_mono h hk

/-- (*weftline/reasm.Bench).Len -/
def C_reasm_Bench_Len (b : (Option Addr)) (w : World) (K : Int → World → Prop) : Prop := Wf.callK Try.prog TT ti3 (.func (.func 27) #[] #[]) [.pointer b] w K
theorem C_reasm_Bench_Len.mono {b : (Option Addr)} {w : World} {K K' : Int → World → Prop} (h : C_reasm_Bench_Len b w K) (hk : ∀ r w', K r w' → K' r w') : C_reasm_Bench_Len b w K' := Wf.callK_mono h hk

/-- (*weftline/reasm.Bench).Held -/
def C_reasm_Bench_Held (b : (Option Addr)) (w : World) (K : Int → World → Prop) : Prop := Wf.callK Try.prog TT ti3 (.func (.func 28) #[] #[]) [.pointer b] w K
theorem C_reasm_Bench_Held.mono {b : (Option Addr)} {w : World} {K K' : Int → World → Prop} (h : C_reasm_Bench_Held b w K) (hk : ∀ r w', K r w' → K' r w') : C_reasm_Bench_Held b w K' := Wf.callK_mono h hk

/-- (*weftline/reasm.Bench).Has -/
def C_reasm_Bench_Has (b : (Option Addr)) (tsn : Int) (w : World) (K : Bool → World → Prop) : Prop := Wf.callK Try.prog TT ti4 (.func (.func 52) #[] #[]) [.pointer b, .int .u32 tsn] w K
theorem C_reasm_Bench_Has.mono {b : (Option Addr)} {tsn : Int} {w : World} {K K' : Bool → World → Prop} (h : C_reasm_Bench_Has b tsn w K) (hk : ∀ r w', K r w' → K' r w') : C_reasm_Bench_Has b tsn w K' := Wf.callK_mono h hk

/-- weftline/rebind.Ops -/
def C_rebind_Ops (p : GPlan) (w : World) (K : (Sl × Value) → World → Prop) : Prop := Wf.callK Try.prog TT ti138 (.func (.func 62) #[] #[]) [.agg #[.slice p.From.a p.From.n p.From.c, .slice p.To.a p.To.n p.To.c]] w K
theorem C_rebind_Ops.mono {p : GPlan} {w : World} {K K' : (Sl × Value) → World → Prop} (h : C_rebind_Ops p w K) (hk : ∀ r w', K r w' → K' r w') : C_rebind_Ops p w K' := Wf.callK_mono h hk

/-- weftline/weftlinelaw07.Size -/
def C_weftlinelaw07_Size (c : GChunk) (w : World) (K : Int → World → Prop) : Prop := Wf.callK Try.prog TT ti3 (.func (.func 63) #[] #[]) [.agg #[.int .i64 c.Kind, .int .u32 c.Piece.TSN, .int .u16 c.Piece.Stream, .int .u16 c.Piece.Seq, .bool c.Piece.Begin, .bool c.Piece.End, .bool c.Piece.Unordered, .slice c.Piece.Text.a c.Piece.Text.n c.Piece.Text.c, .int .u32 c.Tag, .int .i64 c.Window, .int .i64 c.Out, .int .i64 c.In, .int .u32 c.TSN, .slice c.Random.a c.Random.n c.Random.c, .slice c.Addrs.a c.Addrs.n c.Addrs.c, .slice c.Info.a c.Info.n c.Info.c, .slice c.Gaps.a c.Gaps.n c.Gaps.c, .slice c.Dups.a c.Dups.n c.Dups.c, .int .i64 c.Cause, .int .u32 c.Serial, .slice c.Ops.a c.Ops.n c.Ops.c, .bool c.OK]] w K
theorem C_weftlinelaw07_Size.mono {c : GChunk} {w : World} {K K' : Int → World → Prop} (h : C_weftlinelaw07_Size c w K) (hk : ∀ r w', K r w' → K' r w') : C_weftlinelaw07_Size c w K' := Wf.callK_mono h hk

/-- weftline/weftlinelaw08.Chunks -/
def C_weftlinelaw08_Chunks (l : Sl) (w : World) (K : Sl → World → Prop) : Prop := Wf.callK Try.prog TT ti32 (.func (.func 64) #[] #[]) [.slice l.a l.n l.c] w K
theorem C_weftlinelaw08_Chunks.mono {l : Sl} {w : World} {K K' : Sl → World → Prop} (h : C_weftlinelaw08_Chunks l w K) (hk : ∀ r w', K r w' → K' r w') : C_weftlinelaw08_Chunks l w K' := Wf.callK_mono h hk

/-- weftline/weftlinelaw07.Document -/
def C_weftlinelaw07_Document (c : GChunk) (w : World) (K : GChunk → World → Prop) : Prop := Wf.callK Try.prog TT ti145 (.func (.func 65) #[] #[]) [.agg #[.int .i64 c.Kind, .int .u32 c.Piece.TSN, .int .u16 c.Piece.Stream, .int .u16 c.Piece.Seq, .bool c.Piece.Begin, .bool c.Piece.End, .bool c.Piece.Unordered, .slice c.Piece.Text.a c.Piece.Text.n c.Piece.Text.c, .int .u32 c.Tag, .int .i64 c.Window, .int .i64 c.Out, .int .i64 c.In, .int .u32 c.TSN, .slice c.Random.a c.Random.n c.Random.c, .slice c.Addrs.a c.Addrs.n c.Addrs.c, .slice c.Info.a c.Info.n c.Info.c, .slice c.Gaps.a c.Gaps.n c.Gaps.c, .slice c.Dups.a c.Dups.n c.Dups.c, .int .i64 c.Cause, .int .u32 c.Serial, .slice c.Ops.a c.Ops.n c.Ops.c, .bool c.OK]] w K
theorem C_weftlinelaw07_Document.mono {c : GChunk} {w : World} {K K' : GChunk → World → Prop} (h : C_weftlinelaw07_Document c w K) (hk : ∀ r w', K r w' → K' r w') : C_weftlinelaw07_Document c w K' := Wf.callK_mono h hk

/-- weftline/packet.Copy -/
def C_packet_Copy (p : GPacket) (w : World) (K : GPacket → World → Prop) : Prop := Wf.callK Try.prog TT ti34 (.func (.func 66) #[] #[]) [.agg #[.int .i64 p.From, .int .i64 p.To, .int .u32 p.Tag, .slice p.Chunks.a p.Chunks.n p.Chunks.c]] w K
theorem C_packet_Copy.mono {p : GPacket} {w : World} {K K' : GPacket → World → Prop} (h : C_packet_Copy p w K) (hk : ∀ r w', K r w' → K' r w') : C_packet_Copy p w K' := Wf.callK_mono h hk

/-- (weftline/rebind.Plan).Of -/
def C_rebind_Plan_Of (p : GPlan) (a : Int) (w : World) (K : Int → World → Prop) : Prop := Wf.callK Try.prog TT ti22 (.func (.func 67) #[] #[]) [.agg #[.slice p.From.a p.From.n p.From.c, .slice p.To.a p.To.n p.To.c], .int .i64 a] w K
theorem C_rebind_Plan_Of.mono {p : GPlan} {a : Int} {w : World} {K K' : Int → World → Prop} (h : C_rebind_Plan_Of p a w K) (hk : ∀ r w', K r w' → K' r w') : C_rebind_Plan_Of p a w K' := Wf.callK_mono h hk

/-- weftline/weftlineref28.Right -/
def C_weftlineref28_Right (p : GPlan) (w : World) (K : Bool → World → Prop) : Prop := Wf.callK Try.prog TT ti4 (.func (.func 68) #[] #[]) [.agg #[.slice p.From.a p.From.n p.From.c, .slice p.To.a p.To.n p.To.c]] w K
theorem C_weftlineref28_Right.mono {p : GPlan} {w : World} {K K' : Bool → World → Prop} (h : C_weftlineref28_Right p w K) (hk : ∀ r w', K r w' → K' r w') : C_weftlineref28_Right p w K' := Wf.callK_mono h hk

/-- weftline/weftlineref07.Same -/
def C_weftlineref07_Same (a : GChunk) (b : GChunk) (w : World) (K : Bool → World → Prop) : Prop := Wf.callK Try.prog TT ti4 (.func (.func 69) #[] #[]) [.agg #[.int .i64 a.Kind, .int .u32 a.Piece.TSN, .int .u16 a.Piece.Stream, .int .u16 a.Piece.Seq, .bool a.Piece.Begin, .bool a.Piece.End, .bool a.Piece.Unordered, .slice a.Piece.Text.a a.Piece.Text.n a.Piece.Text.c, .int .u32 a.Tag, .int .i64 a.Window, .int .i64 a.Out, .int .i64 a.In, .int .u32 a.TSN, .slice a.Random.a a.Random.n a.Random.c, .slice a.Addrs.a a.Addrs.n a.Addrs.c, .slice a.Info.a a.Info.n a.Info.c, .slice a.Gaps.a a.Gaps.n a.Gaps.c, .slice a.Dups.a a.Dups.n a.Dups.c, .int .i64 a.Cause, .int .u32 a.Serial, .slice a.Ops.a a.Ops.n a.Ops.c, .bool a.OK], .agg #[.int .i64 b.Kind, .int .u32 b.Piece.TSN, .int .u16 b.Piece.Stream, .int .u16 b.Piece.Seq, .bool b.Piece.Begin, .bool b.Piece.End, .bool b.Piece.Unordered, .slice b.Piece.Text.a b.Piece.Text.n b.Piece.Text.c, .int .u32 b.Tag, .int .i64 b.Window, .int .i64 b.Out, .int .i64 b.In, .int .u32 b.TSN, .slice b.Random.a b.Random.n b.Random.c, .slice b.Addrs.a b.Addrs.n b.Addrs.c, .slice b.Info.a b.Info.n b.Info.c, .slice b.Gaps.a b.Gaps.n b.Gaps.c, .slice b.Dups.a b.Dups.n b.Dups.c, .int .i64 b.Cause, .int .u32 b.Serial, .slice b.Ops.a b.Ops.n b.Ops.c, .bool b.OK]] w K
theorem C_weftlineref07_Same.mono {a : GChunk} {b : GChunk} {w : World} {K K' : Bool → World → Prop} (h : C_weftlineref07_Same a b w K) (hk : ∀ r w', K r w' → K' r w') : C_weftlineref07_Same a b w K' := Wf.callK_mono h hk

/-- weftline/frag.Good -/
def C_frag_Good (m : GMessage) (w : World) (K : Bool → World → Prop) : Prop := Wf.callK Try.prog TT ti4 (.func (.func 70) #[] #[]) [.agg #[.int .i64 m.Stream, .bool m.Unordered, .slice m.Text.a m.Text.n m.Text.c]] w K
theorem C_frag_Good.mono {m : GMessage} {w : World} {K K' : Bool → World → Prop} (h : C_frag_Good m w K) (hk : ∀ r w', K r w' → K' r w') : C_frag_Good m w K' := Wf.callK_mono h hk

/-- weftline/frag.within -/
def C_frag_within (n : Int) (from1 : Int) (to1 : Int) (w : World) (K : Bool → World → Prop) : Prop := Wf.callK Try.prog TT ti4 (.func (.func 71) #[] #[]) [.int .i64 n, .int .i64 from1, .int .i64 to1] w K
theorem C_frag_within.mono {n : Int} {from1 : Int} {to1 : Int} {w : World} {K K' : Bool → World → Prop} (h : C_frag_within n from1 to1 w K) (hk : ∀ r w', K r w' → K' r w') : C_frag_within n from1 to1 w K' := Wf.callK_mono h hk

/-- slices.Chunk[[]byte,byte] -/
def C_slices_Chunk_byte (s : Sl) (n : Int) (w : World) (K : Clo → World → Prop) : Prop := Wf.callK Try.prog TT ti156 (.func (.func 72) #[] #[]) [.slice s.a s.n s.c, .int .i64 n] w K
theorem C_slices_Chunk_byte.mono {s : Sl} {n : Int} {w : World} {K K' : Clo → World → Prop} (h : C_slices_Chunk_byte s n w K) (hk : ∀ r w', K r w' → K' r w') : C_slices_Chunk_byte s n w K' := Wf.callK_mono h hk

/-- weftline/serial.Step[uint32] -/
def C_serial_Step_uint32 (a : Int) (n : Int) (w : World) (K : Int → World → Prop) : Prop := Wf.callK Try.prog TT ti23 (.func (.func 73) #[] #[]) [.int .u32 a, .int .i64 n] w K
theorem C_serial_Step_uint32.mono {a : Int} {n : Int} {w : World} {K K' : Int → World → Prop} (h : C_serial_Step_uint32 a n w K) (hk : ∀ r w', K r w' → K' r w') : C_serial_Step_uint32 a n w K' := Wf.callK_mono h hk

/-- slices.Clone[[]byte,byte] -/
def C_slices_Clone_byte (s : Sl) (w : World) (K : Sl → World → Prop) : Prop := Wf.callK Try.prog TT ti52 (.func (.func 74) #[] #[]) [.slice s.a s.n s.c] w K
theorem C_slices_Clone_byte.mono {s : Sl} {w : World} {K K' : Sl → World → Prop} (h : C_slices_Clone_byte s w K) (hk : ∀ r w', K r w' → K' r w') : C_slices_Clone_byte s w K' := Wf.callK_mono h hk

/-- (*weftline/reasm.Bench).may -/
def C_reasm_Bench_may (b : (Option Addr)) (p : GPiece) (w : World) (K : Value → World → Prop) : Prop := Wf.callK Try.prog TT ti56 (.func (.func 75) #[] #[]) [.pointer b, .agg #[.int .u32 p.TSN, .int .u16 p.Stream, .int .u16 p.Seq, .bool p.Begin, .bool p.End, .bool p.Unordered, .slice p.Text.a p.Text.n p.Text.c]] w K
theorem C_reasm_Bench_may.mono {b : (Option Addr)} {p : GPiece} {w : World} {K K' : Value → World → Prop} (h : C_reasm_Bench_may b p w K) (hk : ∀ r w', K r w' → K' r w') : C_reasm_Bench_may b p w K' := Wf.callK_mono h hk

/-- (*weftline/reasm.Bench).lay -/
def C_reasm_Bench_lay (b : (Option Addr)) (p : GPiece) (w : World) (K : Unit → World → Prop) : Prop := Wf.callK Try.prog TT ti0 (.func (.func 76) #[] #[]) [.pointer b, .agg #[.int .u32 p.TSN, .int .u16 p.Stream, .int .u16 p.Seq, .bool p.Begin, .bool p.End, .bool p.Unordered, .slice p.Text.a p.Text.n p.Text.c]] w K
theorem C_reasm_Bench_lay.mono {b : (Option Addr)} {p : GPiece} {w : World} {K K' : Unit → World → Prop} (h : C_reasm_Bench_lay b p w K) (hk : ∀ r w', K r w' → K' r w') : C_reasm_Bench_lay b p w K' := Wf.callK_mono h hk

/-- (*weftline/reasm.Bench).part -/
def C_reasm_Bench_part (b : (Option Addr)) (p : GPiece) (w : World) (K : Sl → World → Prop) : Prop := Wf.callK Try.prog TT ti51 (.func (.func 77) #[] #[]) [.pointer b, .agg #[.int .u32 p.TSN, .int .u16 p.Stream, .int .u16 p.Seq, .bool p.Begin, .bool p.End, .bool p.Unordered, .slice p.Text.a p.Text.n p.Text.c]] w K
theorem C_reasm_Bench_part.mono {b : (Option Addr)} {p : GPiece} {w : World} {K K' : Sl → World → Prop} (h : C_reasm_Bench_part b p w K) (hk : ∀ r w', K r w' → K' r w') : C_reasm_Bench_part b p w K' := Wf.callK_mono h hk

/-- weftline/reasm.closed -/
def C_reasm_closed (part : Sl) (w : World) (K : Bool → World → Prop) : Prop := Wf.callK Try.prog TT ti4 (.func (.func 78) #[] #[]) [.slice part.a part.n part.c] w K
theorem C_reasm_closed.mono {part : Sl} {w : World} {K K' : Bool → World → Prop} (h : C_reasm_closed part w K) (hk : ∀ r w', K r w' → K' r w') : C_reasm_closed part w K' := Wf.callK_mono h hk

/-- (*weftline/reasm.Bench).off -/
def C_reasm_Bench_off (b : (Option Addr)) (part : Sl) (w : World) (K : Unit → World → Prop) : Prop := Wf.callK Try.prog TT ti0 (.func (.func 79) #[] #[]) [.pointer b, .slice part.a part.n part.c] w K
theorem C_reasm_Bench_off.mono {b : (Option Addr)} {part : Sl} {w : World} {K K' : Unit → World → Prop} (h : C_reasm_Bench_off b part w K) (hk : ∀ r w', K r w' → K' r w') : C_reasm_Bench_off b part w K' := Wf.callK_mono h hk

/-- weftline/frag.Whole -/
def C_frag_Whole (list : Sl) (w : World) (K : (GMessage × Value) → World → Prop) : Prop := Wf.callK Try.prog TT ti77 (.func (.func 80) #[] #[]) [.slice list.a list.n list.c] w K
theorem C_frag_Whole.mono {list : Sl} {w : World} {K K' : (GMessage × Value) → World → Prop} (h : C_frag_Whole list w K) (hk : ∀ r w', K r w' → K' r w') : C_frag_Whole list w K' := Wf.callK_mono h hk

/-- weftline/reasm.copied -/
def C_reasm_copied (p : GPiece) (w : World) (K : GPiece → World → Prop) : Prop := Wf.callK Try.prog TT ti60 (.func (.func 108) #[] #[]) [.agg #[.int .u32 p.TSN, .int .u16 p.Stream, .int .u16 p.Seq, .bool p.Begin, .bool p.End, .bool p.Unordered, .slice p.Text.a p.Text.n p.Text.c]] w K
theorem C_reasm_copied.mono {p : GPiece} {w : World} {K K' : GPiece → World → Prop} (h : C_reasm_copied p w K) (hk : ∀ r w', K r w' → K' r w') : C_reasm_copied p w K' := Wf.callK_mono h hk

/-- weftline/rebind.Right -/
def C_rebind_Right (p : GPlan) (w : World) (K : Bool → World → Prop) : Prop := Wf.callK Try.prog TT ti4 (.func (.func 125) #[] #[]) [.agg #[.slice p.From.a p.From.n p.From.c, .slice p.To.a p.To.n p.To.c]] w K
theorem C_rebind_Right.mono {p : GPlan} {w : World} {K K' : Bool → World → Prop} (h : C_rebind_Right p w K) (hk : ∀ r w', K r w' → K' r w') : C_rebind_Right p w K' := Wf.callK_mono h hk

/-- weftline/weftlinelaw07.Program -/
def C_weftlinelaw07_Program (c : GChunk) (w : World) (K : GChunk → World → Prop) : Prop := Wf.callK Try.prog TT ti133 (.func (.func 126) #[] #[]) [.agg #[.int .i64 c.Kind, .int .u32 c.Piece.TSN, .int .u16 c.Piece.Stream, .int .u16 c.Piece.Seq, .bool c.Piece.Begin, .bool c.Piece.End, .bool c.Piece.Unordered, .slice c.Piece.Text.a c.Piece.Text.n c.Piece.Text.c, .int .u32 c.Tag, .int .i64 c.Window, .int .i64 c.Out, .int .i64 c.In, .int .u32 c.TSN, .slice c.Random.a c.Random.n c.Random.c, .slice c.Addrs.a c.Addrs.n c.Addrs.c, .slice c.Info.a c.Info.n c.Info.c, .slice c.Gaps.a c.Gaps.n c.Gaps.c, .slice c.Dups.a c.Dups.n c.Dups.c, .int .i64 c.Cause, .int .u32 c.Serial, .slice c.Ops.a c.Ops.n c.Ops.c, .bool c.OK]] w K
theorem C_weftlinelaw07_Program.mono {c : GChunk} {w : World} {K K' : GChunk → World → Prop} (h : C_weftlinelaw07_Program c w K) (hk : ∀ r w', K r w' → K' r w') : C_weftlinelaw07_Program c w K' := Wf.callK_mono h hk

/-- weftline/chunk.Copy -/
def C_chunk_Copy (c : GChunk) (w : World) (K : GChunk → World → Prop) : Prop := Wf.callK Try.prog TT ti133 (.func (.func 127) #[] #[]) [.agg #[.int .i64 c.Kind, .int .u32 c.Piece.TSN, .int .u16 c.Piece.Stream, .int .u16 c.Piece.Seq, .bool c.Piece.Begin, .bool c.Piece.End, .bool c.Piece.Unordered, .slice c.Piece.Text.a c.Piece.Text.n c.Piece.Text.c, .int .u32 c.Tag, .int .i64 c.Window, .int .i64 c.Out, .int .i64 c.In, .int .u32 c.TSN, .slice c.Random.a c.Random.n c.Random.c, .slice c.Addrs.a c.Addrs.n c.Addrs.c, .slice c.Info.a c.Info.n c.Info.c, .slice c.Gaps.a c.Gaps.n c.Gaps.c, .slice c.Dups.a c.Dups.n c.Dups.c, .int .i64 c.Cause, .int .u32 c.Serial, .slice c.Ops.a c.Ops.n c.Ops.c, .bool c.OK]] w K
theorem C_chunk_Copy.mono {c : GChunk} {w : World} {K K' : GChunk → World → Prop} (h : C_chunk_Copy c w K) (hk : ∀ r w', K r w' → K' r w') : C_chunk_Copy c w K' := Wf.callK_mono h hk

/-- slices.Index[[]weftline/api.Addr,weftline/api.Addr] -/
def C_slices_Index_Addr (s : Sl) (v : Int) (w : World) (K : Int → World → Prop) : Prop := Wf.callK Try.prog TT ti3 (.func (.func 128) #[] #[]) [.slice s.a s.n s.c, .int .i64 v] w K
theorem C_slices_Index_Addr.mono {s : Sl} {v : Int} {w : World} {K K' : Int → World → Prop} (h : C_slices_Index_Addr s v w K) (hk : ∀ r w', K r w' → K' r w') : C_slices_Index_Addr s v w K' := Wf.callK_mono h hk

/-- weftline/weftlineref13.Addr -/
def C_weftlineref13_Addr (a : Int) (w : World) (K : Bool → World → Prop) : Prop := Wf.callK Try.prog TT ti4 (.func (.func 129) #[] #[]) [.int .i64 a] w K
theorem C_weftlineref13_Addr.mono {a : Int} {w : World} {K K' : Bool → World → Prop} (h : C_weftlineref13_Addr a w K) (hk : ∀ r w', K r w' → K' r w') : C_weftlineref13_Addr a w K' := Wf.callK_mono h hk

/-- weftline/weftlineref28.has -/
def C_weftlineref28_has (l : Sl) (a : Int) (w : World) (K : Bool → World → Prop) : Prop := Wf.callK Try.prog TT ti4 (.func (.func 130) #[] #[]) [.slice l.a l.n l.c, .int .i64 a] w K
theorem C_weftlineref28_has.mono {l : Sl} {a : Int} {w : World} {K K' : Bool → World → Prop} (h : C_weftlineref28_has l a w K) (hk : ∀ r w', K r w' → K' r w') : C_weftlineref28_has l a w K' := Wf.callK_mono h hk

/-- slices.Chunk[[]byte,byte]$1 -/
def C_slices_Chunk_byte_1 (yield : Clo) (cap : Addr) (cap2 : Addr) (w : World) (K : Unit → World → Prop) : Prop := Wf.callK Try.prog TT ti0 (.func (.func 131) #[] #[]) [.func yield.g yield.first yield.cap, .pointer (some cap), .pointer (some cap2)] w K
theorem C_slices_Chunk_byte_1.mono {yield : Clo} {cap : Addr} {cap2 : Addr} {w : World} {K K' : Unit → World → Prop} (h : C_slices_Chunk_byte_1 yield cap cap2 w K) (hk : ∀ r w', K r w' → K' r w') : C_slices_Chunk_byte_1 yield cap cap2 w K' := Wf.callK_mono h hk

/-- weftline/reasm.right -/
def C_reasm_right (p : GPiece) (w : World) (K : Bool → World → Prop) : Prop := Wf.callK Try.prog TT ti4 (.func (.func 132) #[] #[]) [.agg #[.int .u32 p.TSN, .int .u16 p.Stream, .int .u16 p.Seq, .bool p.Begin, .bool p.End, .bool p.Unordered, .slice p.Text.a p.Text.n p.Text.c]] w K
theorem C_reasm_right.mono {p : GPiece} {w : World} {K K' : Bool → World → Prop} (h : C_reasm_right p w K) (hk : ∀ r w', K r w' → K' r w') : C_reasm_right p w K' := Wf.callK_mono h hk

/-- (*weftline/reasm.Bench).start -/
def C_reasm_Bench_start (b : (Option Addr)) (p : GPiece) (w : World) (K : GPiece → World → Prop) : Prop := Wf.callK Try.prog TT ti60 (.func (.func 133) #[] #[]) [.pointer b, .agg #[.int .u32 p.TSN, .int .u16 p.Stream, .int .u16 p.Seq, .bool p.Begin, .bool p.End, .bool p.Unordered, .slice p.Text.a p.Text.n p.Text.c]] w K
theorem C_reasm_Bench_start.mono {b : (Option Addr)} {p : GPiece} {w : World} {K K' : GPiece → World → Prop} (h : C_reasm_Bench_start b p w K) (hk : ∀ r w', K r w' → K' r w') : C_reasm_Bench_start b p w K' := Wf.callK_mono h hk

/-- weftline/frag.joined -/
def C_frag_joined (list : Sl) (w : World) (K : Bool → World → Prop) : Prop := Wf.callK Try.prog TT ti4 (.func (.func 134) #[] #[]) [.slice list.a list.n list.c] w K
theorem C_frag_joined.mono {list : Sl} {w : World} {K K' : Bool → World → Prop} (h : C_frag_joined list w K) (hk : ∀ r w', K r w' → K' r w') : C_frag_joined list w K' := Wf.callK_mono h hk

/-- slices.Clone[[]uint32,uint32] -/
def C_slices_Clone_uint32 (s : Sl) (w : World) (K : Sl → World → Prop) : Prop := Wf.callK Try.prog TT ti130 (.func (.func 145) #[] #[]) [.slice s.a s.n s.c] w K
theorem C_slices_Clone_uint32.mono {s : Sl} {w : World} {K K' : Sl → World → Prop} (h : C_slices_Clone_uint32 s w K) (hk : ∀ r w', K r w' → K' r w') : C_slices_Clone_uint32 s w K' := Wf.callK_mono h hk

/-- slices.Concat[[]weftline/api.Addr,weftline/api.Addr] -/
def C_slices_Concat_Addr (slices : Sl) (w : World) (K : Sl → World → Prop) : Prop := Wf.callK Try.prog TT ti27 (.func (.func 161) #[] #[]) [.slice slices.a slices.n slices.c] w K
theorem C_slices_Concat_Addr.mono {slices : Sl} {w : World} {K K' : Sl → World → Prop} (h : C_slices_Concat_Addr slices w K) (hk : ∀ r w', K r w' → K' r w') : C_slices_Concat_Addr slices w K' := Wf.callK_mono h hk

/-- slices.Clone[[]weftline/api.Addr,weftline/api.Addr] -/
def C_slices_Clone_Addr (s : Sl) (w : World) (K : Sl → World → Prop) : Prop := Wf.callK Try.prog TT ti27 (.func (.func 162) #[] #[]) [.slice s.a s.n s.c] w K
theorem C_slices_Clone_Addr.mono {s : Sl} {w : World} {K K' : Sl → World → Prop} (h : C_slices_Clone_Addr s w K) (hk : ∀ r w', K r w' → K' r w') : C_slices_Clone_Addr s w K' := Wf.callK_mono h hk

/-- slices.Clone[[]weftline/chunk.Gap,weftline/chunk.Gap] -/
def C_slices_Clone_Gap (s : Sl) (w : World) (K : Sl → World → Prop) : Prop := Wf.callK Try.prog TT ti129 (.func (.func 163) #[] #[]) [.slice s.a s.n s.c] w K
theorem C_slices_Clone_Gap.mono {s : Sl} {w : World} {K K' : Sl → World → Prop} (h : C_slices_Clone_Gap s w K) (hk : ∀ r w', K r w' → K' r w') : C_slices_Clone_Gap s w K' := Wf.callK_mono h hk

/-- slices.Clone[[]weftline/chunk.Op,weftline/chunk.Op] -/
def C_slices_Clone_Op (s : Sl) (w : World) (K : Sl → World → Prop) : Prop := Wf.callK Try.prog TT ti131 (.func (.func 164) #[] #[]) [.slice s.a s.n s.c] w K
theorem C_slices_Clone_Op.mono {s : Sl} {w : World} {K K' : Sl → World → Prop} (h : C_slices_Clone_Op s w K) (hk : ∀ r w', K r w' → K' r w') : C_slices_Clone_Op s w K' := Wf.callK_mono h hk

/-- weftline/frag.follows -/
def C_frag_follows (p : GPiece) (before : GPiece) (w : World) (K : Bool → World → Prop) : Prop := Wf.callK Try.prog TT ti4 (.func (.func 165) #[] #[]) [.agg #[.int .u32 p.TSN, .int .u16 p.Stream, .int .u16 p.Seq, .bool p.Begin, .bool p.End, .bool p.Unordered, .slice p.Text.a p.Text.n p.Text.c], .agg #[.int .u32 before.TSN, .int .u16 before.Stream, .int .u16 before.Seq, .bool before.Begin, .bool before.End, .bool before.Unordered, .slice before.Text.a before.Text.n before.Text.c]] w K
theorem C_frag_follows.mono {p : GPiece} {before : GPiece} {w : World} {K K' : Bool → World → Prop} (h : C_frag_follows p before w K) (hk : ∀ r w', K r w' → K' r w') : C_frag_follows p before w K' := Wf.callK_mono h hk

/-- slices.Grow[[]weftline/api.Addr,weftline/api.Addr] -/
def C_slices_Grow_Addr (s : Sl) (n : Int) (w : World) (K : Sl → World → Prop) : Prop := Wf.callK Try.prog TT ti27 (.func (.func 177) #[] #[]) [.slice s.a s.n s.c, .int .i64 n] w K
theorem C_slices_Grow_Addr.mono {s : Sl} {n : Int} {w : World} {K K' : Sl → World → Prop} (h : C_slices_Grow_Addr s n w K) (hk : ∀ r w', K r w' → K' r w') : C_slices_Grow_Addr s n w K' := Wf.callK_mono h hk

end Go.Wf2
