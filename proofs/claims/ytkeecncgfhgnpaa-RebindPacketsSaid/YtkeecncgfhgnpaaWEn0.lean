/- A part of the proof: the walks of this program's functions, by a program of the prover's own, each checked by the kernel. -/
import Derived.Test.YtkeecncgfhgnpaaWDefs
set_option linter.all false
namespace Go.Wf2
open Go Go.Wf Go.Proofs
set_option maxRecDepth 100000
set_option linter.unusedVariables false
theorem E_chunk_Copy (c : GChunk) (w : World) (K : GChunk → World → Prop) (h :
 Wf.NewK (.cells (Value.cells (.agg #[.int .i64 c.Kind, .int .u32 c.Piece.TSN, .int .u16 c.Piece.Stream, .int .u16 c.Piece.Seq, .bool c.Piece.Begin, .bool c.Piece.End, .bool c.Piece.Unordered, .slice c.Piece.Text.a c.Piece.Text.n c.Piece.Text.c, .int .u32 c.Tag, .int .i64 c.Window, .int .i64 c.Out, .int .i64 c.In, .int .u32 c.TSN, .slice c.Random.a c.Random.n c.Random.c, .slice c.Addrs.a c.Addrs.n c.Addrs.c, .slice c.Info.a c.Info.n c.Info.c, .slice c.Gaps.a c.Gaps.n c.Gaps.c, .slice c.Dups.a c.Dups.n c.Dups.c, .int .i64 c.Cause, .int .u32 c.Serial, .slice c.Ops.a c.Ops.n c.Ops.c, .bool c.OK])) 133) w fun b w1 =>
 Wf.NewK (.cells z133 133) w1 fun b2 w2 =>
 Wf.gLd ti52 (Wf.Th.start w2) ((((bx b)).add 1).add 6) fun (v : Sl) =>
 Wf.gLd ti52 (Wf.Th.start w2) (((bx b)).add 13) fun (v2 : Sl) =>
 Wf.gLd ti52 (Wf.Th.start w2) (((bx b)).add 15) fun (v3 : Sl) =>
 Wf.gEnd (Wf.Th.start w2) fun w3 =>
 C_slices_Clone_byte v w3 fun (v4 : Sl) w4 =>
 Wf.Ext w2 w4 ∧
 C_slices_Clone_byte v2 w4 fun (v5 : Sl) w5 =>
 Wf.Ext w2 w5 ∧
 C_slices_Clone_byte v3 w5 fun (v6 : Sl) w6 =>
 Wf.StoreK ((((bx b)).add 1).add 6) [.slice v4.a v4.n v4.c] w6 fun w7 =>
 Wf.StoreK (((bx b)).add 13) [.slice v5.a v5.n v5.c] w7 fun w8 =>
 Wf.StoreK (((bx b)).add 15) [.slice v6.a v6.n v6.c] w8 fun w9 =>
 Wf.gLd ti27 (Wf.Th.start w9) (((bx b)).add 14) fun (v7 : Sl) =>
 Wf.gLd ti129 (Wf.Th.start w9) (((bx b)).add 16) fun (v8 : Sl) =>
 Wf.gLd ti130 (Wf.Th.start w9) (((bx b)).add 17) fun (v9 : Sl) =>
 Wf.gLd ti131 (Wf.Th.start w9) (((bx b)).add 20) fun (v10 : Sl) =>
 Wf.gEnd (Wf.Th.start w9) fun w10 =>
 C_slices_Clone_Addr v7 w10 fun (v11 : Sl) w11 =>
 Wf.Ext w9 w11 ∧
 C_slices_Clone_Gap v8 w11 fun (v12 : Sl) w12 =>
 Wf.Ext w9 w12 ∧
 C_slices_Clone_uint32 v9 w12 fun (v13 : Sl) w13 =>
 Wf.Ext w9 w13 ∧
 C_slices_Clone_Op v10 w13 fun (v14 : Sl) w14 =>
 Wf.StoreK (((bx b)).add 14) [.slice v11.a v11.n v11.c] w14 fun w15 =>
 Wf.StoreK (((bx b)).add 16) [.slice v12.a v12.n v12.c] w15 fun w16 =>
 Wf.StoreK (((bx b)).add 17) [.slice v13.a v13.n v13.c] w16 fun w17 =>
 Wf.StoreK (((bx b)).add 20) [.slice v14.a v14.n v14.c] w17 fun w18 =>
 Wf.ldK ti133 w18 (bx b) fun (v15 : GChunk) =>
 Wf.StoreK (bx b2) [.int .i64 v15.Kind, .int .u32 v15.Piece.TSN, .int .u16 v15.Piece.Stream, .int .u16 v15.Piece.Seq, .bool v15.Piece.Begin, .bool v15.Piece.End, .bool v15.Piece.Unordered, .slice v15.Piece.Text.a v15.Piece.Text.n v15.Piece.Text.c, .int .u32 v15.Tag, .int .i64 v15.Window, .int .i64 v15.Out, .int .i64 v15.In, .int .u32 v15.TSN, .slice v15.Random.a v15.Random.n v15.Random.c, .slice v15.Addrs.a v15.Addrs.n v15.Addrs.c, .slice v15.Info.a v15.Info.n v15.Info.c, .slice v15.Gaps.a v15.Gaps.n v15.Gaps.c, .slice v15.Dups.a v15.Dups.n v15.Dups.c, .int .i64 v15.Cause, .int .u32 v15.Serial, .slice v15.Ops.a v15.Ops.n v15.Ops.c, .bool v15.OK] w18 fun w19 =>
 Wf.ldK ti133 w19 (bx b2) fun (res : GChunk) =>
 K res w19) : C_chunk_Copy c w K :=
  Wf.enterC tok [⟨[], [0, 1, 2, 4, 5, 7, 8], [3, 10, 11, 6, 9, 12, 13, 14, 15, 16]⟩, ⟨[], [0, 1, 3, 4, 6, 7, 9, 10], [2, 12, 5, 8, 11, 13, 14, 15, 16, 17, 18, 19]⟩] [1, 2, 3, 4, 5, 6, 7, 8, 9, 10, 11, 12, 13, 14, 15, 16, 17, 18, 19, 20, 21, 22, 23, 24, 25, 26, 27, 28, 29, 30, 31, 32, 33] Try.func127 (by kernel_rfl) (by kernel_rfl) (Eq.mp (by kernel_rfl) h)

theorem E_packet_Copy (p : GPacket) (w : World) (K : GPacket → World → Prop) (h :
 Wf.NewK (.cells (Value.cells (.agg #[.int .i64 p.From, .int .i64 p.To, .int .u32 p.Tag, .slice p.Chunks.a p.Chunks.n p.Chunks.c])) 34) w fun b w1 =>
 Wf.NewK (.cells z34 34) w1 fun b2 w2 =>
 Wf.ldK ti32 w2 (((bx b)).add 3) fun (v : Sl) =>
 Wf.loopP (X := Sl × Int × Unit) ((⟨none, 0, 0⟩ : Sl), 0, ()) w2 fun next s _ w3 =>
 Wf.ifK (decide ((s.2.1 : Int) < (v.n : Int)))
(Wf.idxK v.a v.n s.2.1 22 fun (a : Addr) =>
 Wf.ldK ti133 w3 a fun (v2 : GChunk) =>
 Wf.NewK (.cells z133 133) w3 fun b3 w4 =>
 Wf.StoreK (bx b3) [.int .i64 v2.Kind, .int .u32 v2.Piece.TSN, .int .u16 v2.Piece.Stream, .int .u16 v2.Piece.Seq, .bool v2.Piece.Begin, .bool v2.Piece.End, .bool v2.Piece.Unordered, .slice v2.Piece.Text.a v2.Piece.Text.n v2.Piece.Text.c, .int .u32 v2.Tag, .int .i64 v2.Window, .int .i64 v2.Out, .int .i64 v2.In, .int .u32 v2.TSN, .slice v2.Random.a v2.Random.n v2.Random.c, .slice v2.Addrs.a v2.Addrs.n v2.Addrs.c, .slice v2.Info.a v2.Info.n v2.Info.c, .slice v2.Gaps.a v2.Gaps.n v2.Gaps.c, .slice v2.Dups.a v2.Dups.n v2.Dups.c, .int .i64 v2.Cause, .int .u32 v2.Serial, .slice v2.Ops.a v2.Ops.n v2.Ops.c, .bool v2.OK] w4 fun w5 =>
 Wf.ldK ti133 w5 (bx b3) fun (v3 : GChunk) =>
 C_chunk_Copy v3 w5 fun (v4 : GChunk) w6 =>
 Wf.NewK (.cells #[.int .i64 v4.Kind, .int .u32 v4.Piece.TSN, .int .u16 v4.Piece.Stream, .int .u16 v4.Piece.Seq, .bool v4.Piece.Begin, .bool v4.Piece.End, .bool v4.Piece.Unordered, .slice v4.Piece.Text.a v4.Piece.Text.n v4.Piece.Text.c, .int .u32 v4.Tag, .int .i64 v4.Window, .int .i64 v4.Out, .int .i64 v4.In, .int .u32 v4.TSN, .slice v4.Random.a v4.Random.n v4.Random.c, .slice v4.Addrs.a v4.Addrs.n v4.Addrs.c, .slice v4.Info.a v4.Info.n v4.Info.c, .slice v4.Gaps.a v4.Gaps.n v4.Gaps.c, .slice v4.Dups.a v4.Dups.n v4.Dups.c, .int .i64 v4.Cause, .int .u32 v4.Serial, .slice v4.Ops.a v4.Ops.n v4.Ops.c, .bool v4.OK] 133) w6 fun b4 w7 =>
 Wf.runT Try.prog ti32 (Builtin.append_ #[32, 32] 32 #[.slice s.1.a s.1.n s.1.c, .slice (⟨some (bx b4), 1, 1⟩ : Sl).a (⟨some (bx b4), 1, 1⟩ : Sl).n (⟨some (bx b4), 1, 1⟩ : Sl).c]) w7 fun (v5 : Sl) w8 =>
 next (v5, IntKind.i64.wrap (s.2.1 + 1), ()) w8)
(Wf.StoreK (((bx b)).add 3) [.slice s.1.a s.1.n s.1.c] w3 fun w9 =>
 Wf.ldK ti34 w9 (bx b) fun (v6 : GPacket) =>
 Wf.StoreK (bx b2) [.int .i64 v6.From, .int .i64 v6.To, .int .u32 v6.Tag, .slice v6.Chunks.a v6.Chunks.n v6.Chunks.c] w9 fun w10 =>
 Wf.ldK ti34 w10 (bx b2) fun (res : GPacket) =>
 K res w10)) : C_packet_Copy p w K :=
  Wf.enterC tok [⟨[(3, 32), (9, 3)], [3, 5, 9, 10, 11, 12, 13, 14, 15, 16, 17, 18], []⟩] [1, 2, 3, 5, 6, 7, 8, 9, 10, 11, 12, 13, 14, 15, 16, 17, 18, 19, 20, 21] Try.func66 (by kernel_rfl) (by kernel_rfl) (Eq.mp (by kernel_rfl) h)

theorem E_rebind_Ops (p : GPlan) (w : World) (K : (Sl × Value) → World → Prop) (h :
 Wf.NewK (.cells (Value.cells (.agg #[.slice p.From.a p.From.n p.From.c, .slice p.To.a p.To.n p.To.c])) 38) w fun b w1 =>
 Wf.ldK ti38 w1 (bx b) fun (v : GPlan) =>
 C_rebind_Right v w1 fun (v2 : Bool) w2 =>
 Wf.ifK (!v2)
(K ((⟨none, 0, 0⟩ : Sl), (Value.iface 101 (.int .i64 2))) w2)
(Wf.ldK ti27 w2 (((bx b)).add 1) fun (v3 : Sl) =>
 Wf.loopP (X := Sl × Int × Unit) ((⟨none, 0, 0⟩ : Sl), 0, ()) w2 fun next s _ w3 =>
 Wf.ifK (decide ((s.2.1 : Int) < (v3.n : Int)))
(Wf.idxK v3.a v3.n s.2.1 1 fun (a : Addr) =>
 Wf.ldK ti22 w3 a fun (v4 : Int) =>
 Wf.ldK ti27 w3 (((bx b)).add 0) fun (v5 : Sl) =>
 Wf.idxK v5.a v5.n s.2.1 1 fun (a2 : Addr) =>
 Wf.ldK ti22 w3 a2 fun (v6 : Int) =>
 Wf.NewK (.cells #[.int .i64 1, .int .i64 v4, .int .i64 2, .int .i64 v6] 141) w3 fun b2 w4 =>
 Wf.runT Try.prog ti131 (Builtin.append_ #[131, 131] 131 #[.slice s.1.a s.1.n s.1.c, .slice (⟨some (bx b2), 2, 2⟩ : Sl).a (⟨some (bx b2), 2, 2⟩ : Sl).n (⟨some (bx b2), 2, 2⟩ : Sl).c]) w4 fun (v7 : Sl) w5 =>
 next (v7, IntKind.i64.wrap (s.2.1 + 1), ()) w5)
(Wf.ldK ti27 w3 (((bx b)).add 1) fun (v8 : Sl) =>
 Wf.idxK v8.a v8.n 0 1 fun (a3 : Addr) =>
 Wf.ldK ti22 w3 a3 fun (v9 : Int) =>
 Wf.NewK (.cells #[.int .i64 4, .int .i64 v9] 141) w3 fun b3 w6 =>
 Wf.runT Try.prog ti131 (Builtin.append_ #[131, 131] 131 #[.slice s.1.a s.1.n s.1.c, .slice (⟨some (bx b3), 1, 1⟩ : Sl).a (⟨some (bx b3), 1, 1⟩ : Sl).n (⟨some (bx b3), 1, 1⟩ : Sl).c]) w6 fun (v10 : Sl) w7 =>
 K (v10, Value.nilIface) w7))) : C_rebind_Ops p w K :=
  Wf.enterC tok [⟨[(4, 131), (14, 3)], [4, 5, 6, 14, 15, 16, 17, 18, 19, 20, 21, 22, 23, 24, 25, 26, 27, 28, 29, 30], []⟩] [1, 2, 3, 4, 5, 6, 7, 8, 9, 10, 11, 12, 13, 14, 15, 16, 17, 18, 19, 20, 21, 22, 23, 24, 25, 26, 27, 28, 29, 30, 31, 32, 33, 34, 35, 36, 37, 38] Try.func62 (by kernel_rfl) (by kernel_rfl) (Eq.mp (by kernel_rfl) h)

theorem E_rebind_Packet (x1 : GPacket) (p : GPlan) (w : World) (K : GPacket → World → Prop) (h :
 Wf.NewK (.cells (Value.cells (.agg #[.int .i64 x1.From, .int .i64 x1.To, .int .u32 x1.Tag, .slice x1.Chunks.a x1.Chunks.n x1.Chunks.c])) 34) w fun b w1 =>
 Wf.NewK (.cells (Value.cells (.agg #[.slice p.From.a p.From.n p.From.c, .slice p.To.a p.To.n p.To.c])) 38) w1 fun b2 w2 =>
 Wf.NewK (.cells z34 34) w2 fun b3 w3 =>
 Wf.ldK ti34 w3 (bx b) fun (v : GPacket) =>
 C_packet_Copy v w3 fun (v2 : GPacket) w4 =>
 Wf.StoreK (bx b) [.int .i64 v2.From, .int .i64 v2.To, .int .u32 v2.Tag, .slice v2.Chunks.a v2.Chunks.n v2.Chunks.c] w4 fun w5 =>
 Wf.gLd ti38 (Wf.Th.start w5) (bx b2) fun (v3 : GPlan) =>
 Wf.gLd ti22 (Wf.Th.start w5) (((bx b)).add 0) fun (v4 : Int) =>
 Wf.gLd ti38 (Wf.Th.start w5) (bx b2) fun (v5 : GPlan) =>
 Wf.gLd ti22 (Wf.Th.start w5) (((bx b)).add 1) fun (v6 : Int) =>
 Wf.gEnd (Wf.Th.start w5) fun w6 =>
 C_rebind_Plan_Of v3 v4 w6 fun (v7 : Int) w7 =>
 Wf.Ext w5 w7 ∧
 C_rebind_Plan_Of v5 v6 w7 fun (v8 : Int) w8 =>
 Wf.StoreK (((bx b)).add 0) [.int .i64 v7] w8 fun w9 =>
 Wf.StoreK (((bx b)).add 1) [.int .i64 v8] w9 fun w10 =>
 Wf.ldK ti34 w10 (bx b) fun (v9 : GPacket) =>
 Wf.StoreK (bx b3) [.int .i64 v9.From, .int .i64 v9.To, .int .u32 v9.Tag, .slice v9.Chunks.a v9.Chunks.n v9.Chunks.c] w10 fun w11 =>
 Wf.ldK ti34 w11 (bx b3) fun (res : GPacket) =>
 K res w11) : C_rebind_Packet x1 p w K :=
  Wf.enterC tok [⟨[], [0, 1, 2, 4, 5, 6], [3, 8, 7, 9, 10, 11]⟩] [2, 3, 4, 5, 6, 7, 8, 9, 10, 11, 12, 13, 14, 15, 16, 17] Try.func17 (by kernel_rfl) (by kernel_rfl) (Eq.mp (by kernel_rfl) h)

theorem E_rebind_Plan_Of (p : GPlan) (a : Int) (w : World) (K : Int → World → Prop) (h :
 Wf.NewK (.cells (Value.cells (.agg #[.slice p.From.a p.From.n p.From.c, .slice p.To.a p.To.n p.To.c])) 38) w fun b w1 =>
 Wf.ldK ti27 w1 (((bx b)).add 0) fun (v : Sl) =>
 C_slices_Index_Addr v a w1 fun (v2 : Int) w2 =>
 Wf.ifK (decide ((v2 : Int) ≥ 0))
(Wf.ldK ti38 w2 (bx b) fun (v3 : GPlan) =>
 C_rebind_Right v3 w2 fun (v4 : Bool) w3 =>
 Wf.ifK v4
(Wf.ldK ti27 w3 (((bx b)).add 1) fun (v5 : Sl) =>
 Wf.idxK v5.a v5.n v2 1 fun (a2 : Addr) =>
 Wf.ldK ti22 w3 a2 fun (v6 : Int) =>
 K v6 w3)
(K a w3))
(K a w2)) : C_rebind_Plan_Of p a w K :=
  Wf.enterC tok [] [2, 4, 5, 6, 7, 8, 9, 10, 11, 12, 13, 14, 15, 16, 17, 18, 19, 20, 21] Try.func67 (by kernel_rfl) (by kernel_rfl) (Eq.mp (by kernel_rfl) h)

theorem E_rebind_Right (p : GPlan) (w : World) (K : Bool → World → Prop) (h :
 Wf.NewK (.cells (Value.cells (.agg #[.slice p.From.a p.From.n p.From.c, .slice p.To.a p.To.n p.To.c])) 38) w fun b w1 =>
 Wf.ldK ti27 w1 (((bx b)).add 0) fun (v : Sl) =>
 Wf.ldK ti27 w1 (((bx b)).add 1) fun (v2 : Sl) =>
 Wf.NewK (.cells #[.slice v.a v.n v.c, .slice v2.a v2.n v2.c] 27) w1 fun b2 w2 =>
 C_slices_Concat_Addr (⟨some (bx b2), 2, 2⟩ : Sl) w2 fun (v3 : Sl) w3 =>
 Wf.ldK ti27 w3 (((bx b)).add 0) fun (v4 : Sl) =>
 Wf.ldK ti27 w3 (((bx b)).add 1) fun (v5 : Sl) =>
 Wf.ifK (((v4.n : Int) : Int) != (v5.n : Int))
(K false w3)
(Wf.ldK ti27 w3 (((bx b)).add 0) fun (v6 : Sl) =>
 Wf.ifK (decide (((v6.n : Int) : Int) < 1))
(K false w3)
(Wf.ldK ti27 w3 (((bx b)).add 0) fun (v7 : Sl) =>
 Wf.ifK (decide (((v7.n : Int) : Int) > 4))
(K false w3)
(Wf.loopP (X := Int × Unit) (0, ()) w3 fun next s _ w4 =>
 Wf.ifK (decide ((s.1 : Int) < (v3.n : Int)))
(Wf.idxK v3.a v3.n s.1 1 fun (a : Addr) =>
 Wf.ldK ti22 w4 a fun (v8 : Int) =>
 Wf.ifK (decide ((v8 : Int) < 1))
(K false w4)
(Wf.ifK (decide ((v8 : Int) > 2147483647))
(K false w4)
(C_slices_Index_Addr v3 v8 w4 fun (v9 : Int) w5 =>
 Wf.ifK ((v9 : Int) != s.1)
(K false w5)
(next (IntKind.i64.wrap (s.1 + 1), ()) w5))))
(K true w4))))) : C_rebind_Right p w K :=
  Wf.enterC tok [⟨[(33, 3)], [2, 4, 5, 33, 34, 35, 36, 37, 38, 39, 40, 41, 42, 43, 44, 45, 46, 47, 48, 49, 50, 51], []⟩] [1, 2, 3, 4, 5, 6, 7, 8, 9, 10, 11, 12, 13, 14, 15, 16, 17, 18, 19, 20, 21, 22, 23, 24, 25, 26, 27, 28, 29, 30, 31, 32, 33, 34, 35, 36, 37, 38, 39, 40, 41, 42, 43, 44, 45, 46, 47, 48, 49, 50, 51] Try.func125 (by kernel_rfl) (by kernel_rfl) (Eq.mp (by kernel_rfl) h)

theorem E_slices_Clone_Addr (s : Sl) (w : World) (K : Sl → World → Prop) (h :
 Wf.ifK s.a.isNone
(K (⟨none, 0, 0⟩ : Sl) w)
(Wf.NewK (.cells #[] 22) w fun b w1 =>
 Wf.runT Try.prog ti27 (Builtin.append_ #[27, 27] 27 #[.slice (⟨some (bx b), 0, 0⟩ : Sl).a (⟨some (bx b), 0, 0⟩ : Sl).n (⟨some (bx b), 0, 0⟩ : Sl).c, .slice s.a s.n s.c]) w1 fun (v : Sl) w2 =>
 K v w2)) : C_slices_Clone_Addr s w K :=
  Wf.enterC tok [] [2, 3, 4, 5, 6, 7] Try.func162 (by kernel_rfl) (by kernel_rfl) (Eq.mp (by kernel_rfl) h)

theorem E_slices_Clone_Gap (s : Sl) (w : World) (K : Sl → World → Prop) (h :
 Wf.ifK s.a.isNone
(K (⟨none, 0, 0⟩ : Sl) w)
(Wf.NewK (.cells #[] 227) w fun b w1 =>
 Wf.runT Try.prog ti129 (Builtin.append_ #[129, 129] 129 #[.slice (⟨some (bx b), 0, 0⟩ : Sl).a (⟨some (bx b), 0, 0⟩ : Sl).n (⟨some (bx b), 0, 0⟩ : Sl).c, .slice s.a s.n s.c]) w1 fun (v : Sl) w2 =>
 K v w2)) : C_slices_Clone_Gap s w K :=
  Wf.enterC tok [] [2, 3, 4, 5, 6, 7] Try.func163 (by kernel_rfl) (by kernel_rfl) (Eq.mp (by kernel_rfl) h)

theorem E_slices_Clone_Op (s : Sl) (w : World) (K : Sl → World → Prop) (h :
 Wf.ifK s.a.isNone
(K (⟨none, 0, 0⟩ : Sl) w)
(Wf.NewK (.cells #[] 141) w fun b w1 =>
 Wf.runT Try.prog ti131 (Builtin.append_ #[131, 131] 131 #[.slice (⟨some (bx b), 0, 0⟩ : Sl).a (⟨some (bx b), 0, 0⟩ : Sl).n (⟨some (bx b), 0, 0⟩ : Sl).c, .slice s.a s.n s.c]) w1 fun (v : Sl) w2 =>
 K v w2)) : C_slices_Clone_Op s w K :=
  Wf.enterC tok [] [2, 3, 4, 5, 6, 7] Try.func164 (by kernel_rfl) (by kernel_rfl) (Eq.mp (by kernel_rfl) h)

theorem E_slices_Clone_byte (s : Sl) (w : World) (K : Sl → World → Prop) (h :
 Wf.ifK s.a.isNone
(K (⟨none, 0, 0⟩ : Sl) w)
(Wf.NewK (.cells #[] 5) w fun b w1 =>
 Wf.runT Try.prog ti52 (Builtin.append_ #[52, 52] 52 #[.slice (⟨some (bx b), 0, 0⟩ : Sl).a (⟨some (bx b), 0, 0⟩ : Sl).n (⟨some (bx b), 0, 0⟩ : Sl).c, .slice s.a s.n s.c]) w1 fun (v : Sl) w2 =>
 K v w2)) : C_slices_Clone_byte s w K :=
  Wf.enterC tok [] [2, 3, 4, 5, 6, 7] Try.func74 (by kernel_rfl) (by kernel_rfl) (Eq.mp (by kernel_rfl) h)

theorem E_slices_Clone_uint32 (s : Sl) (w : World) (K : Sl → World → Prop) (h :
 Wf.ifK s.a.isNone
(K (⟨none, 0, 0⟩ : Sl) w)
(Wf.NewK (.cells #[] 23) w fun b w1 =>
 Wf.runT Try.prog ti130 (Builtin.append_ #[130, 130] 130 #[.slice (⟨some (bx b), 0, 0⟩ : Sl).a (⟨some (bx b), 0, 0⟩ : Sl).n (⟨some (bx b), 0, 0⟩ : Sl).c, .slice s.a s.n s.c]) w1 fun (v : Sl) w2 =>
 K v w2)) : C_slices_Clone_uint32 s w K :=
  Wf.enterC tok [] [2, 3, 4, 5, 6, 7] Try.func145 (by kernel_rfl) (by kernel_rfl) (Eq.mp (by kernel_rfl) h)

theorem E_slices_Concat_Addr (slices : Sl) (w : World) (K : Sl → World → Prop) (h :
 Wf.loopP (X := Int × Int × Unit) (0, 0, ()) w fun next s _ w1 =>
 Wf.ifK (decide ((s.2.1 : Int) < (slices.n : Int)))
(Wf.idxK slices.a slices.n s.2.1 1 fun (a : Addr) =>
 Wf.ldK ti27 w1 a fun (v : Sl) =>
 Wf.ifK (decide ((IntKind.i64.wrap (s.1 + (v.n : Int)) : Int) < 0))
(False)
(next (IntKind.i64.wrap (s.1 + (v.n : Int)), IntKind.i64.wrap (s.2.1 + 1), ()) w1))
(C_slices_Grow_Addr (⟨none, 0, 0⟩ : Sl) s.1 w1 fun (v2 : Sl) w2 =>
 Wf.loopP (X := Sl × Int × Unit) (v2, 0, ()) w2 fun next2 s2 _ w3 =>
 Wf.ifK (decide ((s2.2.1 : Int) < (slices.n : Int)))
(Wf.idxK slices.a slices.n s2.2.1 1 fun (a2 : Addr) =>
 Wf.ldK ti27 w3 a2 fun (v3 : Sl) =>
 Wf.runT Try.prog ti27 (Builtin.append_ #[27, 27] 27 #[.slice s2.1.a s2.1.n s2.1.c, .slice v3.a v3.n v3.c]) w3 fun (v4 : Sl) w4 =>
 next2 (v4, IntKind.i64.wrap (s2.2.1 + 1), ()) w4)
(K s2.1 w3))) : C_slices_Concat_Addr slices w K :=
  Wf.enterC tok [⟨[(3, 3), (11, 3)], [3, 5, 11, 12, 13, 14, 15, 16, 17, 18, 19, 20, 21, 22], []⟩, ⟨[(6, 27), (27, 3)], [6, 8, 27, 28, 29, 30, 31, 32, 33, 34], []⟩] [2, 3, 5, 6, 8, 9, 10, 11, 12, 13, 14, 15, 16, 17, 18, 19, 20, 21, 22, 23, 24, 25, 26, 27, 28, 29, 30, 31, 32, 33, 34, 35] Try.func161 (by kernel_rfl) (by kernel_rfl) (Eq.mp (by kernel_rfl) h)

theorem E_slices_Grow_Addr (s : Sl) (n : Int) (w : World) (K : Sl → World → Prop) (h :
 Wf.ifK (decide ((n : Int) < 0))
(False)
(Wf.runT Try.prog ti3 (Builtin.cap_ #[27] 3 #[.slice s.a s.n s.c]) w fun (v : Int) w1 =>
 Wf.ifK (decide ((IntKind.i64.wrap (n - (IntKind.i64.wrap (v - (s.n : Int)))) : Int) > 0))
(Wf.runT Try.prog ti3 (Builtin.cap_ #[27] 3 #[.slice s.a s.n s.c]) w1 fun (v2 : Int) w2 =>
 Wf.runT Try.prog ti27 (Instr.sliceAt 27 (.slice s.a s.n s.c) none (some (.int .i64 v2)) none) w2 fun (v3 : Sl) w3 =>
 Wf.runT Try.prog ti27 (Builtin.append_ #[27, 3] 27 #[.slice v3.a v3.n v3.c, .int .i64 (IntKind.i64.wrap (n - (IntKind.i64.wrap (v - (s.n : Int)))))]) w3 fun (v4 : Sl) w4 =>
 Wf.runT Try.prog ti27 (Instr.sliceAt 27 (.slice v4.a v4.n v4.c) none (some (.int .i64 (s.n : Int))) none) w4 fun (v5 : Sl) w5 =>
 K v5 w5)
(K s w1))) : C_slices_Grow_Addr s n w K :=
  Wf.enterC tok [] [0, 1, 4, 5, 6, 7, 8, 9, 10, 11, 12, 13, 14, 15, 16, 17, 18, 19, 20, 21, 22, 23, 24, 25, 26] Try.func177 (by kernel_rfl) (by kernel_rfl) (Eq.mp (by kernel_rfl) h)

theorem E_slices_Index_Addr (s : Sl) (v : Int) (w : World) (K : Int → World → Prop) (h :
 Wf.loopP (X := Int × Unit) (0, ()) w fun next s2 _ w1 =>
 Wf.ifK (decide ((s2.1 : Int) < (s.n : Int)))
(Wf.idxK s.a s.n s2.1 1 fun (a : Addr) =>
 Wf.ldK ti22 w1 a fun (v2 : Int) =>
 Wf.ifK ((v : Int) == v2)
(K s2.1 w1)
(next (IntKind.i64.wrap (s2.1 + 1), ()) w1))
(K (-1) w1)) : C_slices_Index_Addr s v w K :=
  Wf.enterC tok [⟨[(8, 3)], [4, 5, 8, 9, 10, 11, 12, 13, 14, 15, 16, 17, 18], []⟩] [4, 5, 6, 7, 8, 9, 10, 11, 12, 13, 14, 15, 16, 17, 18] Try.func128 (by kernel_rfl) (by kernel_rfl) (Eq.mp (by kernel_rfl) h)

theorem E_weftlinelaw07_Document (c : GChunk) (w : World) (K : GChunk → World → Prop) (h :
 Wf.NewK (.cells (Value.cells (.agg #[.int .i64 c.Kind, .int .u32 c.Piece.TSN, .int .u16 c.Piece.Stream, .int .u16 c.Piece.Seq, .bool c.Piece.Begin, .bool c.Piece.End, .bool c.Piece.Unordered, .slice c.Piece.Text.a c.Piece.Text.n c.Piece.Text.c, .int .u32 c.Tag, .int .i64 c.Window, .int .i64 c.Out, .int .i64 c.In, .int .u32 c.TSN, .slice c.Random.a c.Random.n c.Random.c, .slice c.Addrs.a c.Addrs.n c.Addrs.c, .slice c.Info.a c.Info.n c.Info.c, .slice c.Gaps.a c.Gaps.n c.Gaps.c, .slice c.Dups.a c.Dups.n c.Dups.c, .int .i64 c.Cause, .int .u32 c.Serial, .slice c.Ops.a c.Ops.n c.Ops.c, .bool c.OK])) 133) w fun b w1 =>
 Wf.NewK (.cells z145 145) w1 fun b2 w2 =>
 Wf.ldK ti3 w2 (((bx b)).add 0) fun (v : Int) =>
 Wf.ldK ti60 w2 (((bx b)).add 1) fun (v2 : GPiece) =>
 Wf.ldK ti23 w2 (((bx b)).add 8) fun (v3 : Int) =>
 Wf.ldK ti3 w2 (((bx b)).add 9) fun (v4 : Int) =>
 Wf.ldK ti3 w2 (((bx b)).add 10) fun (v5 : Int) =>
 Wf.ldK ti3 w2 (((bx b)).add 11) fun (v6 : Int) =>
 Wf.ldK ti23 w2 (((bx b)).add 12) fun (v7 : Int) =>
 Wf.ldK ti52 w2 (((bx b)).add 13) fun (v8 : Sl) =>
 Wf.ldK ti27 w2 (((bx b)).add 14) fun (v9 : Sl) =>
 Wf.ldK ti52 w2 (((bx b)).add 15) fun (v10 : Sl) =>
 Wf.ldK ti130 w2 (((bx b)).add 17) fun (v11 : Sl) =>
 Wf.ldK ti3 w2 (((bx b)).add 18) fun (v12 : Int) =>
 Wf.ldK ti23 w2 (((bx b)).add 19) fun (v13 : Int) =>
 Wf.ldK ti4 w2 (((bx b)).add 21) fun (v14 : Bool) =>
 Wf.NewK (.cells z145 145) w2 fun b3 w3 =>
 Wf.StoreK (bx b3) [.int .i64 v, .int .u32 v2.TSN, .int .u16 v2.Stream, .int .u16 v2.Seq, .bool v2.Begin, .bool v2.End, .bool v2.Unordered, .slice v2.Text.a v2.Text.n v2.Text.c, .int .u32 v3, .int .i64 v4, .int .i64 v5, .int .i64 v6, .int .u32 v7, .slice v8.a v8.n v8.c, .slice v9.a v9.n v9.c, .slice v10.a v10.n v10.c, .slice none 0 0, .slice v11.a v11.n v11.c, .int .i64 v12, .int .u32 v13, .slice none 0 0, .bool v14] w3 fun w4 =>
 Wf.ldK ti129 w4 (((bx b)).add 16) fun (v15 : Sl) =>
 Wf.loopP (X := Int × Unit) (0, ()) w4 fun next s _ w5 =>
 Wf.ifK (decide ((s.1 : Int) < (v15.n : Int)))
(Wf.idxK v15.a v15.n s.1 2 fun (a : Addr) =>
 Wf.ldK ti227 w5 a fun (v16 : GGap) =>
 Wf.NewK (.cells z227 227) w5 fun b4 w6 =>
 Wf.StoreK (bx b4) [.int .i64 v16.From, .int .i64 v16.To] w6 fun w7 =>
 Wf.ldK ti142 w7 (((bx b3)).add 16) fun (v17 : Sl) =>
 Wf.ldK ti227 w7 (bx b4) fun (v18 : GGap) =>
 Wf.NewK (.cells #[.int .i64 v18.From, .int .i64 v18.To] 228) w7 fun b5 w8 =>
 Wf.runT Try.prog ti142 (Builtin.append_ #[142, 142] 142 #[.slice v17.a v17.n v17.c, .slice (⟨some (bx b5), 1, 1⟩ : Sl).a (⟨some (bx b5), 1, 1⟩ : Sl).n (⟨some (bx b5), 1, 1⟩ : Sl).c]) w8 fun (v19 : Sl) w9 =>
 Wf.StoreK (((bx b3)).add 16) [.slice v19.a v19.n v19.c] w9 fun w10 =>
 next (IntKind.i64.wrap (s.1 + 1), ()) w10)
(Wf.ldK ti131 w5 (((bx b)).add 20) fun (v20 : Sl) =>
 Wf.loopP (X := Int × Unit) (0, ()) w5 fun next2 s2 _ w11 =>
 Wf.ifK (decide ((s2.1 : Int) < (v20.n : Int)))
(Wf.idxK v20.a v20.n s2.1 2 fun (a2 : Addr) =>
 Wf.ldK ti141 w11 a2 fun (v21 : GOp) =>
 Wf.NewK (.cells z141 141) w11 fun b6 w12 =>
 Wf.StoreK (bx b6) [.int .i64 v21.Kind, .int .i64 v21.Addr] w12 fun w13 =>
 Wf.ldK ti143 w13 (((bx b3)).add 20) fun (v22 : Sl) =>
 Wf.ldK ti141 w13 (bx b6) fun (v23 : GOp) =>
 Wf.NewK (.cells #[.int .i64 v23.Kind, .int .i64 v23.Addr] 229) w13 fun b7 w14 =>
 Wf.runT Try.prog ti143 (Builtin.append_ #[143, 143] 143 #[.slice v22.a v22.n v22.c, .slice (⟨some (bx b7), 1, 1⟩ : Sl).a (⟨some (bx b7), 1, 1⟩ : Sl).n (⟨some (bx b7), 1, 1⟩ : Sl).c]) w14 fun (v24 : Sl) w15 =>
 Wf.StoreK (((bx b3)).add 20) [.slice v24.a v24.n v24.c] w15 fun w16 =>
 next2 (IntKind.i64.wrap (s2.1 + 1), ()) w16)
(Wf.ldK ti145 w11 (bx b3) fun (v25 : GChunk) =>
 Wf.StoreK (bx b2) [.int .i64 v25.Kind, .int .u32 v25.Piece.TSN, .int .u16 v25.Piece.Stream, .int .u16 v25.Piece.Seq, .bool v25.Piece.Begin, .bool v25.Piece.End, .bool v25.Piece.Unordered, .slice v25.Piece.Text.a v25.Piece.Text.n v25.Piece.Text.c, .int .u32 v25.Tag, .int .i64 v25.Window, .int .i64 v25.Out, .int .i64 v25.In, .int .u32 v25.TSN, .slice v25.Random.a v25.Random.n v25.Random.c, .slice v25.Addrs.a v25.Addrs.n v25.Addrs.c, .slice v25.Info.a v25.Info.n v25.Info.c, .slice v25.Gaps.a v25.Gaps.n v25.Gaps.c, .slice v25.Dups.a v25.Dups.n v25.Dups.c, .int .i64 v25.Cause, .int .u32 v25.Serial, .slice v25.Ops.a v25.Ops.n v25.Ops.c, .bool v25.OK] w11 fun w17 =>
 Wf.ldK ti145 w17 (bx b2) fun (res : GChunk) =>
 K res w17))) : C_weftlinelaw07_Document c w K :=
  Wf.enterC tok [⟨[(40, 3)], [5, 40, 41, 42, 43, 44, 45, 46, 47, 48, 49, 50], []⟩, ⟨[(54, 3)], [7, 54, 55, 56, 57, 58, 59, 60, 61, 62, 63, 64], []⟩] [1, 2, 3, 5, 7, 8, 9, 10, 11, 12, 13, 14, 15, 16, 17, 18, 19, 20, 21, 22, 23, 24, 25, 26, 27, 28, 29, 30, 31, 32, 33, 34, 35, 36, 37, 38, 39, 40, 41, 42, 43, 44, 45, 46, 47, 48, 49, 50, 51, 52, 53, 54, 55, 56, 57, 58, 59, 60, 61, 62, 63, 64, 65] Try.func65 (by kernel_rfl) (by kernel_rfl) (Eq.mp (by kernel_rfl) h)

theorem E_weftlinelaw07_Program (c : GChunk) (w : World) (K : GChunk → World → Prop) (h :
 Wf.NewK (.cells (Value.cells (.agg #[.int .i64 c.Kind, .int .u32 c.Piece.TSN, .int .u16 c.Piece.Stream, .int .u16 c.Piece.Seq, .bool c.Piece.Begin, .bool c.Piece.End, .bool c.Piece.Unordered, .slice c.Piece.Text.a c.Piece.Text.n c.Piece.Text.c, .int .u32 c.Tag, .int .i64 c.Window, .int .i64 c.Out, .int .i64 c.In, .int .u32 c.TSN, .slice c.Random.a c.Random.n c.Random.c, .slice c.Addrs.a c.Addrs.n c.Addrs.c, .slice c.Info.a c.Info.n c.Info.c, .slice c.Gaps.a c.Gaps.n c.Gaps.c, .slice c.Dups.a c.Dups.n c.Dups.c, .int .i64 c.Cause, .int .u32 c.Serial, .slice c.Ops.a c.Ops.n c.Ops.c, .bool c.OK])) 145) w fun b w1 =>
 Wf.NewK (.cells z133 133) w1 fun b2 w2 =>
 Wf.ldK ti3 w2 (((bx b)).add 0) fun (v : Int) =>
 Wf.ldK ti60 w2 (((bx b)).add 1) fun (v2 : GPiece) =>
 Wf.ldK ti23 w2 (((bx b)).add 8) fun (v3 : Int) =>
 Wf.ldK ti3 w2 (((bx b)).add 9) fun (v4 : Int) =>
 Wf.ldK ti3 w2 (((bx b)).add 10) fun (v5 : Int) =>
 Wf.ldK ti3 w2 (((bx b)).add 11) fun (v6 : Int) =>
 Wf.ldK ti23 w2 (((bx b)).add 12) fun (v7 : Int) =>
 Wf.ldK ti3 w2 (((bx b)).add 18) fun (v8 : Int) =>
 Wf.ldK ti23 w2 (((bx b)).add 19) fun (v9 : Int) =>
 Wf.ldK ti4 w2 (((bx b)).add 21) fun (v10 : Bool) =>
 Wf.NewK (.cells z133 133) w2 fun b3 w3 =>
 Wf.StoreK (bx b3) [.int .i64 v, .int .u32 v2.TSN, .int .u16 v2.Stream, .int .u16 v2.Seq, .bool v2.Begin, .bool v2.End, .bool v2.Unordered, .slice v2.Text.a v2.Text.n v2.Text.c, .int .u32 v3, .int .i64 v4, .int .i64 v5, .int .i64 v6, .int .u32 v7, .slice none 0 0, .slice none 0 0, .slice none 0 0, .slice none 0 0, .slice none 0 0, .int .i64 v8, .int .u32 v9, .slice none 0 0, .bool v10] w3 fun w4 =>
 Wf.NewK (.cells #[] 5) w4 fun b4 w5 =>
 Wf.ldK ti52 w5 ((((bx b)).add 1).add 6) fun (v11 : Sl) =>
 Wf.runT Try.prog ti52 (Builtin.append_ #[52, 52] 52 #[.slice (⟨some (bx b4), 0, 0⟩ : Sl).a (⟨some (bx b4), 0, 0⟩ : Sl).n (⟨some (bx b4), 0, 0⟩ : Sl).c, .slice v11.a v11.n v11.c]) w5 fun (v12 : Sl) w6 =>
 Wf.StoreK ((((bx b3)).add 1).add 6) [.slice v12.a v12.n v12.c] w6 fun w7 =>
 Wf.gLd ti52 (Wf.Th.start w7) (((bx b)).add 13) fun (v13 : Sl) =>
 Wf.gLd ti52 (Wf.Th.start w7) (((bx b)).add 15) fun (v14 : Sl) =>
 Wf.gNew (Wf.Th.start w7) (.cells #[] 5) fun b5 th =>
 Wf.gEff th (fun W K => Wf.runT Try.prog ti52 (Builtin.append_ #[52, 52] 52 #[.slice (⟨some (bx b5), 0, 0⟩ : Sl).a (⟨some (bx b5), 0, 0⟩ : Sl).n (⟨some (bx b5), 0, 0⟩ : Sl).c, .slice v13.a v13.n v13.c]) W K) fun (v15 : Sl) N th2 =>
 Wf.gNew th2 (.cells #[] 5) fun b6 th3 =>
 Wf.gEnd th3 fun w11 =>
 Wf.runT Try.prog ti52 (Builtin.append_ #[52, 52] 52 #[.slice (⟨some (bx b6), 0, 0⟩ : Sl).a (⟨some (bx b6), 0, 0⟩ : Sl).n (⟨some (bx b6), 0, 0⟩ : Sl).c, .slice v14.a v14.n v14.c]) w11 fun (v16 : Sl) w12 =>
 Wf.StoreK (((bx b3)).add 13) [.slice v15.a v15.n v15.c] w12 fun w13 =>
 Wf.StoreK (((bx b3)).add 15) [.slice v16.a v16.n v16.c] w13 fun w14 =>
 Wf.gLd ti27 (Wf.Th.start w14) (((bx b)).add 14) fun (v17 : Sl) =>
 Wf.gLd ti130 (Wf.Th.start w14) (((bx b)).add 17) fun (v18 : Sl) =>
 Wf.gNew (Wf.Th.start w14) (.cells #[] 22) fun b7 th4 =>
 Wf.gEff th4 (fun W K => Wf.runT Try.prog ti27 (Builtin.append_ #[27, 27] 27 #[.slice (⟨some (bx b7), 0, 0⟩ : Sl).a (⟨some (bx b7), 0, 0⟩ : Sl).n (⟨some (bx b7), 0, 0⟩ : Sl).c, .slice v17.a v17.n v17.c]) W K) fun (v19 : Sl) N2 th5 =>
 Wf.gNew th5 (.cells #[] 23) fun b8 th6 =>
 Wf.gEnd th6 fun w18 =>
 Wf.runT Try.prog ti130 (Builtin.append_ #[130, 130] 130 #[.slice (⟨some (bx b8), 0, 0⟩ : Sl).a (⟨some (bx b8), 0, 0⟩ : Sl).n (⟨some (bx b8), 0, 0⟩ : Sl).c, .slice v18.a v18.n v18.c]) w18 fun (v20 : Sl) w19 =>
 Wf.StoreK (((bx b3)).add 14) [.slice v19.a v19.n v19.c] w19 fun w20 =>
 Wf.StoreK (((bx b3)).add 17) [.slice v20.a v20.n v20.c] w20 fun w21 =>
 Wf.ldK ti142 w21 (((bx b)).add 16) fun (v21 : Sl) =>
 Wf.loopP (X := Int × Unit) (0, ()) w21 fun next s _ w22 =>
 Wf.ifK (decide ((s.1 : Int) < (v21.n : Int)))
(Wf.idxK v21.a v21.n s.1 2 fun (a : Addr) =>
 Wf.ldK ti228 w22 a fun (v22 : GGap) =>
 Wf.NewK (.cells z228 228) w22 fun b9 w23 =>
 Wf.StoreK (bx b9) [.int .i64 v22.From, .int .i64 v22.To] w23 fun w24 =>
 Wf.ldK ti129 w24 (((bx b3)).add 16) fun (v23 : Sl) =>
 Wf.ldK ti228 w24 (bx b9) fun (v24 : GGap) =>
 Wf.NewK (.cells #[.int .i64 v24.From, .int .i64 v24.To] 227) w24 fun b10 w25 =>
 Wf.runT Try.prog ti129 (Builtin.append_ #[129, 129] 129 #[.slice v23.a v23.n v23.c, .slice (⟨some (bx b10), 1, 1⟩ : Sl).a (⟨some (bx b10), 1, 1⟩ : Sl).n (⟨some (bx b10), 1, 1⟩ : Sl).c]) w25 fun (v25 : Sl) w26 =>
 Wf.StoreK (((bx b3)).add 16) [.slice v25.a v25.n v25.c] w26 fun w27 =>
 next (IntKind.i64.wrap (s.1 + 1), ()) w27)
(Wf.ldK ti143 w22 (((bx b)).add 20) fun (v26 : Sl) =>
 Wf.loopP (X := Int × Unit) (0, ()) w22 fun next2 s2 _ w28 =>
 Wf.ifK (decide ((s2.1 : Int) < (v26.n : Int)))
(Wf.idxK v26.a v26.n s2.1 2 fun (a2 : Addr) =>
 Wf.ldK ti229 w28 a2 fun (v27 : GOp) =>
 Wf.NewK (.cells z229 229) w28 fun b11 w29 =>
 Wf.StoreK (bx b11) [.int .i64 v27.Kind, .int .i64 v27.Addr] w29 fun w30 =>
 Wf.ldK ti131 w30 (((bx b3)).add 20) fun (v28 : Sl) =>
 Wf.ldK ti229 w30 (bx b11) fun (v29 : GOp) =>
 Wf.NewK (.cells #[.int .i64 v29.Kind, .int .i64 v29.Addr] 141) w30 fun b12 w31 =>
 Wf.runT Try.prog ti131 (Builtin.append_ #[131, 131] 131 #[.slice v28.a v28.n v28.c, .slice (⟨some (bx b12), 1, 1⟩ : Sl).a (⟨some (bx b12), 1, 1⟩ : Sl).n (⟨some (bx b12), 1, 1⟩ : Sl).c]) w31 fun (v30 : Sl) w32 =>
 Wf.StoreK (((bx b3)).add 20) [.slice v30.a v30.n v30.c] w32 fun w33 =>
 next2 (IntKind.i64.wrap (s2.1 + 1), ()) w33)
(Wf.ldK ti133 w28 (bx b3) fun (v31 : GChunk) =>
 Wf.StoreK (bx b2) [.int .i64 v31.Kind, .int .u32 v31.Piece.TSN, .int .u16 v31.Piece.Stream, .int .u16 v31.Piece.Seq, .bool v31.Piece.Begin, .bool v31.Piece.End, .bool v31.Piece.Unordered, .slice v31.Piece.Text.a v31.Piece.Text.n v31.Piece.Text.c, .int .u32 v31.Tag, .int .i64 v31.Window, .int .i64 v31.Out, .int .i64 v31.In, .int .u32 v31.TSN, .slice v31.Random.a v31.Random.n v31.Random.c, .slice v31.Addrs.a v31.Addrs.n v31.Addrs.c, .slice v31.Info.a v31.Info.n v31.Info.c, .slice v31.Gaps.a v31.Gaps.n v31.Gaps.c, .slice v31.Dups.a v31.Dups.n v31.Dups.c, .int .i64 v31.Cause, .int .u32 v31.Serial, .slice v31.Ops.a v31.Ops.n v31.Ops.c, .bool v31.OK] w28 fun w34 =>
 Wf.ldK ti133 w34 (bx b2) fun (res : GChunk) =>
 K res w34))) : C_weftlinelaw07_Program c w K :=
  Wf.enterC tok [⟨[], [1, 2, 5, 6, 0, 3, 8, 4], [7, 9, 10, 11]⟩, ⟨[], [1, 2, 5, 6, 0, 3, 8, 4], [7, 9, 10, 11]⟩, ⟨[(59, 3)], [5, 59, 60, 61, 62, 63, 64, 65, 66, 67, 68, 69], []⟩, ⟨[(73, 3)], [7, 73, 74, 75, 76, 77, 78, 79, 80, 81, 82, 83], []⟩] [1, 2, 3, 5, 7, 8, 9, 10, 11, 12, 13, 14, 15, 16, 17, 18, 19, 20, 21, 22, 23, 24, 25, 26, 27, 28, 29, 30, 31, 32, 33, 34, 35, 36, 37, 38, 39, 40, 41, 42, 43, 44, 45, 46, 47, 48, 49, 50, 51, 52, 53, 54, 55, 56, 57, 58, 59, 60, 61, 62, 63, 64, 65, 66, 67, 68, 69, 70, 71, 72, 73, 74, 75, 76, 77, 78, 79, 80, 81, 82, 83, 84] Try.func126 (by kernel_rfl) (by kernel_rfl) (Eq.mp (by kernel_rfl) h)

theorem E_weftlinelaw07_Size (c : GChunk) (w : World) (K : Int → World → Prop) (h :
 Wf.NewK (.cells (Value.cells (.agg #[.int .i64 c.Kind, .int .u32 c.Piece.TSN, .int .u16 c.Piece.Stream, .int .u16 c.Piece.Seq, .bool c.Piece.Begin, .bool c.Piece.End, .bool c.Piece.Unordered, .slice c.Piece.Text.a c.Piece.Text.n c.Piece.Text.c, .int .u32 c.Tag, .int .i64 c.Window, .int .i64 c.Out, .int .i64 c.In, .int .u32 c.TSN, .slice c.Random.a c.Random.n c.Random.c, .slice c.Addrs.a c.Addrs.n c.Addrs.c, .slice c.Info.a c.Info.n c.Info.c, .slice c.Gaps.a c.Gaps.n c.Gaps.c, .slice c.Dups.a c.Dups.n c.Dups.c, .int .i64 c.Cause, .int .u32 c.Serial, .slice c.Ops.a c.Ops.n c.Ops.c, .bool c.OK])) 145) w fun b w1 =>
 Wf.ldK ti52 w1 ((((bx b)).add 1).add 6) fun (v : Sl) =>
 Wf.ldK ti52 w1 (((bx b)).add 13) fun (v2 : Sl) =>
 Wf.ldK ti52 w1 (((bx b)).add 15) fun (v3 : Sl) =>
 Wf.ldK ti27 w1 (((bx b)).add 14) fun (v4 : Sl) =>
 Wf.ldK ti142 w1 (((bx b)).add 16) fun (v5 : Sl) =>
 Wf.ldK ti130 w1 (((bx b)).add 17) fun (v6 : Sl) =>
 Wf.ldK ti143 w1 (((bx b)).add 20) fun (v7 : Sl) =>
 K (IntKind.i64.wrap ((IntKind.i64.wrap ((IntKind.i64.wrap ((v.n : Int) + (v2.n : Int))) + (v3.n : Int))) + (IntKind.i64.wrap (10 * (IntKind.i64.wrap ((IntKind.i64.wrap ((IntKind.i64.wrap ((v4.n : Int) + (v5.n : Int))) + (v6.n : Int))) + (v7.n : Int))))))) w1) : C_weftlinelaw07_Size c w K :=
  Wf.enterC tok [] [1, 2, 3, 4, 5, 6, 7, 8, 9, 10, 11, 12, 13, 14, 15, 16, 17, 18, 19, 20, 21, 22, 23, 24, 25, 26, 27, 28, 29, 30, 31] Try.func63 (by kernel_rfl) (by kernel_rfl) (Eq.mp (by kernel_rfl) h)

theorem E_weftlinelaw08_Chunks (l : Sl) (w : World) (K : Sl → World → Prop) (h :
 Wf.NewK (.cells #[] 133) w fun b w1 =>
 Wf.loopP (X := Sl × Int × Unit) ((⟨some (bx b), 0, 0⟩ : Sl), 0, ()) w1 fun next s _ w2 =>
 Wf.ifK (decide ((s.2.1 : Int) < (l.n : Int)))
(Wf.idxK l.a l.n s.2.1 22 fun (a : Addr) =>
 Wf.ldK ti145 w2 a fun (v : GChunk) =>
 Wf.NewK (.cells z145 145) w2 fun b2 w3 =>
 Wf.StoreK (bx b2) [.int .i64 v.Kind, .int .u32 v.Piece.TSN, .int .u16 v.Piece.Stream, .int .u16 v.Piece.Seq, .bool v.Piece.Begin, .bool v.Piece.End, .bool v.Piece.Unordered, .slice v.Piece.Text.a v.Piece.Text.n v.Piece.Text.c, .int .u32 v.Tag, .int .i64 v.Window, .int .i64 v.Out, .int .i64 v.In, .int .u32 v.TSN, .slice v.Random.a v.Random.n v.Random.c, .slice v.Addrs.a v.Addrs.n v.Addrs.c, .slice v.Info.a v.Info.n v.Info.c, .slice v.Gaps.a v.Gaps.n v.Gaps.c, .slice v.Dups.a v.Dups.n v.Dups.c, .int .i64 v.Cause, .int .u32 v.Serial, .slice v.Ops.a v.Ops.n v.Ops.c, .bool v.OK] w3 fun w4 =>
 Wf.ldK ti145 w4 (bx b2) fun (v2 : GChunk) =>
 C_weftlinelaw07_Program v2 w4 fun (v3 : GChunk) w5 =>
 Wf.NewK (.cells #[.int .i64 v3.Kind, .int .u32 v3.Piece.TSN, .int .u16 v3.Piece.Stream, .int .u16 v3.Piece.Seq, .bool v3.Piece.Begin, .bool v3.Piece.End, .bool v3.Piece.Unordered, .slice v3.Piece.Text.a v3.Piece.Text.n v3.Piece.Text.c, .int .u32 v3.Tag, .int .i64 v3.Window, .int .i64 v3.Out, .int .i64 v3.In, .int .u32 v3.TSN, .slice v3.Random.a v3.Random.n v3.Random.c, .slice v3.Addrs.a v3.Addrs.n v3.Addrs.c, .slice v3.Info.a v3.Info.n v3.Info.c, .slice v3.Gaps.a v3.Gaps.n v3.Gaps.c, .slice v3.Dups.a v3.Dups.n v3.Dups.c, .int .i64 v3.Cause, .int .u32 v3.Serial, .slice v3.Ops.a v3.Ops.n v3.Ops.c, .bool v3.OK] 133) w5 fun b3 w6 =>
 Wf.runT Try.prog ti32 (Builtin.append_ #[32, 32] 32 #[.slice s.1.a s.1.n s.1.c, .slice (⟨some (bx b3), 1, 1⟩ : Sl).a (⟨some (bx b3), 1, 1⟩ : Sl).n (⟨some (bx b3), 1, 1⟩ : Sl).c]) w6 fun (v4 : Sl) w7 =>
 next (v4, IntKind.i64.wrap (s.2.1 + 1), ()) w7)
(K s.1 w2)) : C_weftlinelaw08_Chunks l w K :=
  Wf.enterC tok [⟨[(3, 32), (9, 3)], [3, 5, 9, 10, 11, 12, 13, 14, 15, 16, 17, 18], []⟩] [2, 3, 5, 6, 7, 8, 9, 10, 11, 12, 13, 14, 15, 16, 17, 18, 19] Try.func64 (by kernel_rfl) (by kernel_rfl) (Eq.mp (by kernel_rfl) h)

theorem E_weftlinelaw08_Document (p : GPacket) (w : World) (K : GPacket → World → Prop) (h :
 Wf.NewK (.cells (Value.cells (.agg #[.int .i64 p.From, .int .i64 p.To, .int .u32 p.Tag, .slice p.Chunks.a p.Chunks.n p.Chunks.c])) 34) w fun b w1 =>
 Wf.NewK (.cells z26 26) w1 fun b2 w2 =>
 Wf.ldK ti22 w2 (((bx b)).add 0) fun (v : Int) =>
 Wf.ldK ti22 w2 (((bx b)).add 1) fun (v2 : Int) =>
 Wf.ldK ti23 w2 (((bx b)).add 2) fun (v3 : Int) =>
 Wf.NewK (.cells z26 26) w2 fun b3 w3 =>
 Wf.StoreK (bx b3) [.int .i64 v, .int .i64 v2, .int .u32 v3, .slice none 0 0] w3 fun w4 =>
 Wf.ldK ti32 w4 (((bx b)).add 3) fun (v4 : Sl) =>
 Wf.loopP (X := Int × Unit) (0, ()) w4 fun next s _ w5 =>
 Wf.ifK (decide ((s.1 : Int) < (v4.n : Int)))
(Wf.idxK v4.a v4.n s.1 22 fun (a : Addr) =>
 Wf.ldK ti133 w5 a fun (v5 : GChunk) =>
 Wf.NewK (.cells z133 133) w5 fun b4 w6 =>
 Wf.StoreK (bx b4) [.int .i64 v5.Kind, .int .u32 v5.Piece.TSN, .int .u16 v5.Piece.Stream, .int .u16 v5.Piece.Seq, .bool v5.Piece.Begin, .bool v5.Piece.End, .bool v5.Piece.Unordered, .slice v5.Piece.Text.a v5.Piece.Text.n v5.Piece.Text.c, .int .u32 v5.Tag, .int .i64 v5.Window, .int .i64 v5.Out, .int .i64 v5.In, .int .u32 v5.TSN, .slice v5.Random.a v5.Random.n v5.Random.c, .slice v5.Addrs.a v5.Addrs.n v5.Addrs.c, .slice v5.Info.a v5.Info.n v5.Info.c, .slice v5.Gaps.a v5.Gaps.n v5.Gaps.c, .slice v5.Dups.a v5.Dups.n v5.Dups.c, .int .i64 v5.Cause, .int .u32 v5.Serial, .slice v5.Ops.a v5.Ops.n v5.Ops.c, .bool v5.OK] w6 fun w7 =>
 Wf.gLd ti24 (Wf.Th.start w7) (((bx b3)).add 3) fun (v6 : Sl) =>
 Wf.gLd ti133 (Wf.Th.start w7) (bx b4) fun (v7 : GChunk) =>
 Wf.gEnd (Wf.Th.start w7) fun w8 =>
 C_weftlinelaw07_Document v7 w8 fun (v8 : GChunk) w9 =>
 Wf.Ext w7 w9 ∧
 Wf.NewK (.cells #[.int .i64 v8.Kind, .int .u32 v8.Piece.TSN, .int .u16 v8.Piece.Stream, .int .u16 v8.Piece.Seq, .bool v8.Piece.Begin, .bool v8.Piece.End, .bool v8.Piece.Unordered, .slice v8.Piece.Text.a v8.Piece.Text.n v8.Piece.Text.c, .int .u32 v8.Tag, .int .i64 v8.Window, .int .i64 v8.Out, .int .i64 v8.In, .int .u32 v8.TSN, .slice v8.Random.a v8.Random.n v8.Random.c, .slice v8.Addrs.a v8.Addrs.n v8.Addrs.c, .slice v8.Info.a v8.Info.n v8.Info.c, .slice v8.Gaps.a v8.Gaps.n v8.Gaps.c, .slice v8.Dups.a v8.Dups.n v8.Dups.c, .int .i64 v8.Cause, .int .u32 v8.Serial, .slice v8.Ops.a v8.Ops.n v8.Ops.c, .bool v8.OK] 145) w9 fun b5 w10 =>
 Wf.Ext w7 w10 ∧
 Wf.runT Try.prog ti24 (Builtin.append_ #[24, 24] 24 #[.slice v6.a v6.n v6.c, .slice (⟨some (bx b5), 1, 1⟩ : Sl).a (⟨some (bx b5), 1, 1⟩ : Sl).n (⟨some (bx b5), 1, 1⟩ : Sl).c]) w10 fun (v9 : Sl) w11 =>
 Wf.StoreK (((bx b3)).add 3) [.slice v9.a v9.n v9.c] w11 fun w12 =>
 next (IntKind.i64.wrap (s.1 + 1), ()) w12)
(Wf.ldK ti26 w5 (bx b3) fun (v10 : GPacket) =>
 Wf.StoreK (bx b2) [.int .i64 v10.From, .int .i64 v10.To, .int .u32 v10.Tag, .slice v10.Chunks.a v10.Chunks.n v10.Chunks.c] w5 fun w13 =>
 Wf.ldK ti26 w13 (bx b2) fun (res : GPacket) =>
 K res w13)) : C_weftlinelaw08_Document p w K :=
  Wf.enterC tok [⟨[(16, 3)], [5, 16, 17, 18, 19, 20, 21, 22, 23, 24, 25, 26, 27], []⟩, ⟨[], [0, 1, 2], [3, 4, 5, 6, 7]⟩] [1, 2, 3, 5, 6, 7, 8, 9, 10, 11, 12, 13, 14, 15, 16, 17, 18, 19, 20, 21, 22, 23, 24, 25, 26, 27, 28] Try.func16 (by kernel_rfl) (by kernel_rfl) (Eq.mp (by kernel_rfl) h)

theorem E_weftlinelaw08_Program (p : GPacket) (w : World) (K : GPacket → World → Prop) (h :
 Wf.NewK (.cells (Value.cells (.agg #[.int .i64 p.From, .int .i64 p.To, .int .u32 p.Tag, .slice p.Chunks.a p.Chunks.n p.Chunks.c])) 26) w fun b w1 =>
 Wf.NewK (.cells z34 34) w1 fun b2 w2 =>
 Wf.gLd ti22 (Wf.Th.start w2) (((bx b)).add 0) fun (v : Int) =>
 Wf.gLd ti22 (Wf.Th.start w2) (((bx b)).add 1) fun (v2 : Int) =>
 Wf.gLd ti23 (Wf.Th.start w2) (((bx b)).add 2) fun (v3 : Int) =>
 Wf.gLd ti24 (Wf.Th.start w2) (((bx b)).add 3) fun (v4 : Sl) =>
 Wf.gEnd (Wf.Th.start w2) fun w3 =>
 C_weftlinelaw08_Chunks v4 w3 fun (v5 : Sl) w4 =>
 Wf.Ext w2 w4 ∧
 Wf.StoreK (bx b2) [.int .i64 v, .int .i64 v2, .int .u32 v3, .slice v5.a v5.n v5.c] w4 fun w5 =>
 Wf.ldK ti34 w5 (bx b2) fun (res : GPacket) =>
 K res w5) : C_weftlinelaw08_Program p w K :=
  Wf.enterC tok [⟨[], [0, 1, 2, 3, 4, 5, 6, 7], [8, 9, 10]⟩] [1, 2, 3, 4, 5, 6, 7, 8, 9, 10, 11, 12] Try.func15 (by kernel_rfl) (by kernel_rfl) (Eq.mp (by kernel_rfl) h)

theorem E_weftlinelaw08_Size (l : Sl) (w : World) (K : Int → World → Prop) (h :
 Wf.loopP (X := Int × Int × Unit) (0, 0, ()) w fun next s _ w1 =>
 Wf.ifK (decide ((s.2.1 : Int) < (l.n : Int)))
(Wf.idxK l.a l.n s.2.1 22 fun (a : Addr) =>
 Wf.ldK ti145 w1 a fun (v : GChunk) =>
 Wf.NewK (.cells z145 145) w1 fun b w2 =>
 Wf.StoreK (bx b) [.int .i64 v.Kind, .int .u32 v.Piece.TSN, .int .u16 v.Piece.Stream, .int .u16 v.Piece.Seq, .bool v.Piece.Begin, .bool v.Piece.End, .bool v.Piece.Unordered, .slice v.Piece.Text.a v.Piece.Text.n v.Piece.Text.c, .int .u32 v.Tag, .int .i64 v.Window, .int .i64 v.Out, .int .i64 v.In, .int .u32 v.TSN, .slice v.Random.a v.Random.n v.Random.c, .slice v.Addrs.a v.Addrs.n v.Addrs.c, .slice v.Info.a v.Info.n v.Info.c, .slice v.Gaps.a v.Gaps.n v.Gaps.c, .slice v.Dups.a v.Dups.n v.Dups.c, .int .i64 v.Cause, .int .u32 v.Serial, .slice v.Ops.a v.Ops.n v.Ops.c, .bool v.OK] w2 fun w3 =>
 Wf.ldK ti145 w3 (bx b) fun (v2 : GChunk) =>
 C_weftlinelaw07_Size v2 w3 fun (v3 : Int) w4 =>
 next (IntKind.i64.wrap (s.1 + (IntKind.i64.wrap (1 + v3))), IntKind.i64.wrap (s.2.1 + 1), ()) w4)
(K s.1 w1)) : C_weftlinelaw08_Size l w K :=
  Wf.enterC tok [⟨[(3, 3), (8, 3)], [3, 5, 8, 9, 10, 11, 12, 13, 14, 15, 16, 17], []⟩] [2, 3, 5, 6, 7, 8, 9, 10, 11, 12, 13, 14, 15, 16, 17, 18] Try.func14 (by kernel_rfl) (by kernel_rfl) (Eq.mp (by kernel_rfl) h)

theorem E_weftlinelaw28_Program (p : GPlan) (w : World) (K : GPlan → World → Prop) (h :
 Wf.NewK (.cells (Value.cells (.agg #[.slice p.From.a p.From.n p.From.c, .slice p.To.a p.To.n p.To.c])) 29) w fun b w1 =>
 Wf.NewK (.cells z38 38) w1 fun b2 w2 =>
 Wf.gLd ti27 (Wf.Th.start w2) (((bx b)).add 0) fun (v : Sl) =>
 Wf.gLd ti27 (Wf.Th.start w2) (((bx b)).add 1) fun (v2 : Sl) =>
 Wf.gNew (Wf.Th.start w2) (.cells #[] 22) fun b3 th =>
 Wf.gEff th (fun W K => Wf.runT Try.prog ti27 (Builtin.append_ #[27, 27] 27 #[.slice (⟨some (bx b3), 0, 0⟩ : Sl).a (⟨some (bx b3), 0, 0⟩ : Sl).n (⟨some (bx b3), 0, 0⟩ : Sl).c, .slice v.a v.n v.c]) W K) fun (v3 : Sl) N th2 =>
 Wf.gNew th2 (.cells #[] 22) fun b4 th3 =>
 Wf.gEnd th3 fun w6 =>
 Wf.runT Try.prog ti27 (Builtin.append_ #[27, 27] 27 #[.slice (⟨some (bx b4), 0, 0⟩ : Sl).a (⟨some (bx b4), 0, 0⟩ : Sl).n (⟨some (bx b4), 0, 0⟩ : Sl).c, .slice v2.a v2.n v2.c]) w6 fun (v4 : Sl) w7 =>
 Wf.StoreK (bx b2) [.slice v3.a v3.n v3.c, .slice v4.a v4.n v4.c] w7 fun w8 =>
 Wf.ldK ti38 w8 (bx b2) fun (res : GPlan) =>
 K res w8) : C_weftlinelaw28_Program p w K :=
  Wf.enterC tok [⟨[], [1, 2, 5, 6, 0, 3, 4], [7, 8, 9]⟩] [1, 2, 3, 4, 5, 6, 7, 8, 9, 10, 11] Try.func18 (by kernel_rfl) (by kernel_rfl) (Eq.mp (by kernel_rfl) h)

theorem E_weftlinelaw28_RebindPackets (q : GPacket) (p : GPlan) (w : World) (K : Bool → World → Prop) (h :
 Wf.NewK (.cells (Value.cells (.agg #[.int .i64 q.From, .int .i64 q.To, .int .u32 q.Tag, .slice q.Chunks.a q.Chunks.n q.Chunks.c])) 26) w fun b w1 =>
 Wf.NewK (.cells (Value.cells (.agg #[.slice p.From.a p.From.n p.From.c, .slice p.To.a p.To.n p.To.c])) 29) w1 fun b2 w2 =>
 C_weftlinelaw28_alive  w2 fun (v : Bool) w3 =>
 Wf.ifK (!v)
(K false w3)
(Wf.ldK ti27 w3 (((bx b2)).add 0) fun (v2 : Sl) =>
 Wf.ifK (decide (((v2.n : Int) : Int) > 10))
(K true w3)
(Wf.ldK ti27 w3 (((bx b2)).add 1) fun (v3 : Sl) =>
 Wf.ifK (decide (((v3.n : Int) : Int) > 10))
(K true w3)
(Wf.ldK ti24 w3 (((bx b)).add 3) fun (v4 : Sl) =>
 Wf.ifK (decide (((v4.n : Int) : Int) > 20))
(K true w3)
(Wf.ldK ti24 w3 (((bx b)).add 3) fun (v5 : Sl) =>
 C_weftlinelaw08_Size v5 w3 fun (v6 : Int) w4 =>
 Wf.ifK (decide ((v6 : Int) > 3000))
(K true w4)
(Wf.ldK ti26 w4 (bx b) fun (v7 : GPacket) =>
 C_weftlinelaw08_Program v7 w4 fun (v8 : GPacket) w5 =>
 Wf.NewK (.cells z34 34) w5 fun b3 w6 =>
 Wf.StoreK (bx b3) [.int .i64 v8.From, .int .i64 v8.To, .int .u32 v8.Tag, .slice v8.Chunks.a v8.Chunks.n v8.Chunks.c] w6 fun w7 =>
 Wf.gLd ti34 (Wf.Th.start w7) (bx b3) fun (v9 : GPacket) =>
 Wf.gLd ti29 (Wf.Th.start w7) (bx b2) fun (v10 : GPlan) =>
 Wf.gEff (Wf.Th.start w7) (fun W K => C_weftlinelaw28_Program v10 W K) fun (v11 : GPlan) N th =>
 Wf.gEff th (fun W K => C_rebind_Packet v9 v11 W K) fun (v12 : GPacket) N2 th2 =>
 Wf.gEff th2 (fun W K => C_weftlinelaw08_Document v12 W K) fun (v13 : GPacket) N3 th3 =>
 Wf.gNew th3 (.cells z26 26) fun b4 th4 =>
 Wf.gEnd th4 fun w12 =>
 Wf.StoreK (bx b4) [.int .i64 v13.From, .int .i64 v13.To, .int .u32 v13.Tag, .slice v13.Chunks.a v13.Chunks.n v13.Chunks.c] w12 fun w13 =>
 Wf.gLd ti22 (Wf.Th.start w13) (((bx b4)).add 0) fun (v14 : Int) =>
 Wf.gLd ti29 (Wf.Th.start w13) (bx b2) fun (v15 : GPlan) =>
 Wf.gLd ti22 (Wf.Th.start w13) (((bx b)).add 0) fun (v16 : Int) =>
 Wf.gEff (Wf.Th.start w13) (fun W K => C_weftlineref28_Of v15 v16 W K) fun (v17 : Int) N4 th5 =>
 Wf.ifK ((v14 : Int) == v17)
(Wf.gLd ti22 th5 (((bx b4)).add 1) fun (v18 : Int) =>
 Wf.gLd ti29 th5 (bx b2) fun (v19 : GPlan) =>
 Wf.gLd ti22 th5 (((bx b)).add 1) fun (v20 : Int) =>
 Wf.gEff th5 (fun W K => C_weftlineref28_Of v19 v20 W K) fun (v21 : Int) N5 th6 =>
 Wf.ifK ((v18 : Int) == v21)
(Wf.gLd ti23 th6 (((bx b4)).add 2) fun (v22 : Int) =>
 Wf.gLd ti23 th6 (((bx b)).add 2) fun (v23 : Int) =>
 Wf.ifK ((v22 : Int) == v23)
(Wf.gLd ti24 th6 (((bx b4)).add 3) fun (v24 : Sl) =>
 Wf.gLd ti24 th6 (((bx b)).add 3) fun (v25 : Sl) =>
 Wf.gEff th6 (fun W K => C_weftlineref08_SameChunks v24 v25 W K) fun (v26 : Bool) N6 th7 =>
 Wf.ifK v26
(Wf.gLd ti34 th7 (bx b3) fun (v27 : GPacket) =>
 Wf.gLd ti26 th7 (bx b) fun (v28 : GPacket) =>
 Wf.gEff th7 (fun W K => C_weftlinelaw08_Document v27 W K) fun (v29 : GPacket) N7 th8 =>
 Wf.gEnd th8 fun w18 =>
 C_weftlineref08_Same v29 v28 w18 fun (v30 : Bool) w19 =>
 K v30 w19)
(Wf.gEnd th7 fun w20 =>
 K false w20))
(Wf.gEnd th6 fun w21 =>
 K false w21))
(Wf.gEnd th6 fun w22 =>
 K false w22))
(Wf.gEnd th5 fun w23 =>
 K false w23))))))) : C_weftlinelaw28_RebindPackets q p w K :=
  Wf.enterC tok [⟨[], [0, 1, 2, 3, 4, 5], [6]⟩, ⟨[], [0, 1, 2, 3, 4, 5, 6, 7, 8, 9, 10, 11, 12, 13, 14, 15, 16, 17, 18, 19, 20, 21, 22, 23, 24, 25, 26, 27, 28, 29, 30, 31, 33, 32], [34, 35, 36]⟩] [2, 3, 4, 5, 6, 7, 8, 9, 10, 11, 12, 13, 14, 15, 16, 17, 18, 19, 20, 21, 22, 23, 24, 25, 26, 27, 28, 29, 30, 31, 32, 33, 34, 35, 36, 37, 38, 39, 40, 41, 42, 43, 44, 45, 46, 47, 48, 49, 50, 51, 52, 53, 54, 55, 56, 57, 58, 59, 60, 61, 62, 63, 64, 65, 66, 67, 68, 69, 70, 71, 72, 73] Try.func3 (by kernel_rfl) (by kernel_rfl) (Eq.mp (by kernel_rfl) h)

theorem E_weftlinelaw28_alive  (w : World) (K : Bool → World → Prop) (h :
 Wf.NewK (.cells #[.int .i64 1] 22) w fun b w1 =>
 Wf.NewK (.cells #[.int .i64 9] 22) w1 fun b2 w2 =>
 C_rebind_Ops (⟨(⟨some (bx b), 1, 1⟩ : Sl), (⟨some (bx b2), 1, 1⟩ : Sl)⟩ : GPlan) w2 fun (v : (Sl × Value)) w3 =>
 Wf.isIfc v.2 = true ∧
 Wf.ifK (Wf.isNilV v.2)
(Wf.ifK (((v.1.n : Int) : Int) == 3)
(Wf.idxK v.1.a v.1.n 0 2 fun (a : Addr) =>
 Wf.ldK ti141 w3 a fun (v2 : GOp) =>
 Wf.runT Try.prog ti4 (do eqGuard .eql 141 (Operand.tmp 20) (Operand.tmp 21) (.agg #[.int .i64 v2.Kind, .int .i64 v2.Addr]) (.agg #[.int .i64 1, .int .i64 9]); binOp .eql 141 (.agg #[.int .i64 v2.Kind, .int .i64 v2.Addr]) (.agg #[.int .i64 1, .int .i64 9])) w3 fun (v3 : Bool) w4 =>
 Wf.ifK v3
(Wf.idxK v.1.a v.1.n 1 2 fun (a2 : Addr) =>
 Wf.ldK ti141 w4 a2 fun (v4 : GOp) =>
 Wf.runT Try.prog ti4 (do eqGuard .eql 141 (Operand.tmp 27) (Operand.tmp 28) (.agg #[.int .i64 v4.Kind, .int .i64 v4.Addr]) (.agg #[.int .i64 2, .int .i64 1]); binOp .eql 141 (.agg #[.int .i64 v4.Kind, .int .i64 v4.Addr]) (.agg #[.int .i64 2, .int .i64 1])) w4 fun (v5 : Bool) w5 =>
 Wf.ifK v5
(Wf.idxK v.1.a v.1.n 2 2 fun (a3 : Addr) =>
 Wf.ldK ti141 w5 a3 fun (v6 : GOp) =>
 Wf.runT Try.prog ti4 (do eqGuard .eql 141 (Operand.tmp 34) (Operand.tmp 35) (.agg #[.int .i64 v6.Kind, .int .i64 v6.Addr]) (.agg #[.int .i64 4, .int .i64 9]); binOp .eql 141 (.agg #[.int .i64 v6.Kind, .int .i64 v6.Addr]) (.agg #[.int .i64 4, .int .i64 9])) w5 fun (v7 : Bool) w6 =>
 K v7 w6)
(K false w5))
(K false w4))
(K false w3))
(K false w3)) : C_weftlinelaw28_alive  w K :=
  Wf.enterC tok [] [0, 1, 2, 3, 4, 5, 6, 7, 8, 9, 10, 11, 12, 13, 14, 15, 16, 17, 18, 19, 20, 21, 22, 23, 24, 25, 26, 27, 28, 29, 30, 31, 32, 33, 34, 35, 36, 37] Try.func13 (by kernel_rfl) (by kernel_rfl) (Eq.mp (by kernel_rfl) h)

theorem E_weftlineref07_Same (a : GChunk) (b : GChunk) (w : World) (K : Bool → World → Prop) (h :
 Wf.NewK (.cells (Value.cells (.agg #[.int .i64 a.Kind, .int .u32 a.Piece.TSN, .int .u16 a.Piece.Stream, .int .u16 a.Piece.Seq, .bool a.Piece.Begin, .bool a.Piece.End, .bool a.Piece.Unordered, .slice a.Piece.Text.a a.Piece.Text.n a.Piece.Text.c, .int .u32 a.Tag, .int .i64 a.Window, .int .i64 a.Out, .int .i64 a.In, .int .u32 a.TSN, .slice a.Random.a a.Random.n a.Random.c, .slice a.Addrs.a a.Addrs.n a.Addrs.c, .slice a.Info.a a.Info.n a.Info.c, .slice a.Gaps.a a.Gaps.n a.Gaps.c, .slice a.Dups.a a.Dups.n a.Dups.c, .int .i64 a.Cause, .int .u32 a.Serial, .slice a.Ops.a a.Ops.n a.Ops.c, .bool a.OK])) 145) w fun b2 w1 =>
 Wf.NewK (.cells (Value.cells (.agg #[.int .i64 b.Kind, .int .u32 b.Piece.TSN, .int .u16 b.Piece.Stream, .int .u16 b.Piece.Seq, .bool b.Piece.Begin, .bool b.Piece.End, .bool b.Piece.Unordered, .slice b.Piece.Text.a b.Piece.Text.n b.Piece.Text.c, .int .u32 b.Tag, .int .i64 b.Window, .int .i64 b.Out, .int .i64 b.In, .int .u32 b.TSN, .slice b.Random.a b.Random.n b.Random.c, .slice b.Addrs.a b.Addrs.n b.Addrs.c, .slice b.Info.a b.Info.n b.Info.c, .slice b.Gaps.a b.Gaps.n b.Gaps.c, .slice b.Dups.a b.Dups.n b.Dups.c, .int .i64 b.Cause, .int .u32 b.Serial, .slice b.Ops.a b.Ops.n b.Ops.c, .bool b.OK])) 145) w1 fun b3 w2 =>
 Wf.ldK ti3 w2 (((bx b2)).add 0) fun (v : Int) =>
 Wf.ldK ti3 w2 (((bx b3)).add 0) fun (v2 : Int) =>
 Wf.ifK ((v : Int) != v2)
(K false w2)
(Wf.ldK ti23 w2 (((bx b2)).add 8) fun (v3 : Int) =>
 Wf.ldK ti23 w2 (((bx b3)).add 8) fun (v4 : Int) =>
 Wf.ifK ((v3 : Int) != v4)
(K false w2)
(Wf.ldK ti3 w2 (((bx b2)).add 9) fun (v5 : Int) =>
 Wf.ldK ti3 w2 (((bx b3)).add 9) fun (v6 : Int) =>
 Wf.ifK ((v5 : Int) != v6)
(K false w2)
(Wf.ldK ti3 w2 (((bx b2)).add 10) fun (v7 : Int) =>
 Wf.ldK ti3 w2 (((bx b3)).add 10) fun (v8 : Int) =>
 Wf.ifK ((v7 : Int) != v8)
(K false w2)
(Wf.ldK ti3 w2 (((bx b2)).add 11) fun (v9 : Int) =>
 Wf.ldK ti3 w2 (((bx b3)).add 11) fun (v10 : Int) =>
 Wf.ifK ((v9 : Int) != v10)
(K false w2)
(Wf.ldK ti23 w2 (((bx b2)).add 12) fun (v11 : Int) =>
 Wf.ldK ti23 w2 (((bx b3)).add 12) fun (v12 : Int) =>
 Wf.ifK ((v11 : Int) != v12)
(K false w2)
(Wf.ldK ti3 w2 (((bx b2)).add 18) fun (v13 : Int) =>
 Wf.ldK ti3 w2 (((bx b3)).add 18) fun (v14 : Int) =>
 Wf.ifK ((v13 : Int) != v14)
(K false w2)
(Wf.ldK ti23 w2 (((bx b2)).add 19) fun (v15 : Int) =>
 Wf.ldK ti23 w2 (((bx b3)).add 19) fun (v16 : Int) =>
 Wf.ifK ((v15 : Int) != v16)
(K false w2)
(Wf.ldK ti4 w2 (((bx b2)).add 21) fun (v17 : Bool) =>
 Wf.ldK ti4 w2 (((bx b3)).add 21) fun (v18 : Bool) =>
 Wf.ifK (!(v17 == v18))
(K false w2)
(Wf.gLd ti60 (Wf.Th.start w2) (((bx b2)).add 1) fun (v19 : GPiece) =>
 Wf.gLd ti60 (Wf.Th.start w2) (((bx b3)).add 1) fun (v20 : GPiece) =>
 Wf.gNew (Wf.Th.start w2) (.cells z60 60) fun b4 th =>
 Wf.gNew th (.cells z60 60) fun b5 th2 =>
 Wf.gEnd th2 fun w5 =>
 Wf.StoreK (bx b4) [.int .u32 v19.TSN, .int .u16 v19.Stream, .int .u16 v19.Seq, .bool v19.Begin, .bool v19.End, .bool v19.Unordered, .slice v19.Text.a v19.Text.n v19.Text.c] w5 fun w6 =>
 Wf.Ext w2 w6 ∧
 Wf.StoreK (bx b5) [.int .u32 v20.TSN, .int .u16 v20.Stream, .int .u16 v20.Seq, .bool v20.Begin, .bool v20.End, .bool v20.Unordered, .slice v20.Text.a v20.Text.n v20.Text.c] w6 fun w7 =>
 Wf.ldK ti23 w7 (((bx b4)).add 0) fun (v21 : Int) =>
 Wf.ldK ti23 w7 (((bx b5)).add 0) fun (v22 : Int) =>
 Wf.ifK ((v21 : Int) != v22)
(K false w7)
(Wf.ldK ti45 w7 (((bx b4)).add 1) fun (v23 : Int) =>
 Wf.ldK ti45 w7 (((bx b5)).add 1) fun (v24 : Int) =>
 Wf.ifK ((v23 : Int) != v24)
(K false w7)
(Wf.ldK ti45 w7 (((bx b4)).add 2) fun (v25 : Int) =>
 Wf.ldK ti45 w7 (((bx b5)).add 2) fun (v26 : Int) =>
 Wf.ifK ((v25 : Int) != v26)
(K false w7)
(Wf.ldK ti4 w7 (((bx b4)).add 3) fun (v27 : Bool) =>
 Wf.ldK ti4 w7 (((bx b5)).add 3) fun (v28 : Bool) =>
 Wf.ifK (!(v27 == v28))
(K false w7)
(Wf.ldK ti4 w7 (((bx b4)).add 4) fun (v29 : Bool) =>
 Wf.ldK ti4 w7 (((bx b5)).add 4) fun (v30 : Bool) =>
 Wf.ifK (!(v29 == v30))
(K false w7)
(Wf.ldK ti4 w7 (((bx b4)).add 5) fun (v31 : Bool) =>
 Wf.ldK ti4 w7 (((bx b5)).add 5) fun (v32 : Bool) =>
 Wf.ifK (!(v31 == v32))
(K false w7)
(Wf.ldK ti52 w7 (((bx b4)).add 6) fun (v33 : Sl) =>
 Wf.runT Try.prog ti9 (convert 52 9 (.slice v33.a v33.n v33.c)) w7 fun (v34 : ByteArray) w8 =>
 Wf.ldK ti52 w8 (((bx b5)).add 6) fun (v35 : Sl) =>
 Wf.runT Try.prog ti9 (convert 52 9 (.slice v35.a v35.n v35.c)) w8 fun (v36 : ByteArray) w9 =>
 Wf.ifK (!(v34.toList == v36.toList))
(K false w9)
(Wf.ldK ti52 w9 (((bx b2)).add 13) fun (v37 : Sl) =>
 Wf.runT Try.prog ti9 (convert 52 9 (.slice v37.a v37.n v37.c)) w9 fun (v38 : ByteArray) w10 =>
 Wf.ldK ti52 w10 (((bx b3)).add 13) fun (v39 : Sl) =>
 Wf.runT Try.prog ti9 (convert 52 9 (.slice v39.a v39.n v39.c)) w10 fun (v40 : ByteArray) w11 =>
 Wf.ifK (!(v38.toList == v40.toList))
(K false w11)
(Wf.ldK ti52 w11 (((bx b2)).add 15) fun (v41 : Sl) =>
 Wf.runT Try.prog ti9 (convert 52 9 (.slice v41.a v41.n v41.c)) w11 fun (v42 : ByteArray) w12 =>
 Wf.ldK ti52 w12 (((bx b3)).add 15) fun (v43 : Sl) =>
 Wf.runT Try.prog ti9 (convert 52 9 (.slice v43.a v43.n v43.c)) w12 fun (v44 : ByteArray) w13 =>
 Wf.ifK (!(v42.toList == v44.toList))
(K false w13)
(Wf.ldK ti27 w13 (((bx b2)).add 14) fun (v45 : Sl) =>
 Wf.ldK ti27 w13 (((bx b3)).add 14) fun (v46 : Sl) =>
 Wf.ifK (((v45.n : Int) : Int) != (v46.n : Int))
(K false w13)
(Wf.ldK ti142 w13 (((bx b2)).add 16) fun (v47 : Sl) =>
 Wf.ldK ti142 w13 (((bx b3)).add 16) fun (v48 : Sl) =>
 Wf.ifK (((v47.n : Int) : Int) != (v48.n : Int))
(K false w13)
(Wf.ldK ti130 w13 (((bx b2)).add 17) fun (v49 : Sl) =>
 Wf.ldK ti130 w13 (((bx b3)).add 17) fun (v50 : Sl) =>
 Wf.ifK (((v49.n : Int) : Int) != (v50.n : Int))
(K false w13)
(Wf.ldK ti143 w13 (((bx b2)).add 20) fun (v51 : Sl) =>
 Wf.ldK ti143 w13 (((bx b3)).add 20) fun (v52 : Sl) =>
 Wf.ifK (((v51.n : Int) : Int) != (v52.n : Int))
(K false w13)
(Wf.loopP (X := Int × Unit) (0, ()) w13 fun next s _ w14 =>
 Wf.ldK ti27 w14 (((bx b2)).add 14) fun (v53 : Sl) =>
 Wf.ifK (decide ((s.1 : Int) < (v53.n : Int)))
(Wf.gLd ti27 (Wf.Th.start w14) (((bx b2)).add 14) fun (v54 : Sl) =>
 Wf.idxK v54.a v54.n s.1 1 fun (a2 : Addr) =>
 Wf.gLd ti22 (Wf.Th.start w14) a2 fun (v55 : Int) =>
 Wf.gLd ti27 (Wf.Th.start w14) (((bx b3)).add 14) fun (v56 : Sl) =>
 Wf.idxK v56.a v56.n s.1 1 fun (a3 : Addr) =>
 Wf.gLd ti22 (Wf.Th.start w14) a3 fun (v57 : Int) =>
 Wf.gEnd (Wf.Th.start w14) fun w15 =>
 Wf.ifK ((v55 : Int) != v57)
(K false w15)
(next (IntKind.i64.wrap (s.1 + 1), ()) w15))
(Wf.loopP (X := Int × Unit) (0, ()) w14 fun next2 s2 _ w16 =>
 Wf.ldK ti142 w16 (((bx b2)).add 16) fun (v58 : Sl) =>
 Wf.ifK (decide ((s2.1 : Int) < (v58.n : Int)))
(Wf.gLd ti142 (Wf.Th.start w16) (((bx b2)).add 16) fun (v59 : Sl) =>
 Wf.idxK v59.a v59.n s2.1 2 fun (a4 : Addr) =>
 Wf.gLd ti228 (Wf.Th.start w16) a4 fun (v60 : GGap) =>
 Wf.gLd ti142 (Wf.Th.start w16) (((bx b3)).add 16) fun (v61 : Sl) =>
 Wf.idxK v61.a v61.n s2.1 2 fun (a5 : Addr) =>
 Wf.gLd ti228 (Wf.Th.start w16) a5 fun (v62 : GGap) =>
 Wf.gRd Try.prog ti4 (Wf.Th.start w16) (do eqGuard .neq 228 (Operand.tmp 206) (Operand.tmp 211) (.agg #[.int .i64 v60.From, .int .i64 v60.To]) (.agg #[.int .i64 v62.From, .int .i64 v62.To]); binOp .neq 228 (.agg #[.int .i64 v60.From, .int .i64 v60.To]) (.agg #[.int .i64 v62.From, .int .i64 v62.To])) fun (v63 : Bool) =>
 Wf.gEnd (Wf.Th.start w16) fun w18 =>
 Wf.ifK v63
(K false w18)
(next2 (IntKind.i64.wrap (s2.1 + 1), ()) w18))
(Wf.loopP (X := Int × Unit) (0, ()) w16 fun next3 s3 _ w19 =>
 Wf.ldK ti130 w19 (((bx b2)).add 17) fun (v64 : Sl) =>
 Wf.ifK (decide ((s3.1 : Int) < (v64.n : Int)))
(Wf.gLd ti130 (Wf.Th.start w19) (((bx b2)).add 17) fun (v65 : Sl) =>
 Wf.idxK v65.a v65.n s3.1 1 fun (a6 : Addr) =>
 Wf.gLd ti23 (Wf.Th.start w19) a6 fun (v66 : Int) =>
 Wf.gLd ti130 (Wf.Th.start w19) (((bx b3)).add 17) fun (v67 : Sl) =>
 Wf.idxK v67.a v67.n s3.1 1 fun (a7 : Addr) =>
 Wf.gLd ti23 (Wf.Th.start w19) a7 fun (v68 : Int) =>
 Wf.gEnd (Wf.Th.start w19) fun w20 =>
 Wf.ifK ((v66 : Int) != v68)
(K false w20)
(next3 (IntKind.i64.wrap (s3.1 + 1), ()) w20))
(Wf.loopP (X := Int × Unit) (0, ()) w19 fun next4 s4 _ w21 =>
 Wf.ldK ti143 w21 (((bx b2)).add 20) fun (v69 : Sl) =>
 Wf.ifK (decide ((s4.1 : Int) < (v69.n : Int)))
(Wf.gLd ti143 (Wf.Th.start w21) (((bx b2)).add 20) fun (v70 : Sl) =>
 Wf.idxK v70.a v70.n s4.1 2 fun (a8 : Addr) =>
 Wf.gLd ti229 (Wf.Th.start w21) a8 fun (v71 : GOp) =>
 Wf.gLd ti143 (Wf.Th.start w21) (((bx b3)).add 20) fun (v72 : Sl) =>
 Wf.idxK v72.a v72.n s4.1 2 fun (a9 : Addr) =>
 Wf.gLd ti229 (Wf.Th.start w21) a9 fun (v73 : GOp) =>
 Wf.gRd Try.prog ti4 (Wf.Th.start w21) (do eqGuard .neq 229 (Operand.tmp 242) (Operand.tmp 247) (.agg #[.int .i64 v71.Kind, .int .i64 v71.Addr]) (.agg #[.int .i64 v73.Kind, .int .i64 v73.Addr]); binOp .neq 229 (.agg #[.int .i64 v71.Kind, .int .i64 v71.Addr]) (.agg #[.int .i64 v73.Kind, .int .i64 v73.Addr])) fun (v74 : Bool) =>
 Wf.gEnd (Wf.Th.start w21) fun w23 =>
 Wf.ifK v74
(K false w23)
(next4 (IntKind.i64.wrap (s4.1 + 1), ()) w23))
(K true w21))))))))))))))))))))))))))) : C_weftlineref07_Same a b w K :=
  Wf.enterC tok [⟨[], [0, 1, 2, 3, 4, 5], [6, 7]⟩, ⟨[(7, 3)], [4, 7, 177, 178, 179, 180, 181, 182, 183, 184, 185, 186, 187, 188, 189, 190, 191, 192, 193, 194], []⟩, ⟨[], [0, 1, 2, 3, 4, 5, 6, 7, 8, 9, 10], []⟩, ⟨[(8, 3)], [4, 8, 195, 196, 197, 198, 199, 200, 201, 202, 203, 204, 205, 206, 207, 208, 209, 210, 211, 212], []⟩, ⟨[], [0, 1, 2, 3, 4, 5, 6, 7, 8, 9, 10], []⟩, ⟨[(9, 3)], [4, 9, 213, 214, 215, 216, 217, 218, 219, 220, 221, 222, 223, 224, 225, 226, 227, 228, 229, 230], []⟩, ⟨[], [0, 1, 2, 3, 4, 5, 6, 7, 8, 9, 10], []⟩, ⟨[(10, 3)], [4, 10, 231, 232, 233, 234, 235, 236, 237, 238, 239, 240, 241, 242, 243, 244, 245, 246, 247, 248], []⟩, ⟨[], [0, 1, 2, 3, 4, 5, 6, 7, 8, 9, 10], []⟩] [2, 3, 4, 5, 6, 7, 8, 9, 10, 11, 12, 13, 14, 15, 16, 17, 18, 19, 20, 21, 22, 23, 24, 25, 26, 27, 28, 29, 30, 31, 32, 33, 34, 35, 36, 37, 38, 39, 40, 41, 42, 43, 44, 45, 46, 47, 48, 49, 50, 51, 52, 53, 54, 55, 56, 57, 58, 59, 60, 61, 62, 63, 64, 65, 66, 67, 68, 69, 70, 71, 72, 73, 74, 75, 76, 77, 78, 79, 80, 81, 82, 83, 84, 85, 86, 87, 88, 89, 90, 91, 92, 93, 94, 95, 96, 97, 98, 99, 100, 101, 102, 103, 104, 105, 106, 107, 108, 109, 110, 111, 112, 113, 114, 115, 116, 117, 118, 119, 120, 121, 122, 123, 124, 125, 126, 127, 128, 129, 130, 131, 132, 133, 134, 135, 136, 137, 138, 139, 140, 141, 142, 143, 144, 145, 146, 147, 148, 149, 150, 151, 152, 153, 154, 155, 156, 157, 158, 159, 160, 161, 162, 163, 164, 165, 166, 167, 168, 169, 170, 171, 172, 173, 174, 175, 176, 177, 178, 179, 180, 181, 182, 183, 184, 185, 186, 187, 188, 189, 190, 191, 192, 193, 194, 195, 196, 197, 198, 199, 200, 201, 202, 203, 204, 205, 206, 207, 208, 209, 210, 211, 212, 213, 214, 215, 216, 217, 218, 219, 220, 221, 222, 223, 224, 225, 226, 227, 228, 229, 230, 231, 232, 233, 234, 235, 236, 237, 238, 239, 240, 241, 242, 243, 244, 245, 246, 247, 248] Try.func69 (by kernel_rfl) (by kernel_rfl) (Eq.mp (by kernel_rfl) h)

theorem E_weftlineref08_Same (a : GPacket) (b : GPacket) (w : World) (K : Bool → World → Prop) (h :
 Wf.NewK (.cells (Value.cells (.agg #[.int .i64 a.From, .int .i64 a.To, .int .u32 a.Tag, .slice a.Chunks.a a.Chunks.n a.Chunks.c])) 26) w fun b2 w1 =>
 Wf.NewK (.cells (Value.cells (.agg #[.int .i64 b.From, .int .i64 b.To, .int .u32 b.Tag, .slice b.Chunks.a b.Chunks.n b.Chunks.c])) 26) w1 fun b3 w2 =>
 Wf.ldK ti22 w2 (((bx b2)).add 0) fun (v : Int) =>
 Wf.ldK ti22 w2 (((bx b3)).add 0) fun (v2 : Int) =>
 Wf.ifK ((v : Int) == v2)
(Wf.ldK ti22 w2 (((bx b2)).add 1) fun (v3 : Int) =>
 Wf.ldK ti22 w2 (((bx b3)).add 1) fun (v4 : Int) =>
 Wf.ifK ((v3 : Int) == v4)
(Wf.ldK ti23 w2 (((bx b2)).add 2) fun (v5 : Int) =>
 Wf.ldK ti23 w2 (((bx b3)).add 2) fun (v6 : Int) =>
 Wf.ifK ((v5 : Int) == v6)
(Wf.ldK ti24 w2 (((bx b2)).add 3) fun (v7 : Sl) =>
 Wf.ldK ti24 w2 (((bx b3)).add 3) fun (v8 : Sl) =>
 C_weftlineref08_SameChunks v7 v8 w2 fun (v9 : Bool) w3 =>
 K v9 w3)
(K false w2))
(K false w2))
(K false w2)) : C_weftlineref08_Same a b w K :=
  Wf.enterC tok [] [2, 3, 4, 5, 6, 7, 8, 9, 10, 11, 12, 13, 14, 15, 16, 17, 18, 19, 20, 21, 22, 23, 24, 25, 26, 27, 28, 29, 30] Try.func21 (by kernel_rfl) (by kernel_rfl) (Eq.mp (by kernel_rfl) h)

theorem E_weftlineref08_SameChunks (a : Sl) (b : Sl) (w : World) (K : Bool → World → Prop) (h :
 Wf.ifK (((a.n : Int) : Int) != (b.n : Int))
(K false w)
(Wf.loopP (X := Int × Unit) (0, ()) w fun next s _ w1 =>
 Wf.ifK (decide ((s.1 : Int) < (a.n : Int)))
(Wf.idxK a.a a.n s.1 22 fun (a2 : Addr) =>
 Wf.gLd ti145 (Wf.Th.start w1) a2 fun (v : GChunk) =>
 Wf.idxK b.a b.n s.1 22 fun (a3 : Addr) =>
 Wf.gLd ti145 (Wf.Th.start w1) a3 fun (v2 : GChunk) =>
 Wf.gEnd (Wf.Th.start w1) fun w2 =>
 C_weftlineref07_Same v v2 w2 fun (v3 : Bool) w3 =>
 Wf.ifK (!v3)
(K false w3)
(next (IntKind.i64.wrap (s.1 + 1), ()) w3))
(K true w1))) : C_weftlineref08_SameChunks a b w K :=
  Wf.enterC tok [⟨[(5, 3)], [4, 5, 11, 12, 13, 14, 15, 16, 17, 18, 19, 20, 21, 22, 23, 24, 25, 26], []⟩, ⟨[], [0, 1, 2, 3, 4, 5, 6, 7], [8, 9]⟩] [4, 5, 6, 7, 8, 9, 10, 11, 12, 13, 14, 15, 16, 17, 18, 19, 20, 21, 22, 23, 24, 25, 26] Try.func20 (by kernel_rfl) (by kernel_rfl) (Eq.mp (by kernel_rfl) h)

theorem E_weftlineref13_Addr (a : Int) (w : World) (K : Bool → World → Prop) (h :
 Wf.ifK (decide ((a : Int) ≥ 1))
(K (decide ((a : Int) ≤ 2147483647)) w)
(K false w)) : C_weftlineref13_Addr a w K :=
  Wf.enterC tok [] [2, 3, 4, 5, 6, 7, 8] Try.func129 (by kernel_rfl) (by kernel_rfl) (Eq.mp (by kernel_rfl) h)

theorem E_weftlineref28_Of (p : GPlan) (a : Int) (w : World) (K : Int → World → Prop) (h :
 Wf.NewK (.cells (Value.cells (.agg #[.slice p.From.a p.From.n p.From.c, .slice p.To.a p.To.n p.To.c])) 29) w fun b w1 =>
 Wf.loopP (X := Int × Unit) (0, ()) w1 fun next s _ w2 =>
 Wf.ldK ti27 w2 (((bx b)).add 0) fun (v : Sl) =>
 Wf.ifK (decide ((s.1 : Int) < (v.n : Int)))
(Wf.ldK ti29 w2 (bx b) fun (v2 : GPlan) =>
 C_weftlineref28_Right v2 w2 fun (v3 : Bool) w3 =>
 Wf.ifK v3
(Wf.ldK ti27 w3 (((bx b)).add 0) fun (v4 : Sl) =>
 Wf.idxK v4.a v4.n s.1 1 fun (a2 : Addr) =>
 Wf.ldK ti22 w3 a2 fun (v5 : Int) =>
 Wf.ifK ((v5 : Int) == a)
(Wf.ldK ti27 w3 (((bx b)).add 1) fun (v6 : Sl) =>
 Wf.idxK v6.a v6.n s.1 1 fun (a3 : Addr) =>
 Wf.ldK ti22 w3 a3 fun (v7 : Int) =>
 K v7 w3)
(next (IntKind.i64.wrap (s.1 + 1), ()) w3))
(K a w3))
(K a w2)) : C_weftlineref28_Of p a w K :=
  Wf.enterC tok [⟨[(5, 3)], [4, 5, 6, 7, 8, 9, 10, 11, 12, 13, 14, 15, 16, 17, 18, 19, 20, 21, 22, 23, 24, 25, 26, 27, 28], []⟩] [2, 4, 5, 6, 7, 8, 9, 10, 11, 12, 13, 14, 15, 16, 17, 18, 19, 20, 21, 22, 23, 24, 25, 26, 27, 28, 29] Try.func19 (by kernel_rfl) (by kernel_rfl) (Eq.mp (by kernel_rfl) h)

theorem E_weftlineref28_Right (p : GPlan) (w : World) (K : Bool → World → Prop) (h :
 Wf.NewK (.cells (Value.cells (.agg #[.slice p.From.a p.From.n p.From.c, .slice p.To.a p.To.n p.To.c])) 29) w fun b w1 =>
 Wf.ldK ti27 w1 (((bx b)).add 0) fun (v : Sl) =>
 Wf.ifK (decide (((v.n : Int) : Int) < 1))
(K false w1)
(Wf.ldK ti27 w1 (((bx b)).add 0) fun (v2 : Sl) =>
 Wf.ifK (decide (((v2.n : Int) : Int) > 4))
(K false w1)
(Wf.ldK ti27 w1 (((bx b)).add 1) fun (v3 : Sl) =>
 Wf.ldK ti27 w1 (((bx b)).add 0) fun (v4 : Sl) =>
 Wf.ifK (((v3.n : Int) : Int) != (v4.n : Int))
(K false w1)
(Wf.loopP (X := Int × Unit) (0, ()) w1 fun next s _ w2 =>
 Wf.ldK ti27 w2 (((bx b)).add 0) fun (v5 : Sl) =>
 Wf.ifK (decide ((s.1 : Int) < (v5.n : Int)))
(Wf.gLd ti27 (Wf.Th.start w2) (((bx b)).add 0) fun (v6 : Sl) =>
 Wf.idxK v6.a v6.n s.1 1 fun (a : Addr) =>
 Wf.gLd ti22 (Wf.Th.start w2) a fun (v7 : Int) =>
 Wf.gEff (Wf.Th.start w2) (fun W K => C_weftlineref13_Addr v7 W K) fun (v8 : Bool) N th =>
 Wf.ifK (!v8)
(Wf.gEnd th fun w4 =>
 K false w4)
(Wf.gLd ti27 th (((bx b)).add 1) fun (v9 : Sl) =>
 Wf.idxK v9.a v9.n s.1 1 fun (a2 : Addr) =>
 Wf.gLd ti22 th a2 fun (v10 : Int) =>
 Wf.gEff th (fun W K => C_weftlineref13_Addr v10 W K) fun (v11 : Bool) N2 th2 =>
 Wf.ifK (!v11)
(Wf.gEnd th2 fun w6 =>
 K false w6)
(Wf.gLd ti27 th2 (((bx b)).add 0) fun (v12 : Sl) =>
 Wf.gRd Try.prog ti27 th2 (Instr.sliceAt 27 (.slice v12.a v12.n v12.c) none (some (.int .i64 s.1)) none) fun (v13 : Sl) =>
 Wf.gLd ti27 th2 (((bx b)).add 0) fun (v14 : Sl) =>
 Wf.idxK v14.a v14.n s.1 1 fun (a3 : Addr) =>
 Wf.gLd ti22 th2 a3 fun (v15 : Int) =>
 Wf.gEff th2 (fun W K => C_weftlineref28_has v13 v15 W K) fun (v16 : Bool) N3 th3 =>
 Wf.ifK v16
(Wf.gEnd th3 fun w9 =>
 K false w9)
(Wf.gLd ti27 th3 (((bx b)).add 1) fun (v17 : Sl) =>
 Wf.gRd Try.prog ti27 th3 (Instr.sliceAt 27 (.slice v17.a v17.n v17.c) none (some (.int .i64 s.1)) none) fun (v18 : Sl) =>
 Wf.gLd ti27 th3 (((bx b)).add 1) fun (v19 : Sl) =>
 Wf.idxK v19.a v19.n s.1 1 fun (a4 : Addr) =>
 Wf.gLd ti22 th3 a4 fun (v20 : Int) =>
 Wf.gEff th3 (fun W K => C_weftlineref28_has v18 v20 W K) fun (v21 : Bool) N4 th4 =>
 Wf.ifK v21
(Wf.gEnd th4 fun w12 =>
 K false w12)
(Wf.gLd ti27 th4 (((bx b)).add 0) fun (v22 : Sl) =>
 Wf.gLd ti27 th4 (((bx b)).add 1) fun (v23 : Sl) =>
 Wf.idxK v23.a v23.n s.1 1 fun (a5 : Addr) =>
 Wf.gLd ti22 th4 a5 fun (v24 : Int) =>
 Wf.gEnd th4 fun w13 =>
 C_weftlineref28_has v22 v24 w13 fun (v25 : Bool) w14 =>
 Wf.ifK v25
(K false w14)
(next (IntKind.i64.wrap (s.1 + 1), ()) w14))))))
(K true w2))))) : C_weftlineref28_Right p w K :=
  Wf.enterC tok [⟨[(3, 3)], [2, 3, 23, 24, 25, 26, 27, 28, 29, 30, 31, 32, 33, 34, 35, 36, 37, 38, 39, 40, 41, 42, 43, 44, 45, 46, 47, 48, 49, 50, 51, 52, 53, 54, 55, 56, 57, 58, 59, 60, 61, 62, 63, 64, 65, 66, 67, 68, 69, 70, 71, 72, 73, 74, 75, 76, 77, 78, 79], []⟩, ⟨[], [0, 1, 2, 3, 4, 5, 6, 7, 8, 9, 10, 11, 12, 13, 14, 15, 16, 17, 18, 19, 20, 21, 22, 23, 24, 25, 26, 27, 28, 29, 30, 31, 32, 33, 34, 35, 36, 37, 38, 39, 40, 41, 42, 43, 44, 45, 46, 47], [48, 49]⟩] [1, 2, 3, 4, 5, 6, 7, 8, 9, 10, 11, 12, 13, 14, 15, 16, 17, 18, 19, 20, 21, 22, 23, 24, 25, 26, 27, 28, 29, 30, 31, 32, 33, 34, 35, 36, 37, 38, 39, 40, 41, 42, 43, 44, 45, 46, 47, 48, 49, 50, 51, 52, 53, 54, 55, 56, 57, 58, 59, 60, 61, 62, 63, 64, 65, 66, 67, 68, 69, 70, 71, 72, 73, 74, 75, 76, 77, 78, 79] Try.func68 (by kernel_rfl) (by kernel_rfl) (Eq.mp (by kernel_rfl) h)

theorem E_weftlineref28_has (l : Sl) (a : Int) (w : World) (K : Bool → World → Prop) (h :
 Wf.loopP (X := Int × Unit) (0, ()) w fun next s _ w1 =>
 Wf.ifK (decide ((s.1 : Int) < (l.n : Int)))
(Wf.idxK l.a l.n s.1 1 fun (a2 : Addr) =>
 Wf.ldK ti22 w1 a2 fun (v : Int) =>
 Wf.ifK ((v : Int) == a)
(K true w1)
(next (IntKind.i64.wrap (s.1 + 1), ()) w1))
(K false w1)) : C_weftlineref28_has l a w K :=
  Wf.enterC tok [⟨[(5, 3)], [4, 5, 6, 7, 8, 9, 10, 11, 12, 13, 14, 15, 16, 17], []⟩] [4, 5, 6, 7, 8, 9, 10, 11, 12, 13, 14, 15, 16, 17] Try.func130 (by kernel_rfl) (by kernel_rfl) (Eq.mp (by kernel_rfl) h)

end Go.Wf2
