/- A part of the proof: the walks of this program's functions, by a program of the prover's own, each checked by the kernel. -/
import Derived.Test.YtkeecncgfhgnpaaWDefs
set_option linter.all false
namespace Go.Wf2
open Go Go.Wf Go.Proofs
set_option maxRecDepth 100000
set_option linter.unusedVariables false
theorem E_chunk_Copy (c : GChunk) (w : World) (K : GChunk → World → Prop) (h :
 Wf.NewK (.cells (Value.cells (.agg #[.int .i64 c.Kind, .int .u32 c.Piece.TSN, .int .u16 c.Piece.Stream, .int .u16 c.Piece.Seq, .bool c.Piece.Begin, .bool c.Piece.End, .bool c.Piece.Unordered, .slice c.Piece.Text.a c.Piece.Text.n c.Piece.Text.c, .int .u32 c.Tag, .int .i64 c.Window, .int .i64 c.Out, .int .i64 c.In, .int .u32 c.TSN, .slice c.Random.a c.Random.n c.Random.c, .slice c.Addrs.a c.Addrs.n c.Addrs.c, .slice c.Info.a c.Info.n c.Info.c, .slice c.Gaps.a c.Gaps.n c.Gaps.c, .slice c.Dups.a c.Dups.n c.Dups.c, .int .i64 c.Cause, .int .u32 c.Serial, .slice c.Ops.a c.Ops.n c.Ops.c, .bool c.OK])) 133) w fun b w1 =>
 Wf.NewK (.cells z133 133) w1 fun b2 w2 =>
 ∃ (G : World → Prop), Wf.GOk w2 G ∧
 Wf.gLd ti52 (Wf.Th.from w2 G) ((((bx b)).add 1).add 6) fun (v : Sl) =>
 Wf.gLd ti52 (Wf.Th.from w2 G) (((bx b)).add 13) fun (v2 : Sl) =>
 Wf.gLd ti52 (Wf.Th.from w2 G) (((bx b)).add 15) fun (v3 : Sl) =>
 Wf.gEnd (Wf.Th.from w2 G) fun w3 =>
 C_slices_Clone_byte v w3 fun (v4 : Sl) w4 =>
 G w4 ∧
 C_slices_Clone_byte v2 w4 fun (v5 : Sl) w5 =>
 G w5 ∧
 C_slices_Clone_byte v3 w5 fun (v6 : Sl) w6 =>
 Wf.StoreK ((((bx b)).add 1).add 6) [.slice v4.a v4.n v4.c] w6 fun w7 =>
 Wf.StoreK (((bx b)).add 13) [.slice v5.a v5.n v5.c] w7 fun w8 =>
 Wf.StoreK (((bx b)).add 15) [.slice v6.a v6.n v6.c] w8 fun w9 =>
 ∃ (G2 : World → Prop), Wf.GOk w9 G2 ∧
 Wf.gLd ti27 (Wf.Th.from w9 G2) (((bx b)).add 14) fun (v7 : Sl) =>
 Wf.gLd ti129 (Wf.Th.from w9 G2) (((bx b)).add 16) fun (v8 : Sl) =>
 Wf.gLd ti130 (Wf.Th.from w9 G2) (((bx b)).add 17) fun (v9 : Sl) =>
 Wf.gLd ti131 (Wf.Th.from w9 G2) (((bx b)).add 20) fun (v10 : Sl) =>
 Wf.gEnd (Wf.Th.from w9 G2) fun w10 =>
 C_slices_Clone_Addr v7 w10 fun (v11 : Sl) w11 =>
 G2 w11 ∧
 C_slices_Clone_Gap v8 w11 fun (v12 : Sl) w12 =>
 G2 w12 ∧
 C_slices_Clone_uint32 v9 w12 fun (v13 : Sl) w13 =>
 G2 w13 ∧
 C_slices_Clone_Op v10 w13 fun (v14 : Sl) w14 =>
 Wf.StoreK (((bx b)).add 14) [.slice v11.a v11.n v11.c] w14 fun w15 =>
 Wf.StoreK (((bx b)).add 16) [.slice v12.a v12.n v12.c] w15 fun w16 =>
 Wf.StoreK (((bx b)).add 17) [.slice v13.a v13.n v13.c] w16 fun w17 =>
 Wf.StoreK (((bx b)).add 20) [.slice v14.a v14.n v14.c] w17 fun w18 =>
 Wf.ldK ti133 w18 (bx b) fun (v15 : GChunk) =>
 Wf.StoreK (bx b2) [.int .i64 v15.Kind, .int .u32 v15.Piece.TSN, .int .u16 v15.Piece.Stream, .int .u16 v15.Piece.Seq, .bool v15.Piece.Begin, .bool v15.Piece.End, .bool v15.Piece.Unordered, .slice v15.Piece.Text.a v15.Piece.Text.n v15.Piece.Text.c, .int .u32 v15.Tag, .int .i64 v15.Window, .int .i64 v15.Out, .int .i64 v15.In, .int .u32 v15.TSN, .slice v15.Random.a v15.Random.n v15.Random.c, .slice v15.Addrs.a v15.Addrs.n v15.Addrs.c, .slice v15.Info.a v15.Info.n v15.Info.c, .slice v15.Gaps.a v15.Gaps.n v15.Gaps.c, .slice v15.Dups.a v15.Dups.n v15.Dups.c, .int .i64 v15.Cause, .int .u32 v15.Serial, .slice v15.Ops.a v15.Ops.n v15.Ops.c, .bool v15.OK] w18 fun w19 =>
 Wf.ldK ti133 w19 (bx b2) fun (res : GChunk) =>
 K res w19) : C_chunk_Copy c w K :=
  Wf.enterC tok [⟨[], [0, 1, 2, 4, 5, 7, 8], [3, 10, 11, 6, 9, 12, 13, 14, 15, 16]⟩, ⟨[], [0, 1, 3, 4, 6, 7, 9, 10], [2, 12, 5, 8, 11, 13, 14, 15, 16, 17, 18, 19]⟩] [1, 2, 3, 4, 5, 6, 7, 8, 9, 10, 11, 12, 13, 14, 15, 16, 17, 18, 19, 20, 21, 22, 23, 24, 25, 26, 27, 28, 29, 30, 31, 32, 33] Try.func127 (by kernel_rfl) (by kernel_rfl) (Eq.mp (by kernel_rfl) h)

theorem E_frag_Cut (m : GMessage) (s : GStart) (w : World) (K : (Sl × Value) → World → Prop) (h :
 Wf.NewK (.cells (Value.cells (.agg #[.int .i64 m.Stream, .bool m.Unordered, .slice m.Text.a m.Text.n m.Text.c])) 54) w fun b w1 =>
 Wf.NewK (.cells (Value.cells (.agg #[.int .u32 s.TSN, .int .u16 s.Seq, .int .i64 s.Size])) 47) w1 fun b2 w2 =>
 Wf.ldK ti54 w2 (bx b) fun (v : GMessage) =>
 C_frag_Good v w2 fun (v2 : Bool) w3 =>
 Wf.ifK (!v2)
(K ((⟨none, 0, 0⟩ : Sl), (Value.iface 101 (.int .i64 2))) w3)
(Wf.ldK ti3 w3 (((bx b2)).add 2) fun (v3 : Int) =>
 C_frag_within v3 1 64 w3 fun (v4 : Bool) w4 =>
 Wf.ifK (!v4)
(K ((⟨none, 0, 0⟩ : Sl), (Value.iface 101 (.int .i64 1))) w4)
(Wf.ldK ti23 w4 (((bx b2)).add 0) fun (v5 : Int) =>
 Wf.ldK ti3 w4 (((bx b)).add 0) fun (v6 : Int) =>
 Wf.ldK ti45 w4 (((bx b2)).add 1) fun (v7 : Int) =>
 Wf.ldK ti4 w4 (((bx b)).add 1) fun (v8 : Bool) =>
 Wf.NewK (.cells z60 60) w4 fun b3 w5 =>
 Wf.StoreK (bx b3) [.int .u32 v5, .int .u16 (IntKind.u16.wrap v6), .int .u16 v7, .bool false, .bool false, .bool v8, .slice none 0 0] w5 fun w6 =>
 Wf.ldK ti4 w6 (((bx b)).add 1) fun (v9 : Bool) =>
 Wf.ifK v9
(Wf.StoreK (((bx b3)).add 2) [.int .u16 0] w6 fun w7 =>
 Wf.NewK (.cells z51 51) w7 fun b4 w8 =>
 Wf.ldK ti52 w8 (((bx b)).add 2) fun (v10 : Sl) =>
 Wf.ldK ti3 w8 (((bx b2)).add 2) fun (v11 : Int) =>
 C_slices_Chunk_byte v10 v11 w8 fun (v12 : Clo) w9 =>
 Wf.rangeX w9 (fun l rec => ∀ (w10 : World) (ky : Value → World → Prop), ∀ (x1 : Sl), w10.heap[l]? = some (rec .ready none) → (Wf.roundX l rec w10 fun w12 =>
 Wf.ldK ti60 w12 (bx b3) fun (v13 : GPiece) =>
 Wf.NewK (.cells z60 60) w12 fun b5 w15 =>
 Wf.StoreK (bx b5) [.int .u32 v13.TSN, .int .u16 v13.Stream, .int .u16 v13.Seq, .bool v13.Begin, .bool v13.End, .bool v13.Unordered, .slice v13.Text.a v13.Text.n v13.Text.c] w15 fun w16 =>
 Wf.ldK ti23 w16 (((bx b2)).add 0) fun (v14 : Int) =>
 Wf.ldK ti51 w16 (bx b4) fun (v15 : Sl) =>
 C_serial_Step_uint32 v14 (v15.n : Int) w16 fun (v16 : Int) w17 =>
 C_slices_Clone_byte x1 w17 fun (v17 : Sl) w18 =>
 Wf.StoreK (((bx b5)).add 0) [.int .u32 v16] w18 fun w19 =>
 Wf.StoreK (((bx b5)).add 6) [.slice v17.a v17.n v17.c] w19 fun w20 =>
 Wf.ldK ti51 w20 (bx b4) fun (v18 : Sl) =>
 Wf.ldK ti60 w20 (bx b5) fun (v19 : GPiece) =>
 Wf.NewK (.cells #[.int .u32 v19.TSN, .int .u16 v19.Stream, .int .u16 v19.Seq, .bool v19.Begin, .bool v19.End, .bool v19.Unordered, .slice v19.Text.a v19.Text.n v19.Text.c] 60) w20 fun b6 w21 =>
 Wf.runT Try.prog ti51 (Builtin.append_ #[51, 51] 51 #[.slice v18.a v18.n v18.c, .slice (⟨some (bx b6), 1, 1⟩ : Sl).a (⟨some (bx b6), 1, 1⟩ : Sl).n (⟨some (bx b6), 1, 1⟩ : Sl).c]) w21 fun (v20 : Sl) w22 =>
 Wf.StoreK (bx b4) [.slice v20.a v20.n v20.c] w22 fun w23 =>
 Wf.roundE l rec ky .normal w23) → Wf.yieldK Try.prog l [.slice x1.a x1.n x1.c] w10 ky) fun l rec w11 =>
 Wf.iterK Try.prog TT (.func v12.g v12.first v12.cap) (.func (.yield l) #[] #[]) w11 fun w13 =>
(Wf.endX l rec .ready none w13 fun w14 =>
 ∃ (G : World → Prop), Wf.GOk w14 G ∧
 Wf.gLd ti51 (Wf.Th.from w14 G) (bx b4) fun (v21 : Sl) =>
 Wf.gLd ti51 (Wf.Th.from w14 G) (bx b4) fun (v22 : Sl) =>
 Wf.gLd ti51 (Wf.Th.from w14 G) (bx b4) fun (v23 : Sl) =>
 Wf.idxK v21.a v21.n 0 7 fun (a : Addr) =>
 Wf.gEnd (Wf.Th.from w14 G) fun w24 =>
 Wf.StoreK (a.add 3) [.bool true] w24 fun w25 =>
 G w25 ∧
 Wf.idxK v22.a v22.n (IntKind.i64.wrap ((v23.n : Int) - 1)) 7 fun (a2 : Addr) =>
 Wf.StoreK (a2.add 4) [.bool true] w25 fun w26 =>
 Wf.ldK ti51 w26 (bx b4) fun (v24 : Sl) =>
 Wf.markX w9.heap.size w26 fun w27 =>
 K (v24, Value.nilIface) w27) ∨
(Wf.endX l rec .done (some .ret) w13 fun w14 =>
 Wf.markX w9.heap.size w14 fun w28 =>
 K ((⟨none, 0, 0⟩ : Sl), Value.nilIface) w28) ∨ False)
(Wf.NewK (.cells z51 51) w6 fun b7 w29 =>
 Wf.ldK ti52 w29 (((bx b)).add 2) fun (v25 : Sl) =>
 Wf.ldK ti3 w29 (((bx b2)).add 2) fun (v26 : Int) =>
 C_slices_Chunk_byte v25 v26 w29 fun (v27 : Clo) w30 =>
 Wf.rangeX w30 (fun l2 rec2 => ∀ (w31 : World) (ky2 : Value → World → Prop), ∀ (x2 : Sl), w31.heap[l2]? = some (rec2 .ready none) → (Wf.roundX l2 rec2 w31 fun w33 =>
 Wf.ldK ti60 w33 (bx b3) fun (v28 : GPiece) =>
 Wf.NewK (.cells z60 60) w33 fun b8 w36 =>
 Wf.StoreK (bx b8) [.int .u32 v28.TSN, .int .u16 v28.Stream, .int .u16 v28.Seq, .bool v28.Begin, .bool v28.End, .bool v28.Unordered, .slice v28.Text.a v28.Text.n v28.Text.c] w36 fun w37 =>
 Wf.ldK ti23 w37 (((bx b2)).add 0) fun (v29 : Int) =>
 Wf.ldK ti51 w37 (bx b7) fun (v30 : Sl) =>
 C_serial_Step_uint32 v29 (v30.n : Int) w37 fun (v31 : Int) w38 =>
 C_slices_Clone_byte x2 w38 fun (v32 : Sl) w39 =>
 Wf.StoreK (((bx b8)).add 0) [.int .u32 v31] w39 fun w40 =>
 Wf.StoreK (((bx b8)).add 6) [.slice v32.a v32.n v32.c] w40 fun w41 =>
 Wf.ldK ti51 w41 (bx b7) fun (v33 : Sl) =>
 Wf.ldK ti60 w41 (bx b8) fun (v34 : GPiece) =>
 Wf.NewK (.cells #[.int .u32 v34.TSN, .int .u16 v34.Stream, .int .u16 v34.Seq, .bool v34.Begin, .bool v34.End, .bool v34.Unordered, .slice v34.Text.a v34.Text.n v34.Text.c] 60) w41 fun b9 w42 =>
 Wf.runT Try.prog ti51 (Builtin.append_ #[51, 51] 51 #[.slice v33.a v33.n v33.c, .slice (⟨some (bx b9), 1, 1⟩ : Sl).a (⟨some (bx b9), 1, 1⟩ : Sl).n (⟨some (bx b9), 1, 1⟩ : Sl).c]) w42 fun (v35 : Sl) w43 =>
 Wf.StoreK (bx b7) [.slice v35.a v35.n v35.c] w43 fun w44 =>
 Wf.roundE l2 rec2 ky2 .normal w44) → Wf.yieldK Try.prog l2 [.slice x2.a x2.n x2.c] w31 ky2) fun l2 rec2 w32 =>
 Wf.iterK Try.prog TT (.func v27.g v27.first v27.cap) (.func (.yield l2) #[] #[]) w32 fun w34 =>
(Wf.endX l2 rec2 .ready none w34 fun w35 =>
 ∃ (G2 : World → Prop), Wf.GOk w35 G2 ∧
 Wf.gLd ti51 (Wf.Th.from w35 G2) (bx b7) fun (v36 : Sl) =>
 Wf.gLd ti51 (Wf.Th.from w35 G2) (bx b7) fun (v37 : Sl) =>
 Wf.gLd ti51 (Wf.Th.from w35 G2) (bx b7) fun (v38 : Sl) =>
 Wf.idxK v36.a v36.n 0 7 fun (a3 : Addr) =>
 Wf.gEnd (Wf.Th.from w35 G2) fun w45 =>
 Wf.StoreK (a3.add 3) [.bool true] w45 fun w46 =>
 G2 w46 ∧
 Wf.idxK v37.a v37.n (IntKind.i64.wrap ((v38.n : Int) - 1)) 7 fun (a4 : Addr) =>
 Wf.StoreK (a4.add 4) [.bool true] w46 fun w47 =>
 Wf.ldK ti51 w47 (bx b7) fun (v39 : Sl) =>
 Wf.markX w30.heap.size w47 fun w48 =>
 K (v39, Value.nilIface) w48) ∨
(Wf.endX l2 rec2 .done (some .ret) w34 fun w35 =>
 Wf.markX w30.heap.size w35 fun w49 =>
 K ((⟨none, 0, 0⟩ : Sl), Value.nilIface) w49) ∨ False)))) : C_frag_Cut m s w K :=
  Wf.enterC tok [⟨[(39, 52)], [], []⟩, ⟨[], [0, 1, 2, 3, 4, 5, 6], [7, 8, 9, 10]⟩] [2, 3, 4, 5, 6, 7, 8, 9, 10, 11, 12, 13, 14, 15, 16, 17, 18, 19, 20, 21, 22, 23, 24, 25, 26, 27, 28, 29, 30, 31, 32, 33, 34, 35, 36, 37, 38, 40, 41, 42, 43, 44, 45, 46, 47, 48, 49, 50, 51, 52, 53, 54, 55, 56, 57, 58, 59, 60, 61, 62, 63] Try.func23 (by kernel_rfl) (by kernel_rfl) (Eq.mp (by kernel_rfl) h)

theorem E_frag_Good (m : GMessage) (w : World) (K : Bool → World → Prop) (h :
 Wf.NewK (.cells (Value.cells (.agg #[.int .i64 m.Stream, .bool m.Unordered, .slice m.Text.a m.Text.n m.Text.c])) 54) w fun b w1 =>
 Wf.ldK ti3 w1 (((bx b)).add 0) fun (v : Int) =>
 C_frag_within v 0 7 w1 fun (v2 : Bool) w2 =>
 Wf.ifK v2
(Wf.ldK ti52 w2 (((bx b)).add 2) fun (v3 : Sl) =>
 C_frag_within (v3.n : Int) 1 400 w2 fun (v4 : Bool) w3 =>
 K v4 w3)
(K false w2)) : C_frag_Good m w K :=
  Wf.enterC tok [] [1, 2, 3, 4, 5, 6, 7, 8, 9, 10, 11] Try.func70 (by kernel_rfl) (by kernel_rfl) (Eq.mp (by kernel_rfl) h)

theorem E_frag_Whole (list : Sl) (w : World) (K : (GMessage × Value) → World → Prop) (h :
 Wf.NewK (.cells z54 54) w fun b w1 =>
 C_frag_joined list w1 fun (v : Bool) w2 =>
 Wf.ifK (!v)
(Wf.StoreK (bx b) [.int .i64 0, .bool false, .slice none 0 0] w2 fun w3 =>
 Wf.ldK ti54 w3 (bx b) fun (res : GMessage) =>
 K (res, (Value.iface 101 (.int .i64 2))) w3)
(∃ (G : World → Prop), Wf.GOk w2 G ∧
 Wf.idxK list.a list.n 0 7 fun (a : Addr) =>
 Wf.gLd ti45 (Wf.Th.from w2 G) (a.add 1) fun (v2 : Int) =>
 Wf.idxK list.a list.n 0 7 fun (a2 : Addr) =>
 Wf.gLd ti4 (Wf.Th.from w2 G) (a2.add 5) fun (v3 : Bool) =>
 Wf.gEnd (Wf.Th.from w2 G) fun w4 =>
 Wf.NewK (.cells z54 54) w4 fun b2 w5 =>
 G w5 ∧
 Wf.StoreK (bx b2) [.int .i64 (IntKind.i64.wrap v2), .bool v3, .slice none 0 0] w5 fun w6 =>
 Wf.loopP (X := Int × Unit) (0, ()) w6 fun next s _ w7 =>
 Wf.ifK (decide ((s.1 : Int) < (list.n : Int)))
(Wf.idxK list.a list.n s.1 7 fun (a3 : Addr) =>
 Wf.ldK ti60 w7 a3 fun (v4 : GPiece) =>
 Wf.NewK (.cells z60 60) w7 fun b3 w8 =>
 Wf.StoreK (bx b3) [.int .u32 v4.TSN, .int .u16 v4.Stream, .int .u16 v4.Seq, .bool v4.Begin, .bool v4.End, .bool v4.Unordered, .slice v4.Text.a v4.Text.n v4.Text.c] w8 fun w9 =>
 Wf.ldK ti52 w9 (((bx b2)).add 2) fun (v5 : Sl) =>
 Wf.ldK ti52 w9 (((bx b3)).add 6) fun (v6 : Sl) =>
 Wf.runT Try.prog ti52 (Builtin.append_ #[52, 52] 52 #[.slice v5.a v5.n v5.c, .slice v6.a v6.n v6.c]) w9 fun (v7 : Sl) w10 =>
 Wf.StoreK (((bx b2)).add 2) [.slice v7.a v7.n v7.c] w10 fun w11 =>
 next (IntKind.i64.wrap (s.1 + 1), ()) w11)
(Wf.ldK ti54 w7 (bx b2) fun (v8 : GMessage) =>
 C_frag_Good v8 w7 fun (v9 : Bool) w12 =>
 Wf.ifK (!v9)
(Wf.StoreK (bx b) [.int .i64 0, .bool false, .slice none 0 0] w12 fun w13 =>
 Wf.ldK ti54 w13 (bx b) fun (res2 : GMessage) =>
 K (res2, (Value.iface 101 (.int .i64 2))) w13)
(Wf.ldK ti54 w12 (bx b2) fun (v10 : GMessage) =>
 Wf.StoreK (bx b) [.int .i64 v10.Stream, .bool v10.Unordered, .slice v10.Text.a v10.Text.n v10.Text.c] w12 fun w14 =>
 Wf.ldK ti54 w14 (bx b) fun (res3 : GMessage) =>
 K (res3, Value.nilIface) w14)))) : C_frag_Whole list w K :=
  Wf.enterC tok [⟨[], [0, 1, 2, 3, 4, 5, 6, 7, 8, 9], [10, 11]⟩, ⟨[(24, 3)], [6, 24, 25, 26, 27, 28, 29, 30, 31, 32, 33, 34], []⟩] [2, 3, 4, 6, 7, 8, 9, 10, 11, 12, 13, 14, 15, 16, 17, 18, 19, 20, 21, 22, 23, 24, 25, 26, 27, 28, 29, 30, 31, 32, 33, 34, 35, 36, 37, 38, 39, 40] Try.func80 (by kernel_rfl) (by kernel_rfl) (Eq.mp (by kernel_rfl) h)

theorem E_frag_follows (p : GPiece) (before : GPiece) (w : World) (K : Bool → World → Prop) (h :
 Wf.NewK (.cells (Value.cells (.agg #[.int .u32 p.TSN, .int .u16 p.Stream, .int .u16 p.Seq, .bool p.Begin, .bool p.End, .bool p.Unordered, .slice p.Text.a p.Text.n p.Text.c])) 60) w fun b w1 =>
 Wf.NewK (.cells (Value.cells (.agg #[.int .u32 before.TSN, .int .u16 before.Stream, .int .u16 before.Seq, .bool before.Begin, .bool before.End, .bool before.Unordered, .slice before.Text.a before.Text.n before.Text.c])) 60) w1 fun b2 w2 =>
 Wf.gLd ti23 (Wf.Th.start w2) (((bx b)).add 0) fun (v : Int) =>
 Wf.gLd ti23 (Wf.Th.start w2) (((bx b2)).add 0) fun (v2 : Int) =>
 Wf.gEff (Wf.Th.start w2) (fun W K => C_serial_Step_uint32 v2 1 W K) fun (v3 : Int) N th =>
 Wf.ifK ((v : Int) == v3)
(Wf.gLd ti45 th (((bx b)).add 1) fun (v4 : Int) =>
 Wf.gLd ti45 th (((bx b2)).add 1) fun (v5 : Int) =>
 Wf.ifK ((v4 : Int) == v5)
(Wf.gLd ti45 th (((bx b)).add 2) fun (v6 : Int) =>
 Wf.gLd ti45 th (((bx b2)).add 2) fun (v7 : Int) =>
 Wf.ifK ((v6 : Int) == v7)
(Wf.gLd ti4 th (((bx b)).add 5) fun (v8 : Bool) =>
 Wf.gLd ti4 th (((bx b2)).add 5) fun (v9 : Bool) =>
 Wf.gEnd th fun w4 =>
 K (v8 == v9) w4)
(Wf.gEnd th fun w5 =>
 K false w5))
(Wf.gEnd th fun w6 =>
 K false w6))
(Wf.gEnd th fun w7 =>
 K false w7)) : C_frag_follows p before w K :=
  Wf.enterC tok [⟨[], [0, 1, 2, 3, 4, 5, 6, 7, 8, 9, 10, 11, 12, 13, 14, 15, 16, 17, 18, 19, 20, 21, 22, 23, 24, 25, 26, 27], []⟩] [2, 3, 4, 5, 6, 7, 8, 9, 10, 11, 12, 13, 14, 15, 16, 17, 18, 19, 20, 21, 22, 23, 24, 25, 26, 27, 28, 29, 30, 31] Try.func165 (by kernel_rfl) (by kernel_rfl) (Eq.mp (by kernel_rfl) h)

theorem E_frag_joined (list : Sl) (w : World) (K : Bool → World → Prop) (h :
 Wf.loopP (X := Int × Unit) (0, ()) w fun next s _ w1 =>
 Wf.ifK (decide ((s.1 : Int) < (list.n : Int)))
(Wf.idxK list.a list.n s.1 7 fun (a : Addr) =>
 Wf.ldK ti60 w1 a fun (v : GPiece) =>
 Wf.NewK (.cells z60 60) w1 fun b w2 =>
 Wf.StoreK (bx b) [.int .u32 v.TSN, .int .u16 v.Stream, .int .u16 v.Seq, .bool v.Begin, .bool v.End, .bool v.Unordered, .slice v.Text.a v.Text.n v.Text.c] w2 fun w3 =>
 Wf.gLd ti4 (Wf.Th.start w3) (((bx b)).add 3) fun (v2 : Bool) =>
 Wf.ifK (!(v2 == ((s.1 : Int) == 0)))
(Wf.gEnd (Wf.Th.start w3) fun w4 =>
 K false w4)
(Wf.gLd ti4 (Wf.Th.start w3) (((bx b)).add 4) fun (v3 : Bool) =>
 Wf.ifK (!(v3 == ((s.1 : Int) == (IntKind.i64.wrap ((list.n : Int) - 1)))))
(Wf.gEnd (Wf.Th.start w3) fun w5 =>
 K false w5)
(Wf.gLd ti52 (Wf.Th.start w3) (((bx b)).add 6) fun (v4 : Sl) =>
 Wf.gEff (Wf.Th.start w3) (fun W K => C_frag_within (v4.n : Int) 1 64 W K) fun (v5 : Bool) N th =>
 Wf.ifK (!v5)
(Wf.gEnd th fun w7 =>
 K false w7)
(Wf.ifK (decide ((s.1 : Int) > 0))
(Wf.gLd ti60 th (bx b) fun (v6 : GPiece) =>
 Wf.idxK list.a list.n (IntKind.i64.wrap (s.1 - 1)) 7 fun (a2 : Addr) =>
 Wf.gLd ti60 th a2 fun (v7 : GPiece) =>
 Wf.gEnd th fun w8 =>
 C_frag_follows v6 v7 w8 fun (v8 : Bool) w9 =>
 Wf.ifK (!v8)
(K false w9)
(next (IntKind.i64.wrap (s.1 + 1), ()) w9))
(Wf.gEnd th fun w10 =>
 next (IntKind.i64.wrap (s.1 + 1), ()) w10)))))
(K (decide (((list.n : Int) : Int) > 0)) w1)) : C_frag_joined list w K :=
  Wf.enterC tok [⟨[(7, 3)], [2, 3, 4, 7, 8, 9, 10, 11, 12, 13, 14, 15, 16, 17, 18, 19, 20, 21, 22, 23, 24, 25, 26, 27, 28, 29, 30, 31, 32, 33, 34, 35, 36, 37, 38, 39, 40, 41, 42, 43, 44, 45, 46, 47, 48], []⟩, ⟨[], [0, 1, 2, 3, 4, 5, 6, 7, 8, 9, 10, 11, 12, 13, 14, 15, 16, 17, 18, 19, 20, 21, 22, 23, 24, 25, 26, 27, 28, 29, 30, 31], [32, 33, 34, 35]⟩] [2, 3, 4, 5, 6, 7, 8, 9, 10, 11, 12, 13, 14, 15, 16, 17, 18, 19, 20, 21, 22, 23, 24, 25, 26, 27, 28, 29, 30, 31, 32, 33, 34, 35, 36, 37, 38, 39, 40, 41, 42, 43, 44, 45, 46, 47, 48, 49, 50, 51] Try.func134 (by kernel_rfl) (by kernel_rfl) (Eq.mp (by kernel_rfl) h)

theorem E_frag_within (n : Int) (from1 : Int) (to1 : Int) (w : World) (K : Bool → World → Prop) (h :
 Wf.ifK (decide ((n : Int) ≥ from1))
(K (decide ((n : Int) ≤ to1)) w)
(K false w)) : C_frag_within n from1 to1 w K :=
  Wf.enterC tok [] [6, 7, 8, 9, 10, 11, 12, 13, 14] Try.func71 (by kernel_rfl) (by kernel_rfl) (Eq.mp (by kernel_rfl) h)

theorem E_packet_Copy (p : GPacket) (w : World) (K : GPacket → World → Prop) (h :
 Wf.NewK (.cells (Value.cells (.agg #[.int .i64 p.From, .int .i64 p.To, .int .u32 p.Tag, .slice p.Chunks.a p.Chunks.n p.Chunks.c])) 34) w fun b w1 =>
 Wf.NewK (.cells z34 34) w1 fun b2 w2 =>
 Wf.ldK ti32 w2 (((bx b)).add 3) fun (v : Sl) =>
 Wf.loopP (X := Sl × Int × Unit) ((⟨none, 0, 0⟩ : Sl), 0, ()) w2 fun next s _ w3 =>
 Wf.ifK (decide ((s.2.1 : Int) < (v.n : Int)))
(Wf.idxK v.a v.n s.2.1 22 fun (a : Addr) =>
 Wf.ldK ti133 w3 a fun (v2 : GChunk) =>
 Wf.NewK (.cells z133 133) w3 fun b3 w4 =>
 Wf.StoreK (bx b3) [.int .i64 v2.Kind, .int .u32 v2.Piece.TSN, .int .u16 v2.Piece.Stream, .int .u16 v2.Piece.Seq, .bool v2.Piece.Begin, .bool v2.Piece.End, .bool v2.Piece.Unordered, .slice v2.Piece.Text.a v2.Piece.Text.n v2.Piece.Text.c, .int .u32 v2.Tag, .int .i64 v2.Window, .int .i64 v2.Out, .int .i64 v2.In, .int .u32 v2.TSN, .slice v2.Random.a v2.Random.n v2.Random.c, .slice v2.Addrs.a v2.Addrs.n v2.Addrs.c, .slice v2.Info.a v2.Info.n v2.Info.c, .slice v2.Gaps.a v2.Gaps.n v2.Gaps.c, .slice v2.Dups.a v2.Dups.n v2.Dups.c, .int .i64 v2.Cause, .int .u32 v2.Serial, .slice v2.Ops.a v2.Ops.n v2.Ops.c, .bool v2.OK] w4 fun w5 =>
 Wf.ldK ti133 w5 (bx b3) fun (v3 : GChunk) =>
 C_chunk_Copy v3 w5 fun (v4 : GChunk) w6 =>
 Wf.NewK (.cells #[.int .i64 v4.Kind, .int .u32 v4.Piece.TSN, .int .u16 v4.Piece.Stream, .int .u16 v4.Piece.Seq, .bool v4.Piece.Begin, .bool v4.Piece.End, .bool v4.Piece.Unordered, .slice v4.Piece.Text.a v4.Piece.Text.n v4.Piece.Text.c, .int .u32 v4.Tag, .int .i64 v4.Window, .int .i64 v4.Out, .int .i64 v4.In, .int .u32 v4.TSN, .slice v4.Random.a v4.Random.n v4.Random.c, .slice v4.Addrs.a v4.Addrs.n v4.Addrs.c, .slice v4.Info.a v4.Info.n v4.Info.c, .slice v4.Gaps.a v4.Gaps.n v4.Gaps.c, .slice v4.Dups.a v4.Dups.n v4.Dups.c, .int .i64 v4.Cause, .int .u32 v4.Serial, .slice v4.Ops.a v4.Ops.n v4.Ops.c, .bool v4.OK] 133) w6 fun b4 w7 =>
 Wf.runT Try.prog ti32 (Builtin.append_ #[32, 32] 32 #[.slice s.1.a s.1.n s.1.c, .slice (⟨some (bx b4), 1, 1⟩ : Sl).a (⟨some (bx b4), 1, 1⟩ : Sl).n (⟨some (bx b4), 1, 1⟩ : Sl).c]) w7 fun (v5 : Sl) w8 =>
 next (v5, IntKind.i64.wrap (s.2.1 + 1), ()) w8)
(Wf.StoreK (((bx b)).add 3) [.slice s.1.a s.1.n s.1.c] w3 fun w9 =>
 Wf.ldK ti34 w9 (bx b) fun (v6 : GPacket) =>
 Wf.StoreK (bx b2) [.int .i64 v6.From, .int .i64 v6.To, .int .u32 v6.Tag, .slice v6.Chunks.a v6.Chunks.n v6.Chunks.c] w9 fun w10 =>
 Wf.ldK ti34 w10 (bx b2) fun (res : GPacket) =>
 K res w10)) : C_packet_Copy p w K :=
  Wf.enterC tok [⟨[(3, 32), (9, 3)], [3, 5, 9, 10, 11, 12, 13, 14, 15, 16, 17, 18], []⟩] [1, 2, 3, 5, 6, 7, 8, 9, 10, 11, 12, 13, 14, 15, 16, 17, 18, 19, 20, 21] Try.func66 (by kernel_rfl) (by kernel_rfl) (Eq.mp (by kernel_rfl) h)

theorem E_reasm_Bench_Has (b : (Option Addr)) (tsn : Int) (w : World) (K : Bool → World → Prop) (h :
 Wf.ifK b.isNone
(K false w)
(Wf.ptrK b fun (a : Addr) =>
 Wf.ldK ti160 w (a.add 0) fun (v : (Option Nat)) =>
 Wf.runT Try.prog ti214 (Instr.lookup 160 (.map v) (.int .u32 tsn) true) w fun (v2 : (GPiece × Bool)) w1 =>
 Wf.NewK (.cells z60 60) w1 fun b2 w2 =>
 Wf.StoreK (bx b2) [.int .u32 v2.1.TSN, .int .u16 v2.1.Stream, .int .u16 v2.1.Seq, .bool v2.1.Begin, .bool v2.1.End, .bool v2.1.Unordered, .slice v2.1.Text.a v2.1.Text.n v2.1.Text.c] w2 fun w3 =>
 K v2.2 w3)) : C_reasm_Bench_Has b tsn w K :=
  Wf.enterC tok [] [4, 5, 6, 7, 8, 9, 10, 11, 12, 13, 14, 15, 16, 17, 18] Try.func52 (by kernel_rfl) (by kernel_rfl) (Eq.mp (by kernel_rfl) h)

theorem E_reasm_Bench_Held (b : (Option Addr)) (w : World) (K : Int → World → Prop) (h :
 Wf.ifK b.isNone
(K 0 w)
(Wf.ptrK b fun (a : Addr) =>
 Wf.ldK ti3 w (a.add 1) fun (v : Int) =>
 K v w)) : C_reasm_Bench_Held b w K :=
  Wf.enterC tok [] [2, 3, 4, 5, 6, 7, 8] Try.func28 (by kernel_rfl) (by kernel_rfl) (Eq.mp (by kernel_rfl) h)

theorem E_reasm_Bench_Len (b : (Option Addr)) (w : World) (K : Int → World → Prop) (h :
 Wf.ifK b.isNone
(K 0 w)
(Wf.ptrK b fun (a : Addr) =>
 Wf.ldK ti160 w (a.add 0) fun (v : (Option Nat)) =>
 Wf.runT Try.prog ti3 (Builtin.len_ #[160] 3 #[.map v]) w fun (v2 : Int) w1 =>
 K v2 w1)) : C_reasm_Bench_Len b w K :=
  Wf.enterC tok [] [2, 3, 4, 5, 6, 7, 8, 9] Try.func27 (by kernel_rfl) (by kernel_rfl) (Eq.mp (by kernel_rfl) h)

theorem E_reasm_Bench_Put (b : (Option Addr)) (p : GPiece) (w : World) (K : (GDone × Bool × Value) → World → Prop) (h :
 Wf.NewK (.cells (Value.cells (.agg #[.int .u32 p.TSN, .int .u16 p.Stream, .int .u16 p.Seq, .bool p.Begin, .bool p.End, .bool p.Unordered, .slice p.Text.a p.Text.n p.Text.c])) 60) w fun b2 w1 =>
 Wf.NewK (.cells z65 65) w1 fun b3 w2 =>
 Wf.ldK ti60 w2 (bx b2) fun (v : GPiece) =>
 C_reasm_Bench_may b v w2 fun (v2 : Value) w3 =>
 Wf.isIfc v2 = true ∧
 Wf.ifK (!(Wf.isNilV v2))
(Wf.StoreK (bx b3) [.int .i64 0, .bool false, .slice none 0 0, .int .u16 0] w3 fun w4 =>
 Wf.ldK ti65 w4 (bx b3) fun (res : GDone) =>
 K (res, false, v2) w4)
(Wf.ldK ti60 w3 (bx b2) fun (v3 : GPiece) =>
 C_reasm_Bench_lay b v3 w3 fun (v4 : Unit) w5 =>
 Wf.ldK ti60 w5 (bx b2) fun (v5 : GPiece) =>
 C_reasm_Bench_part b v5 w5 fun (v6 : Sl) w6 =>
 C_reasm_closed v6 w6 fun (v7 : Bool) w7 =>
 Wf.ifK (!v7)
(Wf.StoreK (bx b3) [.int .i64 0, .bool false, .slice none 0 0, .int .u16 0] w7 fun w8 =>
 Wf.ldK ti65 w8 (bx b3) fun (res2 : GDone) =>
 K (res2, false, Value.nilIface) w8)
(C_reasm_Bench_off b v6 w7 fun (v8 : Unit) w9 =>
 C_frag_Whole v6 w9 fun (v9 : (GMessage × Value)) w10 =>
 Wf.NewK (.cells z54 54) w10 fun b4 w11 =>
 Wf.StoreK (bx b4) [.int .i64 v9.1.Stream, .bool v9.1.Unordered, .slice v9.1.Text.a v9.1.Text.n v9.1.Text.c] w11 fun w12 =>
 Wf.isIfc v9.2 = true ∧
 Wf.ifK (!(Wf.isNilV v9.2))
(Wf.StoreK (bx b3) [.int .i64 0, .bool false, .slice none 0 0, .int .u16 0] w12 fun w13 =>
 Wf.ldK ti65 w13 (bx b3) fun (res3 : GDone) =>
 K (res3, false, v9.2) w13)
(Wf.gLd ti54 (Wf.Th.start w12) (bx b4) fun (v10 : GMessage) =>
 Wf.idxK v6.a v6.n 0 7 fun (a : Addr) =>
 Wf.gLd ti45 (Wf.Th.start w12) (a.add 2) fun (v11 : Int) =>
 Wf.gEnd (Wf.Th.start w12) fun w14 =>
 Wf.StoreK (bx b3) [.int .i64 v10.Stream, .bool v10.Unordered, .slice v10.Text.a v10.Text.n v10.Text.c, .int .u16 v11] w14 fun w15 =>
 Wf.ldK ti65 w15 (bx b3) fun (res4 : GDone) =>
 K (res4, true, Value.nilIface) w15)))) : C_reasm_Bench_Put b p w K :=
  Wf.enterC tok [⟨[], [0, 1, 2, 3, 4, 5], [6, 7, 8]⟩] [3, 4, 5, 6, 7, 8, 9, 10, 11, 12, 13, 14, 15, 16, 17, 18, 19, 20, 21, 22, 23, 24, 25, 26, 27, 28, 29, 30, 31, 32, 33, 34, 35, 36, 37, 38, 39, 40, 41, 42, 43, 44, 45] Try.func25 (by kernel_rfl) (by kernel_rfl) (Eq.mp (by kernel_rfl) h)

theorem E_reasm_Bench_lay (b : (Option Addr)) (p : GPiece) (w : World) (K : Unit → World → Prop) (h :
 Wf.NewK (.cells (Value.cells (.agg #[.int .u32 p.TSN, .int .u16 p.Stream, .int .u16 p.Seq, .bool p.Begin, .bool p.End, .bool p.Unordered, .slice p.Text.a p.Text.n p.Text.c])) 60) w fun b2 w1 =>
 ∃ (G : World → Prop), Wf.GOk w1 G ∧
 Wf.ptrK b fun (a : Addr) =>
 Wf.gLd ti160 (Wf.Th.from w1 G) (a.add 0) fun (v : (Option Nat)) =>
 Wf.gLd ti23 (Wf.Th.from w1 G) (((bx b2)).add 0) fun (v2 : Int) =>
 Wf.gLd ti60 (Wf.Th.from w1 G) (bx b2) fun (v3 : GPiece) =>
 Wf.gEnd (Wf.Th.from w1 G) fun w2 =>
 C_reasm_copied v3 w2 fun (v4 : GPiece) w3 =>
 G w3 ∧
 Wf.runU Try.prog (Instr.mapUpdate 160 (.map v) (.int .u32 v2) (.agg #[.int .u32 v4.TSN, .int .u16 v4.Stream, .int .u16 v4.Seq, .bool v4.Begin, .bool v4.End, .bool v4.Unordered, .slice v4.Text.a v4.Text.n v4.Text.c])) w3 fun w4 =>
 Wf.ptrK b fun (a2 : Addr) =>
 Wf.gLd ti3 (Wf.Th.start w4) (a2.add 1) fun (v5 : Int) =>
 Wf.gLd ti52 (Wf.Th.start w4) (((bx b2)).add 6) fun (v6 : Sl) =>
 Wf.ptrK b fun (a3 : Addr) =>
 Wf.gEnd (Wf.Th.start w4) fun w5 =>
 Wf.StoreK (a3.add 1) [.int .i64 (IntKind.i64.wrap (v5 + (v6.n : Int)))] w5 fun w6 =>
 K () w6) : C_reasm_Bench_lay b p w K :=
  Wf.enterC tok [⟨[], [0, 1, 2, 3, 4, 5, 6], [7, 8]⟩, ⟨[], [0, 1, 2, 3, 4, 5, 6, 7, 8, 9], [10]⟩] [3, 4, 5, 6, 7, 8, 9, 10, 11, 12, 13, 14, 15, 16, 17, 18, 19, 20, 21] Try.func76 (by kernel_rfl) (by kernel_rfl) (Eq.mp (by kernel_rfl) h)

theorem E_reasm_Bench_may (b : (Option Addr)) (p : GPiece) (w : World) (K : Value → World → Prop) (h :
 Wf.NewK (.cells (Value.cells (.agg #[.int .u32 p.TSN, .int .u16 p.Stream, .int .u16 p.Seq, .bool p.Begin, .bool p.End, .bool p.Unordered, .slice p.Text.a p.Text.n p.Text.c])) 60) w fun b2 w1 =>
 Wf.ifK b.isNone
(K (Value.iface 101 (.int .i64 4)) w1)
(Wf.ldK ti60 w1 (bx b2) fun (v : GPiece) =>
 C_reasm_right v w1 fun (v2 : Bool) w2 =>
 Wf.ifK (!v2)
(K (Value.iface 101 (.int .i64 2)) w2)
(Wf.ldK ti23 w2 (((bx b2)).add 0) fun (v3 : Int) =>
 C_reasm_Bench_Has b v3 w2 fun (v4 : Bool) w3 =>
 Wf.ifK v4
(K (Value.iface 101 (.int .i64 12)) w3)
(Wf.ptrK b fun (a : Addr) =>
 Wf.gLd ti3 (Wf.Th.start w3) (a.add 1) fun (v5 : Int) =>
 Wf.gLd ti52 (Wf.Th.start w3) (((bx b2)).add 6) fun (v6 : Sl) =>
 Wf.gEnd (Wf.Th.start w3) fun w4 =>
 Wf.ifK (decide ((IntKind.i64.wrap (v5 + (v6.n : Int)) : Int) > 2000))
(K (Value.iface 101 (.int .i64 3)) w4)
(K Value.nilIface w4))))) : C_reasm_Bench_may b p w K :=
  Wf.enterC tok [⟨[], [0, 1, 2, 3, 4, 5, 6, 7, 8, 9], []⟩] [3, 4, 5, 6, 7, 8, 9, 10, 11, 12, 13, 14, 15, 16, 17, 18, 19, 20, 21, 22, 23, 24, 25, 26, 27, 28, 29, 30] Try.func75 (by kernel_rfl) (by kernel_rfl) (Eq.mp (by kernel_rfl) h)

theorem E_reasm_Bench_off (b : (Option Addr)) (part : Sl) (w : World) (K : Unit → World → Prop) (h :
 Wf.loopP (X := Int × Unit) (0, ()) w fun next s _ w1 =>
 Wf.ifK (decide ((s.1 : Int) < (part.n : Int)))
(Wf.idxK part.a part.n s.1 7 fun (a : Addr) =>
 Wf.ldK ti60 w1 a fun (v : GPiece) =>
 Wf.NewK (.cells z60 60) w1 fun b2 w2 =>
 Wf.StoreK (bx b2) [.int .u32 v.TSN, .int .u16 v.Stream, .int .u16 v.Seq, .bool v.Begin, .bool v.End, .bool v.Unordered, .slice v.Text.a v.Text.n v.Text.c] w2 fun w3 =>
 Wf.ptrK b fun (a2 : Addr) =>
 Wf.gLd ti160 (Wf.Th.start w3) (a2.add 0) fun (v2 : (Option Nat)) =>
 Wf.gLd ti23 (Wf.Th.start w3) (((bx b2)).add 0) fun (v3 : Int) =>
 Wf.gEnd (Wf.Th.start w3) fun w4 =>
 Wf.runT Try.prog ti0 (Builtin.delete_ #[160, 23] 0 #[.map v2, .int .u32 v3]) w4 fun (v4 : Unit) w5 =>
 Wf.ptrK b fun (a3 : Addr) =>
 Wf.gLd ti3 (Wf.Th.start w5) (a3.add 1) fun (v5 : Int) =>
 Wf.gLd ti52 (Wf.Th.start w5) (((bx b2)).add 6) fun (v6 : Sl) =>
 Wf.ptrK b fun (a4 : Addr) =>
 Wf.gEnd (Wf.Th.start w5) fun w6 =>
 Wf.StoreK (a4.add 1) [.int .i64 (IntKind.i64.wrap (v5 - (v6.n : Int)))] w6 fun w7 =>
 next (IntKind.i64.wrap (s.1 + 1), ()) w7)
(K () w1)) : C_reasm_Bench_off b part w K :=
  Wf.enterC tok [⟨[(8, 3)], [5, 8, 9, 10, 11, 12, 13, 14, 15, 16, 17, 18, 19, 20, 21, 22, 23, 24, 25, 26, 27, 28], []⟩, ⟨[], [0, 1, 2, 3, 4, 5], [6]⟩, ⟨[], [0, 1, 2, 3, 4, 5, 6, 7, 8, 9], [10]⟩] [5, 6, 7, 8, 9, 10, 11, 12, 13, 14, 15, 16, 17, 18, 19, 20, 21, 22, 23, 24, 25, 26, 27, 28] Try.func79 (by kernel_rfl) (by kernel_rfl) (Eq.mp (by kernel_rfl) h)

theorem E_reasm_Bench_part (b : (Option Addr)) (p : GPiece) (w : World) (K : Sl → World → Prop) (h :
 Wf.NewK (.cells (Value.cells (.agg #[.int .u32 p.TSN, .int .u16 p.Stream, .int .u16 p.Seq, .bool p.Begin, .bool p.End, .bool p.Unordered, .slice p.Text.a p.Text.n p.Text.c])) 60) w fun b2 w1 =>
 Wf.ldK ti60 w1 (bx b2) fun (v : GPiece) =>
 C_reasm_Bench_start b v w1 fun (v2 : GPiece) w2 =>
 Wf.StoreK (bx b2) [.int .u32 v2.TSN, .int .u16 v2.Stream, .int .u16 v2.Seq, .bool v2.Begin, .bool v2.End, .bool v2.Unordered, .slice v2.Text.a v2.Text.n v2.Text.c] w2 fun w3 =>
 Wf.ldK ti60 w3 (bx b2) fun (v3 : GPiece) =>
 Wf.NewK (.cells #[.int .u32 v3.TSN, .int .u16 v3.Stream, .int .u16 v3.Seq, .bool v3.Begin, .bool v3.End, .bool v3.Unordered, .slice v3.Text.a v3.Text.n v3.Text.c] 60) w3 fun b3 w4 =>
 Wf.loopP (X := Sl × Unit) ((⟨some (bx b3), 1, 1⟩ : Sl), ()) w4 fun next s _ w5 =>
 Wf.ldK ti4 w5 (((bx b2)).add 4) fun (v4 : Bool) =>
 Wf.ifK (!v4)
(Wf.ptrK b fun (a : Addr) =>
 Wf.gLd ti160 (Wf.Th.start w5) (a.add 0) fun (v5 : (Option Nat)) =>
 Wf.gLd ti23 (Wf.Th.start w5) (((bx b2)).add 0) fun (v6 : Int) =>
 Wf.gEff (Wf.Th.start w5) (fun W K => C_serial_Step_uint32 v6 1 W K) fun (v7 : Int) N th =>
 Wf.gRd Try.prog ti214 th (Instr.lookup 160 (.map v5) (.int .u32 v7) true) fun (v8 : (GPiece × Bool)) =>
 Wf.gNew th (.cells z60 60) fun b4 th2 =>
 Wf.gEnd th2 fun w9 =>
 Wf.StoreK (bx b4) [.int .u32 v8.1.TSN, .int .u16 v8.1.Stream, .int .u16 v8.1.Seq, .bool v8.1.Begin, .bool v8.1.End, .bool v8.1.Unordered, .slice v8.1.Text.a v8.1.Text.n v8.1.Text.c] w9 fun w10 =>
 Wf.ifK (!v8.2)
(K s.1 w10)
(Wf.ldK ti4 w10 (((bx b4)).add 3) fun (v9 : Bool) =>
 Wf.ifK v9
(K s.1 w10)
(Wf.ldK ti60 w10 (bx b4) fun (v10 : GPiece) =>
 Wf.StoreK (bx b2) [.int .u32 v10.TSN, .int .u16 v10.Stream, .int .u16 v10.Seq, .bool v10.Begin, .bool v10.End, .bool v10.Unordered, .slice v10.Text.a v10.Text.n v10.Text.c] w10 fun w11 =>
 Wf.ldK ti60 w11 (bx b2) fun (v11 : GPiece) =>
 Wf.NewK (.cells #[.int .u32 v11.TSN, .int .u16 v11.Stream, .int .u16 v11.Seq, .bool v11.Begin, .bool v11.End, .bool v11.Unordered, .slice v11.Text.a v11.Text.n v11.Text.c] 60) w11 fun b5 w12 =>
 Wf.runT Try.prog ti51 (Builtin.append_ #[51, 51] 51 #[.slice s.1.a s.1.n s.1.c, .slice (⟨some (bx b5), 1, 1⟩ : Sl).a (⟨some (bx b5), 1, 1⟩ : Sl).n (⟨some (bx b5), 1, 1⟩ : Sl).c]) w12 fun (v12 : Sl) w13 =>
 next (v12, ()) w13)))
(K s.1 w5)) : C_reasm_Bench_part b p w K :=
  Wf.enterC tok [⟨[(5, 51)], [4, 5, 6, 7, 13, 14, 15, 16, 17, 18, 19, 20, 21, 22, 23, 24, 25, 26, 27, 28, 29, 30, 31, 32, 33, 34, 35, 36, 37, 38], []⟩, ⟨[], [0, 1, 2, 3, 4, 5, 6, 7, 8, 9, 10, 11], [12, 13]⟩] [3, 4, 5, 6, 7, 8, 9, 10, 11, 12, 13, 14, 15, 16, 17, 18, 19, 20, 21, 22, 23, 24, 25, 26, 27, 28, 29, 30, 31, 32, 33, 34, 35, 36, 37, 38, 39] Try.func77 (by kernel_rfl) (by kernel_rfl) (Eq.mp (by kernel_rfl) h)

theorem E_reasm_Bench_start (b : (Option Addr)) (p : GPiece) (w : World) (K : GPiece → World → Prop) (h :
 Wf.NewK (.cells (Value.cells (.agg #[.int .u32 p.TSN, .int .u16 p.Stream, .int .u16 p.Seq, .bool p.Begin, .bool p.End, .bool p.Unordered, .slice p.Text.a p.Text.n p.Text.c])) 60) w fun b2 w1 =>
 Wf.NewK (.cells z60 60) w1 fun b3 w2 =>
 Wf.loopP (X := Unit) () w2 fun next s _ w3 =>
 Wf.ldK ti4 w3 (((bx b2)).add 3) fun (v : Bool) =>
 Wf.ifK (!v)
(Wf.ptrK b fun (a : Addr) =>
 Wf.gLd ti160 (Wf.Th.start w3) (a.add 0) fun (v2 : (Option Nat)) =>
 Wf.gLd ti23 (Wf.Th.start w3) (((bx b2)).add 0) fun (v3 : Int) =>
 Wf.gEff (Wf.Th.start w3) (fun W K => C_serial_Step_uint32 v3 (-1) W K) fun (v4 : Int) N th =>
 Wf.gRd Try.prog ti214 th (Instr.lookup 160 (.map v2) (.int .u32 v4) true) fun (v5 : (GPiece × Bool)) =>
 Wf.gNew th (.cells z60 60) fun b4 th2 =>
 Wf.gEnd th2 fun w7 =>
 Wf.StoreK (bx b4) [.int .u32 v5.1.TSN, .int .u16 v5.1.Stream, .int .u16 v5.1.Seq, .bool v5.1.Begin, .bool v5.1.End, .bool v5.1.Unordered, .slice v5.1.Text.a v5.1.Text.n v5.1.Text.c] w7 fun w8 =>
 Wf.ifK (!v5.2)
(Wf.ldK ti60 w8 (bx b2) fun (v6 : GPiece) =>
 Wf.StoreK (bx b3) [.int .u32 v6.TSN, .int .u16 v6.Stream, .int .u16 v6.Seq, .bool v6.Begin, .bool v6.End, .bool v6.Unordered, .slice v6.Text.a v6.Text.n v6.Text.c] w8 fun w9 =>
 Wf.ldK ti60 w9 (bx b3) fun (res : GPiece) =>
 K res w9)
(Wf.ldK ti4 w8 (((bx b4)).add 4) fun (v7 : Bool) =>
 Wf.ifK v7
(Wf.ldK ti60 w8 (bx b2) fun (v8 : GPiece) =>
 Wf.StoreK (bx b3) [.int .u32 v8.TSN, .int .u16 v8.Stream, .int .u16 v8.Seq, .bool v8.Begin, .bool v8.End, .bool v8.Unordered, .slice v8.Text.a v8.Text.n v8.Text.c] w8 fun w10 =>
 Wf.ldK ti60 w10 (bx b3) fun (res2 : GPiece) =>
 K res2 w10)
(Wf.ldK ti60 w8 (bx b4) fun (v9 : GPiece) =>
 Wf.StoreK (bx b2) [.int .u32 v9.TSN, .int .u16 v9.Stream, .int .u16 v9.Seq, .bool v9.Begin, .bool v9.End, .bool v9.Unordered, .slice v9.Text.a v9.Text.n v9.Text.c] w8 fun w11 =>
 next () w11)))
(Wf.ldK ti60 w3 (bx b2) fun (v10 : GPiece) =>
 Wf.StoreK (bx b3) [.int .u32 v10.TSN, .int .u16 v10.Stream, .int .u16 v10.Seq, .bool v10.Begin, .bool v10.End, .bool v10.Unordered, .slice v10.Text.a v10.Text.n v10.Text.c] w3 fun w12 =>
 Wf.ldK ti60 w12 (bx b3) fun (res3 : GPiece) =>
 K res3 w12)) : C_reasm_Bench_start b p w K :=
  Wf.enterC tok [⟨[], [5, 6, 7, 8, 9, 10, 11, 12, 13, 14, 15, 16, 17, 18, 19, 20, 21, 22, 23, 24, 25, 26, 27, 28], []⟩, ⟨[], [0, 1, 2, 3, 4, 5, 6, 7, 8, 9, 10, 11], [12, 13]⟩] [3, 4, 5, 6, 7, 8, 9, 10, 11, 12, 13, 14, 15, 16, 17, 18, 19, 20, 21, 22, 23, 24, 25, 26, 27, 28, 29] Try.func133 (by kernel_rfl) (by kernel_rfl) (Eq.mp (by kernel_rfl) h)

theorem E_reasm_New  (w : World) (K : (Option Addr) → World → Prop) (h :
 Wf.NewK (.map #[] 0) w fun b w1 =>
 Wf.NewK (.cells (Value.cells (.agg #[.map (some b), .int .i64 0])) 162) w1 fun b2 w2 =>
 K (some (bx b2)) w2) : C_reasm_New  w K :=
  Wf.enterC tok [] [0, 1, 2, 3] Try.func24 (by kernel_rfl) (by kernel_rfl) (Eq.mp (by kernel_rfl) h)

theorem E_reasm_closed (part : Sl) (w : World) (K : Bool → World → Prop) (h :
 Wf.idxK part.a part.n 0 7 fun (a : Addr) =>
 Wf.ldK ti4 w (a.add 3) fun (v : Bool) =>
 Wf.ifK v
(Wf.idxK part.a part.n (IntKind.i64.wrap ((part.n : Int) - 1)) 7 fun (a2 : Addr) =>
 Wf.ldK ti4 w (a2.add 4) fun (v2 : Bool) =>
 K v2 w)
(K false w)) : C_reasm_closed part w K :=
  Wf.enterC tok [] [2, 3, 4, 5, 6, 7, 8, 9, 10, 11, 12, 13, 14, 15] Try.func78 (by kernel_rfl) (by kernel_rfl) (Eq.mp (by kernel_rfl) h)

theorem E_reasm_copied (p : GPiece) (w : World) (K : GPiece → World → Prop) (h :
 Wf.NewK (.cells (Value.cells (.agg #[.int .u32 p.TSN, .int .u16 p.Stream, .int .u16 p.Seq, .bool p.Begin, .bool p.End, .bool p.Unordered, .slice p.Text.a p.Text.n p.Text.c])) 60) w fun b w1 =>
 Wf.NewK (.cells z60 60) w1 fun b2 w2 =>
 Wf.ldK ti52 w2 (((bx b)).add 6) fun (v : Sl) =>
 C_slices_Clone_byte v w2 fun (v2 : Sl) w3 =>
 Wf.StoreK (((bx b)).add 6) [.slice v2.a v2.n v2.c] w3 fun w4 =>
 Wf.ldK ti60 w4 (bx b) fun (v3 : GPiece) =>
 Wf.StoreK (bx b2) [.int .u32 v3.TSN, .int .u16 v3.Stream, .int .u16 v3.Seq, .bool v3.Begin, .bool v3.End, .bool v3.Unordered, .slice v3.Text.a v3.Text.n v3.Text.c] w4 fun w5 =>
 Wf.ldK ti60 w5 (bx b2) fun (res : GPiece) =>
 K res w5) : C_reasm_copied p w K :=
  Wf.enterC tok [] [1, 2, 3, 4, 5, 6, 7] Try.func108 (by kernel_rfl) (by kernel_rfl) (Eq.mp (by kernel_rfl) h)

theorem E_reasm_right (p : GPiece) (w : World) (K : Bool → World → Prop) (h :
 Wf.NewK (.cells (Value.cells (.agg #[.int .u32 p.TSN, .int .u16 p.Stream, .int .u16 p.Seq, .bool p.Begin, .bool p.End, .bool p.Unordered, .slice p.Text.a p.Text.n p.Text.c])) 60) w fun b w1 =>
 Wf.ldK ti52 w1 (((bx b)).add 6) fun (v : Sl) =>
 Wf.ifK (decide (((v.n : Int) : Int) ≥ 1))
(Wf.ldK ti52 w1 (((bx b)).add 6) fun (v2 : Sl) =>
 Wf.ifK (decide (((v2.n : Int) : Int) ≤ 64))
(Wf.ldK ti45 w1 (((bx b)).add 1) fun (v3 : Int) =>
 K (decide ((v3 : Int) < 8)) w1)
(K false w1))
(K false w1)) : C_reasm_right p w K :=
  Wf.enterC tok [] [1, 2, 3, 4, 5, 6, 7, 8, 9, 10, 11, 12, 13, 14, 15, 16, 17] Try.func132 (by kernel_rfl) (by kernel_rfl) (Eq.mp (by kernel_rfl) h)

theorem E_rebind_Ops (p : GPlan) (w : World) (K : (Sl × Value) → World → Prop) (h :
 Wf.NewK (.cells (Value.cells (.agg #[.slice p.From.a p.From.n p.From.c, .slice p.To.a p.To.n p.To.c])) 38) w fun b w1 =>
 Wf.ldK ti38 w1 (bx b) fun (v : GPlan) =>
 C_rebind_Right v w1 fun (v2 : Bool) w2 =>
 Wf.ifK (!v2)
(K ((⟨none, 0, 0⟩ : Sl), (Value.iface 101 (.int .i64 2))) w2)
(Wf.ldK ti27 w2 (((bx b)).add 1) fun (v3 : Sl) =>
 Wf.loopP (X := Sl × Int × Unit) ((⟨none, 0, 0⟩ : Sl), 0, ()) w2 fun next s _ w3 =>
 Wf.ifK (decide ((s.2.1 : Int) < (v3.n : Int)))
(Wf.idxK v3.a v3.n s.2.1 1 fun (a : Addr) =>
 Wf.ldK ti22 w3 a fun (v4 : Int) =>
 Wf.ldK ti27 w3 (((bx b)).add 0) fun (v5 : Sl) =>
 Wf.idxK v5.a v5.n s.2.1 1 fun (a2 : Addr) =>
 Wf.ldK ti22 w3 a2 fun (v6 : Int) =>
 Wf.NewK (.cells #[.int .i64 1, .int .i64 v4, .int .i64 2, .int .i64 v6] 141) w3 fun b2 w4 =>
 Wf.runT Try.prog ti131 (Builtin.append_ #[131, 131] 131 #[.slice s.1.a s.1.n s.1.c, .slice (⟨some (bx b2), 2, 2⟩ : Sl).a (⟨some (bx b2), 2, 2⟩ : Sl).n (⟨some (bx b2), 2, 2⟩ : Sl).c]) w4 fun (v7 : Sl) w5 =>
 next (v7, IntKind.i64.wrap (s.2.1 + 1), ()) w5)
(Wf.ldK ti27 w3 (((bx b)).add 1) fun (v8 : Sl) =>
 Wf.idxK v8.a v8.n 0 1 fun (a3 : Addr) =>
 Wf.ldK ti22 w3 a3 fun (v9 : Int) =>
 Wf.NewK (.cells #[.int .i64 4, .int .i64 v9] 141) w3 fun b3 w6 =>
 Wf.runT Try.prog ti131 (Builtin.append_ #[131, 131] 131 #[.slice s.1.a s.1.n s.1.c, .slice (⟨some (bx b3), 1, 1⟩ : Sl).a (⟨some (bx b3), 1, 1⟩ : Sl).n (⟨some (bx b3), 1, 1⟩ : Sl).c]) w6 fun (v10 : Sl) w7 =>
 K (v10, Value.nilIface) w7))) : C_rebind_Ops p w K :=
  Wf.enterC tok [⟨[(4, 131), (14, 3)], [4, 5, 6, 14, 15, 16, 17, 18, 19, 20, 21, 22, 23, 24, 25, 26, 27, 28, 29, 30], []⟩] [1, 2, 3, 4, 5, 6, 7, 8, 9, 10, 11, 12, 13, 14, 15, 16, 17, 18, 19, 20, 21, 22, 23, 24, 25, 26, 27, 28, 29, 30, 31, 32, 33, 34, 35, 36, 37, 38] Try.func62 (by kernel_rfl) (by kernel_rfl) (Eq.mp (by kernel_rfl) h)

theorem E_rebind_Packet (x1 : GPacket) (p : GPlan) (w : World) (K : GPacket → World → Prop) (h :
 Wf.NewK (.cells (Value.cells (.agg #[.int .i64 x1.From, .int .i64 x1.To, .int .u32 x1.Tag, .slice x1.Chunks.a x1.Chunks.n x1.Chunks.c])) 34) w fun b w1 =>
 Wf.NewK (.cells (Value.cells (.agg #[.slice p.From.a p.From.n p.From.c, .slice p.To.a p.To.n p.To.c])) 38) w1 fun b2 w2 =>
 Wf.NewK (.cells z34 34) w2 fun b3 w3 =>
 Wf.ldK ti34 w3 (bx b) fun (v : GPacket) =>
 C_packet_Copy v w3 fun (v2 : GPacket) w4 =>
 Wf.StoreK (bx b) [.int .i64 v2.From, .int .i64 v2.To, .int .u32 v2.Tag, .slice v2.Chunks.a v2.Chunks.n v2.Chunks.c] w4 fun w5 =>
 ∃ (G : World → Prop), Wf.GOk w5 G ∧
 Wf.gLd ti38 (Wf.Th.from w5 G) (bx b2) fun (v3 : GPlan) =>
 Wf.gLd ti22 (Wf.Th.from w5 G) (((bx b)).add 0) fun (v4 : Int) =>
 Wf.gLd ti38 (Wf.Th.from w5 G) (bx b2) fun (v5 : GPlan) =>
 Wf.gLd ti22 (Wf.Th.from w5 G) (((bx b)).add 1) fun (v6 : Int) =>
 Wf.gEnd (Wf.Th.from w5 G) fun w6 =>
 C_rebind_Plan_Of v3 v4 w6 fun (v7 : Int) w7 =>
 G w7 ∧
 C_rebind_Plan_Of v5 v6 w7 fun (v8 : Int) w8 =>
 Wf.StoreK (((bx b)).add 0) [.int .i64 v7] w8 fun w9 =>
 Wf.StoreK (((bx b)).add 1) [.int .i64 v8] w9 fun w10 =>
 Wf.ldK ti34 w10 (bx b) fun (v9 : GPacket) =>
 Wf.StoreK (bx b3) [.int .i64 v9.From, .int .i64 v9.To, .int .u32 v9.Tag, .slice v9.Chunks.a v9.Chunks.n v9.Chunks.c] w10 fun w11 =>
 Wf.ldK ti34 w11 (bx b3) fun (res : GPacket) =>
 K res w11) : C_rebind_Packet x1 p w K :=
  Wf.enterC tok [⟨[], [0, 1, 2, 4, 5, 6], [3, 8, 7, 9, 10, 11]⟩] [2, 3, 4, 5, 6, 7, 8, 9, 10, 11, 12, 13, 14, 15, 16, 17] Try.func17 (by kernel_rfl) (by kernel_rfl) (Eq.mp (by kernel_rfl) h)

theorem E_rebind_Plan_Of (p : GPlan) (a : Int) (w : World) (K : Int → World → Prop) (h :
 Wf.NewK (.cells (Value.cells (.agg #[.slice p.From.a p.From.n p.From.c, .slice p.To.a p.To.n p.To.c])) 38) w fun b w1 =>
 Wf.ldK ti27 w1 (((bx b)).add 0) fun (v : Sl) =>
 C_slices_Index_Addr v a w1 fun (v2 : Int) w2 =>
 Wf.ifK (decide ((v2 : Int) ≥ 0))
(Wf.ldK ti38 w2 (bx b) fun (v3 : GPlan) =>
 C_rebind_Right v3 w2 fun (v4 : Bool) w3 =>
 Wf.ifK v4
(Wf.ldK ti27 w3 (((bx b)).add 1) fun (v5 : Sl) =>
 Wf.idxK v5.a v5.n v2 1 fun (a2 : Addr) =>
 Wf.ldK ti22 w3 a2 fun (v6 : Int) =>
 K v6 w3)
(K a w3))
(K a w2)) : C_rebind_Plan_Of p a w K :=
  Wf.enterC tok [] [2, 4, 5, 6, 7, 8, 9, 10, 11, 12, 13, 14, 15, 16, 17, 18, 19, 20, 21] Try.func67 (by kernel_rfl) (by kernel_rfl) (Eq.mp (by kernel_rfl) h)

theorem E_rebind_Right (p : GPlan) (w : World) (K : Bool → World → Prop) (h :
 Wf.NewK (.cells (Value.cells (.agg #[.slice p.From.a p.From.n p.From.c, .slice p.To.a p.To.n p.To.c])) 38) w fun b w1 =>
 Wf.ldK ti27 w1 (((bx b)).add 0) fun (v : Sl) =>
 Wf.ldK ti27 w1 (((bx b)).add 1) fun (v2 : Sl) =>
 Wf.NewK (.cells #[.slice v.a v.n v.c, .slice v2.a v2.n v2.c] 27) w1 fun b2 w2 =>
 C_slices_Concat_Addr (⟨some (bx b2), 2, 2⟩ : Sl) w2 fun (v3 : Sl) w3 =>
 Wf.ldK ti27 w3 (((bx b)).add 0) fun (v4 : Sl) =>
 Wf.ldK ti27 w3 (((bx b)).add 1) fun (v5 : Sl) =>
 Wf.ifK (((v4.n : Int) : Int) != (v5.n : Int))
(K false w3)
(Wf.ldK ti27 w3 (((bx b)).add 0) fun (v6 : Sl) =>
 Wf.ifK (decide (((v6.n : Int) : Int) < 1))
(K false w3)
(Wf.ldK ti27 w3 (((bx b)).add 0) fun (v7 : Sl) =>
 Wf.ifK (decide (((v7.n : Int) : Int) > 4))
(K false w3)
(Wf.loopP (X := Int × Unit) (0, ()) w3 fun next s _ w4 =>
 Wf.ifK (decide ((s.1 : Int) < (v3.n : Int)))
(Wf.idxK v3.a v3.n s.1 1 fun (a : Addr) =>
 Wf.ldK ti22 w4 a fun (v8 : Int) =>
 Wf.ifK (decide ((v8 : Int) < 1))
(K false w4)
(Wf.ifK (decide ((v8 : Int) > 2147483647))
(K false w4)
(C_slices_Index_Addr v3 v8 w4 fun (v9 : Int) w5 =>
 Wf.ifK ((v9 : Int) != s.1)
(K false w5)
(next (IntKind.i64.wrap (s.1 + 1), ()) w5))))
(K true w4))))) : C_rebind_Right p w K :=
  Wf.enterC tok [⟨[(33, 3)], [2, 4, 5, 33, 34, 35, 36, 37, 38, 39, 40, 41, 42, 43, 44, 45, 46, 47, 48, 49, 50, 51], []⟩] [1, 2, 3, 4, 5, 6, 7, 8, 9, 10, 11, 12, 13, 14, 15, 16, 17, 18, 19, 20, 21, 22, 23, 24, 25, 26, 27, 28, 29, 30, 31, 32, 33, 34, 35, 36, 37, 38, 39, 40, 41, 42, 43, 44, 45, 46, 47, 48, 49, 50, 51] Try.func125 (by kernel_rfl) (by kernel_rfl) (Eq.mp (by kernel_rfl) h)

theorem E_serial_Step_uint32 (a : Int) (n : Int) (w : World) (K : Int → World → Prop) (h :
 K (IntKind.u32.wrap (a + (IntKind.u32.wrap n))) w) : C_serial_Step_uint32 a n w K :=
  Wf.enterC tok [] [4, 5, 6, 7, 8] Try.func73 (by kernel_rfl) (by kernel_rfl) (Eq.mp (by kernel_rfl) h)

theorem E_slices_Chunk_byte (s : Sl) (n : Int) (w : World) (K : Clo → World → Prop) (h :
 Wf.NewK (.cells (Value.cells (.slice s.a s.n s.c)) 52) w fun b w1 =>
 Wf.NewK (.cells (Value.cells (.int .i64 n)) 3) w1 fun b2 w2 =>
 Wf.ldK ti3 w2 (bx b2) fun (v : Int) =>
 Wf.ifK (decide ((v : Int) < 1))
(False)
(K (⟨.func 131, #[], #[.pointer (some (bx b)), .pointer (some (bx b2))]⟩ : Clo) w2)) : C_slices_Chunk_byte s n w K :=
  Wf.enterC tok [] [2, 3, 4, 5, 6, 7, 8] Try.func72 (by kernel_rfl) (by kernel_rfl) (Eq.mp (by kernel_rfl) h)

theorem E_slices_Chunk_byte_1 (yield : Clo) (cap : Addr) (cap2 : Addr) (w : World) (K : Unit → World → Prop) (h :
 Wf.loopP (X := Int × Unit) (0, ()) w fun next s _ w1 =>
 Wf.ldK ti52 w1 cap fun (v : Sl) =>
 Wf.ifK (decide ((s.1 : Int) < (v.n : Int)))
(Wf.gLd ti3 (Wf.Th.start w1) cap2 fun (v2 : Int) =>
 Wf.gLd ti52 (Wf.Th.start w1) cap fun (v3 : Sl) =>
 Wf.gRd Try.prog ti52 (Wf.Th.start w1) (Instr.sliceAt 52 (.slice v3.a v3.n v3.c) (some (.int .i64 s.1)) none none) fun (v4 : Sl) =>
 Wf.gEnd (Wf.Th.start w1) fun w3 =>
 Wf.runT Try.prog ti3 (Builtin.min_ #[3, 3] 3 #[.int .i64 v2, .int .i64 (v4.n : Int)]) w3 fun (v5 : Int) w4 =>
 Wf.ldK ti52 w4 cap fun (v6 : Sl) =>
 Wf.runT Try.prog ti52 (Instr.sliceAt 52 (.slice v6.a v6.n v6.c) (some (.int .i64 s.1)) (some (.int .i64 (IntKind.i64.wrap (s.1 + v5)))) (some (.int .i64 (IntKind.i64.wrap (s.1 + v5))))) w4 fun (v7 : Sl) w5 =>
 Wf.callK Try.prog TT ti4 (.func yield.g yield.first yield.cap) [.slice v7.a v7.n v7.c] w5 fun (v8 : Bool) w6 =>
 Wf.ifK (!v8)
(K () w6)
(Wf.ldK ti3 w6 cap2 fun (v9 : Int) =>
 next (IntKind.i64.wrap (s.1 + v9), ()) w6))
(K () w1)) : C_slices_Chunk_byte_1 yield cap cap2 w K :=
  Wf.enterC tok [⟨[(4, 3)], [4, 5, 6, 7, 8, 9, 10, 11, 12, 13, 14, 15, 16, 17, 18, 19, 20, 21, 22, 23, 24, 25, 26, 27, 28, 29, 30], []⟩, ⟨[], [0, 1, 2, 3, 4], [5, 6]⟩] [4, 5, 6, 7, 8, 9, 10, 11, 12, 13, 14, 15, 16, 17, 18, 19, 20, 21, 22, 23, 24, 25, 26, 27, 28, 29, 30] Try.func131 (by kernel_rfl) (by kernel_rfl) (Eq.mp (by kernel_rfl) h)

theorem E_slices_Clone_Addr (s : Sl) (w : World) (K : Sl → World → Prop) (h :
 Wf.ifK s.a.isNone
(K (⟨none, 0, 0⟩ : Sl) w)
(Wf.NewK (.cells #[] 22) w fun b w1 =>
 Wf.runT Try.prog ti27 (Builtin.append_ #[27, 27] 27 #[.slice (⟨some (bx b), 0, 0⟩ : Sl).a (⟨some (bx b), 0, 0⟩ : Sl).n (⟨some (bx b), 0, 0⟩ : Sl).c, .slice s.a s.n s.c]) w1 fun (v : Sl) w2 =>
 K v w2)) : C_slices_Clone_Addr s w K :=
  Wf.enterC tok [] [2, 3, 4, 5, 6, 7] Try.func162 (by kernel_rfl) (by kernel_rfl) (Eq.mp (by kernel_rfl) h)

theorem E_slices_Clone_Gap (s : Sl) (w : World) (K : Sl → World → Prop) (h :
 Wf.ifK s.a.isNone
(K (⟨none, 0, 0⟩ : Sl) w)
(Wf.NewK (.cells #[] 227) w fun b w1 =>
 Wf.runT Try.prog ti129 (Builtin.append_ #[129, 129] 129 #[.slice (⟨some (bx b), 0, 0⟩ : Sl).a (⟨some (bx b), 0, 0⟩ : Sl).n (⟨some (bx b), 0, 0⟩ : Sl).c, .slice s.a s.n s.c]) w1 fun (v : Sl) w2 =>
 K v w2)) : C_slices_Clone_Gap s w K :=
  Wf.enterC tok [] [2, 3, 4, 5, 6, 7] Try.func163 (by kernel_rfl) (by kernel_rfl) (Eq.mp (by kernel_rfl) h)

theorem E_slices_Clone_Op (s : Sl) (w : World) (K : Sl → World → Prop) (h :
 Wf.ifK s.a.isNone
(K (⟨none, 0, 0⟩ : Sl) w)
(Wf.NewK (.cells #[] 141) w fun b w1 =>
 Wf.runT Try.prog ti131 (Builtin.append_ #[131, 131] 131 #[.slice (⟨some (bx b), 0, 0⟩ : Sl).a (⟨some (bx b), 0, 0⟩ : Sl).n (⟨some (bx b), 0, 0⟩ : Sl).c, .slice s.a s.n s.c]) w1 fun (v : Sl) w2 =>
 K v w2)) : C_slices_Clone_Op s w K :=
  Wf.enterC tok [] [2, 3, 4, 5, 6, 7] Try.func164 (by kernel_rfl) (by kernel_rfl) (Eq.mp (by kernel_rfl) h)

theorem E_slices_Clone_byte (s : Sl) (w : World) (K : Sl → World → Prop) (h :
 Wf.ifK s.a.isNone
(K (⟨none, 0, 0⟩ : Sl) w)
(Wf.NewK (.cells #[] 5) w fun b w1 =>
 Wf.runT Try.prog ti52 (Builtin.append_ #[52, 52] 52 #[.slice (⟨some (bx b), 0, 0⟩ : Sl).a (⟨some (bx b), 0, 0⟩ : Sl).n (⟨some (bx b), 0, 0⟩ : Sl).c, .slice s.a s.n s.c]) w1 fun (v : Sl) w2 =>
 K v w2)) : C_slices_Clone_byte s w K :=
  Wf.enterC tok [] [2, 3, 4, 5, 6, 7] Try.func74 (by kernel_rfl) (by kernel_rfl) (Eq.mp (by kernel_rfl) h)

theorem E_slices_Clone_uint32 (s : Sl) (w : World) (K : Sl → World → Prop) (h :
 Wf.ifK s.a.isNone
(K (⟨none, 0, 0⟩ : Sl) w)
(Wf.NewK (.cells #[] 23) w fun b w1 =>
 Wf.runT Try.prog ti130 (Builtin.append_ #[130, 130] 130 #[.slice (⟨some (bx b), 0, 0⟩ : Sl).a (⟨some (bx b), 0, 0⟩ : Sl).n (⟨some (bx b), 0, 0⟩ : Sl).c, .slice s.a s.n s.c]) w1 fun (v : Sl) w2 =>
 K v w2)) : C_slices_Clone_uint32 s w K :=
  Wf.enterC tok [] [2, 3, 4, 5, 6, 7] Try.func145 (by kernel_rfl) (by kernel_rfl) (Eq.mp (by kernel_rfl) h)

theorem E_slices_Concat_Addr (slices : Sl) (w : World) (K : Sl → World → Prop) (h :
 Wf.loopP (X := Int × Int × Unit) (0, 0, ()) w fun next s _ w1 =>
 Wf.ifK (decide ((s.2.1 : Int) < (slices.n : Int)))
(Wf.idxK slices.a slices.n s.2.1 1 fun (a : Addr) =>
 Wf.ldK ti27 w1 a fun (v : Sl) =>
 Wf.ifK (decide ((IntKind.i64.wrap (s.1 + (v.n : Int)) : Int) < 0))
(False)
(next (IntKind.i64.wrap (s.1 + (v.n : Int)), IntKind.i64.wrap (s.2.1 + 1), ()) w1))
(C_slices_Grow_Addr (⟨none, 0, 0⟩ : Sl) s.1 w1 fun (v2 : Sl) w2 =>
 Wf.loopP (X := Sl × Int × Unit) (v2, 0, ()) w2 fun next2 s2 _ w3 =>
 Wf.ifK (decide ((s2.2.1 : Int) < (slices.n : Int)))
(Wf.idxK slices.a slices.n s2.2.1 1 fun (a2 : Addr) =>
 Wf.ldK ti27 w3 a2 fun (v3 : Sl) =>
 Wf.runT Try.prog ti27 (Builtin.append_ #[27, 27] 27 #[.slice s2.1.a s2.1.n s2.1.c, .slice v3.a v3.n v3.c]) w3 fun (v4 : Sl) w4 =>
 next2 (v4, IntKind.i64.wrap (s2.2.1 + 1), ()) w4)
(K s2.1 w3))) : C_slices_Concat_Addr slices w K :=
  Wf.enterC tok [⟨[(3, 3), (11, 3)], [3, 5, 11, 12, 13, 14, 15, 16, 17, 18, 19, 20, 21, 22], []⟩, ⟨[(6, 27), (27, 3)], [6, 8, 27, 28, 29, 30, 31, 32, 33, 34], []⟩] [2, 3, 5, 6, 8, 9, 10, 11, 12, 13, 14, 15, 16, 17, 18, 19, 20, 21, 22, 23, 24, 25, 26, 27, 28, 29, 30, 31, 32, 33, 34, 35] Try.func161 (by kernel_rfl) (by kernel_rfl) (Eq.mp (by kernel_rfl) h)

theorem E_slices_Grow_Addr (s : Sl) (n : Int) (w : World) (K : Sl → World → Prop) (h :
 Wf.ifK (decide ((n : Int) < 0))
(False)
(Wf.runT Try.prog ti3 (Builtin.cap_ #[27] 3 #[.slice s.a s.n s.c]) w fun (v : Int) w1 =>
 Wf.ifK (decide ((IntKind.i64.wrap (n - (IntKind.i64.wrap (v - (s.n : Int)))) : Int) > 0))
(Wf.runT Try.prog ti3 (Builtin.cap_ #[27] 3 #[.slice s.a s.n s.c]) w1 fun (v2 : Int) w2 =>
 Wf.runT Try.prog ti27 (Instr.sliceAt 27 (.slice s.a s.n s.c) none (some (.int .i64 v2)) none) w2 fun (v3 : Sl) w3 =>
 Wf.runT Try.prog ti27 (Builtin.append_ #[27, 3] 27 #[.slice v3.a v3.n v3.c, .int .i64 (IntKind.i64.wrap (n - (IntKind.i64.wrap (v - (s.n : Int)))))]) w3 fun (v4 : Sl) w4 =>
 Wf.runT Try.prog ti27 (Instr.sliceAt 27 (.slice v4.a v4.n v4.c) none (some (.int .i64 (s.n : Int))) none) w4 fun (v5 : Sl) w5 =>
 K v5 w5)
(K s w1))) : C_slices_Grow_Addr s n w K :=
  Wf.enterC tok [] [0, 1, 4, 5, 6, 7, 8, 9, 10, 11, 12, 13, 14, 15, 16, 17, 18, 19, 20, 21, 22, 23, 24, 25, 26] Try.func177 (by kernel_rfl) (by kernel_rfl) (Eq.mp (by kernel_rfl) h)

theorem E_slices_Index_Addr (s : Sl) (v : Int) (w : World) (K : Int → World → Prop) (h :
 Wf.loopP (X := Int × Unit) (0, ()) w fun next s2 _ w1 =>
 Wf.ifK (decide ((s2.1 : Int) < (s.n : Int)))
(Wf.idxK s.a s.n s2.1 1 fun (a : Addr) =>
 Wf.ldK ti22 w1 a fun (v2 : Int) =>
 Wf.ifK ((v : Int) == v2)
(K s2.1 w1)
(next (IntKind.i64.wrap (s2.1 + 1), ()) w1))
(K (-1) w1)) : C_slices_Index_Addr s v w K :=
  Wf.enterC tok [⟨[(8, 3)], [4, 5, 8, 9, 10, 11, 12, 13, 14, 15, 16, 17, 18], []⟩] [4, 5, 6, 7, 8, 9, 10, 11, 12, 13, 14, 15, 16, 17, 18] Try.func128 (by kernel_rfl) (by kernel_rfl) (Eq.mp (by kernel_rfl) h)

theorem E_weftlinelaw07_Document (c : GChunk) (w : World) (K : GChunk → World → Prop) (h :
 Wf.NewK (.cells (Value.cells (.agg #[.int .i64 c.Kind, .int .u32 c.Piece.TSN, .int .u16 c.Piece.Stream, .int .u16 c.Piece.Seq, .bool c.Piece.Begin, .bool c.Piece.End, .bool c.Piece.Unordered, .slice c.Piece.Text.a c.Piece.Text.n c.Piece.Text.c, .int .u32 c.Tag, .int .i64 c.Window, .int .i64 c.Out, .int .i64 c.In, .int .u32 c.TSN, .slice c.Random.a c.Random.n c.Random.c, .slice c.Addrs.a c.Addrs.n c.Addrs.c, .slice c.Info.a c.Info.n c.Info.c, .slice c.Gaps.a c.Gaps.n c.Gaps.c, .slice c.Dups.a c.Dups.n c.Dups.c, .int .i64 c.Cause, .int .u32 c.Serial, .slice c.Ops.a c.Ops.n c.Ops.c, .bool c.OK])) 133) w fun b w1 =>
 Wf.NewK (.cells z145 145) w1 fun b2 w2 =>
 Wf.ldK ti3 w2 (((bx b)).add 0) fun (v : Int) =>
 Wf.ldK ti60 w2 (((bx b)).add 1) fun (v2 : GPiece) =>
 Wf.ldK ti23 w2 (((bx b)).add 8) fun (v3 : Int) =>
 Wf.ldK ti3 w2 (((bx b)).add 9) fun (v4 : Int) =>
 Wf.ldK ti3 w2 (((bx b)).add 10) fun (v5 : Int) =>
 Wf.ldK ti3 w2 (((bx b)).add 11) fun (v6 : Int) =>
 Wf.ldK ti23 w2 (((bx b)).add 12) fun (v7 : Int) =>
 Wf.ldK ti52 w2 (((bx b)).add 13) fun (v8 : Sl) =>
 Wf.ldK ti27 w2 (((bx b)).add 14) fun (v9 : Sl) =>
 Wf.ldK ti52 w2 (((bx b)).add 15) fun (v10 : Sl) =>
 Wf.ldK ti130 w2 (((bx b)).add 17) fun (v11 : Sl) =>
 Wf.ldK ti3 w2 (((bx b)).add 18) fun (v12 : Int) =>
 Wf.ldK ti23 w2 (((bx b)).add 19) fun (v13 : Int) =>
 Wf.ldK ti4 w2 (((bx b)).add 21) fun (v14 : Bool) =>
 Wf.NewK (.cells z145 145) w2 fun b3 w3 =>
 Wf.StoreK (bx b3) [.int .i64 v, .int .u32 v2.TSN, .int .u16 v2.Stream, .int .u16 v2.Seq, .bool v2.Begin, .bool v2.End, .bool v2.Unordered, .slice v2.Text.a v2.Text.n v2.Text.c, .int .u32 v3, .int .i64 v4, .int .i64 v5, .int .i64 v6, .int .u32 v7, .slice v8.a v8.n v8.c, .slice v9.a v9.n v9.c, .slice v10.a v10.n v10.c, .slice none 0 0, .slice v11.a v11.n v11.c, .int .i64 v12, .int .u32 v13, .slice none 0 0, .bool v14] w3 fun w4 =>
 Wf.ldK ti129 w4 (((bx b)).add 16) fun (v15 : Sl) =>
 Wf.loopP (X := Int × Unit) (0, ()) w4 fun next s _ w5 =>
 Wf.ifK (decide ((s.1 : Int) < (v15.n : Int)))
(Wf.idxK v15.a v15.n s.1 2 fun (a : Addr) =>
 Wf.ldK ti227 w5 a fun (v16 : GGap) =>
 Wf.NewK (.cells z227 227) w5 fun b4 w6 =>
 Wf.StoreK (bx b4) [.int .i64 v16.From, .int .i64 v16.To] w6 fun w7 =>
 Wf.ldK ti142 w7 (((bx b3)).add 16) fun (v17 : Sl) =>
 Wf.ldK ti227 w7 (bx b4) fun (v18 : GGap) =>
 Wf.NewK (.cells #[.int .i64 v18.From, .int .i64 v18.To] 228) w7 fun b5 w8 =>
 Wf.runT Try.prog ti142 (Builtin.append_ #[142, 142] 142 #[.slice v17.a v17.n v17.c, .slice (⟨some (bx b5), 1, 1⟩ : Sl).a (⟨some (bx b5), 1, 1⟩ : Sl).n (⟨some (bx b5), 1, 1⟩ : Sl).c]) w8 fun (v19 : Sl) w9 =>
 Wf.StoreK (((bx b3)).add 16) [.slice v19.a v19.n v19.c] w9 fun w10 =>
 next (IntKind.i64.wrap (s.1 + 1), ()) w10)
(Wf.ldK ti131 w5 (((bx b)).add 20) fun (v20 : Sl) =>
 Wf.loopP (X := Int × Unit) (0, ()) w5 fun next2 s2 _ w11 =>
 Wf.ifK (decide ((s2.1 : Int) < (v20.n : Int)))
(Wf.idxK v20.a v20.n s2.1 2 fun (a2 : Addr) =>
 Wf.ldK ti141 w11 a2 fun (v21 : GOp) =>
 Wf.NewK (.cells z141 141) w11 fun b6 w12 =>
 Wf.StoreK (bx b6) [.int .i64 v21.Kind, .int .i64 v21.Addr] w12 fun w13 =>
 Wf.ldK ti143 w13 (((bx b3)).add 20) fun (v22 : Sl) =>
 Wf.ldK ti141 w13 (bx b6) fun (v23 : GOp) =>
 Wf.NewK (.cells #[.int .i64 v23.Kind, .int .i64 v23.Addr] 229) w13 fun b7 w14 =>
 Wf.runT Try.prog ti143 (Builtin.append_ #[143, 143] 143 #[.slice v22.a v22.n v22.c, .slice (⟨some (bx b7), 1, 1⟩ : Sl).a (⟨some (bx b7), 1, 1⟩ : Sl).n (⟨some (bx b7), 1, 1⟩ : Sl).c]) w14 fun (v24 : Sl) w15 =>
 Wf.StoreK (((bx b3)).add 20) [.slice v24.a v24.n v24.c] w15 fun w16 =>
 next2 (IntKind.i64.wrap (s2.1 + 1), ()) w16)
(Wf.ldK ti145 w11 (bx b3) fun (v25 : GChunk) =>
 Wf.StoreK (bx b2) [.int .i64 v25.Kind, .int .u32 v25.Piece.TSN, .int .u16 v25.Piece.Stream, .int .u16 v25.Piece.Seq, .bool v25.Piece.Begin, .bool v25.Piece.End, .bool v25.Piece.Unordered, .slice v25.Piece.Text.a v25.Piece.Text.n v25.Piece.Text.c, .int .u32 v25.Tag, .int .i64 v25.Window, .int .i64 v25.Out, .int .i64 v25.In, .int .u32 v25.TSN, .slice v25.Random.a v25.Random.n v25.Random.c, .slice v25.Addrs.a v25.Addrs.n v25.Addrs.c, .slice v25.Info.a v25.Info.n v25.Info.c, .slice v25.Gaps.a v25.Gaps.n v25.Gaps.c, .slice v25.Dups.a v25.Dups.n v25.Dups.c, .int .i64 v25.Cause, .int .u32 v25.Serial, .slice v25.Ops.a v25.Ops.n v25.Ops.c, .bool v25.OK] w11 fun w17 =>
 Wf.ldK ti145 w17 (bx b2) fun (res : GChunk) =>
 K res w17))) : C_weftlinelaw07_Document c w K :=
  Wf.enterC tok [⟨[(40, 3)], [5, 40, 41, 42, 43, 44, 45, 46, 47, 48, 49, 50], []⟩, ⟨[(54, 3)], [7, 54, 55, 56, 57, 58, 59, 60, 61, 62, 63, 64], []⟩] [1, 2, 3, 5, 7, 8, 9, 10, 11, 12, 13, 14, 15, 16, 17, 18, 19, 20, 21, 22, 23, 24, 25, 26, 27, 28, 29, 30, 31, 32, 33, 34, 35, 36, 37, 38, 39, 40, 41, 42, 43, 44, 45, 46, 47, 48, 49, 50, 51, 52, 53, 54, 55, 56, 57, 58, 59, 60, 61, 62, 63, 64, 65] Try.func65 (by kernel_rfl) (by kernel_rfl) (Eq.mp (by kernel_rfl) h)

theorem E_weftlinelaw07_Program (c : GChunk) (w : World) (K : GChunk → World → Prop) (h :
 Wf.NewK (.cells (Value.cells (.agg #[.int .i64 c.Kind, .int .u32 c.Piece.TSN, .int .u16 c.Piece.Stream, .int .u16 c.Piece.Seq, .bool c.Piece.Begin, .bool c.Piece.End, .bool c.Piece.Unordered, .slice c.Piece.Text.a c.Piece.Text.n c.Piece.Text.c, .int .u32 c.Tag, .int .i64 c.Window, .int .i64 c.Out, .int .i64 c.In, .int .u32 c.TSN, .slice c.Random.a c.Random.n c.Random.c, .slice c.Addrs.a c.Addrs.n c.Addrs.c, .slice c.Info.a c.Info.n c.Info.c, .slice c.Gaps.a c.Gaps.n c.Gaps.c, .slice c.Dups.a c.Dups.n c.Dups.c, .int .i64 c.Cause, .int .u32 c.Serial, .slice c.Ops.a c.Ops.n c.Ops.c, .bool c.OK])) 145) w fun b w1 =>
 Wf.NewK (.cells z133 133) w1 fun b2 w2 =>
 Wf.ldK ti3 w2 (((bx b)).add 0) fun (v : Int) =>
 Wf.ldK ti60 w2 (((bx b)).add 1) fun (v2 : GPiece) =>
 Wf.ldK ti23 w2 (((bx b)).add 8) fun (v3 : Int) =>
 Wf.ldK ti3 w2 (((bx b)).add 9) fun (v4 : Int) =>
 Wf.ldK ti3 w2 (((bx b)).add 10) fun (v5 : Int) =>
 Wf.ldK ti3 w2 (((bx b)).add 11) fun (v6 : Int) =>
 Wf.ldK ti23 w2 (((bx b)).add 12) fun (v7 : Int) =>
 Wf.ldK ti3 w2 (((bx b)).add 18) fun (v8 : Int) =>
 Wf.ldK ti23 w2 (((bx b)).add 19) fun (v9 : Int) =>
 Wf.ldK ti4 w2 (((bx b)).add 21) fun (v10 : Bool) =>
 Wf.NewK (.cells z133 133) w2 fun b3 w3 =>
 Wf.StoreK (bx b3) [.int .i64 v, .int .u32 v2.TSN, .int .u16 v2.Stream, .int .u16 v2.Seq, .bool v2.Begin, .bool v2.End, .bool v2.Unordered, .slice v2.Text.a v2.Text.n v2.Text.c, .int .u32 v3, .int .i64 v4, .int .i64 v5, .int .i64 v6, .int .u32 v7, .slice none 0 0, .slice none 0 0, .slice none 0 0, .slice none 0 0, .slice none 0 0, .int .i64 v8, .int .u32 v9, .slice none 0 0, .bool v10] w3 fun w4 =>
 Wf.NewK (.cells #[] 5) w4 fun b4 w5 =>
 Wf.ldK ti52 w5 ((((bx b)).add 1).add 6) fun (v11 : Sl) =>
 Wf.runT Try.prog ti52 (Builtin.append_ #[52, 52] 52 #[.slice (⟨some (bx b4), 0, 0⟩ : Sl).a (⟨some (bx b4), 0, 0⟩ : Sl).n (⟨some (bx b4), 0, 0⟩ : Sl).c, .slice v11.a v11.n v11.c]) w5 fun (v12 : Sl) w6 =>
 Wf.StoreK ((((bx b3)).add 1).add 6) [.slice v12.a v12.n v12.c] w6 fun w7 =>
 Wf.gLd ti52 (Wf.Th.start w7) (((bx b)).add 13) fun (v13 : Sl) =>
 Wf.gLd ti52 (Wf.Th.start w7) (((bx b)).add 15) fun (v14 : Sl) =>
 Wf.gNew (Wf.Th.start w7) (.cells #[] 5) fun b5 th =>
 Wf.gEff th (fun W K => Wf.runT Try.prog ti52 (Builtin.append_ #[52, 52] 52 #[.slice (⟨some (bx b5), 0, 0⟩ : Sl).a (⟨some (bx b5), 0, 0⟩ : Sl).n (⟨some (bx b5), 0, 0⟩ : Sl).c, .slice v13.a v13.n v13.c]) W K) fun (v15 : Sl) N th2 =>
 Wf.gNew th2 (.cells #[] 5) fun b6 th3 =>
 Wf.gEnd th3 fun w11 =>
 Wf.runT Try.prog ti52 (Builtin.append_ #[52, 52] 52 #[.slice (⟨some (bx b6), 0, 0⟩ : Sl).a (⟨some (bx b6), 0, 0⟩ : Sl).n (⟨some (bx b6), 0, 0⟩ : Sl).c, .slice v14.a v14.n v14.c]) w11 fun (v16 : Sl) w12 =>
 Wf.StoreK (((bx b3)).add 13) [.slice v15.a v15.n v15.c] w12 fun w13 =>
 Wf.StoreK (((bx b3)).add 15) [.slice v16.a v16.n v16.c] w13 fun w14 =>
 Wf.gLd ti27 (Wf.Th.start w14) (((bx b)).add 14) fun (v17 : Sl) =>
 Wf.gLd ti130 (Wf.Th.start w14) (((bx b)).add 17) fun (v18 : Sl) =>
 Wf.gNew (Wf.Th.start w14) (.cells #[] 22) fun b7 th4 =>
 Wf.gEff th4 (fun W K => Wf.runT Try.prog ti27 (Builtin.append_ #[27, 27] 27 #[.slice (⟨some (bx b7), 0, 0⟩ : Sl).a (⟨some (bx b7), 0, 0⟩ : Sl).n (⟨some (bx b7), 0, 0⟩ : Sl).c, .slice v17.a v17.n v17.c]) W K) fun (v19 : Sl) N2 th5 =>
 Wf.gNew th5 (.cells #[] 23) fun b8 th6 =>
 Wf.gEnd th6 fun w18 =>
 Wf.runT Try.prog ti130 (Builtin.append_ #[130, 130] 130 #[.slice (⟨some (bx b8), 0, 0⟩ : Sl).a (⟨some (bx b8), 0, 0⟩ : Sl).n (⟨some (bx b8), 0, 0⟩ : Sl).c, .slice v18.a v18.n v18.c]) w18 fun (v20 : Sl) w19 =>
 Wf.StoreK (((bx b3)).add 14) [.slice v19.a v19.n v19.c] w19 fun w20 =>
 Wf.StoreK (((bx b3)).add 17) [.slice v20.a v20.n v20.c] w20 fun w21 =>
 Wf.ldK ti142 w21 (((bx b)).add 16) fun (v21 : Sl) =>
 Wf.loopP (X := Int × Unit) (0, ()) w21 fun next s _ w22 =>
 Wf.ifK (decide ((s.1 : Int) < (v21.n : Int)))
(Wf.idxK v21.a v21.n s.1 2 fun (a : Addr) =>
 Wf.ldK ti228 w22 a fun (v22 : GGap) =>
 Wf.NewK (.cells z228 228) w22 fun b9 w23 =>
 Wf.StoreK (bx b9) [.int .i64 v22.From, .int .i64 v22.To] w23 fun w24 =>
 Wf.ldK ti129 w24 (((bx b3)).add 16) fun (v23 : Sl) =>
 Wf.ldK ti228 w24 (bx b9) fun (v24 : GGap) =>
 Wf.NewK (.cells #[.int .i64 v24.From, .int .i64 v24.To] 227) w24 fun b10 w25 =>
 Wf.runT Try.prog ti129 (Builtin.append_ #[129, 129] 129 #[.slice v23.a v23.n v23.c, .slice (⟨some (bx b10), 1, 1⟩ : Sl).a (⟨some (bx b10), 1, 1⟩ : Sl).n (⟨some (bx b10), 1, 1⟩ : Sl).c]) w25 fun (v25 : Sl) w26 =>
 Wf.StoreK (((bx b3)).add 16) [.slice v25.a v25.n v25.c] w26 fun w27 =>
 next (IntKind.i64.wrap (s.1 + 1), ()) w27)
(Wf.ldK ti143 w22 (((bx b)).add 20) fun (v26 : Sl) =>
 Wf.loopP (X := Int × Unit) (0, ()) w22 fun next2 s2 _ w28 =>
 Wf.ifK (decide ((s2.1 : Int) < (v26.n : Int)))
(Wf.idxK v26.a v26.n s2.1 2 fun (a2 : Addr) =>
 Wf.ldK ti229 w28 a2 fun (v27 : GOp) =>
 Wf.NewK (.cells z229 229) w28 fun b11 w29 =>
 Wf.StoreK (bx b11) [.int .i64 v27.Kind, .int .i64 v27.Addr] w29 fun w30 =>
 Wf.ldK ti131 w30 (((bx b3)).add 20) fun (v28 : Sl) =>
 Wf.ldK ti229 w30 (bx b11) fun (v29 : GOp) =>
 Wf.NewK (.cells #[.int .i64 v29.Kind, .int .i64 v29.Addr] 141) w30 fun b12 w31 =>
 Wf.runT Try.prog ti131 (Builtin.append_ #[131, 131] 131 #[.slice v28.a v28.n v28.c, .slice (⟨some (bx b12), 1, 1⟩ : Sl).a (⟨some (bx b12), 1, 1⟩ : Sl).n (⟨some (bx b12), 1, 1⟩ : Sl).c]) w31 fun (v30 : Sl) w32 =>
 Wf.StoreK (((bx b3)).add 20) [.slice v30.a v30.n v30.c] w32 fun w33 =>
 next2 (IntKind.i64.wrap (s2.1 + 1), ()) w33)
(Wf.ldK ti133 w28 (bx b3) fun (v31 : GChunk) =>
 Wf.StoreK (bx b2) [.int .i64 v31.Kind, .int .u32 v31.Piece.TSN, .int .u16 v31.Piece.Stream, .int .u16 v31.Piece.Seq, .bool v31.Piece.Begin, .bool v31.Piece.End, .bool v31.Piece.Unordered, .slice v31.Piece.Text.a v31.Piece.Text.n v31.Piece.Text.c, .int .u32 v31.Tag, .int .i64 v31.Window, .int .i64 v31.Out, .int .i64 v31.In, .int .u32 v31.TSN, .slice v31.Random.a v31.Random.n v31.Random.c, .slice v31.Addrs.a v31.Addrs.n v31.Addrs.c, .slice v31.Info.a v31.Info.n v31.Info.c, .slice v31.Gaps.a v31.Gaps.n v31.Gaps.c, .slice v31.Dups.a v31.Dups.n v31.Dups.c, .int .i64 v31.Cause, .int .u32 v31.Serial, .slice v31.Ops.a v31.Ops.n v31.Ops.c, .bool v31.OK] w28 fun w34 =>
 Wf.ldK ti133 w34 (bx b2) fun (res : GChunk) =>
 K res w34))) : C_weftlinelaw07_Program c w K :=
  Wf.enterC tok [⟨[], [1, 2, 5, 6, 0, 3, 8, 4], [7, 9, 10, 11]⟩, ⟨[], [1, 2, 5, 6, 0, 3, 8, 4], [7, 9, 10, 11]⟩, ⟨[(59, 3)], [5, 59, 60, 61, 62, 63, 64, 65, 66, 67, 68, 69], []⟩, ⟨[(73, 3)], [7, 73, 74, 75, 76, 77, 78, 79, 80, 81, 82, 83], []⟩] [1, 2, 3, 5, 7, 8, 9, 10, 11, 12, 13, 14, 15, 16, 17, 18, 19, 20, 21, 22, 23, 24, 25, 26, 27, 28, 29, 30, 31, 32, 33, 34, 35, 36, 37, 38, 39, 40, 41, 42, 43, 44, 45, 46, 47, 48, 49, 50, 51, 52, 53, 54, 55, 56, 57, 58, 59, 60, 61, 62, 63, 64, 65, 66, 67, 68, 69, 70, 71, 72, 73, 74, 75, 76, 77, 78, 79, 80, 81, 82, 83, 84] Try.func126 (by kernel_rfl) (by kernel_rfl) (Eq.mp (by kernel_rfl) h)

theorem E_weftlinelaw07_Size (c : GChunk) (w : World) (K : Int → World → Prop) (h :
 Wf.NewK (.cells (Value.cells (.agg #[.int .i64 c.Kind, .int .u32 c.Piece.TSN, .int .u16 c.Piece.Stream, .int .u16 c.Piece.Seq, .bool c.Piece.Begin, .bool c.Piece.End, .bool c.Piece.Unordered, .slice c.Piece.Text.a c.Piece.Text.n c.Piece.Text.c, .int .u32 c.Tag, .int .i64 c.Window, .int .i64 c.Out, .int .i64 c.In, .int .u32 c.TSN, .slice c.Random.a c.Random.n c.Random.c, .slice c.Addrs.a c.Addrs.n c.Addrs.c, .slice c.Info.a c.Info.n c.Info.c, .slice c.Gaps.a c.Gaps.n c.Gaps.c, .slice c.Dups.a c.Dups.n c.Dups.c, .int .i64 c.Cause, .int .u32 c.Serial, .slice c.Ops.a c.Ops.n c.Ops.c, .bool c.OK])) 145) w fun b w1 =>
 Wf.ldK ti52 w1 ((((bx b)).add 1).add 6) fun (v : Sl) =>
 Wf.ldK ti52 w1 (((bx b)).add 13) fun (v2 : Sl) =>
 Wf.ldK ti52 w1 (((bx b)).add 15) fun (v3 : Sl) =>
 Wf.ldK ti27 w1 (((bx b)).add 14) fun (v4 : Sl) =>
 Wf.ldK ti142 w1 (((bx b)).add 16) fun (v5 : Sl) =>
 Wf.ldK ti130 w1 (((bx b)).add 17) fun (v6 : Sl) =>
 Wf.ldK ti143 w1 (((bx b)).add 20) fun (v7 : Sl) =>
 K (IntKind.i64.wrap ((IntKind.i64.wrap ((IntKind.i64.wrap ((v.n : Int) + (v2.n : Int))) + (v3.n : Int))) + (IntKind.i64.wrap (10 * (IntKind.i64.wrap ((IntKind.i64.wrap ((IntKind.i64.wrap ((v4.n : Int) + (v5.n : Int))) + (v6.n : Int))) + (v7.n : Int))))))) w1) : C_weftlinelaw07_Size c w K :=
  Wf.enterC tok [] [1, 2, 3, 4, 5, 6, 7, 8, 9, 10, 11, 12, 13, 14, 15, 16, 17, 18, 19, 20, 21, 22, 23, 24, 25, 26, 27, 28, 29, 30, 31] Try.func63 (by kernel_rfl) (by kernel_rfl) (Eq.mp (by kernel_rfl) h)

theorem E_weftlinelaw08_Chunks (l : Sl) (w : World) (K : Sl → World → Prop) (h :
 Wf.NewK (.cells #[] 133) w fun b w1 =>
 Wf.loopP (X := Sl × Int × Unit) ((⟨some (bx b), 0, 0⟩ : Sl), 0, ()) w1 fun next s _ w2 =>
 Wf.ifK (decide ((s.2.1 : Int) < (l.n : Int)))
(Wf.idxK l.a l.n s.2.1 22 fun (a : Addr) =>
 Wf.ldK ti145 w2 a fun (v : GChunk) =>
 Wf.NewK (.cells z145 145) w2 fun b2 w3 =>
 Wf.StoreK (bx b2) [.int .i64 v.Kind, .int .u32 v.Piece.TSN, .int .u16 v.Piece.Stream, .int .u16 v.Piece.Seq, .bool v.Piece.Begin, .bool v.Piece.End, .bool v.Piece.Unordered, .slice v.Piece.Text.a v.Piece.Text.n v.Piece.Text.c, .int .u32 v.Tag, .int .i64 v.Window, .int .i64 v.Out, .int .i64 v.In, .int .u32 v.TSN, .slice v.Random.a v.Random.n v.Random.c, .slice v.Addrs.a v.Addrs.n v.Addrs.c, .slice v.Info.a v.Info.n v.Info.c, .slice v.Gaps.a v.Gaps.n v.Gaps.c, .slice v.Dups.a v.Dups.n v.Dups.c, .int .i64 v.Cause, .int .u32 v.Serial, .slice v.Ops.a v.Ops.n v.Ops.c, .bool v.OK] w3 fun w4 =>
 Wf.ldK ti145 w4 (bx b2) fun (v2 : GChunk) =>
 C_weftlinelaw07_Program v2 w4 fun (v3 : GChunk) w5 =>
 Wf.NewK (.cells #[.int .i64 v3.Kind, .int .u32 v3.Piece.TSN, .int .u16 v3.Piece.Stream, .int .u16 v3.Piece.Seq, .bool v3.Piece.Begin, .bool v3.Piece.End, .bool v3.Piece.Unordered, .slice v3.Piece.Text.a v3.Piece.Text.n v3.Piece.Text.c, .int .u32 v3.Tag, .int .i64 v3.Window, .int .i64 v3.Out, .int .i64 v3.In, .int .u32 v3.TSN, .slice v3.Random.a v3.Random.n v3.Random.c, .slice v3.Addrs.a v3.Addrs.n v3.Addrs.c, .slice v3.Info.a v3.Info.n v3.Info.c, .slice v3.Gaps.a v3.Gaps.n v3.Gaps.c, .slice v3.Dups.a v3.Dups.n v3.Dups.c, .int .i64 v3.Cause, .int .u32 v3.Serial, .slice v3.Ops.a v3.Ops.n v3.Ops.c, .bool v3.OK] 133) w5 fun b3 w6 =>
 Wf.runT Try.prog ti32 (Builtin.append_ #[32, 32] 32 #[.slice s.1.a s.1.n s.1.c, .slice (⟨some (bx b3), 1, 1⟩ : Sl).a (⟨some (bx b3), 1, 1⟩ : Sl).n (⟨some (bx b3), 1, 1⟩ : Sl).c]) w6 fun (v4 : Sl) w7 =>
 next (v4, IntKind.i64.wrap (s.2.1 + 1), ()) w7)
(K s.1 w2)) : C_weftlinelaw08_Chunks l w K :=
  Wf.enterC tok [⟨[(3, 32), (9, 3)], [3, 5, 9, 10, 11, 12, 13, 14, 15, 16, 17, 18], []⟩] [2, 3, 5, 6, 7, 8, 9, 10, 11, 12, 13, 14, 15, 16, 17, 18, 19] Try.func64 (by kernel_rfl) (by kernel_rfl) (Eq.mp (by kernel_rfl) h)

theorem E_weftlinelaw08_Document (p : GPacket) (w : World) (K : GPacket → World → Prop) (h :
 Wf.NewK (.cells (Value.cells (.agg #[.int .i64 p.From, .int .i64 p.To, .int .u32 p.Tag, .slice p.Chunks.a p.Chunks.n p.Chunks.c])) 34) w fun b w1 =>
 Wf.NewK (.cells z26 26) w1 fun b2 w2 =>
 Wf.ldK ti22 w2 (((bx b)).add 0) fun (v : Int) =>
 Wf.ldK ti22 w2 (((bx b)).add 1) fun (v2 : Int) =>
 Wf.ldK ti23 w2 (((bx b)).add 2) fun (v3 : Int) =>
 Wf.NewK (.cells z26 26) w2 fun b3 w3 =>
 Wf.StoreK (bx b3) [.int .i64 v, .int .i64 v2, .int .u32 v3, .slice none 0 0] w3 fun w4 =>
 Wf.ldK ti32 w4 (((bx b)).add 3) fun (v4 : Sl) =>
 Wf.loopP (X := Int × Unit) (0, ()) w4 fun next s _ w5 =>
 Wf.ifK (decide ((s.1 : Int) < (v4.n : Int)))
(Wf.idxK v4.a v4.n s.1 22 fun (a : Addr) =>
 Wf.ldK ti133 w5 a fun (v5 : GChunk) =>
 Wf.NewK (.cells z133 133) w5 fun b4 w6 =>
 Wf.StoreK (bx b4) [.int .i64 v5.Kind, .int .u32 v5.Piece.TSN, .int .u16 v5.Piece.Stream, .int .u16 v5.Piece.Seq, .bool v5.Piece.Begin, .bool v5.Piece.End, .bool v5.Piece.Unordered, .slice v5.Piece.Text.a v5.Piece.Text.n v5.Piece.Text.c, .int .u32 v5.Tag, .int .i64 v5.Window, .int .i64 v5.Out, .int .i64 v5.In, .int .u32 v5.TSN, .slice v5.Random.a v5.Random.n v5.Random.c, .slice v5.Addrs.a v5.Addrs.n v5.Addrs.c, .slice v5.Info.a v5.Info.n v5.Info.c, .slice v5.Gaps.a v5.Gaps.n v5.Gaps.c, .slice v5.Dups.a v5.Dups.n v5.Dups.c, .int .i64 v5.Cause, .int .u32 v5.Serial, .slice v5.Ops.a v5.Ops.n v5.Ops.c, .bool v5.OK] w6 fun w7 =>
 ∃ (G : World → Prop), Wf.GOk w7 G ∧
 Wf.gLd ti24 (Wf.Th.from w7 G) (((bx b3)).add 3) fun (v6 : Sl) =>
 Wf.gLd ti133 (Wf.Th.from w7 G) (bx b4) fun (v7 : GChunk) =>
 Wf.gEnd (Wf.Th.from w7 G) fun w8 =>
 C_weftlinelaw07_Document v7 w8 fun (v8 : GChunk) w9 =>
 G w9 ∧
 Wf.NewK (.cells #[.int .i64 v8.Kind, .int .u32 v8.Piece.TSN, .int .u16 v8.Piece.Stream, .int .u16 v8.Piece.Seq, .bool v8.Piece.Begin, .bool v8.Piece.End, .bool v8.Piece.Unordered, .slice v8.Piece.Text.a v8.Piece.Text.n v8.Piece.Text.c, .int .u32 v8.Tag, .int .i64 v8.Window, .int .i64 v8.Out, .int .i64 v8.In, .int .u32 v8.TSN, .slice v8.Random.a v8.Random.n v8.Random.c, .slice v8.Addrs.a v8.Addrs.n v8.Addrs.c, .slice v8.Info.a v8.Info.n v8.Info.c, .slice v8.Gaps.a v8.Gaps.n v8.Gaps.c, .slice v8.Dups.a v8.Dups.n v8.Dups.c, .int .i64 v8.Cause, .int .u32 v8.Serial, .slice v8.Ops.a v8.Ops.n v8.Ops.c, .bool v8.OK] 145) w9 fun b5 w10 =>
 G w10 ∧
 Wf.runT Try.prog ti24 (Builtin.append_ #[24, 24] 24 #[.slice v6.a v6.n v6.c, .slice (⟨some (bx b5), 1, 1⟩ : Sl).a (⟨some (bx b5), 1, 1⟩ : Sl).n (⟨some (bx b5), 1, 1⟩ : Sl).c]) w10 fun (v9 : Sl) w11 =>
 Wf.StoreK (((bx b3)).add 3) [.slice v9.a v9.n v9.c] w11 fun w12 =>
 next (IntKind.i64.wrap (s.1 + 1), ()) w12)
(Wf.ldK ti26 w5 (bx b3) fun (v10 : GPacket) =>
 Wf.StoreK (bx b2) [.int .i64 v10.From, .int .i64 v10.To, .int .u32 v10.Tag, .slice v10.Chunks.a v10.Chunks.n v10.Chunks.c] w5 fun w13 =>
 Wf.ldK ti26 w13 (bx b2) fun (res : GPacket) =>
 K res w13)) : C_weftlinelaw08_Document p w K :=
  Wf.enterC tok [⟨[(16, 3)], [5, 16, 17, 18, 19, 20, 21, 22, 23, 24, 25, 26, 27], []⟩, ⟨[], [0, 1, 2], [3, 4, 5, 6, 7]⟩] [1, 2, 3, 5, 6, 7, 8, 9, 10, 11, 12, 13, 14, 15, 16, 17, 18, 19, 20, 21, 22, 23, 24, 25, 26, 27, 28] Try.func16 (by kernel_rfl) (by kernel_rfl) (Eq.mp (by kernel_rfl) h)

theorem E_weftlinelaw08_Program (p : GPacket) (w : World) (K : GPacket → World → Prop) (h :
 Wf.NewK (.cells (Value.cells (.agg #[.int .i64 p.From, .int .i64 p.To, .int .u32 p.Tag, .slice p.Chunks.a p.Chunks.n p.Chunks.c])) 26) w fun b w1 =>
 Wf.NewK (.cells z34 34) w1 fun b2 w2 =>
 ∃ (G : World → Prop), Wf.GOk w2 G ∧
 Wf.gLd ti22 (Wf.Th.from w2 G) (((bx b)).add 0) fun (v : Int) =>
 Wf.gLd ti22 (Wf.Th.from w2 G) (((bx b)).add 1) fun (v2 : Int) =>
 Wf.gLd ti23 (Wf.Th.from w2 G) (((bx b)).add 2) fun (v3 : Int) =>
 Wf.gLd ti24 (Wf.Th.from w2 G) (((bx b)).add 3) fun (v4 : Sl) =>
 Wf.gEnd (Wf.Th.from w2 G) fun w3 =>
 C_weftlinelaw08_Chunks v4 w3 fun (v5 : Sl) w4 =>
 G w4 ∧
 Wf.StoreK (bx b2) [.int .i64 v, .int .i64 v2, .int .u32 v3, .slice v5.a v5.n v5.c] w4 fun w5 =>
 Wf.ldK ti34 w5 (bx b2) fun (res : GPacket) =>
 K res w5) : C_weftlinelaw08_Program p w K :=
  Wf.enterC tok [⟨[], [0, 1, 2, 3, 4, 5, 6, 7], [8, 9, 10]⟩] [1, 2, 3, 4, 5, 6, 7, 8, 9, 10, 11, 12] Try.func15 (by kernel_rfl) (by kernel_rfl) (Eq.mp (by kernel_rfl) h)

theorem E_weftlinelaw08_Size (l : Sl) (w : World) (K : Int → World → Prop) (h :
 Wf.loopP (X := Int × Int × Unit) (0, 0, ()) w fun next s _ w1 =>
 Wf.ifK (decide ((s.2.1 : Int) < (l.n : Int)))
(Wf.idxK l.a l.n s.2.1 22 fun (a : Addr) =>
 Wf.ldK ti145 w1 a fun (v : GChunk) =>
 Wf.NewK (.cells z145 145) w1 fun b w2 =>
 Wf.StoreK (bx b) [.int .i64 v.Kind, .int .u32 v.Piece.TSN, .int .u16 v.Piece.Stream, .int .u16 v.Piece.Seq, .bool v.Piece.Begin, .bool v.Piece.End, .bool v.Piece.Unordered, .slice v.Piece.Text.a v.Piece.Text.n v.Piece.Text.c, .int .u32 v.Tag, .int .i64 v.Window, .int .i64 v.Out, .int .i64 v.In, .int .u32 v.TSN, .slice v.Random.a v.Random.n v.Random.c, .slice v.Addrs.a v.Addrs.n v.Addrs.c, .slice v.Info.a v.Info.n v.Info.c, .slice v.Gaps.a v.Gaps.n v.Gaps.c, .slice v.Dups.a v.Dups.n v.Dups.c, .int .i64 v.Cause, .int .u32 v.Serial, .slice v.Ops.a v.Ops.n v.Ops.c, .bool v.OK] w2 fun w3 =>
 Wf.ldK ti145 w3 (bx b) fun (v2 : GChunk) =>
 C_weftlinelaw07_Size v2 w3 fun (v3 : Int) w4 =>
 next (IntKind.i64.wrap (s.1 + (IntKind.i64.wrap (1 + v3))), IntKind.i64.wrap (s.2.1 + 1), ()) w4)
(K s.1 w1)) : C_weftlinelaw08_Size l w K :=
  Wf.enterC tok [⟨[(3, 3), (8, 3)], [3, 5, 8, 9, 10, 11, 12, 13, 14, 15, 16, 17], []⟩] [2, 3, 5, 6, 7, 8, 9, 10, 11, 12, 13, 14, 15, 16, 17, 18] Try.func14 (by kernel_rfl) (by kernel_rfl) (Eq.mp (by kernel_rfl) h)

theorem E_weftlinelaw20_ReasmMixes (x1 : GMix) (w : World) (K : Bool → World → Prop) (h :
 Wf.NewK (.cells (Value.cells (.agg #[.slice x1.List.a x1.List.n x1.List.c, .int .u32 x1.Start.TSN, .int .u16 x1.Start.Seq, .int .i64 x1.Start.Size, .slice x1.Order.a x1.Order.n x1.Order.c])) 50) w fun b w1 =>
 C_weftlinelaw20_alive  w1 fun (v : Bool) w2 =>
 Wf.ifK (!v)
(K false w2)
(Wf.ldK ti44 w2 (((bx b)).add 0) fun (v2 : Sl) =>
 Wf.ifK (decide (((v2.n : Int) : Int) > 8))
(K true w2)
(Wf.NewK (.cells #[] 60) w2 fun b2 w3 =>
 Wf.NewK (.cells #[] 3) w3 fun b3 w4 =>
 Wf.NewK (.cells #[] 3) w4 fun b4 w5 =>
 Wf.ldK ti47 w5 (((bx b)).add 1) fun (v3 : GStart) =>
 Wf.NewK (.cells z47 47) w5 fun b5 w6 =>
 Wf.StoreK (bx b5) [.int .u32 v3.TSN, .int .u16 v3.Seq, .int .i64 v3.Size] w6 fun w7 =>
 Wf.ldK ti44 w7 (((bx b)).add 0) fun (v4 : Sl) =>
 Wf.loopP (X := Sl × Sl × Sl × Int × Int × Unit) ((⟨some (bx b2), 0, 0⟩ : Sl), (⟨some (bx b3), 0, 0⟩ : Sl), (⟨some (bx b4), 0, 0⟩ : Sl), 0, 0, ()) w7 fun next s _ w8 =>
 Wf.ifK (decide ((s.2.2.2.2.1 : Int) < (v4.n : Int)))
(Wf.idxK v4.a v4.n s.2.2.2.2.1 3 fun (a : Addr) =>
 Wf.ldK ti54 w8 a fun (v5 : GMessage) =>
 Wf.NewK (.cells z54 54) w8 fun b6 w9 =>
 Wf.StoreK (bx b6) [.int .i64 v5.Stream, .bool v5.Unordered, .slice v5.Text.a v5.Text.n v5.Text.c] w9 fun w10 =>
 Wf.ldK ti54 w10 (bx b6) fun (v6 : GMessage) =>
 Wf.ldK ti47 w10 (bx b5) fun (v7 : GStart) =>
 C_frag_Cut v6 v7 w10 fun (v8 : (Sl × Value)) w11 =>
 Wf.isIfc v8.2 = true ∧
 Wf.ifK (!(Wf.isNilV v8.2))
(K (((v8.1.n : Int) : Int) == 0) w11)
(Wf.ldK ti52 w11 (((bx b6)).add 2) fun (v9 : Sl) =>
 Wf.NewK (.cells #[.int .i64 (v8.1.n : Int)] 3) w11 fun b7 w12 =>
 Wf.runT Try.prog ti48 (Builtin.append_ #[48, 48] 48 #[.slice s.2.2.1.a s.2.2.1.n s.2.2.1.c, .slice (⟨some (bx b7), 1, 1⟩ : Sl).a (⟨some (bx b7), 1, 1⟩ : Sl).n (⟨some (bx b7), 1, 1⟩ : Sl).c]) w12 fun (v10 : Sl) w13 =>
 Wf.loopP (X := Sl × Sl × Int × Unit) (s.1, s.2.1, 0, ()) w13 fun next2 s2 _ w14 =>
 Wf.ifK (decide ((s2.2.2.1 : Int) < (v8.1.n : Int)))
(Wf.idxK v8.1.a v8.1.n s2.2.2.1 7 fun (a2 : Addr) =>
 Wf.ldK ti60 w14 a2 fun (v11 : GPiece) =>
 Wf.NewK (.cells z60 60) w14 fun b8 w15 =>
 Wf.StoreK (bx b8) [.int .u32 v11.TSN, .int .u16 v11.Stream, .int .u16 v11.Seq, .bool v11.Begin, .bool v11.End, .bool v11.Unordered, .slice v11.Text.a v11.Text.n v11.Text.c] w15 fun w16 =>
 Wf.ldK ti60 w16 (bx b8) fun (v12 : GPiece) =>
 Wf.NewK (.cells #[.int .u32 v12.TSN, .int .u16 v12.Stream, .int .u16 v12.Seq, .bool v12.Begin, .bool v12.End, .bool v12.Unordered, .slice v12.Text.a v12.Text.n v12.Text.c] 60) w16 fun b9 w17 =>
 Wf.runT Try.prog ti51 (Builtin.append_ #[51, 51] 51 #[.slice s2.1.a s2.1.n s2.1.c, .slice (⟨some (bx b9), 1, 1⟩ : Sl).a (⟨some (bx b9), 1, 1⟩ : Sl).n (⟨some (bx b9), 1, 1⟩ : Sl).c]) w17 fun (v13 : Sl) w18 =>
 Wf.NewK (.cells #[.int .i64 s.2.2.2.2.1] 3) w18 fun b10 w19 =>
 Wf.runT Try.prog ti48 (Builtin.append_ #[48, 48] 48 #[.slice s2.2.1.a s2.2.1.n s2.2.1.c, .slice (⟨some (bx b10), 1, 1⟩ : Sl).a (⟨some (bx b10), 1, 1⟩ : Sl).n (⟨some (bx b10), 1, 1⟩ : Sl).c]) w19 fun (v14 : Sl) w20 =>
 next2 (v13, v14, IntKind.i64.wrap (s2.2.2.1 + 1), ()) w20)
(Wf.ldK ti23 w14 (((bx b5)).add 0) fun (v15 : Int) =>
 Wf.StoreK (((bx b5)).add 0) [.int .u32 (IntKind.u32.wrap (v15 + (IntKind.u32.wrap (v8.1.n : Int))))] w14 fun w21 =>
 Wf.ldK ti45 w21 (((bx b5)).add 1) fun (v16 : Int) =>
 Wf.StoreK (((bx b5)).add 1) [.int .u16 (IntKind.u16.wrap (v16 + 1))] w21 fun w22 =>
 next (s2.1, s2.2.1, v10, IntKind.i64.wrap (s.2.2.2.1 + (v9.n : Int)), IntKind.i64.wrap (s.2.2.2.2.1 + 1), ()) w22)))
(Wf.ifK (decide ((s.2.2.2.1 : Int) > 2000))
(K true w8)
(Wf.ifK (decide (((s.1.n : Int) : Int) > 300))
(K true w8)
(C_reasm_New  w8 fun (v17 : (Option Addr)) w23 =>
 Wf.loopP (X := Sl × Sl × Int × Unit) (s.1, s.2.1, 0, ()) w23 fun next3 s3 _ w24 =>
 Wf.ifK (decide (((s3.1.n : Int) : Int) > 0))
(Wf.ldK ti48 w24 (((bx b)).add 4) fun (v18 : Sl) =>
 Wf.ifK (decide ((s3.2.2.1 : Int) < (v18.n : Int)))
(Wf.ldK ti48 w24 (((bx b)).add 4) fun (v19 : Sl) =>
 Wf.idxK v19.a v19.n s3.2.2.1 1 fun (a3 : Addr) =>
 Wf.ldK ti3 w24 a3 fun (v20 : Int) =>
(IntKind.u64.wrap (s3.1.n : Int) : Int) ≠ 0 ∧
 Wf.idxK s3.1.a s3.1.n (IntKind.i64.wrap (Int.tmod (IntKind.u64.wrap v20) (IntKind.u64.wrap (s3.1.n : Int)))) 7 fun (a4 : Addr) =>
 Wf.ldK ti60 w24 a4 fun (v21 : GPiece) =>
 C_reasm_Bench_Put v17 v21 w24 fun (v22 : (GDone × Bool × Value)) w25 =>
 Wf.NewK (.cells z65 65) w25 fun b11 w26 =>
 Wf.StoreK (bx b11) [.int .i64 v22.1.M.Stream, .bool v22.1.M.Unordered, .slice v22.1.M.Text.a v22.1.M.Text.n v22.1.M.Text.c, .int .u16 v22.1.Seq] w26 fun w27 =>
 Wf.idxK s3.2.1.a s3.2.1.n (IntKind.i64.wrap (Int.tmod (IntKind.u64.wrap v20) (IntKind.u64.wrap (s3.1.n : Int)))) 1 fun (a5 : Addr) =>
 Wf.ldK ti3 w27 a5 fun (v23 : Int) =>
 Wf.idxK s.2.2.1.a s.2.2.1.n v23 1 fun (a6 : Addr) =>
 Wf.ldK ti3 w27 a6 fun (v24 : Int) =>
 Wf.idxK s.2.2.1.a s.2.2.1.n v23 1 fun (a7 : Addr) =>
 Wf.StoreK a7 [.int .i64 (IntKind.i64.wrap (v24 - 1))] w27 fun w28 =>
 ∃ (G : World → Prop), Wf.GOk w28 G ∧
 Wf.isIfc v22.2.2 = true ∧
 Wf.ifK (!(Wf.isNilV v22.2.2))
(Wf.gEnd (Wf.Th.from w28 G) fun w29 =>
 K false w29)
(Wf.idxK s3.2.1.a s3.2.1.n (IntKind.i64.wrap (Int.tmod (IntKind.u64.wrap v20) (IntKind.u64.wrap (s3.1.n : Int)))) 1 fun (a8 : Addr) =>
 Wf.gLd ti3 (Wf.Th.from w28 G) a8 fun (v25 : Int) =>
 Wf.idxK s.2.2.1.a s.2.2.1.n v25 1 fun (a9 : Addr) =>
 Wf.gLd ti3 (Wf.Th.from w28 G) a9 fun (v26 : Int) =>
 Wf.ifK (!(v22.2.1 == ((v26 : Int) == 0)))
(Wf.gEnd (Wf.Th.from w28 G) fun w30 =>
 K false w30)
(Wf.ifK v22.2.1
(Wf.gLd ti54 (Wf.Th.from w28 G) (((bx b11)).add 0) fun (v27 : GMessage) =>
 Wf.gLd ti44 (Wf.Th.from w28 G) (((bx b)).add 0) fun (v28 : Sl) =>
 Wf.idxK s3.2.1.a s3.2.1.n (IntKind.i64.wrap (Int.tmod (IntKind.u64.wrap v20) (IntKind.u64.wrap (s3.1.n : Int)))) 1 fun (a10 : Addr) =>
 Wf.gLd ti3 (Wf.Th.from w28 G) a10 fun (v29 : Int) =>
 Wf.idxK s3.2.1.a s3.2.1.n (IntKind.i64.wrap (Int.tmod (IntKind.u64.wrap v20) (IntKind.u64.wrap (s3.1.n : Int)))) 1 fun (a11 : Addr) =>
 Wf.gLd ti3 (Wf.Th.from w28 G) a11 fun (v30 : Int) =>
 Wf.gRd Try.prog ti44 (Wf.Th.from w28 G) (Instr.sliceAt 44 (.slice v28.a v28.n v28.c) (some (.int .i64 v29)) (some (.int .i64 (IntKind.i64.wrap (v30 + 1)))) none) fun (v31 : Sl) =>
 Wf.gEnd (Wf.Th.from w28 G) fun w32 =>
 Wf.NewK (.cells #[.int .i64 v27.Stream, .bool v27.Unordered, .slice v27.Text.a v27.Text.n v27.Text.c] 54) w32 fun b12 w33 =>
 G w33 ∧
 C_weftlinenum_Messages (⟨some (bx b12), 1, 1⟩ : Sl) v31 w33 fun (v32 : Bool) w34 =>
 Wf.ifK (!v32)
(K false w34)
(∃ (G2 : World → Prop), Wf.GOk w34 G2 ∧
 Wf.gRd Try.prog ti51 (Wf.Th.from w34 G2) (Instr.sliceAt 51 (.slice s3.1.a s3.1.n s3.1.c) none (some (.int .i64 (IntKind.i64.wrap (Int.tmod (IntKind.u64.wrap v20) (IntKind.u64.wrap (s3.1.n : Int)))))) (some (.int .i64 (IntKind.i64.wrap (Int.tmod (IntKind.u64.wrap v20) (IntKind.u64.wrap (s3.1.n : Int))))))) fun (v33 : Sl) =>
 Wf.gRd Try.prog ti51 (Wf.Th.from w34 G2) (Instr.sliceAt 51 (.slice s3.1.a s3.1.n s3.1.c) (some (.int .i64 (IntKind.i64.wrap ((IntKind.i64.wrap (Int.tmod (IntKind.u64.wrap v20) (IntKind.u64.wrap (s3.1.n : Int)))) + 1)))) none none) fun (v34 : Sl) =>
 Wf.gRd Try.prog ti48 (Wf.Th.from w34 G2) (Instr.sliceAt 48 (.slice s3.2.1.a s3.2.1.n s3.2.1.c) none (some (.int .i64 (IntKind.i64.wrap (Int.tmod (IntKind.u64.wrap v20) (IntKind.u64.wrap (s3.1.n : Int)))))) (some (.int .i64 (IntKind.i64.wrap (Int.tmod (IntKind.u64.wrap v20) (IntKind.u64.wrap (s3.1.n : Int))))))) fun (v35 : Sl) =>
 Wf.gRd Try.prog ti48 (Wf.Th.from w34 G2) (Instr.sliceAt 48 (.slice s3.2.1.a s3.2.1.n s3.2.1.c) (some (.int .i64 (IntKind.i64.wrap ((IntKind.i64.wrap (Int.tmod (IntKind.u64.wrap v20) (IntKind.u64.wrap (s3.1.n : Int)))) + 1)))) none none) fun (v36 : Sl) =>
 Wf.gEnd (Wf.Th.from w34 G2) fun w39 =>
 Wf.runT Try.prog ti51 (Builtin.append_ #[51, 51] 51 #[.slice v33.a v33.n v33.c, .slice v34.a v34.n v34.c]) w39 fun (v37 : Sl) w40 =>
 G2 w40 ∧
 Wf.runT Try.prog ti48 (Builtin.append_ #[48, 48] 48 #[.slice v35.a v35.n v35.c, .slice v36.a v36.n v36.c]) w40 fun (v38 : Sl) w41 =>
 next3 (v37, v38, IntKind.i64.wrap (s3.2.2.1 + 1), ()) w41))
(Wf.gEnd (Wf.Th.from w28 G) fun w42 =>
 ∃ (G3 : World → Prop), Wf.GOk w42 G3 ∧
 Wf.gRd Try.prog ti51 (Wf.Th.from w42 G3) (Instr.sliceAt 51 (.slice s3.1.a s3.1.n s3.1.c) none (some (.int .i64 (IntKind.i64.wrap (Int.tmod (IntKind.u64.wrap v20) (IntKind.u64.wrap (s3.1.n : Int)))))) (some (.int .i64 (IntKind.i64.wrap (Int.tmod (IntKind.u64.wrap v20) (IntKind.u64.wrap (s3.1.n : Int))))))) fun (v39 : Sl) =>
 Wf.gRd Try.prog ti51 (Wf.Th.from w42 G3) (Instr.sliceAt 51 (.slice s3.1.a s3.1.n s3.1.c) (some (.int .i64 (IntKind.i64.wrap ((IntKind.i64.wrap (Int.tmod (IntKind.u64.wrap v20) (IntKind.u64.wrap (s3.1.n : Int)))) + 1)))) none none) fun (v40 : Sl) =>
 Wf.gRd Try.prog ti48 (Wf.Th.from w42 G3) (Instr.sliceAt 48 (.slice s3.2.1.a s3.2.1.n s3.2.1.c) none (some (.int .i64 (IntKind.i64.wrap (Int.tmod (IntKind.u64.wrap v20) (IntKind.u64.wrap (s3.1.n : Int)))))) (some (.int .i64 (IntKind.i64.wrap (Int.tmod (IntKind.u64.wrap v20) (IntKind.u64.wrap (s3.1.n : Int))))))) fun (v41 : Sl) =>
 Wf.gRd Try.prog ti48 (Wf.Th.from w42 G3) (Instr.sliceAt 48 (.slice s3.2.1.a s3.2.1.n s3.2.1.c) (some (.int .i64 (IntKind.i64.wrap ((IntKind.i64.wrap (Int.tmod (IntKind.u64.wrap v20) (IntKind.u64.wrap (s3.1.n : Int)))) + 1)))) none none) fun (v42 : Sl) =>
 Wf.gEnd (Wf.Th.from w42 G3) fun w47 =>
 Wf.runT Try.prog ti51 (Builtin.append_ #[51, 51] 51 #[.slice v39.a v39.n v39.c, .slice v40.a v40.n v40.c]) w47 fun (v43 : Sl) w48 =>
 G3 w48 ∧
 Wf.runT Try.prog ti48 (Builtin.append_ #[48, 48] 48 #[.slice v41.a v41.n v41.c, .slice v42.a v42.n v42.c]) w48 fun (v44 : Sl) w49 =>
 next3 (v43, v44, IntKind.i64.wrap (s3.2.2.1 + 1), ()) w49))))
(Wf.idxK s3.1.a s3.1.n 0 7 fun (a12 : Addr) =>
 Wf.ldK ti60 w24 a12 fun (v45 : GPiece) =>
 C_reasm_Bench_Put v17 v45 w24 fun (v46 : (GDone × Bool × Value)) w50 =>
 Wf.NewK (.cells z65 65) w50 fun b13 w51 =>
 Wf.StoreK (bx b13) [.int .i64 v46.1.M.Stream, .bool v46.1.M.Unordered, .slice v46.1.M.Text.a v46.1.M.Text.n v46.1.M.Text.c, .int .u16 v46.1.Seq] w51 fun w52 =>
 Wf.idxK s3.2.1.a s3.2.1.n 0 1 fun (a13 : Addr) =>
 Wf.ldK ti3 w52 a13 fun (v47 : Int) =>
 Wf.idxK s.2.2.1.a s.2.2.1.n v47 1 fun (a14 : Addr) =>
 Wf.ldK ti3 w52 a14 fun (v48 : Int) =>
 Wf.idxK s.2.2.1.a s.2.2.1.n v47 1 fun (a15 : Addr) =>
 Wf.StoreK a15 [.int .i64 (IntKind.i64.wrap (v48 - 1))] w52 fun w53 =>
 ∃ (G4 : World → Prop), Wf.GOk w53 G4 ∧
 Wf.isIfc v46.2.2 = true ∧
 Wf.ifK (!(Wf.isNilV v46.2.2))
(Wf.gEnd (Wf.Th.from w53 G4) fun w54 =>
 K false w54)
(Wf.idxK s3.2.1.a s3.2.1.n 0 1 fun (a16 : Addr) =>
 Wf.gLd ti3 (Wf.Th.from w53 G4) a16 fun (v49 : Int) =>
 Wf.idxK s.2.2.1.a s.2.2.1.n v49 1 fun (a17 : Addr) =>
 Wf.gLd ti3 (Wf.Th.from w53 G4) a17 fun (v50 : Int) =>
 Wf.ifK (!(v46.2.1 == ((v50 : Int) == 0)))
(Wf.gEnd (Wf.Th.from w53 G4) fun w55 =>
 K false w55)
(Wf.ifK v46.2.1
(Wf.gLd ti54 (Wf.Th.from w53 G4) (((bx b13)).add 0) fun (v51 : GMessage) =>
 Wf.gLd ti44 (Wf.Th.from w53 G4) (((bx b)).add 0) fun (v52 : Sl) =>
 Wf.idxK s3.2.1.a s3.2.1.n 0 1 fun (a18 : Addr) =>
 Wf.gLd ti3 (Wf.Th.from w53 G4) a18 fun (v53 : Int) =>
 Wf.idxK s3.2.1.a s3.2.1.n 0 1 fun (a19 : Addr) =>
 Wf.gLd ti3 (Wf.Th.from w53 G4) a19 fun (v54 : Int) =>
 Wf.gRd Try.prog ti44 (Wf.Th.from w53 G4) (Instr.sliceAt 44 (.slice v52.a v52.n v52.c) (some (.int .i64 v53)) (some (.int .i64 (IntKind.i64.wrap (v54 + 1)))) none) fun (v55 : Sl) =>
 Wf.gEnd (Wf.Th.from w53 G4) fun w57 =>
 Wf.NewK (.cells #[.int .i64 v51.Stream, .bool v51.Unordered, .slice v51.Text.a v51.Text.n v51.Text.c] 54) w57 fun b14 w58 =>
 G4 w58 ∧
 C_weftlinenum_Messages (⟨some (bx b14), 1, 1⟩ : Sl) v55 w58 fun (v56 : Bool) w59 =>
 Wf.ifK (!v56)
(K false w59)
(∃ (G5 : World → Prop), Wf.GOk w59 G5 ∧
 Wf.gRd Try.prog ti51 (Wf.Th.from w59 G5) (Instr.sliceAt 51 (.slice s3.1.a s3.1.n s3.1.c) none (some (.int .i64 0)) (some (.int .i64 0))) fun (v57 : Sl) =>
 Wf.gRd Try.prog ti51 (Wf.Th.from w59 G5) (Instr.sliceAt 51 (.slice s3.1.a s3.1.n s3.1.c) (some (.int .i64 (IntKind.i64.wrap (0 + 1)))) none none) fun (v58 : Sl) =>
 Wf.gRd Try.prog ti48 (Wf.Th.from w59 G5) (Instr.sliceAt 48 (.slice s3.2.1.a s3.2.1.n s3.2.1.c) none (some (.int .i64 0)) (some (.int .i64 0))) fun (v59 : Sl) =>
 Wf.gRd Try.prog ti48 (Wf.Th.from w59 G5) (Instr.sliceAt 48 (.slice s3.2.1.a s3.2.1.n s3.2.1.c) (some (.int .i64 (IntKind.i64.wrap (0 + 1)))) none none) fun (v60 : Sl) =>
 Wf.gEnd (Wf.Th.from w59 G5) fun w64 =>
 Wf.runT Try.prog ti51 (Builtin.append_ #[51, 51] 51 #[.slice v57.a v57.n v57.c, .slice v58.a v58.n v58.c]) w64 fun (v61 : Sl) w65 =>
 G5 w65 ∧
 Wf.runT Try.prog ti48 (Builtin.append_ #[48, 48] 48 #[.slice v59.a v59.n v59.c, .slice v60.a v60.n v60.c]) w65 fun (v62 : Sl) w66 =>
 next3 (v61, v62, IntKind.i64.wrap (s3.2.2.1 + 1), ()) w66))
(Wf.gEnd (Wf.Th.from w53 G4) fun w67 =>
 ∃ (G6 : World → Prop), Wf.GOk w67 G6 ∧
 Wf.gRd Try.prog ti51 (Wf.Th.from w67 G6) (Instr.sliceAt 51 (.slice s3.1.a s3.1.n s3.1.c) none (some (.int .i64 0)) (some (.int .i64 0))) fun (v63 : Sl) =>
 Wf.gRd Try.prog ti51 (Wf.Th.from w67 G6) (Instr.sliceAt 51 (.slice s3.1.a s3.1.n s3.1.c) (some (.int .i64 (IntKind.i64.wrap (0 + 1)))) none none) fun (v64 : Sl) =>
 Wf.gRd Try.prog ti48 (Wf.Th.from w67 G6) (Instr.sliceAt 48 (.slice s3.2.1.a s3.2.1.n s3.2.1.c) none (some (.int .i64 0)) (some (.int .i64 0))) fun (v65 : Sl) =>
 Wf.gRd Try.prog ti48 (Wf.Th.from w67 G6) (Instr.sliceAt 48 (.slice s3.2.1.a s3.2.1.n s3.2.1.c) (some (.int .i64 (IntKind.i64.wrap (0 + 1)))) none none) fun (v66 : Sl) =>
 Wf.gEnd (Wf.Th.from w67 G6) fun w72 =>
 Wf.runT Try.prog ti51 (Builtin.append_ #[51, 51] 51 #[.slice v63.a v63.n v63.c, .slice v64.a v64.n v64.c]) w72 fun (v67 : Sl) w73 =>
 G6 w73 ∧
 Wf.runT Try.prog ti48 (Builtin.append_ #[48, 48] 48 #[.slice v65.a v65.n v65.c, .slice v66.a v66.n v66.c]) w73 fun (v68 : Sl) w74 =>
 next3 (v67, v68, IntKind.i64.wrap (s3.2.2.1 + 1), ()) w74)))))
(C_reasm_Bench_Len v17 w24 fun (v69 : Int) w75 =>
 Wf.ifK ((v69 : Int) == 0)
(C_reasm_Bench_Held v17 w75 fun (v70 : Int) w76 =>
 K ((v70 : Int) == 0) w76)
(K false w75)))))))) : C_weftlinelaw20_ReasmMixes x1 w K :=
  Wf.enterC tok [⟨[(3, 51), (4, 48), (5, 48), (6, 3), (34, 3)], [2, 3, 4, 5, 6, 8, 9, 10, 11, 13, 34, 35, 36, 37, 38, 39, 40, 41, 42, 43, 44, 45, 46, 47, 48, 49, 50, 51, 52, 53, 54, 55, 56, 57, 58, 59, 60, 61, 62, 63, 64, 65, 66, 67, 68, 69, 70, 71, 72, 73, 74, 75, 76, 77, 78, 79, 80, 81, 82, 83, 84, 85, 86], []⟩, ⟨[(3, 51), (4, 48), (62, 3)], [3, 4, 13, 62, 63, 64, 65, 66, 67, 68, 69, 70, 71, 72, 73, 74], []⟩, ⟨[(3, 51), (4, 48), (15, 3)], [2, 3, 4, 15, 16, 17, 18, 19, 95, 96, 97, 98, 99, 100, 101, 102, 103, 104, 105, 106, 107, 108, 109, 110, 111, 112, 113, 114, 115, 116, 117, 118, 119, 120, 121, 122, 123, 124, 125, 126, 127, 128, 129, 130, 131, 132, 133, 134, 135, 136, 137, 138, 139, 140, 141, 142, 143, 144, 145, 146, 147, 148, 149, 150, 151, 152, 153, 154, 155, 156, 157, 158, 159, 160, 161, 162, 163, 164, 165, 166, 167, 168, 169, 170, 171, 172, 173, 174, 175, 176, 177, 178, 179, 180, 181, 182, 183, 184, 185, 186, 187, 188], []⟩, ⟨[], [0, 1, 2, 3, 4, 5, 6, 7, 8, 9, 10, 11, 12, 13, 14, 15, 16, 17, 18, 20, 21, 22, 23, 24, 25, 26, 27, 28, 29, 30, 31], [19, 32, 33, 34, 35]⟩, ⟨[], [0, 1, 2, 3, 4, 5, 6, 7, 9, 10, 11, 12, 13, 14, 15, 16], [8, 17, 18, 19]⟩] [1, 2, 3, 4, 5, 6, 7, 8, 9, 10, 11, 13, 14, 15, 16, 17, 18, 19, 20, 21, 22, 23, 24, 25, 26, 27, 28, 29, 30, 31, 32, 33, 34, 35, 36, 37, 38, 39, 40, 41, 42, 43, 44, 45, 46, 47, 48, 49, 50, 51, 52, 53, 54, 55, 56, 57, 58, 59, 60, 61, 62, 63, 64, 65, 66, 67, 68, 69, 70, 71, 72, 73, 74, 75, 76, 77, 78, 79, 80, 81, 82, 83, 84, 85, 86, 87, 88, 89, 90, 91, 92, 93, 94, 95, 96, 97, 98, 99, 100, 101, 102, 103, 104, 105, 106, 107, 108, 109, 110, 111, 112, 113, 114, 115, 116, 117, 118, 119, 120, 121, 122, 123, 124, 125, 126, 127, 128, 129, 130, 131, 132, 133, 134, 135, 136, 137, 138, 139, 140, 141, 142, 143, 144, 145, 146, 147, 148, 149, 150, 151, 152, 153, 154, 155, 156, 157, 158, 159, 160, 161, 162, 163, 164, 165, 166, 167, 168, 169, 170, 171, 172, 173, 174, 175, 176, 177, 178, 179, 180, 181, 182, 183, 184, 185, 186, 187, 188, 189, 190, 191, 192, 193, 194, 195, 196] Try.func4 (by kernel_rfl) (by kernel_rfl) (Eq.mp (by kernel_rfl) h)

theorem E_weftlinelaw20_alive  (w : World) (K : Bool → World → Prop) (h :
 C_reasm_New  w fun (v : (Option Addr)) w1 =>
 Wf.NewK (.cells #[.int .u8 100] 5) w1 fun b w2 =>
 Wf.runT Try.prog ti52 (convert 52 52 (.slice (⟨some (bx b), 1, 1⟩ : Sl).a (⟨some (bx b), 1, 1⟩ : Sl).n (⟨some (bx b), 1, 1⟩ : Sl).c)) w2 fun (v2 : Sl) w3 =>
 Wf.NewK (.cells #[.int .u8 97, .int .u8 98] 5) w3 fun b2 w4 =>
 Wf.runT Try.prog ti52 (convert 52 52 (.slice (⟨some (bx b2), 2, 2⟩ : Sl).a (⟨some (bx b2), 2, 2⟩ : Sl).n (⟨some (bx b2), 2, 2⟩ : Sl).c)) w4 fun (v3 : Sl) w5 =>
 Wf.NewK (.cells #[.int .u8 99] 5) w5 fun b3 w6 =>
 Wf.runT Try.prog ti52 (convert 52 52 (.slice (⟨some (bx b3), 1, 1⟩ : Sl).a (⟨some (bx b3), 1, 1⟩ : Sl).n (⟨some (bx b3), 1, 1⟩ : Sl).c)) w6 fun (v4 : Sl) w7 =>
 Wf.NewK (.cells #[.int .u32 2, .int .u16 0, .int .u16 0, .bool false, .bool true, .bool false, .slice v2.a v2.n v2.c, .int .u32 0, .int .u16 0, .int .u16 0, .bool true, .bool false, .bool false, .slice v3.a v3.n v3.c, .int .u32 1, .int .u16 0, .int .u16 0, .bool false, .bool false, .bool false, .slice v4.a v4.n v4.c] 60) w7 fun b4 w8 =>
 Wf.loopP (X := Int × Unit) (0, ()) w8 fun next s _ w9 =>
 Wf.ifK (decide ((s.1 : Int) < (3 : Int)))
(Wf.idxK (some (bx b4)) 3 s.1 7 fun (a : Addr) =>
 Wf.ldK ti60 w9 a fun (v5 : GPiece) =>
 Wf.NewK (.cells z60 60) w9 fun b5 w10 =>
 Wf.StoreK (bx b5) [.int .u32 v5.TSN, .int .u16 v5.Stream, .int .u16 v5.Seq, .bool v5.Begin, .bool v5.End, .bool v5.Unordered, .slice v5.Text.a v5.Text.n v5.Text.c] w10 fun w11 =>
 Wf.ldK ti60 w11 (bx b5) fun (v6 : GPiece) =>
 C_reasm_Bench_Put v v6 w11 fun (v7 : (GDone × Bool × Value)) w12 =>
 Wf.NewK (.cells z65 65) w12 fun b6 w13 =>
 Wf.StoreK (bx b6) [.int .i64 v7.1.M.Stream, .bool v7.1.M.Unordered, .slice v7.1.M.Text.a v7.1.M.Text.n v7.1.M.Text.c, .int .u16 v7.1.Seq] w13 fun w14 =>
 Wf.isIfc v7.2.2 = true ∧
 Wf.ifK (!(Wf.isNilV v7.2.2))
(K false w14)
(Wf.ifK (!(v7.2.1 == ((s.1 : Int) == 2)))
(K false w14)
(Wf.ifK v7.2.1
(Wf.ldK ti52 w14 ((((bx b6)).add 0).add 2) fun (v8 : Sl) =>
 Wf.runT Try.prog ti9 (convert 52 9 (.slice v8.a v8.n v8.c)) w14 fun (v9 : ByteArray) w15 =>
 Wf.ifK (!(v9.toList == (⟨#[97, 98, 99, 100]⟩ : ByteArray).toList))
(K false w15)
(next (IntKind.i64.wrap (s.1 + 1), ()) w15))
(next (IntKind.i64.wrap (s.1 + 1), ()) w14))))
(C_reasm_Bench_Len v w9 fun (v10 : Int) w16 =>
 Wf.ifK ((v10 : Int) == 0)
(C_reasm_Bench_Held v w16 fun (v11 : Int) w17 =>
 K ((v11 : Int) == 0) w17)
(K false w16))) : C_weftlinelaw20_alive  w K :=
  Wf.enterC tok [⟨[(19, 3)], [0, 2, 3, 4, 5, 6, 19, 20, 21, 22, 23, 24, 25, 26, 27, 28, 29, 30, 31, 32, 33, 34, 35, 36, 37, 38, 39, 40, 41, 42, 43, 44, 45, 46, 47, 48, 49], []⟩] [0, 1, 2, 3, 4, 5, 6, 7, 8, 9, 10, 11, 12, 13, 14, 15, 16, 17, 18, 19, 20, 21, 22, 23, 24, 25, 26, 27, 28, 29, 30, 31, 32, 33, 34, 35, 36, 37, 38, 39, 40, 41, 42, 43, 44, 45, 46, 47, 48, 49, 50, 51, 52, 53, 54, 55, 56, 57] Try.func22 (by kernel_rfl) (by kernel_rfl) (Eq.mp (by kernel_rfl) h)

theorem E_weftlinelaw28_Program (p : GPlan) (w : World) (K : GPlan → World → Prop) (h :
 Wf.NewK (.cells (Value.cells (.agg #[.slice p.From.a p.From.n p.From.c, .slice p.To.a p.To.n p.To.c])) 29) w fun b w1 =>
 Wf.NewK (.cells z38 38) w1 fun b2 w2 =>
 Wf.gLd ti27 (Wf.Th.start w2) (((bx b)).add 0) fun (v : Sl) =>
 Wf.gLd ti27 (Wf.Th.start w2) (((bx b)).add 1) fun (v2 : Sl) =>
 Wf.gNew (Wf.Th.start w2) (.cells #[] 22) fun b3 th =>
 Wf.gEff th (fun W K => Wf.runT Try.prog ti27 (Builtin.append_ #[27, 27] 27 #[.slice (⟨some (bx b3), 0, 0⟩ : Sl).a (⟨some (bx b3), 0, 0⟩ : Sl).n (⟨some (bx b3), 0, 0⟩ : Sl).c, .slice v.a v.n v.c]) W K) fun (v3 : Sl) N th2 =>
 Wf.gNew th2 (.cells #[] 22) fun b4 th3 =>
 Wf.gEnd th3 fun w6 =>
 Wf.runT Try.prog ti27 (Builtin.append_ #[27, 27] 27 #[.slice (⟨some (bx b4), 0, 0⟩ : Sl).a (⟨some (bx b4), 0, 0⟩ : Sl).n (⟨some (bx b4), 0, 0⟩ : Sl).c, .slice v2.a v2.n v2.c]) w6 fun (v4 : Sl) w7 =>
 Wf.StoreK (bx b2) [.slice v3.a v3.n v3.c, .slice v4.a v4.n v4.c] w7 fun w8 =>
 Wf.ldK ti38 w8 (bx b2) fun (res : GPlan) =>
 K res w8) : C_weftlinelaw28_Program p w K :=
  Wf.enterC tok [⟨[], [1, 2, 5, 6, 0, 3, 4], [7, 8, 9]⟩] [1, 2, 3, 4, 5, 6, 7, 8, 9, 10, 11] Try.func18 (by kernel_rfl) (by kernel_rfl) (Eq.mp (by kernel_rfl) h)

theorem E_weftlinelaw28_alive  (w : World) (K : Bool → World → Prop) (h :
 Wf.NewK (.cells #[.int .i64 1] 22) w fun b w1 =>
 Wf.NewK (.cells #[.int .i64 9] 22) w1 fun b2 w2 =>
 C_rebind_Ops (⟨(⟨some (bx b), 1, 1⟩ : Sl), (⟨some (bx b2), 1, 1⟩ : Sl)⟩ : GPlan) w2 fun (v : (Sl × Value)) w3 =>
 Wf.isIfc v.2 = true ∧
 Wf.ifK (Wf.isNilV v.2)
(Wf.ifK (((v.1.n : Int) : Int) == 3)
(Wf.idxK v.1.a v.1.n 0 2 fun (a : Addr) =>
 Wf.ldK ti141 w3 a fun (v2 : GOp) =>
 Wf.runT Try.prog ti4 (do eqGuard .eql 141 (Operand.tmp 20) (Operand.tmp 21) (.agg #[.int .i64 v2.Kind, .int .i64 v2.Addr]) (.agg #[.int .i64 1, .int .i64 9]); binOp .eql 141 (.agg #[.int .i64 v2.Kind, .int .i64 v2.Addr]) (.agg #[.int .i64 1, .int .i64 9])) w3 fun (v3 : Bool) w4 =>
 Wf.ifK v3
(Wf.idxK v.1.a v.1.n 1 2 fun (a2 : Addr) =>
 Wf.ldK ti141 w4 a2 fun (v4 : GOp) =>
 Wf.runT Try.prog ti4 (do eqGuard .eql 141 (Operand.tmp 27) (Operand.tmp 28) (.agg #[.int .i64 v4.Kind, .int .i64 v4.Addr]) (.agg #[.int .i64 2, .int .i64 1]); binOp .eql 141 (.agg #[.int .i64 v4.Kind, .int .i64 v4.Addr]) (.agg #[.int .i64 2, .int .i64 1])) w4 fun (v5 : Bool) w5 =>
 Wf.ifK v5
(Wf.idxK v.1.a v.1.n 2 2 fun (a3 : Addr) =>
 Wf.ldK ti141 w5 a3 fun (v6 : GOp) =>
 Wf.runT Try.prog ti4 (do eqGuard .eql 141 (Operand.tmp 34) (Operand.tmp 35) (.agg #[.int .i64 v6.Kind, .int .i64 v6.Addr]) (.agg #[.int .i64 4, .int .i64 9]); binOp .eql 141 (.agg #[.int .i64 v6.Kind, .int .i64 v6.Addr]) (.agg #[.int .i64 4, .int .i64 9])) w5 fun (v7 : Bool) w6 =>
 K v7 w6)
(K false w5))
(K false w4))
(K false w3))
(K false w3)) : C_weftlinelaw28_alive  w K :=
  Wf.enterC tok [] [0, 1, 2, 3, 4, 5, 6, 7, 8, 9, 10, 11, 12, 13, 14, 15, 16, 17, 18, 19, 20, 21, 22, 23, 24, 25, 26, 27, 28, 29, 30, 31, 32, 33, 34, 35, 36, 37] Try.func13 (by kernel_rfl) (by kernel_rfl) (Eq.mp (by kernel_rfl) h)

theorem E_weftlinenum_Messages (a : Sl) (b : Sl) (w : World) (K : Bool → World → Prop) (h :
 Wf.ifK (((a.n : Int) : Int) != (b.n : Int))
(K false w)
(Wf.loopP (X := Int × Unit) (0, ()) w fun next s _ w1 =>
 Wf.ifK (decide ((s.1 : Int) < (a.n : Int)))
(Wf.idxK a.a a.n s.1 3 fun (a2 : Addr) =>
 Wf.gLd ti3 (Wf.Th.start w1) (a2.add 0) fun (v : Int) =>
 Wf.idxK b.a b.n s.1 3 fun (a3 : Addr) =>
 Wf.gLd ti3 (Wf.Th.start w1) (a3.add 0) fun (v2 : Int) =>
 Wf.ifK ((v : Int) != v2)
(Wf.gEnd (Wf.Th.start w1) fun w2 =>
 K false w2)
(Wf.idxK a.a a.n s.1 3 fun (a4 : Addr) =>
 Wf.gLd ti4 (Wf.Th.start w1) (a4.add 1) fun (v3 : Bool) =>
 Wf.idxK b.a b.n s.1 3 fun (a5 : Addr) =>
 Wf.gLd ti4 (Wf.Th.start w1) (a5.add 1) fun (v4 : Bool) =>
 Wf.ifK (!(v3 == v4))
(Wf.gEnd (Wf.Th.start w1) fun w3 =>
 K false w3)
(Wf.idxK a.a a.n s.1 3 fun (a6 : Addr) =>
 Wf.gLd ti52 (Wf.Th.start w1) (a6.add 2) fun (v5 : Sl) =>
 Wf.gRd Try.prog ti9 (Wf.Th.start w1) (convert 52 9 (.slice v5.a v5.n v5.c)) fun (v6 : ByteArray) =>
 Wf.idxK b.a b.n s.1 3 fun (a7 : Addr) =>
 Wf.gLd ti52 (Wf.Th.start w1) (a7.add 2) fun (v7 : Sl) =>
 Wf.gRd Try.prog ti9 (Wf.Th.start w1) (convert 52 9 (.slice v7.a v7.n v7.c)) fun (v8 : ByteArray) =>
 Wf.gEnd (Wf.Th.start w1) fun w6 =>
 Wf.ifK (!(v6.toList == v8.toList))
(K false w6)
(next (IntKind.i64.wrap (s.1 + 1), ()) w6))))
(K true w1))) : C_weftlinenum_Messages a b w K :=
  Wf.enterC tok [⟨[(13, 3)], [4, 5, 13, 14, 15, 16, 17, 18, 19, 20, 21, 22, 23, 24, 25, 26, 27, 28, 29, 30, 31, 32, 33, 34, 35, 36, 37, 38, 39, 40, 41, 42, 43, 44, 45, 46, 47, 48, 49, 50, 51, 52, 53, 54, 55], []⟩, ⟨[], [0, 1, 2, 3, 4, 5, 6, 7, 8, 9, 10, 11, 12, 13, 14, 15, 16, 17, 18, 19, 20, 21, 22, 23, 24, 25, 26, 27, 28, 29, 30, 31, 32, 33, 34, 35, 36, 37, 38], []⟩] [4, 5, 6, 7, 8, 9, 10, 11, 12, 13, 14, 15, 16, 17, 18, 19, 20, 21, 22, 23, 24, 25, 26, 27, 28, 29, 30, 31, 32, 33, 34, 35, 36, 37, 38, 39, 40, 41, 42, 43, 44, 45, 46, 47, 48, 49, 50, 51, 52, 53, 54, 55] Try.func26 (by kernel_rfl) (by kernel_rfl) (Eq.mp (by kernel_rfl) h)

theorem E_weftlineref07_Same (a : GChunk) (b : GChunk) (w : World) (K : Bool → World → Prop) (h :
 Wf.NewK (.cells (Value.cells (.agg #[.int .i64 a.Kind, .int .u32 a.Piece.TSN, .int .u16 a.Piece.Stream, .int .u16 a.Piece.Seq, .bool a.Piece.Begin, .bool a.Piece.End, .bool a.Piece.Unordered, .slice a.Piece.Text.a a.Piece.Text.n a.Piece.Text.c, .int .u32 a.Tag, .int .i64 a.Window, .int .i64 a.Out, .int .i64 a.In, .int .u32 a.TSN, .slice a.Random.a a.Random.n a.Random.c, .slice a.Addrs.a a.Addrs.n a.Addrs.c, .slice a.Info.a a.Info.n a.Info.c, .slice a.Gaps.a a.Gaps.n a.Gaps.c, .slice a.Dups.a a.Dups.n a.Dups.c, .int .i64 a.Cause, .int .u32 a.Serial, .slice a.Ops.a a.Ops.n a.Ops.c, .bool a.OK])) 145) w fun b2 w1 =>
 Wf.NewK (.cells (Value.cells (.agg #[.int .i64 b.Kind, .int .u32 b.Piece.TSN, .int .u16 b.Piece.Stream, .int .u16 b.Piece.Seq, .bool b.Piece.Begin, .bool b.Piece.End, .bool b.Piece.Unordered, .slice b.Piece.Text.a b.Piece.Text.n b.Piece.Text.c, .int .u32 b.Tag, .int .i64 b.Window, .int .i64 b.Out, .int .i64 b.In, .int .u32 b.TSN, .slice b.Random.a b.Random.n b.Random.c, .slice b.Addrs.a b.Addrs.n b.Addrs.c, .slice b.Info.a b.Info.n b.Info.c, .slice b.Gaps.a b.Gaps.n b.Gaps.c, .slice b.Dups.a b.Dups.n b.Dups.c, .int .i64 b.Cause, .int .u32 b.Serial, .slice b.Ops.a b.Ops.n b.Ops.c, .bool b.OK])) 145) w1 fun b3 w2 =>
 Wf.ldK ti3 w2 (((bx b2)).add 0) fun (v : Int) =>
 Wf.ldK ti3 w2 (((bx b3)).add 0) fun (v2 : Int) =>
 Wf.ifK ((v : Int) != v2)
(K false w2)
(Wf.ldK ti23 w2 (((bx b2)).add 8) fun (v3 : Int) =>
 Wf.ldK ti23 w2 (((bx b3)).add 8) fun (v4 : Int) =>
 Wf.ifK ((v3 : Int) != v4)
(K false w2)
(Wf.ldK ti3 w2 (((bx b2)).add 9) fun (v5 : Int) =>
 Wf.ldK ti3 w2 (((bx b3)).add 9) fun (v6 : Int) =>
 Wf.ifK ((v5 : Int) != v6)
(K false w2)
(Wf.ldK ti3 w2 (((bx b2)).add 10) fun (v7 : Int) =>
 Wf.ldK ti3 w2 (((bx b3)).add 10) fun (v8 : Int) =>
 Wf.ifK ((v7 : Int) != v8)
(K false w2)
(Wf.ldK ti3 w2 (((bx b2)).add 11) fun (v9 : Int) =>
 Wf.ldK ti3 w2 (((bx b3)).add 11) fun (v10 : Int) =>
 Wf.ifK ((v9 : Int) != v10)
(K false w2)
(Wf.ldK ti23 w2 (((bx b2)).add 12) fun (v11 : Int) =>
 Wf.ldK ti23 w2 (((bx b3)).add 12) fun (v12 : Int) =>
 Wf.ifK ((v11 : Int) != v12)
(K false w2)
(Wf.ldK ti3 w2 (((bx b2)).add 18) fun (v13 : Int) =>
 Wf.ldK ti3 w2 (((bx b3)).add 18) fun (v14 : Int) =>
 Wf.ifK ((v13 : Int) != v14)
(K false w2)
(Wf.ldK ti23 w2 (((bx b2)).add 19) fun (v15 : Int) =>
 Wf.ldK ti23 w2 (((bx b3)).add 19) fun (v16 : Int) =>
 Wf.ifK ((v15 : Int) != v16)
(K false w2)
(Wf.ldK ti4 w2 (((bx b2)).add 21) fun (v17 : Bool) =>
 Wf.ldK ti4 w2 (((bx b3)).add 21) fun (v18 : Bool) =>
 Wf.ifK (!(v17 == v18))
(K false w2)
(∃ (G : World → Prop), Wf.GOk w2 G ∧
 Wf.gLd ti60 (Wf.Th.from w2 G) (((bx b2)).add 1) fun (v19 : GPiece) =>
 Wf.gLd ti60 (Wf.Th.from w2 G) (((bx b3)).add 1) fun (v20 : GPiece) =>
 Wf.gNew (Wf.Th.from w2 G) (.cells z60 60) fun b4 th =>
 Wf.gNew th (.cells z60 60) fun b5 th2 =>
 Wf.gEnd th2 fun w5 =>
 Wf.StoreK (bx b4) [.int .u32 v19.TSN, .int .u16 v19.Stream, .int .u16 v19.Seq, .bool v19.Begin, .bool v19.End, .bool v19.Unordered, .slice v19.Text.a v19.Text.n v19.Text.c] w5 fun w6 =>
 G w6 ∧
 Wf.StoreK (bx b5) [.int .u32 v20.TSN, .int .u16 v20.Stream, .int .u16 v20.Seq, .bool v20.Begin, .bool v20.End, .bool v20.Unordered, .slice v20.Text.a v20.Text.n v20.Text.c] w6 fun w7 =>
 Wf.ldK ti23 w7 (((bx b4)).add 0) fun (v21 : Int) =>
 Wf.ldK ti23 w7 (((bx b5)).add 0) fun (v22 : Int) =>
 Wf.ifK ((v21 : Int) != v22)
(K false w7)
(Wf.ldK ti45 w7 (((bx b4)).add 1) fun (v23 : Int) =>
 Wf.ldK ti45 w7 (((bx b5)).add 1) fun (v24 : Int) =>
 Wf.ifK ((v23 : Int) != v24)
(K false w7)
(Wf.ldK ti45 w7 (((bx b4)).add 2) fun (v25 : Int) =>
 Wf.ldK ti45 w7 (((bx b5)).add 2) fun (v26 : Int) =>
 Wf.ifK ((v25 : Int) != v26)
(K false w7)
(Wf.ldK ti4 w7 (((bx b4)).add 3) fun (v27 : Bool) =>
 Wf.ldK ti4 w7 (((bx b5)).add 3) fun (v28 : Bool) =>
 Wf.ifK (!(v27 == v28))
(K false w7)
(Wf.ldK ti4 w7 (((bx b4)).add 4) fun (v29 : Bool) =>
 Wf.ldK ti4 w7 (((bx b5)).add 4) fun (v30 : Bool) =>
 Wf.ifK (!(v29 == v30))
(K false w7)
(Wf.ldK ti4 w7 (((bx b4)).add 5) fun (v31 : Bool) =>
 Wf.ldK ti4 w7 (((bx b5)).add 5) fun (v32 : Bool) =>
 Wf.ifK (!(v31 == v32))
(K false w7)
(Wf.ldK ti52 w7 (((bx b4)).add 6) fun (v33 : Sl) =>
 Wf.runT Try.prog ti9 (convert 52 9 (.slice v33.a v33.n v33.c)) w7 fun (v34 : ByteArray) w8 =>
 Wf.ldK ti52 w8 (((bx b5)).add 6) fun (v35 : Sl) =>
 Wf.runT Try.prog ti9 (convert 52 9 (.slice v35.a v35.n v35.c)) w8 fun (v36 : ByteArray) w9 =>
 Wf.ifK (!(v34.toList == v36.toList))
(K false w9)
(Wf.ldK ti52 w9 (((bx b2)).add 13) fun (v37 : Sl) =>
 Wf.runT Try.prog ti9 (convert 52 9 (.slice v37.a v37.n v37.c)) w9 fun (v38 : ByteArray) w10 =>
 Wf.ldK ti52 w10 (((bx b3)).add 13) fun (v39 : Sl) =>
 Wf.runT Try.prog ti9 (convert 52 9 (.slice v39.a v39.n v39.c)) w10 fun (v40 : ByteArray) w11 =>
 Wf.ifK (!(v38.toList == v40.toList))
(K false w11)
(Wf.ldK ti52 w11 (((bx b2)).add 15) fun (v41 : Sl) =>
 Wf.runT Try.prog ti9 (convert 52 9 (.slice v41.a v41.n v41.c)) w11 fun (v42 : ByteArray) w12 =>
 Wf.ldK ti52 w12 (((bx b3)).add 15) fun (v43 : Sl) =>
 Wf.runT Try.prog ti9 (convert 52 9 (.slice v43.a v43.n v43.c)) w12 fun (v44 : ByteArray) w13 =>
 Wf.ifK (!(v42.toList == v44.toList))
(K false w13)
(Wf.ldK ti27 w13 (((bx b2)).add 14) fun (v45 : Sl) =>
 Wf.ldK ti27 w13 (((bx b3)).add 14) fun (v46 : Sl) =>
 Wf.ifK (((v45.n : Int) : Int) != (v46.n : Int))
(K false w13)
(Wf.ldK ti142 w13 (((bx b2)).add 16) fun (v47 : Sl) =>
 Wf.ldK ti142 w13 (((bx b3)).add 16) fun (v48 : Sl) =>
 Wf.ifK (((v47.n : Int) : Int) != (v48.n : Int))
(K false w13)
(Wf.ldK ti130 w13 (((bx b2)).add 17) fun (v49 : Sl) =>
 Wf.ldK ti130 w13 (((bx b3)).add 17) fun (v50 : Sl) =>
 Wf.ifK (((v49.n : Int) : Int) != (v50.n : Int))
(K false w13)
(Wf.ldK ti143 w13 (((bx b2)).add 20) fun (v51 : Sl) =>
 Wf.ldK ti143 w13 (((bx b3)).add 20) fun (v52 : Sl) =>
 Wf.ifK (((v51.n : Int) : Int) != (v52.n : Int))
(K false w13)
(Wf.loopP (X := Int × Unit) (0, ()) w13 fun next s _ w14 =>
 Wf.ldK ti27 w14 (((bx b2)).add 14) fun (v53 : Sl) =>
 Wf.ifK (decide ((s.1 : Int) < (v53.n : Int)))
(Wf.gLd ti27 (Wf.Th.start w14) (((bx b2)).add 14) fun (v54 : Sl) =>
 Wf.idxK v54.a v54.n s.1 1 fun (a2 : Addr) =>
 Wf.gLd ti22 (Wf.Th.start w14) a2 fun (v55 : Int) =>
 Wf.gLd ti27 (Wf.Th.start w14) (((bx b3)).add 14) fun (v56 : Sl) =>
 Wf.idxK v56.a v56.n s.1 1 fun (a3 : Addr) =>
 Wf.gLd ti22 (Wf.Th.start w14) a3 fun (v57 : Int) =>
 Wf.gEnd (Wf.Th.start w14) fun w15 =>
 Wf.ifK ((v55 : Int) != v57)
(K false w15)
(next (IntKind.i64.wrap (s.1 + 1), ()) w15))
(Wf.loopP (X := Int × Unit) (0, ()) w14 fun next2 s2 _ w16 =>
 Wf.ldK ti142 w16 (((bx b2)).add 16) fun (v58 : Sl) =>
 Wf.ifK (decide ((s2.1 : Int) < (v58.n : Int)))
(Wf.gLd ti142 (Wf.Th.start w16) (((bx b2)).add 16) fun (v59 : Sl) =>
 Wf.idxK v59.a v59.n s2.1 2 fun (a4 : Addr) =>
 Wf.gLd ti228 (Wf.Th.start w16) a4 fun (v60 : GGap) =>
 Wf.gLd ti142 (Wf.Th.start w16) (((bx b3)).add 16) fun (v61 : Sl) =>
 Wf.idxK v61.a v61.n s2.1 2 fun (a5 : Addr) =>
 Wf.gLd ti228 (Wf.Th.start w16) a5 fun (v62 : GGap) =>
 Wf.gRd Try.prog ti4 (Wf.Th.start w16) (do eqGuard .neq 228 (Operand.tmp 206) (Operand.tmp 211) (.agg #[.int .i64 v60.From, .int .i64 v60.To]) (.agg #[.int .i64 v62.From, .int .i64 v62.To]); binOp .neq 228 (.agg #[.int .i64 v60.From, .int .i64 v60.To]) (.agg #[.int .i64 v62.From, .int .i64 v62.To])) fun (v63 : Bool) =>
 Wf.gEnd (Wf.Th.start w16) fun w18 =>
 Wf.ifK v63
(K false w18)
(next2 (IntKind.i64.wrap (s2.1 + 1), ()) w18))
(Wf.loopP (X := Int × Unit) (0, ()) w16 fun next3 s3 _ w19 =>
 Wf.ldK ti130 w19 (((bx b2)).add 17) fun (v64 : Sl) =>
 Wf.ifK (decide ((s3.1 : Int) < (v64.n : Int)))
(Wf.gLd ti130 (Wf.Th.start w19) (((bx b2)).add 17) fun (v65 : Sl) =>
 Wf.idxK v65.a v65.n s3.1 1 fun (a6 : Addr) =>
 Wf.gLd ti23 (Wf.Th.start w19) a6 fun (v66 : Int) =>
 Wf.gLd ti130 (Wf.Th.start w19) (((bx b3)).add 17) fun (v67 : Sl) =>
 Wf.idxK v67.a v67.n s3.1 1 fun (a7 : Addr) =>
 Wf.gLd ti23 (Wf.Th.start w19) a7 fun (v68 : Int) =>
 Wf.gEnd (Wf.Th.start w19) fun w20 =>
 Wf.ifK ((v66 : Int) != v68)
(K false w20)
(next3 (IntKind.i64.wrap (s3.1 + 1), ()) w20))
(Wf.loopP (X := Int × Unit) (0, ()) w19 fun next4 s4 _ w21 =>
 Wf.ldK ti143 w21 (((bx b2)).add 20) fun (v69 : Sl) =>
 Wf.ifK (decide ((s4.1 : Int) < (v69.n : Int)))
(Wf.gLd ti143 (Wf.Th.start w21) (((bx b2)).add 20) fun (v70 : Sl) =>
 Wf.idxK v70.a v70.n s4.1 2 fun (a8 : Addr) =>
 Wf.gLd ti229 (Wf.Th.start w21) a8 fun (v71 : GOp) =>
 Wf.gLd ti143 (Wf.Th.start w21) (((bx b3)).add 20) fun (v72 : Sl) =>
 Wf.idxK v72.a v72.n s4.1 2 fun (a9 : Addr) =>
 Wf.gLd ti229 (Wf.Th.start w21) a9 fun (v73 : GOp) =>
 Wf.gRd Try.prog ti4 (Wf.Th.start w21) (do eqGuard .neq 229 (Operand.tmp 242) (Operand.tmp 247) (.agg #[.int .i64 v71.Kind, .int .i64 v71.Addr]) (.agg #[.int .i64 v73.Kind, .int .i64 v73.Addr]); binOp .neq 229 (.agg #[.int .i64 v71.Kind, .int .i64 v71.Addr]) (.agg #[.int .i64 v73.Kind, .int .i64 v73.Addr])) fun (v74 : Bool) =>
 Wf.gEnd (Wf.Th.start w21) fun w23 =>
 Wf.ifK v74
(K false w23)
(next4 (IntKind.i64.wrap (s4.1 + 1), ()) w23))
(K true w21))))))))))))))))))))))))))) : C_weftlineref07_Same a b w K :=
  Wf.enterC tok [⟨[], [0, 1, 2, 3, 4, 5], [6, 7]⟩, ⟨[(7, 3)], [4, 7, 177, 178, 179, 180, 181, 182, 183, 184, 185, 186, 187, 188, 189, 190, 191, 192, 193, 194], []⟩, ⟨[], [0, 1, 2, 3, 4, 5, 6, 7, 8, 9, 10], []⟩, ⟨[(8, 3)], [4, 8, 195, 196, 197, 198, 199, 200, 201, 202, 203, 204, 205, 206, 207, 208, 209, 210, 211, 212], []⟩, ⟨[], [0, 1, 2, 3, 4, 5, 6, 7, 8, 9, 10], []⟩, ⟨[(9, 3)], [4, 9, 213, 214, 215, 216, 217, 218, 219, 220, 221, 222, 223, 224, 225, 226, 227, 228, 229, 230], []⟩, ⟨[], [0, 1, 2, 3, 4, 5, 6, 7, 8, 9, 10], []⟩, ⟨[(10, 3)], [4, 10, 231, 232, 233, 234, 235, 236, 237, 238, 239, 240, 241, 242, 243, 244, 245, 246, 247, 248], []⟩, ⟨[], [0, 1, 2, 3, 4, 5, 6, 7, 8, 9, 10], []⟩] [2, 3, 4, 5, 6, 7, 8, 9, 10, 11, 12, 13, 14, 15, 16, 17, 18, 19, 20, 21, 22, 23, 24, 25, 26, 27, 28, 29, 30, 31, 32, 33, 34, 35, 36, 37, 38, 39, 40, 41, 42, 43, 44, 45, 46, 47, 48, 49, 50, 51, 52, 53, 54, 55, 56, 57, 58, 59, 60, 61, 62, 63, 64, 65, 66, 67, 68, 69, 70, 71, 72, 73, 74, 75, 76, 77, 78, 79, 80, 81, 82, 83, 84, 85, 86, 87, 88, 89, 90, 91, 92, 93, 94, 95, 96, 97, 98, 99, 100, 101, 102, 103, 104, 105, 106, 107, 108, 109, 110, 111, 112, 113, 114, 115, 116, 117, 118, 119, 120, 121, 122, 123, 124, 125, 126, 127, 128, 129, 130, 131, 132, 133, 134, 135, 136, 137, 138, 139, 140, 141, 142, 143, 144, 145, 146, 147, 148, 149, 150, 151, 152, 153, 154, 155, 156, 157, 158, 159, 160, 161, 162, 163, 164, 165, 166, 167, 168, 169, 170, 171, 172, 173, 174, 175, 176, 177, 178, 179, 180, 181, 182, 183, 184, 185, 186, 187, 188, 189, 190, 191, 192, 193, 194, 195, 196, 197, 198, 199, 200, 201, 202, 203, 204, 205, 206, 207, 208, 209, 210, 211, 212, 213, 214, 215, 216, 217, 218, 219, 220, 221, 222, 223, 224, 225, 226, 227, 228, 229, 230, 231, 232, 233, 234, 235, 236, 237, 238, 239, 240, 241, 242, 243, 244, 245, 246, 247, 248] Try.func69 (by kernel_rfl) (by kernel_rfl) (Eq.mp (by kernel_rfl) h)

theorem E_weftlineref08_Same (a : GPacket) (b : GPacket) (w : World) (K : Bool → World → Prop) (h :
 Wf.NewK (.cells (Value.cells (.agg #[.int .i64 a.From, .int .i64 a.To, .int .u32 a.Tag, .slice a.Chunks.a a.Chunks.n a.Chunks.c])) 26) w fun b2 w1 =>
 Wf.NewK (.cells (Value.cells (.agg #[.int .i64 b.From, .int .i64 b.To, .int .u32 b.Tag, .slice b.Chunks.a b.Chunks.n b.Chunks.c])) 26) w1 fun b3 w2 =>
 Wf.ldK ti22 w2 (((bx b2)).add 0) fun (v : Int) =>
 Wf.ldK ti22 w2 (((bx b3)).add 0) fun (v2 : Int) =>
 Wf.ifK ((v : Int) == v2)
(Wf.ldK ti22 w2 (((bx b2)).add 1) fun (v3 : Int) =>
 Wf.ldK ti22 w2 (((bx b3)).add 1) fun (v4 : Int) =>
 Wf.ifK ((v3 : Int) == v4)
(Wf.ldK ti23 w2 (((bx b2)).add 2) fun (v5 : Int) =>
 Wf.ldK ti23 w2 (((bx b3)).add 2) fun (v6 : Int) =>
 Wf.ifK ((v5 : Int) == v6)
(Wf.ldK ti24 w2 (((bx b2)).add 3) fun (v7 : Sl) =>
 Wf.ldK ti24 w2 (((bx b3)).add 3) fun (v8 : Sl) =>
 C_weftlineref08_SameChunks v7 v8 w2 fun (v9 : Bool) w3 =>
 K v9 w3)
(K false w2))
(K false w2))
(K false w2)) : C_weftlineref08_Same a b w K :=
  Wf.enterC tok [] [2, 3, 4, 5, 6, 7, 8, 9, 10, 11, 12, 13, 14, 15, 16, 17, 18, 19, 20, 21, 22, 23, 24, 25, 26, 27, 28, 29, 30] Try.func21 (by kernel_rfl) (by kernel_rfl) (Eq.mp (by kernel_rfl) h)

theorem E_weftlineref08_SameChunks (a : Sl) (b : Sl) (w : World) (K : Bool → World → Prop) (h :
 Wf.ifK (((a.n : Int) : Int) != (b.n : Int))
(K false w)
(Wf.loopP (X := Int × Unit) (0, ()) w fun next s _ w1 =>
 Wf.ifK (decide ((s.1 : Int) < (a.n : Int)))
(Wf.idxK a.a a.n s.1 22 fun (a2 : Addr) =>
 Wf.gLd ti145 (Wf.Th.start w1) a2 fun (v : GChunk) =>
 Wf.idxK b.a b.n s.1 22 fun (a3 : Addr) =>
 Wf.gLd ti145 (Wf.Th.start w1) a3 fun (v2 : GChunk) =>
 Wf.gEnd (Wf.Th.start w1) fun w2 =>
 C_weftlineref07_Same v v2 w2 fun (v3 : Bool) w3 =>
 Wf.ifK (!v3)
(K false w3)
(next (IntKind.i64.wrap (s.1 + 1), ()) w3))
(K true w1))) : C_weftlineref08_SameChunks a b w K :=
  Wf.enterC tok [⟨[(5, 3)], [4, 5, 11, 12, 13, 14, 15, 16, 17, 18, 19, 20, 21, 22, 23, 24, 25, 26], []⟩, ⟨[], [0, 1, 2, 3, 4, 5, 6, 7], [8, 9]⟩] [4, 5, 6, 7, 8, 9, 10, 11, 12, 13, 14, 15, 16, 17, 18, 19, 20, 21, 22, 23, 24, 25, 26] Try.func20 (by kernel_rfl) (by kernel_rfl) (Eq.mp (by kernel_rfl) h)

theorem E_weftlineref13_Addr (a : Int) (w : World) (K : Bool → World → Prop) (h :
 Wf.ifK (decide ((a : Int) ≥ 1))
(K (decide ((a : Int) ≤ 2147483647)) w)
(K false w)) : C_weftlineref13_Addr a w K :=
  Wf.enterC tok [] [2, 3, 4, 5, 6, 7, 8] Try.func129 (by kernel_rfl) (by kernel_rfl) (Eq.mp (by kernel_rfl) h)

theorem E_weftlineref28_Of (p : GPlan) (a : Int) (w : World) (K : Int → World → Prop) (h :
 Wf.NewK (.cells (Value.cells (.agg #[.slice p.From.a p.From.n p.From.c, .slice p.To.a p.To.n p.To.c])) 29) w fun b w1 =>
 Wf.loopP (X := Int × Unit) (0, ()) w1 fun next s _ w2 =>
 Wf.ldK ti27 w2 (((bx b)).add 0) fun (v : Sl) =>
 Wf.ifK (decide ((s.1 : Int) < (v.n : Int)))
(Wf.ldK ti29 w2 (bx b) fun (v2 : GPlan) =>
 C_weftlineref28_Right v2 w2 fun (v3 : Bool) w3 =>
 Wf.ifK v3
(Wf.ldK ti27 w3 (((bx b)).add 0) fun (v4 : Sl) =>
 Wf.idxK v4.a v4.n s.1 1 fun (a2 : Addr) =>
 Wf.ldK ti22 w3 a2 fun (v5 : Int) =>
 Wf.ifK ((v5 : Int) == a)
(Wf.ldK ti27 w3 (((bx b)).add 1) fun (v6 : Sl) =>
 Wf.idxK v6.a v6.n s.1 1 fun (a3 : Addr) =>
 Wf.ldK ti22 w3 a3 fun (v7 : Int) =>
 K v7 w3)
(next (IntKind.i64.wrap (s.1 + 1), ()) w3))
(K a w3))
(K a w2)) : C_weftlineref28_Of p a w K :=
  Wf.enterC tok [⟨[(5, 3)], [4, 5, 6, 7, 8, 9, 10, 11, 12, 13, 14, 15, 16, 17, 18, 19, 20, 21, 22, 23, 24, 25, 26, 27, 28], []⟩] [2, 4, 5, 6, 7, 8, 9, 10, 11, 12, 13, 14, 15, 16, 17, 18, 19, 20, 21, 22, 23, 24, 25, 26, 27, 28, 29] Try.func19 (by kernel_rfl) (by kernel_rfl) (Eq.mp (by kernel_rfl) h)

theorem E_weftlineref28_Right (p : GPlan) (w : World) (K : Bool → World → Prop) (h :
 Wf.NewK (.cells (Value.cells (.agg #[.slice p.From.a p.From.n p.From.c, .slice p.To.a p.To.n p.To.c])) 29) w fun b w1 =>
 Wf.ldK ti27 w1 (((bx b)).add 0) fun (v : Sl) =>
 Wf.ifK (decide (((v.n : Int) : Int) < 1))
(K false w1)
(Wf.ldK ti27 w1 (((bx b)).add 0) fun (v2 : Sl) =>
 Wf.ifK (decide (((v2.n : Int) : Int) > 4))
(K false w1)
(Wf.ldK ti27 w1 (((bx b)).add 1) fun (v3 : Sl) =>
 Wf.ldK ti27 w1 (((bx b)).add 0) fun (v4 : Sl) =>
 Wf.ifK (((v3.n : Int) : Int) != (v4.n : Int))
(K false w1)
(Wf.loopP (X := Int × Unit) (0, ()) w1 fun next s _ w2 =>
 Wf.ldK ti27 w2 (((bx b)).add 0) fun (v5 : Sl) =>
 Wf.ifK (decide ((s.1 : Int) < (v5.n : Int)))
(Wf.gLd ti27 (Wf.Th.start w2) (((bx b)).add 0) fun (v6 : Sl) =>
 Wf.idxK v6.a v6.n s.1 1 fun (a : Addr) =>
 Wf.gLd ti22 (Wf.Th.start w2) a fun (v7 : Int) =>
 Wf.gEff (Wf.Th.start w2) (fun W K => C_weftlineref13_Addr v7 W K) fun (v8 : Bool) N th =>
 Wf.ifK (!v8)
(Wf.gEnd th fun w4 =>
 K false w4)
(Wf.gLd ti27 th (((bx b)).add 1) fun (v9 : Sl) =>
 Wf.idxK v9.a v9.n s.1 1 fun (a2 : Addr) =>
 Wf.gLd ti22 th a2 fun (v10 : Int) =>
 Wf.gEff th (fun W K => C_weftlineref13_Addr v10 W K) fun (v11 : Bool) N2 th2 =>
 Wf.ifK (!v11)
(Wf.gEnd th2 fun w6 =>
 K false w6)
(Wf.gLd ti27 th2 (((bx b)).add 0) fun (v12 : Sl) =>
 Wf.gRd Try.prog ti27 th2 (Instr.sliceAt 27 (.slice v12.a v12.n v12.c) none (some (.int .i64 s.1)) none) fun (v13 : Sl) =>
 Wf.gLd ti27 th2 (((bx b)).add 0) fun (v14 : Sl) =>
 Wf.idxK v14.a v14.n s.1 1 fun (a3 : Addr) =>
 Wf.gLd ti22 th2 a3 fun (v15 : Int) =>
 Wf.gEff th2 (fun W K => C_weftlineref28_has v13 v15 W K) fun (v16 : Bool) N3 th3 =>
 Wf.ifK v16
(Wf.gEnd th3 fun w9 =>
 K false w9)
(Wf.gLd ti27 th3 (((bx b)).add 1) fun (v17 : Sl) =>
 Wf.gRd Try.prog ti27 th3 (Instr.sliceAt 27 (.slice v17.a v17.n v17.c) none (some (.int .i64 s.1)) none) fun (v18 : Sl) =>
 Wf.gLd ti27 th3 (((bx b)).add 1) fun (v19 : Sl) =>
 Wf.idxK v19.a v19.n s.1 1 fun (a4 : Addr) =>
 Wf.gLd ti22 th3 a4 fun (v20 : Int) =>
 Wf.gEff th3 (fun W K => C_weftlineref28_has v18 v20 W K) fun (v21 : Bool) N4 th4 =>
 Wf.ifK v21
(Wf.gEnd th4 fun w12 =>
 K false w12)
(Wf.gLd ti27 th4 (((bx b)).add 0) fun (v22 : Sl) =>
 Wf.gLd ti27 th4 (((bx b)).add 1) fun (v23 : Sl) =>
 Wf.idxK v23.a v23.n s.1 1 fun (a5 : Addr) =>
 Wf.gLd ti22 th4 a5 fun (v24 : Int) =>
 Wf.gEnd th4 fun w13 =>
 C_weftlineref28_has v22 v24 w13 fun (v25 : Bool) w14 =>
 Wf.ifK v25
(K false w14)
(next (IntKind.i64.wrap (s.1 + 1), ()) w14))))))
(K true w2))))) : C_weftlineref28_Right p w K :=
  Wf.enterC tok [⟨[(3, 3)], [2, 3, 23, 24, 25, 26, 27, 28, 29, 30, 31, 32, 33, 34, 35, 36, 37, 38, 39, 40, 41, 42, 43, 44, 45, 46, 47, 48, 49, 50, 51, 52, 53, 54, 55, 56, 57, 58, 59, 60, 61, 62, 63, 64, 65, 66, 67, 68, 69, 70, 71, 72, 73, 74, 75, 76, 77, 78, 79], []⟩, ⟨[], [0, 1, 2, 3, 4, 5, 6, 7, 8, 9, 10, 11, 12, 13, 14, 15, 16, 17, 18, 19, 20, 21, 22, 23, 24, 25, 26, 27, 28, 29, 30, 31, 32, 33, 34, 35, 36, 37, 38, 39, 40, 41, 42, 43, 44, 45, 46, 47], [48, 49]⟩] [1, 2, 3, 4, 5, 6, 7, 8, 9, 10, 11, 12, 13, 14, 15, 16, 17, 18, 19, 20, 21, 22, 23, 24, 25, 26, 27, 28, 29, 30, 31, 32, 33, 34, 35, 36, 37, 38, 39, 40, 41, 42, 43, 44, 45, 46, 47, 48, 49, 50, 51, 52, 53, 54, 55, 56, 57, 58, 59, 60, 61, 62, 63, 64, 65, 66, 67, 68, 69, 70, 71, 72, 73, 74, 75, 76, 77, 78, 79] Try.func68 (by kernel_rfl) (by kernel_rfl) (Eq.mp (by kernel_rfl) h)

theorem E_weftlineref28_has (l : Sl) (a : Int) (w : World) (K : Bool → World → Prop) (h :
 Wf.loopP (X := Int × Unit) (0, ()) w fun next s _ w1 =>
 Wf.ifK (decide ((s.1 : Int) < (l.n : Int)))
(Wf.idxK l.a l.n s.1 1 fun (a2 : Addr) =>
 Wf.ldK ti22 w1 a2 fun (v : Int) =>
 Wf.ifK ((v : Int) == a)
(K true w1)
(next (IntKind.i64.wrap (s.1 + 1), ()) w1))
(K false w1)) : C_weftlineref28_has l a w K :=
  Wf.enterC tok [⟨[(5, 3)], [4, 5, 6, 7, 8, 9, 10, 11, 12, 13, 14, 15, 16, 17], []⟩] [4, 5, 6, 7, 8, 9, 10, 11, 12, 13, 14, 15, 16, 17] Try.func130 (by kernel_rfl) (by kernel_rfl) (Eq.mp (by kernel_rfl) h)

end Go.Wf2
