/- A part of the proof: lemmas; nothing is claimed here. -/
import Derived.Test.YtkeecncgfhgnpaaWS2
set_option linter.all false
namespace Go.Wf2
open Go Go.Wf Go.Proofs
set_option linter.unusedVariables false
set_option linter.deprecated false
set_option maxRecDepth 4000
def sizeC (x : XChunk) : Int := x.Piece.Text.length + x.Random.length + x.Info.length + 10 * (x.Addrs.length + x.Gaps.length + x.Dups.length + x.Ops.length)
def sizeL (l : List XChunk) : Int := (l.map fun c => 1 + sizeC c).sum
theorem size07_spec {c : GChunk} {w : World} {S : Nat → Prop} {x : XChunk} (hc : rChunk.R w S c x) (hn : x.small 140737488355328) : C_weftlinelaw07_Size c w (Val w (sizeC x)) := by
  refine E_weftlinelaw07_Size _ _ _ ?_
  obtain ⟨⟨c1, c1'⟩, c2, c3, c4, c5, c6, c7, c8⟩ := hc
  obtain ⟨n1, n2, n3, n4, n5, n6, n7⟩ := hn
  have l1 := c1.1
  have l2 := c2.1
  have l3 := c3.1
  have l4 := c4.1
  have l5 := c5.1
  have l6 := c6.1
  have l7 := c7.1
  have H := Own.start none_ w
  refine H.new fun b w1 H _ => ?_
  refine H.ld 0 7 rfl rfl rfl (p := c.Piece.Text) ?_
  refine H.ld 0 13 rfl rfl rfl (p := c.Random) ?_
  refine H.ld 0 15 rfl rfl rfl (p := c.Info) ?_
  refine H.ld 0 14 rfl rfl rfl (p := c.Addrs) ?_
  refine H.ld 0 16 rfl rfl rfl (p := c.Gaps) ?_
  refine H.ld 0 17 rfl rfl rfl (p := c.Dups) ?_
  refine H.ld 0 20 rfl rfl rfl (p := c.Ops) ?_
  refine ⟨H.step, ?_⟩
  simp (disch := omega) only [wrap64, sizeC]
  omega
theorem sizeC_nonneg (x : XChunk) : 0 ≤ sizeC x := by unfold sizeC; omega
theorem sizeC_le {x : XChunk} (hn : x.small 140737488355328) : sizeC x ≤ 6051711999279104 := by
  obtain ⟨n1, n2, n3, n4, n5, n6, n7⟩ := hn
  unfold sizeC; omega
theorem sizeL_snoc (l : List XChunk) (x : XChunk) : sizeL (l ++ [x]) = sizeL l + (1 + sizeC x) := by simp [sizeL]
theorem size08_spec {l : Sl} {w : World} {S : Nat → Prop} {xs : List XChunk} (hx : rChunks.R w S l xs) (hl : xs.length ≤ 100) (hn : ∀ (i : Nat) c, xs[i]? = some c → c.small 140737488355328) : C_weftlinelaw08_Size l w (Val w (sizeL xs)) := by
  refine E_weftlinelaw08_Size _ _ _ ?_
  obtain ⟨gs, g1, g2⟩ := hx
  have hlen := g2.len
  have hgn := g1.len
  have H := Own.start none_ w
  refine RInv.loop (n := gs.length) (I := fun i (a : Int) w' => 0 ≤ a ∧ a ≤ i * 6051711999279105 ∧ a = sizeL (xs.take i) ∧ Go.Wf.Own none_ w w' []) (⟨by simp, by simp, rfl, H⟩) ?_
  rintro i a w1 hi hI d
  obtain ⟨a0, a1, a2, H⟩ := hI
  dsimp only
  refine ifK.mk (fun hc1 => ?_) (fun hc1 => ?_)
  · skip
    have hc1 := of_decide_eq_true hc1
    refine SlT.getN ok145 (Rdr.ext (Rdr.sl0 ok145) g1 H.step) (by omega) fun v hv => ?_
    obtain ⟨x, hx, r⟩ := g2.at? hv
    refine H.new fun b w2 H _ => ?_
    refine H.st 0 0 rfl rfl rfl fun w3 H => ?_
    replace H : Go.Wf.Own _ _ _ (Var b _ [.int .i64 v.Kind, .int .u32 v.Piece.TSN, .int .u16 v.Piece.Stream, .int .u16 v.Piece.Seq, .bool v.Piece.Begin, .bool v.Piece.End, .bool v.Piece.Unordered, .slice v.Piece.Text.a v.Piece.Text.n v.Piece.Text.c, .int .u32 v.Tag, .int .i64 v.Window, .int .i64 v.Out, .int .i64 v.In, .int .u32 v.TSN, .slice v.Random.a v.Random.n v.Random.c, .slice v.Addrs.a v.Addrs.n v.Addrs.c, .slice v.Info.a v.Info.n v.Info.c, .slice v.Gaps.a v.Gaps.n v.Gaps.c, .slice v.Dups.a v.Dups.n v.Dups.c, .int .i64 v.Cause, .int .u32 v.Serial, .slice v.Ops.a v.Ops.n v.Ops.c, .bool v.OK] :: _) := H
    refine H.ld 0 0 rfl rfl rfl (p := v) ?_
    refine C_weftlinelaw07_Size.mono (size07_spec (rChunk.ext r H.step) (hn i x hx)) fun v3 w4 h_v3 => ?_
    obtain ⟨hx_w4, rfl⟩ := h_v3
    have H := H.ext hx_w4
    have H := H.drop 0
    have h1 := sizeC_nonneg x
    have h2 := sizeC_le (hn i x hx)
    rw [wrap64 (n := 1 + sizeC x) (by omega) (by omega), wrap64 (n := a + (1 + sizeC x)) (by omega) (by omega)]
    exact RInv.next (by omega) (by omega) ⟨by omega, by omega, by rw [take_snoc hx, sizeL_snoc, a2], H⟩
  · skip
    have hc1 := of_decide_eq_false hc1
    have hil : i = gs.length := by omega
    subst hil
    rw [List.take_of_length_le (by omega)] at a2
    exact ⟨H.step, a2⟩
theorem program07_spec {c : GChunk} {w : World} {S : Nat → Prop} {x : XChunk} (hc : rChunk.R w S c x) (hn : x.small 1000000) : C_weftlinelaw07_Program c w (Made w (fun r N => rChunk.ent N r x) (fun _ => True)) := by
  refine E_weftlinelaw07_Program _ _ _ ?_
  obtain ⟨⟨c1, c1'⟩, c2, c3, c4, c5, c6, c7, c8⟩ := hc
  obtain ⟨n1, n2, n3, n4, n5, n6, n7⟩ := hn
  have l5 := c5.1
  have l7 := c7.1
  have H := Own.start none_ w
  refine H.new fun b w1 H _ => ?_
  refine H.new fun b2 w2 H _ => ?_
  refine H.ld 1 0 rfl rfl rfl (p := c.Kind) ?_
  refine H.ld 1 1 rfl rfl rfl (p := c.Piece) ?_
  refine H.ld 1 8 rfl rfl rfl (p := c.Tag) ?_
  refine H.ld 1 9 rfl rfl rfl (p := c.Window) ?_
  refine H.ld 1 10 rfl rfl rfl (p := c.Out) ?_
  refine H.ld 1 11 rfl rfl rfl (p := c.In) ?_
  refine H.ld 1 12 rfl rfl rfl (p := c.TSN) ?_
  refine H.ld 1 18 rfl rfl rfl (p := c.Cause) ?_
  refine H.ld 1 19 rfl rfl rfl (p := c.Serial) ?_
  refine H.ld 1 21 rfl rfl rfl (p := c.OK) ?_
  refine H.new fun b3 w3 H _ => ?_
  refine H.st 0 0 rfl rfl rfl fun w4 H => ?_
  replace H : Go.Wf.Own _ _ _ (Var b3 _ [.int .i64 c.Kind, .int .u32 c.Piece.TSN, .int .u16 c.Piece.Stream, .int .u16 c.Piece.Seq, .bool c.Piece.Begin, .bool c.Piece.End, .bool c.Piece.Unordered, .slice c.Piece.Text.a c.Piece.Text.n c.Piece.Text.c, .int .u32 c.Tag, .int .i64 c.Window, .int .i64 c.Out, .int .i64 c.In, .int .u32 c.TSN, .slice none 0 0, .slice none 0 0, .slice none 0 0, .slice none 0 0, .slice none 0 0, .int .i64 c.Cause, .int .u32 c.Serial, .slice none 0 0, .bool c.OK] :: _) := H
  refine H.new fun b4 w5 H _ => ?_
  refine H.ld 3 7 rfl rfl rfl (p := c.Piece.Text) ?_
  refine append_fresh ok5 el52 _ (x := c.Piece.Text) (rBytes.ext c1 H.step) (by omega) (I := ti52) (fun s => s) (fun _ => rfl) fun v12 w6 h_v12 => ?_
  have H := H.made h_v12
  refine H.st 2 7 rfl rfl rfl fun w7 H => ?_
  replace H : Go.Wf.Own _ _ _ (_ :: _ :: Var b3 _ [.int .i64 c.Kind, .int .u32 c.Piece.TSN, .int .u16 c.Piece.Stream, .int .u16 c.Piece.Seq, .bool c.Piece.Begin, .bool c.Piece.End, .bool c.Piece.Unordered, .slice v12.a v12.n v12.c, .int .u32 c.Tag, .int .i64 c.Window, .int .i64 c.Out, .int .i64 c.In, .int .u32 c.TSN, .slice none 0 0, .slice none 0 0, .slice none 0 0, .slice none 0 0, .slice none 0 0, .int .i64 c.Cause, .int .u32 c.Serial, .slice none 0 0, .bool c.OK] :: _) := H
  have HN := H.nest
  refine HN.ld 4 13 rfl rfl rfl (p := c.Random) ?_
  refine HN.ld 4 15 rfl rfl rfl (p := c.Info) ?_
  refine HN.newb fun b5 th hb_b5 HN => ?_
  refine HN.eff (fun r N => (Rdr.sl0 ok5).ent N r x.Random) (fun _ => True) (fun _ _ _ h => h) (fun W K K' hk h => runT_mono hk h) (fun W hW H => append_fresh ok5 el52 _ (x := c.Random) (rBytes.ext c2 H.step) (by omega) (I := ti52) (fun s => s) (fun _ => rfl) (fun _ _ h => h)) fun v15 N th2 p_v15 HN => ?_
  refine HN.newb fun b6 th3 hb_b6 HN => ?_
  refine HN.fin fun w11 hx_w11 H => ?_
  have hX := hx_w11
  refine append_fresh ok5 el52 _ (x := c.Info) (rBytes.ext c4 H.step) (by omega) (I := ti52) (fun s => s) (fun _ => rfl) fun v16 w12 h_v16 => ?_
  have H := H.made h_v16
  have hX := hX.trans h_v16.1
  refine H.st 6 13 rfl rfl rfl fun w13 H => ?_
  replace H : Go.Wf.Own _ _ _ (_ :: _ :: _ :: _ :: _ :: _ :: Var b3 _ [.int .i64 c.Kind, .int .u32 c.Piece.TSN, .int .u16 c.Piece.Stream, .int .u16 c.Piece.Seq, .bool c.Piece.Begin, .bool c.Piece.End, .bool c.Piece.Unordered, .slice v12.a v12.n v12.c, .int .u32 c.Tag, .int .i64 c.Window, .int .i64 c.Out, .int .i64 c.In, .int .u32 c.TSN, .slice v15.a v15.n v15.c, .slice none 0 0, .slice none 0 0, .slice none 0 0, .slice none 0 0, .int .i64 c.Cause, .int .u32 c.Serial, .slice none 0 0, .bool c.OK] :: _) := H
  refine H.st 6 15 rfl rfl rfl fun w14 H => ?_
  replace H : Go.Wf.Own _ _ _ (_ :: _ :: _ :: _ :: _ :: _ :: Var b3 _ [.int .i64 c.Kind, .int .u32 c.Piece.TSN, .int .u16 c.Piece.Stream, .int .u16 c.Piece.Seq, .bool c.Piece.Begin, .bool c.Piece.End, .bool c.Piece.Unordered, .slice v12.a v12.n v12.c, .int .u32 c.Tag, .int .i64 c.Window, .int .i64 c.Out, .int .i64 c.In, .int .u32 c.TSN, .slice v15.a v15.n v15.c, .slice none 0 0, .slice v16.a v16.n v16.c, .slice none 0 0, .slice none 0 0, .int .i64 c.Cause, .int .u32 c.Serial, .slice none 0 0, .bool c.OK] :: _) := H
  have HN := H.nest
  refine HN.ld 8 14 rfl rfl rfl (p := c.Addrs) ?_
  refine HN.ld 8 17 rfl rfl rfl (p := c.Dups) ?_
  refine HN.newb fun b7 th4 hb_b7 HN => ?_
  refine HN.eff (fun r N => (Rdr.sl0 ok22).ent N r x.Addrs) (fun _ => True) (fun _ _ _ h => h) (fun W K K' hk h => runT_mono hk h) (fun W hW H => append_fresh ok22 el27 _ (x := c.Addrs) (rAddrs.ext c3 H.step) (by omega) (I := ti27) (fun s => s) (fun _ => rfl) (fun _ _ h => h)) fun v19 N2 th5 p_v19 HN => ?_
  refine HN.newb fun b8 th6 hb_b8 HN => ?_
  refine HN.fin fun w18 hx_w18 H => ?_
  have hX := hx_w18
  refine append_fresh ok23 el130 _ (x := c.Dups) (rWords.ext c6 H.step) (by omega) (I := ti130) (fun s => s) (fun _ => rfl) fun v20 w19 h_v20 => ?_
  have H := H.made h_v20
  have hX := hX.trans h_v20.1
  have H := H.drop 9
  have H := H.drop 7
  have H := H.drop 5
  have H := H.drop 3
  have H := H.drop 1
  refine H.st 5 14 rfl rfl rfl fun w20 H => ?_
  replace H : Go.Wf.Own _ _ _ (_ :: _ :: _ :: _ :: _ :: Var b3 _ [.int .i64 c.Kind, .int .u32 c.Piece.TSN, .int .u16 c.Piece.Stream, .int .u16 c.Piece.Seq, .bool c.Piece.Begin, .bool c.Piece.End, .bool c.Piece.Unordered, .slice v12.a v12.n v12.c, .int .u32 c.Tag, .int .i64 c.Window, .int .i64 c.Out, .int .i64 c.In, .int .u32 c.TSN, .slice v15.a v15.n v15.c, .slice v19.a v19.n v19.c, .slice v16.a v16.n v16.c, .slice none 0 0, .slice none 0 0, .int .i64 c.Cause, .int .u32 c.Serial, .slice none 0 0, .bool c.OK] :: _) := H
  refine H.st 5 17 rfl rfl rfl fun w21 H => ?_
  replace H : Go.Wf.Own _ _ _ (_ :: _ :: _ :: _ :: _ :: Var b3 _ [.int .i64 c.Kind, .int .u32 c.Piece.TSN, .int .u16 c.Piece.Stream, .int .u16 c.Piece.Seq, .bool c.Piece.Begin, .bool c.Piece.End, .bool c.Piece.Unordered, .slice v12.a v12.n v12.c, .int .u32 c.Tag, .int .i64 c.Window, .int .i64 c.Out, .int .i64 c.In, .int .u32 c.TSN, .slice v15.a v15.n v15.c, .slice v19.a v19.n v19.c, .slice v16.a v16.n v16.c, .slice none 0 0, .slice v20.a v20.n v20.c, .int .i64 c.Cause, .int .u32 c.Serial, .slice none 0 0, .bool c.OK] :: _) := H
  refine H.ld 7 16 rfl rfl rfl (p := c.Gaps) ?_
  refine RInv0.loop (n := x.Gaps.length) (I := fun i w' => ∃ s, Go.Wf.Own none_ w w' [RowT ti227 227 2 s (x.Gaps.take i), rWords.ent (newB w18 w19) v20 x.Dups, rAddrs.ent N2 v19 x.Addrs, rBytes.ent (newB w11 w12) v16 x.Info, rBytes.ent N v15 x.Random, rBytes.ent (newB w5 w6) v12 x.Piece.Text, (Var b3 133 [.int .i64 c.Kind, .int .u32 c.Piece.TSN, .int .u16 c.Piece.Stream, .int .u16 c.Piece.Seq, .bool c.Piece.Begin, .bool c.Piece.End, .bool c.Piece.Unordered, .slice v12.a v12.n v12.c, .int .u32 c.Tag, .int .i64 c.Window, .int .i64 c.Out, .int .i64 c.In, .int .u32 c.TSN, .slice v15.a v15.n v15.c, .slice v19.a v19.n v19.c, .slice v16.a v16.n v16.c, .slice s.a s.n s.c, .slice v20.a v20.n v20.c, .int .i64 c.Cause, .int .u32 c.Serial, .slice none 0 0, .bool c.OK]), (Var b2 133 [.int .i64 0, .int .u32 0, .int .u16 0, .int .u16 0, .bool false, .bool false, .bool false, .slice none 0 0, .int .u32 0, .int .i64 0, .int .i64 0, .int .i64 0, .int .u32 0, .slice none 0 0, .slice none 0 0, .slice none 0 0, .slice none 0 0, .slice none 0 0, .int .i64 0, .int .u32 0, .slice none 0 0, .bool false]), (Var b 145 [.int .i64 c.Kind, .int .u32 c.Piece.TSN, .int .u16 c.Piece.Stream, .int .u16 c.Piece.Seq, .bool c.Piece.Begin, .bool c.Piece.End, .bool c.Piece.Unordered, .slice c.Piece.Text.a c.Piece.Text.n c.Piece.Text.c, .int .u32 c.Tag, .int .i64 c.Window, .int .i64 c.Out, .int .i64 c.In, .int .u32 c.TSN, .slice c.Random.a c.Random.n c.Random.c, .slice c.Addrs.a c.Addrs.n c.Addrs.c, .slice c.Info.a c.Info.n c.Info.c, .slice c.Gaps.a c.Gaps.n c.Gaps.c, .slice c.Dups.a c.Dups.n c.Dups.c, .int .i64 c.Cause, .int .u32 c.Serial, .slice c.Ops.a c.Ops.n c.Ops.c, .bool c.OK])]) (⟨_, (H.nilT ti227 227 2)⟩) ?_
  rintro i  w22 hi hI d
  obtain ⟨s, H⟩ := hI
  dsimp only
  refine ifK.mk (fun hc1 => ?_) (fun hc1 => ?_)
  · skip
    have hc1 := of_decide_eq_true hc1
    refine SlT.getN ok228 (show SlT ti228 w22 S c.Gaps x.Gaps from rGaps.ext c5 H.step) (by omega) fun v22 hv22 => ?_
    refine H.new fun b9 w23 H _ => ?_
    refine H.st 0 0 rfl rfl rfl fun w24 H => ?_
    replace H : Go.Wf.Own _ _ _ (Var b9 _ [.int .i64 v22.From, .int .i64 v22.To] :: _) := H
    refine H.ld 7 16 rfl rfl rfl (p := s) ?_
    refine H.ld 0 0 rfl rfl rfl (p := v22) ?_
    refine H.new fun b10 w25 H _ => ?_
    refine H.appendT 2 ok227 el129 (s := s) (x := (⟨some (bx b10), 1, 1⟩ : Sl)) (fun s => s) (fun _ => rfl) rfl (H.varSl 0 [v22] rfl rfl) (by simp; omega) fun v25 w26 H => ?_
    replace H : Go.Wf.Own _ _ _ (_ :: _ :: RowT _ _ _ v25 _ :: _) := H
    refine H.st 8 16 rfl rfl rfl fun w27 H => ?_
    replace H : Go.Wf.Own _ _ _ (_ :: _ :: _ :: _ :: _ :: _ :: _ :: _ :: Var b3 _ [.int .i64 c.Kind, .int .u32 c.Piece.TSN, .int .u16 c.Piece.Stream, .int .u16 c.Piece.Seq, .bool c.Piece.Begin, .bool c.Piece.End, .bool c.Piece.Unordered, .slice v12.a v12.n v12.c, .int .u32 c.Tag, .int .i64 c.Window, .int .i64 c.Out, .int .i64 c.In, .int .u32 c.TSN, .slice v15.a v15.n v15.c, .slice v19.a v19.n v19.c, .slice v16.a v16.n v16.c, .slice v25.a v25.n v25.c, .slice v20.a v20.n v20.c, .int .i64 c.Cause, .int .u32 c.Serial, .slice none 0 0, .bool c.OK] :: _) := H
    have H := H.drop 1
    have H := H.drop 0
    exact RInv0.next (by omega) (by omega) ⟨_, by rw [take_snoc hv22]; exact H⟩
  · skip
    have hc1 := of_decide_eq_false hc1
    have hil : i = x.Gaps.length := by omega
    subst hil
    rw [List.take_of_length_le (by omega)] at H
    refine H.ld 8 20 rfl rfl rfl (p := c.Ops) ?_
    refine RInv0.loop (n := x.Ops.length) (I := fun i w' => ∃ s2, Go.Wf.Own none_ w w' [RowT ti141 141 2 s2 (x.Ops.take i), RowT ti227 227 2 s x.Gaps, rWords.ent (newB w18 w19) v20 x.Dups, rAddrs.ent N2 v19 x.Addrs, rBytes.ent (newB w11 w12) v16 x.Info, rBytes.ent N v15 x.Random, rBytes.ent (newB w5 w6) v12 x.Piece.Text, (Var b3 133 [.int .i64 c.Kind, .int .u32 c.Piece.TSN, .int .u16 c.Piece.Stream, .int .u16 c.Piece.Seq, .bool c.Piece.Begin, .bool c.Piece.End, .bool c.Piece.Unordered, .slice v12.a v12.n v12.c, .int .u32 c.Tag, .int .i64 c.Window, .int .i64 c.Out, .int .i64 c.In, .int .u32 c.TSN, .slice v15.a v15.n v15.c, .slice v19.a v19.n v19.c, .slice v16.a v16.n v16.c, .slice s.a s.n s.c, .slice v20.a v20.n v20.c, .int .i64 c.Cause, .int .u32 c.Serial, .slice s2.a s2.n s2.c, .bool c.OK]), (Var b2 133 [.int .i64 0, .int .u32 0, .int .u16 0, .int .u16 0, .bool false, .bool false, .bool false, .slice none 0 0, .int .u32 0, .int .i64 0, .int .i64 0, .int .i64 0, .int .u32 0, .slice none 0 0, .slice none 0 0, .slice none 0 0, .slice none 0 0, .slice none 0 0, .int .i64 0, .int .u32 0, .slice none 0 0, .bool false]), (Var b 145 [.int .i64 c.Kind, .int .u32 c.Piece.TSN, .int .u16 c.Piece.Stream, .int .u16 c.Piece.Seq, .bool c.Piece.Begin, .bool c.Piece.End, .bool c.Piece.Unordered, .slice c.Piece.Text.a c.Piece.Text.n c.Piece.Text.c, .int .u32 c.Tag, .int .i64 c.Window, .int .i64 c.Out, .int .i64 c.In, .int .u32 c.TSN, .slice c.Random.a c.Random.n c.Random.c, .slice c.Addrs.a c.Addrs.n c.Addrs.c, .slice c.Info.a c.Info.n c.Info.c, .slice c.Gaps.a c.Gaps.n c.Gaps.c, .slice c.Dups.a c.Dups.n c.Dups.c, .int .i64 c.Cause, .int .u32 c.Serial, .slice c.Ops.a c.Ops.n c.Ops.c, .bool c.OK])]) (⟨_, (H.nilT ti141 141 2)⟩) ?_
    rintro i2  w28 hi hI d
    obtain ⟨s2, H⟩ := hI
    dsimp only
    refine ifK.mk (fun hc2 => ?_) (fun hc2 => ?_)
    · skip
      have hc2 := of_decide_eq_true hc2
      refine SlT.getN ok229 (show SlT ti229 w28 S c.Ops x.Ops from rOps.ext c7 H.step) (by omega) fun v27 hv27 => ?_
      refine H.new fun b11 w29 H _ => ?_
      refine H.st 0 0 rfl rfl rfl fun w30 H => ?_
      replace H : Go.Wf.Own _ _ _ (Var b11 _ [.int .i64 v27.Kind, .int .i64 v27.Addr] :: _) := H
      refine H.ld 8 20 rfl rfl rfl (p := s2) ?_
      refine H.ld 0 0 rfl rfl rfl (p := v27) ?_
      refine H.new fun b12 w31 H _ => ?_
      refine H.appendT 2 ok141 el131 (s := s2) (x := (⟨some (bx b12), 1, 1⟩ : Sl)) (fun s => s) (fun _ => rfl) rfl (H.varSl 0 [v27] rfl rfl) (by simp; omega) fun v30 w32 H => ?_
      replace H : Go.Wf.Own _ _ _ (_ :: _ :: RowT _ _ _ v30 _ :: _) := H
      refine H.st 9 20 rfl rfl rfl fun w33 H => ?_
      replace H : Go.Wf.Own _ _ _ (_ :: _ :: _ :: _ :: _ :: _ :: _ :: _ :: _ :: Var b3 _ [.int .i64 c.Kind, .int .u32 c.Piece.TSN, .int .u16 c.Piece.Stream, .int .u16 c.Piece.Seq, .bool c.Piece.Begin, .bool c.Piece.End, .bool c.Piece.Unordered, .slice v12.a v12.n v12.c, .int .u32 c.Tag, .int .i64 c.Window, .int .i64 c.Out, .int .i64 c.In, .int .u32 c.TSN, .slice v15.a v15.n v15.c, .slice v19.a v19.n v19.c, .slice v16.a v16.n v16.c, .slice s.a s.n s.c, .slice v20.a v20.n v20.c, .int .i64 c.Cause, .int .u32 c.Serial, .slice v30.a v30.n v30.c, .bool c.OK] :: _) := H
      have H := H.drop 1
      have H := H.drop 0
      exact RInv0.next (by omega) (by omega) ⟨_, by rw [take_snoc hv27]; exact H⟩
    · skip
      have hc2 := of_decide_eq_false hc2
      have hil : i2 = x.Ops.length := by omega
      subst hil
      rw [List.take_of_length_le (by omega)] at H
      refine H.ld 7 0 rfl rfl rfl (p := (⟨c.Kind, ⟨c.Piece.TSN, c.Piece.Stream, c.Piece.Seq, c.Piece.Begin, c.Piece.End, c.Piece.Unordered, v12⟩, c.Tag, c.Window, c.Out, c.In, c.TSN, v15, v19, v16, s, v20, c.Cause, c.Serial, s2, c.OK⟩ : GChunk)) ?_
      refine H.st 8 0 rfl rfl rfl fun w34 H => ?_
      replace H : Go.Wf.Own _ _ _ (_ :: _ :: _ :: _ :: _ :: _ :: _ :: _ :: Var b2 _ [.int .i64 c.Kind, .int .u32 c.Piece.TSN, .int .u16 c.Piece.Stream, .int .u16 c.Piece.Seq, .bool c.Piece.Begin, .bool c.Piece.End, .bool c.Piece.Unordered, .slice v12.a v12.n v12.c, .int .u32 c.Tag, .int .i64 c.Window, .int .i64 c.Out, .int .i64 c.In, .int .u32 c.TSN, .slice v15.a v15.n v15.c, .slice v19.a v19.n v19.c, .slice v16.a v16.n v16.c, .slice s.a s.n s.c, .slice v20.a v20.n v20.c, .int .i64 c.Cause, .int .u32 c.Serial, .slice s2.a s2.n s2.c, .bool c.OK] :: _) := H
      refine H.ld 8 0 rfl rfl rfl (p := (⟨c.Kind, ⟨c.Piece.TSN, c.Piece.Stream, c.Piece.Seq, c.Piece.Begin, c.Piece.End, c.Piece.Unordered, v12⟩, c.Tag, c.Window, c.Out, c.In, c.TSN, v15, v19, v16, s, v20, c.Cause, c.Serial, s2, c.OK⟩ : GChunk)) ?_
      exact ⟨H.step, ⟨⟨(H.got 6 rfl), c1'⟩, (H.got 5 rfl), (H.got 3 rfl), (H.got 4 rfl), H.slOf0 ok227 1 rfl, (H.got 2 rfl), H.slOf0 ok141 0 rfl, c8⟩, fun _ h => h, trivial⟩
end Go.Wf2
