/- A part of the proof: lemmas; nothing is claimed here. -/
import Derived.Test.YtkeecncgfhgnpaaWS4
set_option linter.all false
namespace Go.Wf2
open Go Go.Wf Go.Proofs
set_option linter.unusedVariables false
set_option linter.deprecated false
set_option maxRecDepth 4000
theorem ext_chunk {x y : XChunk} (h1 : x.Kind = y.Kind) (h2 : x.Piece = y.Piece) (h3 : x.Tag = y.Tag) (h4 : x.Window = y.Window) (h5 : x.Out = y.Out) (h6 : x.In = y.In) (h7 : x.TSN = y.TSN) (h8 : x.Random = y.Random) (h9 : x.Addrs = y.Addrs) (h10 : x.Info = y.Info) (h11 : x.Gaps = y.Gaps) (h12 : x.Dups = y.Dups) (h13 : x.Cause = y.Cause) (h14 : x.Serial = y.Serial) (h15 : x.Ops = y.Ops) (h16 : x.OK = y.OK) : x = y := by
  cases x; cases y; simp_all
theorem ext_piece {x y : XPiece} (h1 : x.TSN = y.TSN) (h2 : x.Stream = y.Stream) (h3 : x.Seq = y.Seq) (h4 : x.Begin = y.Begin) (h5 : x.End = y.End) (h6 : x.Unordered = y.Unordered) (h7 : x.Text = y.Text) : x = y := by
  cases x; cases y; simp_all
def bytesOk (l : List Int) : Prop := ∀ n ∈ l, 0 ≤ n ∧ n < 256
def XChunk.ok (x : XChunk) : Prop := bytesOk x.Piece.Text ∧ bytesOk x.Random ∧ bytesOk x.Info
theorem strOf_inj {a b : List Int} (ha : bytesOk a) (hb : bytesOk b) (h : (strOf a).toList = (strOf b).toList) : a = b := by
  have := strOf_eq ha hb
  rw [h] at this
  simpa using this.symm
theorem toStr {w : World} {S : Nat → Prop} {s : Sl} {l : List Int} (h : rBytes.R w S s l) : (convert 52 9 (.slice s.a s.n s.c)).run Try.prog w = .ok (.string (strOf l)) w :=
  run_str (P := Try.prog) (src := 52) (e := 5) (dst := 9) (by kernel_rfl) (by kernel_rfl) (by kernel_rfl) h.1 (SlT.in (show SlT ti5 w S s l from h))
theorem two228 : two Try.prog 228 = true := by kernel_rfl
theorem two229 : two Try.prog 229 = true := by kernel_rfl
theorem two141 : two Try.prog 141 = true := by kernel_rfl
theorem take_eq_snoc {α : Type} {l m : List α} {i : Nat} {u v : α} (h : l.take i = m.take i) (hu : l[i]? = some u) (hv : m[i]? = some v) (e : u = v) : l.take (i + 1) = m.take (i + 1) := by rw [take_snoc hu, take_snoc hv, h, e]
theorem take_full {α : Type} {l m : List α} {i : Nat} (h : l.take i = m.take i) (h1 : l.length ≤ i) (h2 : m.length ≤ i) : l = m := by rwa [List.take_of_length_le h1, List.take_of_length_le h2] at h
theorem same07_spec {a b : GChunk} {w : World} {S S' : Nat → Prop} {x y : XChunk} (hx : rChunk.R w S a x) (hy : rChunk.R w S' b y) (nx : x.small 1000000) (ny : y.small 1000000) (ox : x.ok) (oy : y.ok) : C_weftlineref07_Same a b w (fun r w' => Ext w w' ∧ (r = true ↔ x = y)) := by
  refine E_weftlineref07_Same _ _ _ _ ?_
  obtain ⟨⟨c1, c1'⟩, c2, c3, c4, c5, c6, c7, c8⟩ := hx
  obtain ⟨⟨d1, d1'⟩, d2, d3, d4, d5, d6, d7, d8⟩ := hy
  obtain ⟨n1, n2, n3, n4, n5, n6, n7⟩ := nx
  obtain ⟨m1, m2, m3, m4, m5, m6, m7⟩ := ny
  have l3 := c3.1
  have k3 := d3.1
  have l5 := c5.1
  have k5 := d5.1
  have l6 := c6.1
  have k6 := d6.1
  have l7 := c7.1
  have k7 := d7.1
  have eKind : x.Kind = a.Kind := congrArg XChunk.Kind c8
  have fKind : y.Kind = b.Kind := congrArg XChunk.Kind d8
  have eTag : x.Tag = a.Tag := congrArg XChunk.Tag c8
  have fTag : y.Tag = b.Tag := congrArg XChunk.Tag d8
  have eWindow : x.Window = a.Window := congrArg XChunk.Window c8
  have fWindow : y.Window = b.Window := congrArg XChunk.Window d8
  have eOut : x.Out = a.Out := congrArg XChunk.Out c8
  have fOut : y.Out = b.Out := congrArg XChunk.Out d8
  have eIn : x.In = a.In := congrArg XChunk.In c8
  have fIn : y.In = b.In := congrArg XChunk.In d8
  have eTSN : x.TSN = a.TSN := congrArg XChunk.TSN c8
  have fTSN : y.TSN = b.TSN := congrArg XChunk.TSN d8
  have eCause : x.Cause = a.Cause := congrArg XChunk.Cause c8
  have fCause : y.Cause = b.Cause := congrArg XChunk.Cause d8
  have eSerial : x.Serial = a.Serial := congrArg XChunk.Serial c8
  have fSerial : y.Serial = b.Serial := congrArg XChunk.Serial d8
  have eOK : x.OK = a.OK := congrArg XChunk.OK c8
  have fOK : y.OK = b.OK := congrArg XChunk.OK d8
  have epTSN : x.Piece.TSN = a.Piece.TSN := congrArg XPiece.TSN c1'
  have fpTSN : y.Piece.TSN = b.Piece.TSN := congrArg XPiece.TSN d1'
  have epStream : x.Piece.Stream = a.Piece.Stream := congrArg XPiece.Stream c1'
  have fpStream : y.Piece.Stream = b.Piece.Stream := congrArg XPiece.Stream d1'
  have epSeq : x.Piece.Seq = a.Piece.Seq := congrArg XPiece.Seq c1'
  have fpSeq : y.Piece.Seq = b.Piece.Seq := congrArg XPiece.Seq d1'
  have epBegin : x.Piece.Begin = a.Piece.Begin := congrArg XPiece.Begin c1'
  have fpBegin : y.Piece.Begin = b.Piece.Begin := congrArg XPiece.Begin d1'
  have epEnd : x.Piece.End = a.Piece.End := congrArg XPiece.End c1'
  have fpEnd : y.Piece.End = b.Piece.End := congrArg XPiece.End d1'
  have epUnordered : x.Piece.Unordered = a.Piece.Unordered := congrArg XPiece.Unordered c1'
  have fpUnordered : y.Piece.Unordered = b.Piece.Unordered := congrArg XPiece.Unordered d1'
  have H := Own.start none_ w
  refine H.new fun b2 w1 H _ => ?_
  refine H.new fun b3 w2 H _ => ?_
  refine H.ld 1 0 rfl rfl rfl (p := a.Kind) ?_
  refine H.ld 0 0 rfl rfl rfl (p := b.Kind) ?_
  refine ifK.mk (fun q1 => ?_) (fun q1 => ?_)
  · skip
    have q1 := by simpa using q1
    exact ⟨H.step, by simp only [Bool.false_eq_true, false_iff]; intro h; subst h; exact q1 (eKind.symm.trans fKind)⟩
  · skip
    have q1 := by simpa using q1
    refine H.ld 1 8 rfl rfl rfl (p := a.Tag) ?_
    refine H.ld 0 8 rfl rfl rfl (p := b.Tag) ?_
    refine ifK.mk (fun q2 => ?_) (fun q2 => ?_)
    · skip
      have q2 := by simpa using q2
      exact ⟨H.step, by simp only [Bool.false_eq_true, false_iff]; intro h; subst h; exact q2 (eTag.symm.trans fTag)⟩
    · skip
      have q2 := by simpa using q2
      refine H.ld 1 9 rfl rfl rfl (p := a.Window) ?_
      refine H.ld 0 9 rfl rfl rfl (p := b.Window) ?_
      refine ifK.mk (fun q3 => ?_) (fun q3 => ?_)
      · skip
        have q3 := by simpa using q3
        exact ⟨H.step, by simp only [Bool.false_eq_true, false_iff]; intro h; subst h; exact q3 (eWindow.symm.trans fWindow)⟩
      · skip
        have q3 := by simpa using q3
        refine H.ld 1 10 rfl rfl rfl (p := a.Out) ?_
        refine H.ld 0 10 rfl rfl rfl (p := b.Out) ?_
        refine ifK.mk (fun q4 => ?_) (fun q4 => ?_)
        · skip
          have q4 := by simpa using q4
          exact ⟨H.step, by simp only [Bool.false_eq_true, false_iff]; intro h; subst h; exact q4 (eOut.symm.trans fOut)⟩
        · skip
          have q4 := by simpa using q4
          refine H.ld 1 11 rfl rfl rfl (p := a.In) ?_
          refine H.ld 0 11 rfl rfl rfl (p := b.In) ?_
          refine ifK.mk (fun q5 => ?_) (fun q5 => ?_)
          · skip
            have q5 := by simpa using q5
            exact ⟨H.step, by simp only [Bool.false_eq_true, false_iff]; intro h; subst h; exact q5 (eIn.symm.trans fIn)⟩
          · skip
            have q5 := by simpa using q5
            refine H.ld 1 12 rfl rfl rfl (p := a.TSN) ?_
            refine H.ld 0 12 rfl rfl rfl (p := b.TSN) ?_
            refine ifK.mk (fun q6 => ?_) (fun q6 => ?_)
            · skip
              have q6 := by simpa using q6
              exact ⟨H.step, by simp only [Bool.false_eq_true, false_iff]; intro h; subst h; exact q6 (eTSN.symm.trans fTSN)⟩
            · skip
              have q6 := by simpa using q6
              refine H.ld 1 18 rfl rfl rfl (p := a.Cause) ?_
              refine H.ld 0 18 rfl rfl rfl (p := b.Cause) ?_
              refine ifK.mk (fun q7 => ?_) (fun q7 => ?_)
              · skip
                have q7 := by simpa using q7
                exact ⟨H.step, by simp only [Bool.false_eq_true, false_iff]; intro h; subst h; exact q7 (eCause.symm.trans fCause)⟩
              · skip
                have q7 := by simpa using q7
                refine H.ld 1 19 rfl rfl rfl (p := a.Serial) ?_
                refine H.ld 0 19 rfl rfl rfl (p := b.Serial) ?_
                refine ifK.mk (fun q8 => ?_) (fun q8 => ?_)
                · skip
                  have q8 := by simpa using q8
                  exact ⟨H.step, by simp only [Bool.false_eq_true, false_iff]; intro h; subst h; exact q8 (eSerial.symm.trans fSerial)⟩
                · skip
                  have q8 := by simpa using q8
                  refine H.ld 1 21 rfl rfl rfl (p := a.OK) ?_
                  refine H.ld 0 21 rfl rfl rfl (p := b.OK) ?_
                  refine ifK.mk (fun q9 => ?_) (fun q9 => ?_)
                  · skip
                    have q9 := by simpa using q9
                    exact ⟨H.step, by simp only [Bool.false_eq_true, false_iff]; intro h; subst h; exact q9 (eOK.symm.trans fOK)⟩
                  · skip
                    have q9 := by simpa using q9
                    refine ⟨_, GOk.ext _, ?_⟩
                    have HN := H.nest
                    refine HN.ld 1 1 rfl rfl rfl (p := a.Piece) ?_
                    refine HN.ld 0 1 rfl rfl rfl (p := b.Piece) ?_
                    refine HN.newb fun b4 th hb_b4 HN => ?_
                    refine HN.newb fun b5 th2 hb_b5 HN => ?_
                    refine HN.fin fun w5 hx_w5 H => ?_
                    have hX := hx_w5
                    refine H.stx 1 0 rfl rfl rfl fun w6 hs_w6 H => ?_
                    have hX := hs_w6 _ hX hb_b4
                    replace H : Go.Wf.Own _ _ _ (_ :: Var b4 _ [.int .u32 a.Piece.TSN, .int .u16 a.Piece.Stream, .int .u16 a.Piece.Seq, .bool a.Piece.Begin, .bool a.Piece.End, .bool a.Piece.Unordered, .slice a.Piece.Text.a a.Piece.Text.n a.Piece.Text.c] :: _) := H
                    refine ⟨hX, ?_⟩
                    refine H.stx 0 0 rfl rfl rfl fun w7 hs_w7 H => ?_
                    have hX := hs_w7 _ hX hb_b5
                    replace H : Go.Wf.Own _ _ _ (Var b5 _ [.int .u32 b.Piece.TSN, .int .u16 b.Piece.Stream, .int .u16 b.Piece.Seq, .bool b.Piece.Begin, .bool b.Piece.End, .bool b.Piece.Unordered, .slice b.Piece.Text.a b.Piece.Text.n b.Piece.Text.c] :: _) := H
                    refine H.ld 1 0 rfl rfl rfl (p := a.Piece.TSN) ?_
                    refine H.ld 0 0 rfl rfl rfl (p := b.Piece.TSN) ?_
                    refine ifK.mk (fun q10 => ?_) (fun q10 => ?_)
                    · skip
                      have q10 := by simpa using q10
                      exact ⟨H.step, by simp only [Bool.false_eq_true, false_iff]; intro h; subst h; exact q10 (epTSN.symm.trans fpTSN)⟩
                    · skip
                      have q10 := by simpa using q10
                      refine H.ld 1 1 rfl rfl rfl (p := a.Piece.Stream) ?_
                      refine H.ld 0 1 rfl rfl rfl (p := b.Piece.Stream) ?_
                      refine ifK.mk (fun q11 => ?_) (fun q11 => ?_)
                      · skip
                        have q11 := by simpa using q11
                        exact ⟨H.step, by simp only [Bool.false_eq_true, false_iff]; intro h; subst h; exact q11 (epStream.symm.trans fpStream)⟩
                      · skip
                        have q11 := by simpa using q11
                        refine H.ld 1 2 rfl rfl rfl (p := a.Piece.Seq) ?_
                        refine H.ld 0 2 rfl rfl rfl (p := b.Piece.Seq) ?_
                        refine ifK.mk (fun q12 => ?_) (fun q12 => ?_)
                        · skip
                          have q12 := by simpa using q12
                          exact ⟨H.step, by simp only [Bool.false_eq_true, false_iff]; intro h; subst h; exact q12 (epSeq.symm.trans fpSeq)⟩
                        · skip
                          have q12 := by simpa using q12
                          refine H.ld 1 3 rfl rfl rfl (p := a.Piece.Begin) ?_
                          refine H.ld 0 3 rfl rfl rfl (p := b.Piece.Begin) ?_
                          refine ifK.mk (fun q13 => ?_) (fun q13 => ?_)
                          · skip
                            have q13 := by simpa using q13
                            exact ⟨H.step, by simp only [Bool.false_eq_true, false_iff]; intro h; subst h; exact q13 (epBegin.symm.trans fpBegin)⟩
                          · skip
                            have q13 := by simpa using q13
                            refine H.ld 1 4 rfl rfl rfl (p := a.Piece.End) ?_
                            refine H.ld 0 4 rfl rfl rfl (p := b.Piece.End) ?_
                            refine ifK.mk (fun q14 => ?_) (fun q14 => ?_)
                            · skip
                              have q14 := by simpa using q14
                              exact ⟨H.step, by simp only [Bool.false_eq_true, false_iff]; intro h; subst h; exact q14 (epEnd.symm.trans fpEnd)⟩
                            · skip
                              have q14 := by simpa using q14
                              refine H.ld 1 5 rfl rfl rfl (p := a.Piece.Unordered) ?_
                              refine H.ld 0 5 rfl rfl rfl (p := b.Piece.Unordered) ?_
                              refine ifK.mk (fun q15 => ?_) (fun q15 => ?_)
                              · skip
                                have q15 := by simpa using q15
                                exact ⟨H.step, by simp only [Bool.false_eq_true, false_iff]; intro h; subst h; exact q15 (epUnordered.symm.trans fpUnordered)⟩
                              · skip
                                have q15 := by simpa using q15
                                refine H.ld 1 6 rfl rfl rfl (p := a.Piece.Text) ?_
                                refine runT.of (toStr (rBytes.ext c1 H.step)) rfl ?_
                                refine H.ld 0 6 rfl rfl rfl (p := b.Piece.Text) ?_
                                refine runT.of (toStr (rBytes.ext d1 H.step)) rfl ?_
                                refine ifK.mk (fun q16 => ?_) (fun q16 => ?_)
                                · skip
                                  have q16 := by simpa using q16
                                  exact ⟨H.step, by simp only [Bool.false_eq_true, false_iff]; intro h; subst h; exact q16 rfl⟩
                                · skip
                                  have q16 := by simpa using q16
                                  refine H.ld 3 13 rfl rfl rfl (p := a.Random) ?_
                                  refine runT.of (toStr (rBytes.ext c2 H.step)) rfl ?_
                                  refine H.ld 2 13 rfl rfl rfl (p := b.Random) ?_
                                  refine runT.of (toStr (rBytes.ext d2 H.step)) rfl ?_
                                  refine ifK.mk (fun q17 => ?_) (fun q17 => ?_)
                                  · skip
                                    have q17 := by simpa using q17
                                    exact ⟨H.step, by simp only [Bool.false_eq_true, false_iff]; intro h; subst h; exact q17 rfl⟩
                                  · skip
                                    have q17 := by simpa using q17
                                    refine H.ld 3 15 rfl rfl rfl (p := a.Info) ?_
                                    refine runT.of (toStr (rBytes.ext c4 H.step)) rfl ?_
                                    refine H.ld 2 15 rfl rfl rfl (p := b.Info) ?_
                                    refine runT.of (toStr (rBytes.ext d4 H.step)) rfl ?_
                                    refine ifK.mk (fun q18 => ?_) (fun q18 => ?_)
                                    · skip
                                      have q18 := by simpa using q18
                                      exact ⟨H.step, by simp only [Bool.false_eq_true, false_iff]; intro h; subst h; exact q18 rfl⟩
                                    · skip
                                      have q18 := by simpa using q18
                                      refine H.ld 3 14 rfl rfl rfl (p := a.Addrs) ?_
                                      refine H.ld 2 14 rfl rfl rfl (p := b.Addrs) ?_
                                      refine ifK.mk (fun q19 => ?_) (fun q19 => ?_)
                                      · skip
                                        have q19 := by simpa using q19
                                        exact ⟨H.step, by simp only [Bool.false_eq_true, false_iff]; intro h; subst h; exact q19 (by rw [l3, k3])⟩
                                      · skip
                                        have q19 := by simpa using q19
                                        refine H.ld 3 16 rfl rfl rfl (p := a.Gaps) ?_
                                        refine H.ld 2 16 rfl rfl rfl (p := b.Gaps) ?_
                                        refine ifK.mk (fun q20 => ?_) (fun q20 => ?_)
                                        · skip
                                          have q20 := by simpa using q20
                                          exact ⟨H.step, by simp only [Bool.false_eq_true, false_iff]; intro h; subst h; exact q20 (by rw [l5, k5])⟩
                                        · skip
                                          have q20 := by simpa using q20
                                          refine H.ld 3 17 rfl rfl rfl (p := a.Dups) ?_
                                          refine H.ld 2 17 rfl rfl rfl (p := b.Dups) ?_
                                          refine ifK.mk (fun q21 => ?_) (fun q21 => ?_)
                                          · skip
                                            have q21 := by simpa using q21
                                            exact ⟨H.step, by simp only [Bool.false_eq_true, false_iff]; intro h; subst h; exact q21 (by rw [l6, k6])⟩
                                          · skip
                                            have q21 := by simpa using q21
                                            refine H.ld 3 20 rfl rfl rfl (p := a.Ops) ?_
                                            refine H.ld 2 20 rfl rfl rfl (p := b.Ops) ?_
                                            refine ifK.mk (fun q22 => ?_) (fun q22 => ?_)
                                            · skip
                                              have q22 := by simpa using q22
                                              exact ⟨H.step, by simp only [Bool.false_eq_true, false_iff]; intro h; subst h; exact q22 (by rw [l7, k7])⟩
                                            · skip
                                              have q22 := by simpa using q22
                                              refine RInv0.loop (n := x.Addrs.length) (I := fun i w' => x.Addrs.take i = y.Addrs.take i ∧ Go.Wf.Own none_ w w' [(Var b5 60 [.int .u32 b.Piece.TSN, .int .u16 b.Piece.Stream, .int .u16 b.Piece.Seq, .bool b.Piece.Begin, .bool b.Piece.End, .bool b.Piece.Unordered, .slice b.Piece.Text.a b.Piece.Text.n b.Piece.Text.c]), (Var b4 60 [.int .u32 a.Piece.TSN, .int .u16 a.Piece.Stream, .int .u16 a.Piece.Seq, .bool a.Piece.Begin, .bool a.Piece.End, .bool a.Piece.Unordered, .slice a.Piece.Text.a a.Piece.Text.n a.Piece.Text.c]), (Var b3 145 [.int .i64 b.Kind, .int .u32 b.Piece.TSN, .int .u16 b.Piece.Stream, .int .u16 b.Piece.Seq, .bool b.Piece.Begin, .bool b.Piece.End, .bool b.Piece.Unordered, .slice b.Piece.Text.a b.Piece.Text.n b.Piece.Text.c, .int .u32 b.Tag, .int .i64 b.Window, .int .i64 b.Out, .int .i64 b.In, .int .u32 b.TSN, .slice b.Random.a b.Random.n b.Random.c, .slice b.Addrs.a b.Addrs.n b.Addrs.c, .slice b.Info.a b.Info.n b.Info.c, .slice b.Gaps.a b.Gaps.n b.Gaps.c, .slice b.Dups.a b.Dups.n b.Dups.c, .int .i64 b.Cause, .int .u32 b.Serial, .slice b.Ops.a b.Ops.n b.Ops.c, .bool b.OK]), (Var b2 145 [.int .i64 a.Kind, .int .u32 a.Piece.TSN, .int .u16 a.Piece.Stream, .int .u16 a.Piece.Seq, .bool a.Piece.Begin, .bool a.Piece.End, .bool a.Piece.Unordered, .slice a.Piece.Text.a a.Piece.Text.n a.Piece.Text.c, .int .u32 a.Tag, .int .i64 a.Window, .int .i64 a.Out, .int .i64 a.In, .int .u32 a.TSN, .slice a.Random.a a.Random.n a.Random.c, .slice a.Addrs.a a.Addrs.n a.Addrs.c, .slice a.Info.a a.Info.n a.Info.c, .slice a.Gaps.a a.Gaps.n a.Gaps.c, .slice a.Dups.a a.Dups.n a.Dups.c, .int .i64 a.Cause, .int .u32 a.Serial, .slice a.Ops.a a.Ops.n a.Ops.c, .bool a.OK])]) (⟨rfl, H⟩) ?_
                                              rintro i3  w14 hi hI d
                                              obtain ⟨t3, H⟩ := hI
                                              dsimp only
                                              refine H.ld 3 14 rfl rfl rfl (p := a.Addrs) ?_
                                              refine ifK.mk (fun hc23 => ?_) (fun hc23 => ?_)
                                              · skip
                                                have hc23 := of_decide_eq_true hc23
                                                have HN := H.nest
                                                refine HN.ld 3 14 rfl rfl rfl (p := a.Addrs) ?_
                                                refine SlT.gget ok22 HN (show SlT ti22 w14 S a.Addrs x.Addrs from rAddrs.ext c3 H.step) (by omega) fun v55 hv55 => ?_
                                                refine HN.ld 2 14 rfl rfl rfl (p := b.Addrs) ?_
                                                refine SlT.gget ok22 HN (show SlT ti22 w14 S' b.Addrs y.Addrs from rAddrs.ext d3 H.step) (by omega) fun v57 hv57 => ?_
                                                refine HN.fin fun w15 hx_w15 H => ?_
                                                have hX := hx_w15
                                                refine ifK.mk (fun q23 => ?_) (fun q23 => ?_)
                                                · skip
                                                  have q23 := by simpa using q23
                                                  exact ⟨H.step, by simp only [Bool.false_eq_true, false_iff]; intro h; subst h; rw [hv55] at hv57; exact q23 (Option.some.inj hv57)⟩
                                                · skip
                                                  have q23 := by simpa using q23
                                                  exact RInv0.next (by omega) (by omega) ⟨take_eq_snoc t3 hv55 hv57 q23, H⟩
                                              · skip
                                                have hc23 := of_decide_eq_false hc23
                                                have z3 : x.Addrs = y.Addrs := take_full t3 (by omega) (by omega)
                                                refine RInv0.loop (n := x.Gaps.length) (I := fun i w' => x.Gaps.take i = y.Gaps.take i ∧ Go.Wf.Own none_ w w' [(Var b5 60 [.int .u32 b.Piece.TSN, .int .u16 b.Piece.Stream, .int .u16 b.Piece.Seq, .bool b.Piece.Begin, .bool b.Piece.End, .bool b.Piece.Unordered, .slice b.Piece.Text.a b.Piece.Text.n b.Piece.Text.c]), (Var b4 60 [.int .u32 a.Piece.TSN, .int .u16 a.Piece.Stream, .int .u16 a.Piece.Seq, .bool a.Piece.Begin, .bool a.Piece.End, .bool a.Piece.Unordered, .slice a.Piece.Text.a a.Piece.Text.n a.Piece.Text.c]), (Var b3 145 [.int .i64 b.Kind, .int .u32 b.Piece.TSN, .int .u16 b.Piece.Stream, .int .u16 b.Piece.Seq, .bool b.Piece.Begin, .bool b.Piece.End, .bool b.Piece.Unordered, .slice b.Piece.Text.a b.Piece.Text.n b.Piece.Text.c, .int .u32 b.Tag, .int .i64 b.Window, .int .i64 b.Out, .int .i64 b.In, .int .u32 b.TSN, .slice b.Random.a b.Random.n b.Random.c, .slice b.Addrs.a b.Addrs.n b.Addrs.c, .slice b.Info.a b.Info.n b.Info.c, .slice b.Gaps.a b.Gaps.n b.Gaps.c, .slice b.Dups.a b.Dups.n b.Dups.c, .int .i64 b.Cause, .int .u32 b.Serial, .slice b.Ops.a b.Ops.n b.Ops.c, .bool b.OK]), (Var b2 145 [.int .i64 a.Kind, .int .u32 a.Piece.TSN, .int .u16 a.Piece.Stream, .int .u16 a.Piece.Seq, .bool a.Piece.Begin, .bool a.Piece.End, .bool a.Piece.Unordered, .slice a.Piece.Text.a a.Piece.Text.n a.Piece.Text.c, .int .u32 a.Tag, .int .i64 a.Window, .int .i64 a.Out, .int .i64 a.In, .int .u32 a.TSN, .slice a.Random.a a.Random.n a.Random.c, .slice a.Addrs.a a.Addrs.n a.Addrs.c, .slice a.Info.a a.Info.n a.Info.c, .slice a.Gaps.a a.Gaps.n a.Gaps.c, .slice a.Dups.a a.Dups.n a.Dups.c, .int .i64 a.Cause, .int .u32 a.Serial, .slice a.Ops.a a.Ops.n a.Ops.c, .bool a.OK])]) (⟨rfl, H⟩) ?_
                                                rintro i5  w16 hi hI d
                                                obtain ⟨t5, H⟩ := hI
                                                dsimp only
                                                refine H.ld 3 16 rfl rfl rfl (p := a.Gaps) ?_
                                                refine ifK.mk (fun hc25 => ?_) (fun hc25 => ?_)
                                                · skip
                                                  have hc25 := of_decide_eq_true hc25
                                                  have HN := H.nest
                                                  refine HN.ld 3 16 rfl rfl rfl (p := a.Gaps) ?_
                                                  refine SlT.gget ok228 HN (show SlT ti228 w16 S a.Gaps x.Gaps from rGaps.ext c5 H.step) (by omega) fun v60 hv60 => ?_
                                                  refine HN.ld 2 16 rfl rfl rfl (p := b.Gaps) ?_
                                                  refine SlT.gget ok228 HN (show SlT ti228 w16 S' b.Gaps y.Gaps from rGaps.ext d5 H.step) (by omega) fun v62 hv62 => ?_
                                                  refine gRd.of (fun W _ => run_ne2 two228 W _ _ _ _ _ _ _ _) rfl ?_
                                                  refine HN.fin fun w18 hx_w18 H => ?_
                                                  have hX := hx_w18
                                                  refine ifK.mk (fun q24 => ?_) (fun q24 => ?_)
                                                  · skip
                                                    have q24 : v60 ≠ v62 := by intro e; subst e; simp at q24
                                                    exact ⟨H.step, by simp only [Bool.false_eq_true, false_iff]; intro h; subst h; rw [hv60] at hv62; exact q24 (Option.some.inj hv62)⟩
                                                  · skip
                                                    have q24 : v60 = v62 := by obtain ⟨s1, s2⟩ := v60; obtain ⟨s3, s4⟩ := v62; simp at q24; simp [q24]
                                                    exact RInv0.next (by omega) (by omega) ⟨take_eq_snoc t5 hv60 hv62 q24, H⟩
                                                · skip
                                                  have hc25 := of_decide_eq_false hc25
                                                  have z5 : x.Gaps = y.Gaps := take_full t5 (by omega) (by omega)
                                                  refine RInv0.loop (n := x.Dups.length) (I := fun i w' => x.Dups.take i = y.Dups.take i ∧ Go.Wf.Own none_ w w' [(Var b5 60 [.int .u32 b.Piece.TSN, .int .u16 b.Piece.Stream, .int .u16 b.Piece.Seq, .bool b.Piece.Begin, .bool b.Piece.End, .bool b.Piece.Unordered, .slice b.Piece.Text.a b.Piece.Text.n b.Piece.Text.c]), (Var b4 60 [.int .u32 a.Piece.TSN, .int .u16 a.Piece.Stream, .int .u16 a.Piece.Seq, .bool a.Piece.Begin, .bool a.Piece.End, .bool a.Piece.Unordered, .slice a.Piece.Text.a a.Piece.Text.n a.Piece.Text.c]), (Var b3 145 [.int .i64 b.Kind, .int .u32 b.Piece.TSN, .int .u16 b.Piece.Stream, .int .u16 b.Piece.Seq, .bool b.Piece.Begin, .bool b.Piece.End, .bool b.Piece.Unordered, .slice b.Piece.Text.a b.Piece.Text.n b.Piece.Text.c, .int .u32 b.Tag, .int .i64 b.Window, .int .i64 b.Out, .int .i64 b.In, .int .u32 b.TSN, .slice b.Random.a b.Random.n b.Random.c, .slice b.Addrs.a b.Addrs.n b.Addrs.c, .slice b.Info.a b.Info.n b.Info.c, .slice b.Gaps.a b.Gaps.n b.Gaps.c, .slice b.Dups.a b.Dups.n b.Dups.c, .int .i64 b.Cause, .int .u32 b.Serial, .slice b.Ops.a b.Ops.n b.Ops.c, .bool b.OK]), (Var b2 145 [.int .i64 a.Kind, .int .u32 a.Piece.TSN, .int .u16 a.Piece.Stream, .int .u16 a.Piece.Seq, .bool a.Piece.Begin, .bool a.Piece.End, .bool a.Piece.Unordered, .slice a.Piece.Text.a a.Piece.Text.n a.Piece.Text.c, .int .u32 a.Tag, .int .i64 a.Window, .int .i64 a.Out, .int .i64 a.In, .int .u32 a.TSN, .slice a.Random.a a.Random.n a.Random.c, .slice a.Addrs.a a.Addrs.n a.Addrs.c, .slice a.Info.a a.Info.n a.Info.c, .slice a.Gaps.a a.Gaps.n a.Gaps.c, .slice a.Dups.a a.Dups.n a.Dups.c, .int .i64 a.Cause, .int .u32 a.Serial, .slice a.Ops.a a.Ops.n a.Ops.c, .bool a.OK])]) (⟨rfl, H⟩) ?_
                                                  rintro i6  w19 hi hI d
                                                  obtain ⟨t6, H⟩ := hI
                                                  dsimp only
                                                  refine H.ld 3 17 rfl rfl rfl (p := a.Dups) ?_
                                                  refine ifK.mk (fun hc27 => ?_) (fun hc27 => ?_)
                                                  · skip
                                                    have hc27 := of_decide_eq_true hc27
                                                    have HN := H.nest
                                                    refine HN.ld 3 17 rfl rfl rfl (p := a.Dups) ?_
                                                    refine SlT.gget ok23 HN (show SlT ti23 w19 S a.Dups x.Dups from rWords.ext c6 H.step) (by omega) fun v66 hv66 => ?_
                                                    refine HN.ld 2 17 rfl rfl rfl (p := b.Dups) ?_
                                                    refine SlT.gget ok23 HN (show SlT ti23 w19 S' b.Dups y.Dups from rWords.ext d6 H.step) (by omega) fun v68 hv68 => ?_
                                                    refine HN.fin fun w20 hx_w20 H => ?_
                                                    have hX := hx_w20
                                                    refine ifK.mk (fun q25 => ?_) (fun q25 => ?_)
                                                    · skip
                                                      have q25 := by simpa using q25
                                                      exact ⟨H.step, by simp only [Bool.false_eq_true, false_iff]; intro h; subst h; rw [hv66] at hv68; exact q25 (Option.some.inj hv68)⟩
                                                    · skip
                                                      have q25 := by simpa using q25
                                                      exact RInv0.next (by omega) (by omega) ⟨take_eq_snoc t6 hv66 hv68 q25, H⟩
                                                  · skip
                                                    have hc27 := of_decide_eq_false hc27
                                                    have z6 : x.Dups = y.Dups := take_full t6 (by omega) (by omega)
                                                    refine RInv0.loop (n := x.Ops.length) (I := fun i w' => x.Ops.take i = y.Ops.take i ∧ Go.Wf.Own none_ w w' [(Var b5 60 [.int .u32 b.Piece.TSN, .int .u16 b.Piece.Stream, .int .u16 b.Piece.Seq, .bool b.Piece.Begin, .bool b.Piece.End, .bool b.Piece.Unordered, .slice b.Piece.Text.a b.Piece.Text.n b.Piece.Text.c]), (Var b4 60 [.int .u32 a.Piece.TSN, .int .u16 a.Piece.Stream, .int .u16 a.Piece.Seq, .bool a.Piece.Begin, .bool a.Piece.End, .bool a.Piece.Unordered, .slice a.Piece.Text.a a.Piece.Text.n a.Piece.Text.c]), (Var b3 145 [.int .i64 b.Kind, .int .u32 b.Piece.TSN, .int .u16 b.Piece.Stream, .int .u16 b.Piece.Seq, .bool b.Piece.Begin, .bool b.Piece.End, .bool b.Piece.Unordered, .slice b.Piece.Text.a b.Piece.Text.n b.Piece.Text.c, .int .u32 b.Tag, .int .i64 b.Window, .int .i64 b.Out, .int .i64 b.In, .int .u32 b.TSN, .slice b.Random.a b.Random.n b.Random.c, .slice b.Addrs.a b.Addrs.n b.Addrs.c, .slice b.Info.a b.Info.n b.Info.c, .slice b.Gaps.a b.Gaps.n b.Gaps.c, .slice b.Dups.a b.Dups.n b.Dups.c, .int .i64 b.Cause, .int .u32 b.Serial, .slice b.Ops.a b.Ops.n b.Ops.c, .bool b.OK]), (Var b2 145 [.int .i64 a.Kind, .int .u32 a.Piece.TSN, .int .u16 a.Piece.Stream, .int .u16 a.Piece.Seq, .bool a.Piece.Begin, .bool a.Piece.End, .bool a.Piece.Unordered, .slice a.Piece.Text.a a.Piece.Text.n a.Piece.Text.c, .int .u32 a.Tag, .int .i64 a.Window, .int .i64 a.Out, .int .i64 a.In, .int .u32 a.TSN, .slice a.Random.a a.Random.n a.Random.c, .slice a.Addrs.a a.Addrs.n a.Addrs.c, .slice a.Info.a a.Info.n a.Info.c, .slice a.Gaps.a a.Gaps.n a.Gaps.c, .slice a.Dups.a a.Dups.n a.Dups.c, .int .i64 a.Cause, .int .u32 a.Serial, .slice a.Ops.a a.Ops.n a.Ops.c, .bool a.OK])]) (⟨rfl, H⟩) ?_
                                                    rintro i7  w21 hi hI d
                                                    obtain ⟨t7, H⟩ := hI
                                                    dsimp only
                                                    refine H.ld 3 20 rfl rfl rfl (p := a.Ops) ?_
                                                    refine ifK.mk (fun hc29 => ?_) (fun hc29 => ?_)
                                                    · skip
                                                      have hc29 := of_decide_eq_true hc29
                                                      have HN := H.nest
                                                      refine HN.ld 3 20 rfl rfl rfl (p := a.Ops) ?_
                                                      refine SlT.gget ok229 HN (show SlT ti229 w21 S a.Ops x.Ops from rOps.ext c7 H.step) (by omega) fun v71 hv71 => ?_
                                                      refine HN.ld 2 20 rfl rfl rfl (p := b.Ops) ?_
                                                      refine SlT.gget ok229 HN (show SlT ti229 w21 S' b.Ops y.Ops from rOps.ext d7 H.step) (by omega) fun v73 hv73 => ?_
                                                      refine gRd.of (fun W _ => run_ne2 two229 W _ _ _ _ _ _ _ _) rfl ?_
                                                      refine HN.fin fun w23 hx_w23 H => ?_
                                                      have hX := hx_w23
                                                      refine ifK.mk (fun q26 => ?_) (fun q26 => ?_)
                                                      · skip
                                                        have q26 : v71 ≠ v73 := by intro e; subst e; simp at q26
                                                        exact ⟨H.step, by simp only [Bool.false_eq_true, false_iff]; intro h; subst h; rw [hv71] at hv73; exact q26 (Option.some.inj hv73)⟩
                                                      · skip
                                                        have q26 : v71 = v73 := by obtain ⟨s1, s2⟩ := v71; obtain ⟨s3, s4⟩ := v73; simp at q26; simp [q26]
                                                        exact RInv0.next (by omega) (by omega) ⟨take_eq_snoc t7 hv71 hv73 q26, H⟩
                                                    · skip
                                                      have hc29 := of_decide_eq_false hc29
                                                      have z7 : x.Ops = y.Ops := take_full t7 (by omega) (by omega)
                                                      refine ⟨H.step, ⟨fun _ => ?_, fun _ => rfl⟩⟩
                                                      exact ext_chunk (eKind.trans (q1.trans fKind.symm)) (ext_piece (epTSN.trans (q10.trans fpTSN.symm)) (epStream.trans (q11.trans fpStream.symm)) (epSeq.trans (q12.trans fpSeq.symm)) (epBegin.trans (q13.trans fpBegin.symm)) (epEnd.trans (q14.trans fpEnd.symm)) (epUnordered.trans (q15.trans fpUnordered.symm)) (strOf_inj ox.1 oy.1 q16)) (eTag.trans (q2.trans fTag.symm)) (eWindow.trans (q3.trans fWindow.symm)) (eOut.trans (q4.trans fOut.symm)) (eIn.trans (q5.trans fIn.symm)) (eTSN.trans (q6.trans fTSN.symm)) (strOf_inj ox.2.1 oy.2.1 q17) z3 (strOf_inj ox.2.2 oy.2.2 q18) z5 z6 (eCause.trans (q7.trans fCause.symm)) (eSerial.trans (q8.trans fSerial.symm)) z7 (eOK.trans (q9.trans fOK.symm))
end Go.Wf2
