/- A part of the proof: lemmas; nothing is claimed here. -/
import Derived.Test.YtkeecncgfhgnpaaWAf
import Derived.Test.YtkeecncgfhgnpaaWUA
set_option linter.all false
namespace Go.Wf2
open Go Go.Wf Go.Proofs
set_option maxRecDepth 4000
def MixTail (al ofs : Sl) (kk ix : Int) (w42 : World) (next3 : Sl × Sl × Int × Unit → World → Prop) : Prop :=
  ∃ (G3 : World → Prop), Wf.GOk w42 G3 ∧
  Wf.gRd Try.prog ti51 (Wf.Th.from w42 G3) (Instr.sliceAt 51 (.slice al.a al.n al.c) none (some (.int .i64 ix)) (some (.int .i64 ix))) fun (v39 : Sl) =>
  Wf.gRd Try.prog ti51 (Wf.Th.from w42 G3) (Instr.sliceAt 51 (.slice al.a al.n al.c) (some (.int .i64 (IntKind.i64.wrap (ix + 1)))) none none) fun (v40 : Sl) =>
  Wf.gRd Try.prog ti48 (Wf.Th.from w42 G3) (Instr.sliceAt 48 (.slice ofs.a ofs.n ofs.c) none (some (.int .i64 ix)) (some (.int .i64 ix))) fun (v41 : Sl) =>
  Wf.gRd Try.prog ti48 (Wf.Th.from w42 G3) (Instr.sliceAt 48 (.slice ofs.a ofs.n ofs.c) (some (.int .i64 (IntKind.i64.wrap (ix + 1)))) none none) fun (v42 : Sl) =>
  Wf.gEnd (Wf.Th.from w42 G3) fun w47 =>
  Wf.runT Try.prog ti51 (Builtin.append_ #[51, 51] 51 #[.slice v39.a v39.n v39.c, .slice v40.a v40.n v40.c]) w47 fun (v43 : Sl) w48 =>
  G3 w48 ∧
  Wf.runT Try.prog ti48 (Builtin.append_ #[48, 48] 48 #[.slice v41.a v41.n v41.c, .slice v42.a v42.n v42.c]) w48 fun (v44 : Sl) w49 =>
  next3 (v43, v44, IntKind.i64.wrap (kk + 1), ()) w49
end Go.Wf2

namespace Go.Wf2
open Go Go.Wf Go.Proofs
set_option maxRecDepth 4000
set_option linter.unusedVariables false
theorem cut_front {I : TI} {z : Nat} (hI : WrOk I z) {w : World} {S : Nat → Prop} {s : Sl} {l : List I.ty} (h : SlT I w S s l) {n : Nat} (hn : n < l.length) : SlT I w S (subS s z 0 n n) (l.take n) := by
  have hl := h.1
  have := h.sub hI (L := 0) (H := n) (M := n) (by omega) (by omega) (by omega)
  simpa using this
theorem cut_back {I : TI} {z : Nat} (hI : WrOk I z) {w : World} {S : Nat → Prop} {s : Sl} {l : List I.ty} (h : SlT I w S s l) {n : Nat} (hn : n < l.length) : SlT I w S (subS s z (n + 1) s.n s.c) (l.drop (n + 1)) := by
  have hl := h.1
  have hc := h.2.1
  have := h.sub hI (L := n + 1) (H := s.n) (M := s.c) (by omega) (by omega) (by omega)
  have e : (l.drop (n + 1)).take (s.n - (n + 1)) = l.drop (n + 1) := List.take_of_length_le (by simp; omega)
  rw [e] at this
  exact this
theorem sl_some {I : TI} {w : World} {S : Nat → Prop} {s : Sl} {l : List I.ty} (h : SlT I w S s l) (hl : 0 < l.length) : ∃ a, s.a = some a := by
  rcases h.2.2 with h0 | ⟨a, ha, _⟩
  · rw [h0] at hl; simp at hl
  · exact ⟨a, ha⟩
theorem subS_some {s : Sl} {z l h m : Nat} (ha : ∃ a, s.a = some a) : ∃ a, (subS s z l h m).a = some a := by
  obtain ⟨a, ha⟩ := ha
  simp only [subS, ha]
  split
  · exact ⟨_, rfl⟩
  · exact ⟨_, rfl⟩
abbrev rAl : Rdr Sl (List GPiece) := Rdr.sl0 ok60
abbrev rIn : Rdr Sl (List Int) := Rdr.sl0 ok3
theorem mixTail_spec {w0 w : World} {B : List Ent} {al ofs : Sl} {kk : Int} {n : Nat} {NA NO : Nat → Prop} {gr : List GPiece} {js : List Int} {next3 : Sl × Sl × Int × Unit → World → Prop} (H : Go.Wf.Own none_ w0 w (rAl.ent NA al gr :: rIn.ent NO ofs js :: B))
    (hn : n < gr.length) (hj : js.length = gr.length) (hg : gr.length ≤ 1000) (hk : ∀ al' ofs' NA' NO' w', Go.Wf.Own none_ w0 w' (rAl.ent NA' al' (gr.take n ++ gr.drop (n + 1)) :: rIn.ent NO' ofs' (js.take n ++ js.drop (n + 1)) :: B) → next3 (al', ofs', IntKind.i64.wrap (kk + 1), ()) w') :
    MixTail al ofs kk (n : Int) w next3 := by
  have ha : SlT ti60 w NA al gr := H.hold.at 0 rfl
  have ho : SlT ti3 w NO ofs js := H.hold.at 1 rfl
  have hal := ha.1
  have hac := ha.2.1
  have hol := ho.1
  have hoc := ho.2.1
  have e1 : IntKind.i64.wrap ((n : Int) + 1) = ((n + 1 : Nat) : Int) := wrapN (by omega)
  unfold MixTail
  rw [e1]
  refine ⟨Ext w, GOk.ext w, ?_⟩
  have s1 := subs_hm (k := .i64) (k' := .i64) (a := al.a) (n := al.n) (c := al.c) (h := (n : Int)) (m := (n : Int)) el51 (by omega) (by omega) (by omega)
  have s2 := subs_l (k := .i64) (a := al.a) (n := al.n) (c := al.c) (l := ((n + 1 : Nat) : Int)) el51 (by omega) (by omega)
  have s3 := subs_hm (k := .i64) (k' := .i64) (a := ofs.a) (n := ofs.n) (c := ofs.c) (h := (n : Int)) (m := (n : Int)) el48 (by omega) (by omega) (by omega)
  have s4 := subs_l (k := .i64) (a := ofs.a) (n := ofs.n) (c := ofs.c) (l := ((n + 1 : Nat) : Int)) el48 (by omega) (by omega)
  refine s1.g (I := ti51) (fun s => s) (fun _ => rfl) ?_
  refine s2.g (I := ti51) (fun s => s) (fun _ => rfl) ?_
  refine s3.g (I := ti48) (fun s => s) (fun _ => rfl) ?_
  refine s4.g (I := ti48) (fun s => s) (fun _ => rfl) ?_
  intro w1 _ hx1
  have hx1 : Ext w w1 := hx1
  have H := H.ext hx1
  have ha := ha.ext ok60 hx1
  refine append_full (S := NA) (S' := NA) (l := gr.take n) (l' := gr.drop (n + 1)) ok60 el51 (s := subS al 7 0 n n) (x := subS al 7 (n + 1) al.n al.c) (cut_front ok60 ha hn) rfl (subS_some (sl_some ha (by omega))) (cut_back ok60 ha hn) (by simp; omega) (I := ti51) (fun s => s) (fun _ => rfl) fun r w2 hx2 hr => ?_
  refine ⟨hx1.trans hx2, ?_⟩
  have H := H.callOn rAl hx2 hr
  have ho := ho.ext ok3 (hx1.trans hx2)
  refine append_full (S := NO) (S' := NO) (l := js.take n) (l' := js.drop (n + 1)) ok3 el48 (s := subS ofs 1 0 n n) (x := subS ofs 1 (n + 1) ofs.n ofs.c) (cut_front ok3 ho (by omega)) rfl (subS_some (sl_some ho (by omega))) (cut_back ok3 ho (by omega)) (by simp; omega) (I := ti48) (fun s => s) (fun _ => rfl) fun r2 w3 hx3 hr2 => ?_
  have H := (H.front 1 rfl).callOn rIn hx3 hr2
  exact hk _ _ _ _ _ (H.front 1 rfl)
end Go.Wf2

namespace Go.Wf2
open Go Go.Wf Go.Proofs
set_option maxRecDepth 4000
def MixBody (b : Nat) (left al ofs : Sl) (kk : Int) (v17 : Option Addr) (ix : Int) (w24 : World) (K : Bool → World → Prop) (next3 : Sl × Sl × Int × Unit → World → Prop): Prop :=
  Wf.idxK al.a al.n ix 7 fun (a4 : Addr) =>
  Wf.ldK ti60 w24 a4 fun (v21 : GPiece) =>
  C_reasm_Bench_Put v17 v21 w24 fun (v22 : (GDone × Bool × Value)) w25 =>
  Wf.NewK (.cells z65 65) w25 fun b11 w26 =>
  Wf.StoreK (bx b11) [.int .i64 v22.1.M.Stream, .bool v22.1.M.Unordered, .slice v22.1.M.Text.a v22.1.M.Text.n v22.1.M.Text.c, .int .u16 v22.1.Seq] w26 fun w27 =>
  Wf.idxK ofs.a ofs.n ix 1 fun (a5 : Addr) =>
  Wf.ldK ti3 w27 a5 fun (v23 : Int) =>
  Wf.idxK left.a left.n v23 1 fun (a6 : Addr) =>
  Wf.ldK ti3 w27 a6 fun (v24 : Int) =>
  Wf.idxK left.a left.n v23 1 fun (a7 : Addr) =>
  Wf.StoreK a7 [.int .i64 (IntKind.i64.wrap (v24 - 1))] w27 fun w28 =>
  ∃ (G : World → Prop), Wf.GOk w28 G ∧
  Wf.isIfc v22.2.2 = true ∧
  Wf.ifK (!(Wf.isNilV v22.2.2))
  (Wf.gEnd (Wf.Th.from w28 G) fun w29 =>
  K false w29)
  (Wf.idxK ofs.a ofs.n ix 1 fun (a8 : Addr) =>
  Wf.gLd ti3 (Wf.Th.from w28 G) a8 fun (v25 : Int) =>
  Wf.idxK left.a left.n v25 1 fun (a9 : Addr) =>
  Wf.gLd ti3 (Wf.Th.from w28 G) a9 fun (v26 : Int) =>
  Wf.ifK (!(v22.2.1 == ((v26 : Int) == 0)))
  (Wf.gEnd (Wf.Th.from w28 G) fun w30 =>
  K false w30)
  (Wf.ifK v22.2.1
  (Wf.gLd ti54 (Wf.Th.from w28 G) (((bx b11)).add 0) fun (v27 : GMessage) =>
  Wf.gLd ti44 (Wf.Th.from w28 G) (((bx b)).add 0) fun (v28 : Sl) =>
  Wf.idxK ofs.a ofs.n ix 1 fun (a10 : Addr) =>
  Wf.gLd ti3 (Wf.Th.from w28 G) a10 fun (v29 : Int) =>
  Wf.idxK ofs.a ofs.n ix 1 fun (a11 : Addr) =>
  Wf.gLd ti3 (Wf.Th.from w28 G) a11 fun (v30 : Int) =>
  Wf.gRd Try.prog ti44 (Wf.Th.from w28 G) (Instr.sliceAt 44 (.slice v28.a v28.n v28.c) (some (.int .i64 v29)) (some (.int .i64 (IntKind.i64.wrap (v30 + 1)))) none) fun (v31 : Sl) =>
  Wf.gEnd (Wf.Th.from w28 G) fun w32 =>
  Wf.NewK (.cells #[.int .i64 v27.Stream, .bool v27.Unordered, .slice v27.Text.a v27.Text.n v27.Text.c] 54) w32 fun b12 w33 =>
  G w33 ∧
  C_weftlinenum_Messages (⟨some (bx b12), 1, 1⟩ : Sl) v31 w33 fun (v32 : Bool) w34 =>
  Wf.ifK (!v32)
  (K false w34)
  (∃ (G2 : World → Prop), Wf.GOk w34 G2 ∧
  Wf.gRd Try.prog ti51 (Wf.Th.from w34 G2) (Instr.sliceAt 51 (.slice al.a al.n al.c) none (some (.int .i64 ix)) (some (.int .i64 ix))) fun (v33 : Sl) =>
  Wf.gRd Try.prog ti51 (Wf.Th.from w34 G2) (Instr.sliceAt 51 (.slice al.a al.n al.c) (some (.int .i64 (IntKind.i64.wrap (ix + 1)))) none none) fun (v34 : Sl) =>
  Wf.gRd Try.prog ti48 (Wf.Th.from w34 G2) (Instr.sliceAt 48 (.slice ofs.a ofs.n ofs.c) none (some (.int .i64 ix)) (some (.int .i64 ix))) fun (v35 : Sl) =>
  Wf.gRd Try.prog ti48 (Wf.Th.from w34 G2) (Instr.sliceAt 48 (.slice ofs.a ofs.n ofs.c) (some (.int .i64 (IntKind.i64.wrap (ix + 1)))) none none) fun (v36 : Sl) =>
  Wf.gEnd (Wf.Th.from w34 G2) fun w39 =>
  Wf.runT Try.prog ti51 (Builtin.append_ #[51, 51] 51 #[.slice v33.a v33.n v33.c, .slice v34.a v34.n v34.c]) w39 fun (v37 : Sl) w40 =>
  G2 w40 ∧
  Wf.runT Try.prog ti48 (Builtin.append_ #[48, 48] 48 #[.slice v35.a v35.n v35.c, .slice v36.a v36.n v36.c]) w40 fun (v38 : Sl) w41 =>
  next3 (v37, v38, IntKind.i64.wrap (kk + 1), ()) w41))
  (Wf.gEnd (Wf.Th.from w28 G) fun w42 =>
  ∃ (G3 : World → Prop), Wf.GOk w42 G3 ∧
  Wf.gRd Try.prog ti51 (Wf.Th.from w42 G3) (Instr.sliceAt 51 (.slice al.a al.n al.c) none (some (.int .i64 ix)) (some (.int .i64 ix))) fun (v39 : Sl) =>
  Wf.gRd Try.prog ti51 (Wf.Th.from w42 G3) (Instr.sliceAt 51 (.slice al.a al.n al.c) (some (.int .i64 (IntKind.i64.wrap (ix + 1)))) none none) fun (v40 : Sl) =>
  Wf.gRd Try.prog ti48 (Wf.Th.from w42 G3) (Instr.sliceAt 48 (.slice ofs.a ofs.n ofs.c) none (some (.int .i64 ix)) (some (.int .i64 ix))) fun (v41 : Sl) =>
  Wf.gRd Try.prog ti48 (Wf.Th.from w42 G3) (Instr.sliceAt 48 (.slice ofs.a ofs.n ofs.c) (some (.int .i64 (IntKind.i64.wrap (ix + 1)))) none none) fun (v42 : Sl) =>
  Wf.gEnd (Wf.Th.from w42 G3) fun w47 =>
  Wf.runT Try.prog ti51 (Builtin.append_ #[51, 51] 51 #[.slice v39.a v39.n v39.c, .slice v40.a v40.n v40.c]) w47 fun (v43 : Sl) w48 =>
  G3 w48 ∧
  Wf.runT Try.prog ti48 (Builtin.append_ #[48, 48] 48 #[.slice v41.a v41.n v41.c, .slice v42.a v42.n v42.c]) w48 fun (v44 : Sl) w49 =>
  next3 (v43, v44, IntKind.i64.wrap (kk + 1), ()) w49)))
end Go.Wf2

namespace Go.Wf2
open Go Go.Wf Go.Proofs
set_option maxRecDepth 4000
set_option linter.unusedVariables false
/-- A state of the mixing. -/
structure MSt where
  all : List XPiece
  of : List Int
  left : List Int
  bx : List XPiece
  held : Int
def mPut (s : MSt) (p : XPiece) : PutR := putX s.bx s.held p
def mNext (s : MSt) (n j : Nat) (p : XPiece) (v : Int) : MSt := ⟨s.all.take n ++ s.all.drop (n + 1), s.of.take n ++ s.of.drop (n + 1), s.left.set j (v - 1), (mPut s p).xs, (mPut s p).held⟩
/-- What is asked of a state, that the step goes well. -/
structure MGo (xs : List XMessage) (s : MSt) (n j : Nat) (p : XPiece) (v : Int) : Prop where
  hp : s.all[n]? = some p
  hj : s.of[n]? = some (j : Int)
  hv : s.left[j]? = some v
  jx : j < xs.length
  len : s.of.length = s.all.length
  few : s.all.length ≤ 300
  vb : -1000 ≤ v ∧ v ≤ 1000
  bl : s.bx.length < 90000
  bt : ∀ (i : Nat) y, s.bx[i]? = some y → y.Text.length ≤ 64
  h0 : 0 ≤ s.held
  h1 : s.held ≤ 2000
  err : (mPut s p).err = 0
  hok : (mPut s p).ok = decide (v - 1 = 0)
  hm : (mPut s p).ok = true → xs[j]? = some (mPut s p).m
abbrev MixL (bb m b : Nat) (left al ofs : Sl) (L O : Sl) (tsn seq size : Int) (N NA NO NT : Nat → Prop) (ps gr ga : List GPiece) (xa : List XPiece) (s : MSt) (B : List Ent) : List Ent :=
  Var bb 162 [.map (some m), .int .i64 s.held] :: MapB ti23 ti60 m (kp ps) :: rPieces.ent N ps s.bx :: RowT ti3 3 1 left s.left :: rAl.ent NA al gr :: rIn.ent NO ofs s.of :: rPieces.ent NT ga xa ::
    Var b 50 [.slice L.a L.n L.c, .int .u32 tsn, .int .u16 seq, .int .i64 size, .slice O.a O.n O.c] :: B
abbrev MixR (ga : List GPiece) (xa : List XPiece) (gr : List GPiece) (all : List XPiece) : Prop := All2 (fun g x => ∃ i : Nat, ga[i]? = some g ∧ xa[i]? = some x) gr all
theorem mixBody_spec {w0 w : World} {B : List Ent} {bb m b : Nat} {left al ofs L O : Sl} {tsn seq size kk : Int} {N NA NO NT : Nat → Prop} {ps gr ga : List GPiece} {xa : List XPiece} {s : MSt} {n j : Nat} {p : XPiece} {v : Int} {gms : List GMessage} {xms : List XMessage}
    {K : Bool → World → Prop} {next3 : Sl × Sl × Int × Unit → World → Prop} (H : Go.Wf.Own none_ w0 w (MixL bb m b left al ofs L O tsn seq size N NA NO NT ps gr ga xa s B)) (hrel : MixR ga xa gr s.all)
    (hL : ∀ W, Go.Wf.Own none_ w0 W B → ∃ S, SlT ti54 W S L gms ∧ McR W gms xms) (hok : msgsOk xms) (hbig : gms.length ≤ 4611686018427387904) (hgo : MGo xms s n j p v)
    (hk : ∀ al' ofs' ps' gr' N' NA' NO' w', MixR ga xa gr' (mNext s n j p v).all → Go.Wf.Own none_ w0 w' (MixL bb m b left al' ofs' L O tsn seq size N' NA' NO' NT ps' gr' ga xa (mNext s n j p v) B) → next3 (al', ofs', IntKind.i64.wrap (kk + 1), ()) w') :
    MixBody b left al ofs kk (some (bx bb)) (n : Int) w K next3 := by
  have hlen := hrel.len
  have hn : n < s.all.length := (List.getElem?_eq_some_iff.1 hgo.hp).1
  have hfew := hgo.few
  unfold MixBody
  refine SlT.getN ok60 (show SlT ti60 w NA al gr from H.hold.at 4 rfl) (by omega) fun g hg => ?_
  have hgp := hrel.at2 hg hgo.hp
  obtain ⟨gi, hgi, hxi⟩ := hgp
  refine C_reasm_Bench_Put.mono (reasmPut_spec (x := p) H (fun W HW => ⟨NT, All2.at2 (show All2 (rPiece.R W NT) ga xa from HW.hold.at 3 rfl) hgi hxi⟩) hgo.bl hgo.bt hgo.h0 hgo.h1) fun r w25 hr => ?_
  obtain ⟨ps', N', NM, H, e1, e2, e3⟩ := hr
  change r.2.1 = (mPut s p).ok at e2
  change r.2.2 = errV (mPut s p).err at e3
  replace H : Go.Wf.Own none_ w0 w25 (rMessage.ent NM r.1.M (mPut s p).m :: Var bb 162 [.map (some m), .int .i64 (mPut s p).held] :: MapB ti23 ti60 m (kp ps') :: rPieces.ent N' ps' (mPut s p).xs :: _) := H
  rw [hgo.err] at e3
  rw [hgo.hok] at e2
  refine H.new fun b11 w26 H _ => ?_
  refine H.st 0 0 rfl rfl rfl fun w27 H => ?_
  replace H : Go.Wf.Own _ _ _ (Var b11 65 [.int .i64 r.1.M.Stream, .bool r.1.M.Unordered, .slice r.1.M.Text.a r.1.M.Text.n r.1.M.Text.c, .int .u16 r.1.Seq] :: _) := H
  have hnj : n < s.of.length := by rw [hgo.len]; exact hn
  have hjl : j < s.left.length := (List.getElem?_eq_some_iff.1 hgo.hv).1
  refine SlT.getN ok3 (show SlT ti3 w27 NO ofs s.of from H.hold.at 7 rfl) hnj fun v23 hv23 => ?_
  obtain rfl : v23 = (j : Int) := by rw [hgo.hj] at hv23; exact (Option.some.inj hv23).symm
  refine SlT.getN ok3 (RowT.sl ok3 (show (RowT ti3 3 1 left s.left).F w27 from H.hold.at 5 rfl)) hjl fun v24 hv24 => ?_
  obtain rfl : v24 = v := by rw [hgo.hv] at hv24; exact (Option.some.inj hv24).symm
  have hvb := hgo.vb
  have ew : IntKind.i64.wrap (v24 - 1) = v24 - 1 := wrap64 (by omega) (by omega)
  rw [ew]
  obtain ⟨a, ha⟩ := sl_some (RowT.sl ok3 (show (RowT ti3 3 1 left s.left).F w27 from H.hold.at 5 rfl)) (by omega)
  have hln := RowT.len ok3 (show (RowT ti3 3 1 left s.left).F w27 from H.hold.at 5 rfl)
  refine ⟨⟨by omega, by omega⟩, a, ha, ?_⟩
  refine H.rowSt 5 ok3 rfl ha (e := j) (v := v24) (v' := v24 - 1) hgo.hv (off := 0) (cs := [.int .i64 (v24 - 1)]) (Nat.le_refl 1) rfl (add_zero _).symm fun w28 H => ?_
  replace H : Go.Wf.Own _ _ _ (_ :: _ :: _ :: _ :: _ :: RowT ti3 3 1 left (s.left.set j (v24 - 1)) :: _) := H
  refine ⟨Ext w28, GOk.ext w28, by rw [e3]; rfl, ?_⟩
  refine ifK.mk (fun q => by rw [e3] at q; cases q) (fun _ => ?_)
  have HN := H.nest
  have hofs : SlT ti3 w28 NO ofs s.of := H.hold.at 7 rfl
  have hleft : SlT ti3 w28 _ left (s.left.set j (v24 - 1)) := RowT.sl ok3 (show (RowT ti3 3 1 left (s.left.set j (v24 - 1))).F w28 from H.hold.at 5 rfl)
  refine SlT.gget ok3 HN hofs hnj fun v25 hv25 => ?_
  obtain rfl : v25 = (j : Int) := by rw [hgo.hj] at hv25; exact (Option.some.inj hv25).symm
  refine SlT.gget ok3 HN hleft (by simpa using hjl) fun v26 hv26 => ?_
  obtain rfl : v26 = v24 - 1 := by rw [List.getElem?_set_self hjl] at hv26; exact (Option.some.inj hv26).symm
  refine ifK.mk (fun q => ?_) (fun _ => ?_)
  · exfalso
    rw [e2] at q
    have : ((v24 - 1 : Int) == 0) = decide (v24 - 1 = 0) := by rw [Bool.eq_iff_iff]; simp
    rw [this] at q
    simp at q
  have hrel' : MixR ga xa (gr.take n ++ gr.drop (n + 1)) (s.all.take n ++ s.all.drop (n + 1)) := (hrel.take n).app (hrel.drop (n + 1))
  refine ifK.mk (fun q => ?_) (fun q => ?_)
  · have hokm : (mPut s p).ok = true := by rw [hgo.hok, ← e2]; exact q
    have hxj := hgo.hm hokm
    have hmb : bytesOk (mPut s p).m.Text := hok j _ hxj
    refine HN.ld 0 0 rfl rfl rfl (p := r.1.M) ?_
    refine HN.ld 9 0 rfl rfl rfl (p := L) ?_
    refine SlT.gget ok3 HN hofs hnj fun v29 hv29 => ?_
    obtain rfl : v29 = (j : Int) := by rw [hgo.hj] at hv29; exact (Option.some.inj hv29).symm
    refine SlT.gget ok3 HN hofs hnj fun v30 hv30 => ?_
    obtain rfl : v30 = (j : Int) := by rw [hgo.hj] at hv30; exact (Option.some.inj hv30).symm
    obtain ⟨SL, hL1, hL2⟩ := hL _ H.tail.tail.tail.tail.tail.tail.tail.tail.tail.tail
    have hgl := hL2.len
    have hLn := hL1.1
    have hLc := hL1.2.1
    have hjx := hgo.jx
    have e1 : IntKind.i64.wrap ((j : Int) + 1) = ((j + 1 : Nat) : Int) := wrapN (by omega)
    rw [e1]
    have s1 := subs_lh (k := .i64) (k' := .i64) (a := L.a) (n := L.n) (c := L.c) (l := (j : Int)) (h := ((j + 1 : Nat) : Int)) el44 (by omega) (by omega) (by omega)
    refine s1.g (I := ti44) (fun s => s) (fun _ => rfl) ?_
    intro w32 _ hx32
    have hx32 : Ext w28 w32 := hx32
    have H := H.ext hx32
    refine H.new fun b12 w33 H hx33 => ?_
    refine ⟨hx32.trans hx33, ?_⟩
    have hsub := hL1.sub ok54 (L := j) (H := j + 1) (M := L.c) (by omega) (by omega) (by omega)
    have hjg : j < gms.length := by omega
    have egms : (gms.drop j).take (j + 1 - j) = [gms[j]] := by
      rw [Nat.add_sub_cancel_left, List.drop_eq_getElem_cons hjg]; rfl
    rw [egms] at hsub
    have hxj2 : xms[j]? = some (mPut s p).m := hxj
    obtain ⟨SM, hSM⟩ := hL2.at2 (List.getElem?_eq_getElem hjg) hxj2
    have hsl : SlT ti54 w33 _ ⟨some (bx b12), 1, 1⟩ [r.1.M] := H.varSl 0 (J := ti54) [r.1.M] rfl rfl
    have hmm : rMessage.R w33 NM r.1.M (mPut s p).m := H.hold.at 2 rfl
    have hX := hx32.trans hx33
    refine C_weftlinenum_Messages.mono (messages_spec hsl (hsub.ext ok54 hX) (xs := [(mPut s p).m]) (ys := [(mPut s p).m]) ⟨⟨NM, hmm⟩, trivial⟩ ⟨⟨SM, rMessage.ext hSM hX⟩, trivial⟩
      (fun i x hi => by rcases i with _ | i <;> simp at hi; subst hi; exact hmb) (fun i x hi => by rcases i with _ | i <;> simp at hi; subst hi; exact hmb) (by simp)) fun v32 w34 hv32 => ?_
    obtain ⟨hx34, hv32⟩ := hv32
    have hv32 : v32 = true := hv32.2 rfl
    subst hv32
    refine ifK.mk (fun q => by cases q) (fun _ => ?_)
    have H := (((H.ext hx34).drop 0).drop 0).drop 0
    have H := (H.front 5 rfl).front 5 rfl
    exact mixTail_spec (kk := kk) H (by omega) (by rw [hgo.len, hlen]) (by omega) fun al' ofs' NA' NO' w' H => hk al' ofs' ps' _ N' NA' NO' w' hrel' ((((((H.front 5 rfl).front 5 rfl).front 5 rfl).front 5 rfl)))
  · intro w42 _ hx42
    have H := ((H.ext (show Ext w28 w42 from hx42)).drop 0).drop 0
    have H := (H.front 5 rfl).front 5 rfl
    exact mixTail_spec (kk := kk) H (by omega) (by rw [hgo.len, hlen]) (by omega) fun al' ofs' NA' NO' w' H => hk al' ofs' ps' _ N' NA' NO' w' hrel' ((((((H.front 5 rfl).front 5 rfl).front 5 rfl).front 5 rfl)))
end Go.Wf2

namespace Go.Wf2
open Go Go.Wf Go.Proofs
set_option maxRecDepth 4000
set_option linter.unusedVariables false
structure CSt where
  all : List XPiece
  of : List Int
  left : List Int
  total : Int
  tsn : Int
  seq : Int
def cNext (n : Nat) (s : CSt) (x : XMessage) : CSt :=
  ⟨s.all ++ cutX x s.tsn s.seq n, s.of ++ List.replicate (cutX x s.tsn s.seq n).length (s.left.length : Int), s.left ++ [((cutX x s.tsn s.seq n).length : Int)], s.total + x.Text.length,
    IntKind.u32.wrap (s.tsn + IntKind.u32.wrap ((cutX x s.tsn s.seq n).length : Int)), IntKind.u16.wrap (s.seq + 1)⟩
def cRun (n : Nat) (s : CSt) (xs : List XMessage) : CSt := xs.foldl (cNext n) s
theorem cRun_snoc (n : Nat) (s : CSt) (xs : List XMessage) (x : XMessage) : cRun n s (xs ++ [x]) = cNext n (cRun n s xs) x := by simp [cRun]
theorem cutX_len (x : XMessage) (tsn seq : Int) (n : Nat) : (cutX x tsn seq n).length = cntX x.Text.length n := by simp [cutX]
theorem cnt_le (len n : Nat) (hn : 1 ≤ n) : cntX len n ≤ len := by
  unfold cntX
  rcases Nat.eq_zero_or_pos len with h | h
  · subst h
    rw [Nat.div_eq_of_lt (by omega)]; exact Nat.le_refl 0
  · rw [Nat.div_le_iff_le_mul_add_pred (by omega)]
    have : len ≤ n * len := Nat.le_mul_of_pos_left len (by omega)
    omega
theorem cutE_zero {x : XMessage} {size : Int} (h : cutE x size = 0) : goodX x = true ∧ 1 ≤ size ∧ size ≤ 64 := by
  unfold cutE at h
  split at h
  · cases h
  · split at h
    · cases h
    · rename_i h1 h2
      simp only [Bool.not_eq_false, Bool.and_eq_true, decide_eq_true_eq] at h1 h2
      exact ⟨h1, h2⟩
theorem goodX_len {x : XMessage} (h : goodX x = true) : 1 ≤ x.Text.length ∧ x.Text.length ≤ 400 := by
  simp only [goodX, Bool.and_eq_true, decide_eq_true_eq] at h
  omega
/-- What is asked of the pure side. -/
structure MOk (xs : List XMessage) (st : CSt) (MI : MSt → Prop) : Prop where
  init : st.total ≤ 2000 → st.all.length ≤ 300 → MI ⟨st.all, st.of, st.left, [], 0⟩
  step : ∀ s, MI s → ∀ n p, s.all[n]? = some p → ∃ j v, MGo xs s n j p v ∧ MI (mNext s n j p v)
  fin : ∀ s, MI s → s.all = [] → s.bx = [] ∧ s.held = 0
  few : ∀ s, MI s → s.all.length ≤ 300
theorem mixes_loop3 {w0 w : World} {bb m b : Nat} {L O : Sl} {tsn seq size : Int} {NT : Nat → Prop} {ga : List GPiece} {xa : List XPiece} {gms : List GMessage} {xms : List XMessage} {os : List Int} {MI : MSt → Prop} {st0 : CSt}
    {al ofs left : Sl} {N NA NO : Nat → Prop} {ps gr : List GPiece} {s : MSt} (hM : MOk xms st0 MI) (hs : MI s) (hrel : MixR ga xa gr s.all)
    (H : Go.Wf.Own none_ w0 w (MixL bb m b left al ofs L O tsn seq size N NA NO NT ps gr ga xa s []))
    (hL : ∀ W, Go.Wf.Own none_ w0 W [] → ∃ S, SlT ti54 W S L gms ∧ McR W gms xms) (hO : ∀ W, Go.Wf.Own none_ w0 W [] → ∃ S, SlT ti3 W S O os) (hok : msgsOk xms) (hbig : gms.length ≤ 4611686018427387904) :
    Go.Wf.loopP (X := Sl × Sl × Int × Unit) (al, ofs, 0, ()) w fun next3 s3 _ w24 =>
      Go.Wf.ifK (decide (((s3.1.n : Int) : Int) > 0))
      (Go.Wf.ldK ti48 w24 (((bx b)).add 4) fun (v18 : Sl) =>
      Go.Wf.ifK (decide ((s3.2.2.1 : Int) < (v18.n : Int)))
      (Go.Wf.ldK ti48 w24 (((bx b)).add 4) fun (v19 : Sl) =>
      Go.Wf.idxK v19.a v19.n s3.2.2.1 1 fun (a3 : Addr) =>
      Go.Wf.ldK ti3 w24 a3 fun (v20 : Int) =>
      (IntKind.u64.wrap (s3.1.n : Int) : Int) ≠ 0 ∧
      MixBody b left s3.1 s3.2.1 s3.2.2.1 (some (bx bb)) (IntKind.i64.wrap (Int.tmod (IntKind.u64.wrap v20) (IntKind.u64.wrap (s3.1.n : Int)))) w24 (Val w0 true) next3)
      (MixBody b left s3.1 s3.2.1 s3.2.2.1 (some (bx bb)) 0 w24 (Val w0 true) next3))
      (C_reasm_Bench_Len (some (bx bb)) w24 fun (v69 : Int) w75 =>
      Go.Wf.ifK ((v69 : Int) == 0)
      (C_reasm_Bench_Held (some (bx bb)) w75 fun (v70 : Int) w76 =>
      (Val w0 true) ((v70 : Int) == 0) w76)
      ((Val w0 true) false w75)) := by
  refine LI.loop (X := Sl × Sl × Int × Unit) (I := fun k s3 w' => ∃ (s : MSt) (N NA NO : Nat → Prop) (ps gr : List GPiece) (q : Nat), MI s ∧ s.all.length = k ∧ s3.2.2.1 = (q : Int) ∧ q + k ≤ 300 ∧ MixR ga xa gr s.all ∧ Go.Wf.Own none_ w0 w' (MixL bb m b left s3.1 s3.2.1 L O tsn seq size N NA NO NT ps gr ga xa s [])) s.all.length ⟨s, N, NA, NO, ps, gr, 0, hs, rfl, rfl, by have := hM.few s hs; omega, hrel, H⟩ ?_
  rintro k ⟨al, ofs, kk, ⟨⟩⟩ w24 ⟨s, N, NA, NO, ps, gr, q, hs, hk, hkk, hq, hrel, H⟩ d
  have hkk : kk = (q : Int) := hkk
  subst hkk
  have hlen := hrel.len
  have hal : al.n = gr.length := (show SlT ti60 w24 NA al gr from H.hold.at 4 rfl).1
  dsimp only
  have key : ∀ n : Nat, n < s.all.length → MixBody b left al ofs (q : Int) (some (bx bb)) (n : Int) w24 (Val w0 true) (LI (fun k s3 w' => ∃ (s : MSt) (N NA NO : Nat → Prop) (ps gr : List GPiece) (q : Nat), MI s ∧ s.all.length = k ∧ s3.2.2.1 = (q : Int) ∧ q + k ≤ 300 ∧ MixR ga xa gr s.all ∧ Go.Wf.Own none_ w0 w' (MixL bb m b left s3.1 s3.2.1 L O tsn seq size N NA NO NT ps gr ga xa s [])) k) := by
    intro n hn
    obtain ⟨j, v, hgo, hs'⟩ := hM.step s hs n s.all[n] (List.getElem?_eq_getElem hn)
    refine mixBody_spec H hrel hL hok hbig hgo fun al' ofs' ps' gr' N' NA' NO' w' hr' H' => ?_
    have hl' : (mNext s n j s.all[n] v).all.length = s.all.length - 1 := by simp [mNext]; omega
    refine LI.next (m := k - 1) (by omega) ⟨_, N', NA', NO', ps', gr', q + 1, hs', by omega, ?_, by omega, hr', H'⟩
    exact wrapN (by omega)
  refine Go.Wf.ifK.mk (fun hc => ?_) (fun hc => ?_)
  · have hc := of_decide_eq_true hc
    have hpos : 0 < s.all.length := by omega
    refine H.ld 7 4 rfl rfl rfl (p := O) ?_
    refine Go.Wf.ifK.mk (fun hc2 => ?_) (fun hc2 => ?_)
    · have hc2 := of_decide_eq_true hc2
      refine H.ld 7 4 rfl rfl rfl (p := O) ?_
      obtain ⟨SO, hO1⟩ := hO _ H.tail.tail.tail.tail.tail.tail.tail.tail
      have hOn := hO1.1
      refine SlT.getN ok3 hO1 (by omega) fun v20 hv20 => ?_
      have e1 : IntKind.u64.wrap (al.n : Int) = (al.n : Int) := by
        simp [IntKind.wrap, IntKind.bits, IntKind.signed]; omega
      rw [e1]
      refine ⟨by omega, ?_⟩
      have h1 : 0 ≤ IntKind.u64.wrap v20 := by simp [IntKind.wrap, IntKind.bits, IntKind.signed]; omega
      have h2 : 0 ≤ Int.tmod (IntKind.u64.wrap v20) (al.n : Int) := Int.tmod_nonneg _ h1
      have h3 : Int.tmod (IntKind.u64.wrap v20) (al.n : Int) < (al.n : Int) := Int.tmod_lt_of_pos _ (by omega)
      have e2 : IntKind.i64.wrap (Int.tmod (IntKind.u64.wrap v20) (al.n : Int)) = ((Int.tmod (IntKind.u64.wrap v20) (al.n : Int)).toNat : Int) := by
        rw [wrap64 (by omega) (by omega)]; omega
      rw [e2]
      exact key _ (by omega)
    · exact key 0 hpos
  · have hc := of_decide_eq_false hc
    have hz : s.all = [] := List.eq_nil_of_length_eq_zero (by omega)
    obtain ⟨f1, f2⟩ := hM.fin s hs hz
    have hps : ps.length = 0 := by
      have := All2.len (show All2 (rPiece.R w24 N) ps s.bx from H.hold.at 2 rfl)
      rw [f1] at this; exact this
    refine C_reasm_Bench_Len.mono (reasmLen_spec H) fun v69 w75 h69 => ?_
    obtain ⟨e69, H⟩ := h69
    rw [kp_len, hps] at e69
    subst e69
    refine Go.Wf.ifK.mk (fun _ => ?_) (fun q => by cases q)
    refine C_reasm_Bench_Held.mono (reasmHeld_spec H) fun v70 w76 h70 => ?_
    obtain ⟨e70, H⟩ := h70
    exact ⟨H.step, by rw [e70, f2]; rfl⟩
end Go.Wf2

namespace Go.Wf2
open Go Go.Wf Go.Proofs
set_option maxRecDepth 4000
set_option linter.unusedVariables false
theorem all2_idx {ga : List GPiece} {xa : List XPiece} (h : ga.length = xa.length) : MixR ga xa ga xa := by
  have key : ∀ (gs : List GPiece) (xs : List XPiece) (k : Nat), gs.length = xs.length → (∀ i : Nat, gs[i]? = ga[k + i]? ∧ xs[i]? = xa[k + i]?) → MixR ga xa gs xs := by
    intro gs
    induction gs with
    | nil => intro xs k hl _; cases xs with
      | nil => trivial
      | cons x xs => simp at hl
    | cons g gs ih => intro xs k hl hi; cases xs with
      | nil => simp at hl
      | cons x xs =>
        refine ⟨⟨k, ?_, ?_⟩, ih xs (k + 1) (by simpa using hl) fun i => ?_⟩
        · have := (hi 0).1; simpa using this.symm
        · have := (hi 0).2; simpa using this.symm
        · have := hi (i + 1)
          simp only [List.getElem?_cons_succ] at this
          rw [Nat.add_assoc, Nat.add_comm 1 i]; exact this
  exact key ga xa 0 h fun i => by simp
theorem mixes_spec {x1 : GMix} {w : World} {SL SO : Nat → Prop} {gms : List GMessage} {xms : List XMessage} {os : List Int} {MI : MSt → Prop} (hL : SlT ti54 w SL x1.List gms) (hMc : McR w gms xms) (hO : SlT ti3 w SO x1.Order os) (hok : msgsOk xms) (hbig : gms.length ≤ 4611686018427387904)
    (hM : xms.length ≤ 8 → (∀ (i : Nat) x, xms[i]? = some x → cutE x x1.Start.Size = 0) → MOk xms (cRun x1.Start.Size.toNat ⟨[], [], [], 0, x1.Start.TSN, x1.Start.Seq⟩ xms) MI) :
    C_weftlinelaw20_ReasmMixes x1 w (Val w true) := by
  have hgl := hMc.len
  have hLn := hL.1
  have H := Go.Wf.Own.start none_ w
  refine E_weftlinelaw20_ReasmMixes _ _ _ ?_
  refine H.new fun b w1 H _ => ?_
  refine C_weftlinelaw20_alive.mono alive20_spec fun v w2 hv => ?_
  obtain ⟨hx2, rfl⟩ := hv
  have H := H.ext hx2
  refine Go.Wf.ifK.mk (fun q => by cases q) (fun _ => ?_)
  refine H.ld 0 0 rfl rfl rfl (p := x1.List) ?_
  refine Go.Wf.ifK.mk (fun _ => ⟨H.step, rfl⟩) (fun q8 => ?_)
  have q8 := of_decide_eq_false q8
  refine H.new fun b2 w3 H _ => ?_
  have H := H.rowT 0 ok60 [] rfl rfl (by simp [Go.maxLen])
  refine H.new fun b3 w4 H _ => ?_
  have H := H.rowT 0 ok3 [] rfl rfl (by simp [Go.maxLen])
  refine H.new fun b4 w5 H _ => ?_
  have H := H.rowT 0 ok3 [] rfl rfl (by simp [Go.maxLen])
  replace H : Go.Wf.Own none_ w w5 (RowT ti3 3 1 ⟨some (bx b4), 0, 0⟩ [] :: RowT ti3 3 1 ⟨some (bx b3), 0, 0⟩ [] :: RowT ti60 60 7 ⟨some (bx b2), 0, 0⟩ [] :: Var b 50 [.slice x1.List.a x1.List.n x1.List.c, .int .u32 x1.Start.TSN, .int .u16 x1.Start.Seq, .int .i64 x1.Start.Size, .slice x1.Order.a x1.Order.n x1.Order.c] :: []) := H
  refine H.ld 3 1 rfl rfl rfl (p := x1.Start) ?_
  refine H.new fun b5 w6 H _ => ?_
  refine H.st 0 0 rfl rfl rfl fun w7 H => ?_
  replace H : Go.Wf.Own _ _ _ (Var b5 47 [.int .u32 x1.Start.TSN, .int .u16 x1.Start.Seq, .int .i64 x1.Start.Size] :: _) := H
  refine H.ld 4 0 rfl rfl rfl (p := x1.List) ?_
  have H := ((((H.list0 rPiece).front 4 rfl).front 4 rfl).front 4 rfl)
  generalize hst0 : (⟨[], [], [], 0, x1.Start.TSN, x1.Start.Seq⟩ : CSt) = st0 at hM
  generalize hz : x1.Start.Size.toNat = z at hM
  refine LI.loop (X := Sl × Sl × Sl × Int × Int × Unit) (I := fun k s w' => ∃ (i : Nat) (N : Nat → Prop) (ga : List GPiece), i + k = xms.length ∧ s.2.2.2.2.1 = (i : Int) ∧ s.2.2.2.1 = (cRun z st0 (xms.take i)).total ∧ 0 ≤ s.2.2.2.1 ∧ s.2.2.2.1 ≤ 400 * i ∧ (cRun z st0 (xms.take i)).left.length = i ∧ (cRun z st0 (xms.take i)).all.length ≤ 400 * i ∧
      (cRun z st0 (xms.take i)).of.length = (cRun z st0 (xms.take i)).all.length ∧ (∀ (j : Nat) x, j < i → xms[j]? = some x → cutE x x1.Start.Size = 0) ∧
      Go.Wf.Own none_ w w' (RowT ti3 3 1 s.2.2.1 (cRun z st0 (xms.take i)).left :: RowT ti3 3 1 s.2.1 (cRun z st0 (xms.take i)).of :: RowT ti60 60 7 s.1 ga :: rPieces.ent N ga (cRun z st0 (xms.take i)).all ::
        Var b5 47 [.int .u32 (cRun z st0 (xms.take i)).tsn, .int .u16 (cRun z st0 (xms.take i)).seq, .int .i64 x1.Start.Size] :: Var b 50 [.slice x1.List.a x1.List.n x1.List.c, .int .u32 x1.Start.TSN, .int .u16 x1.Start.Seq, .int .i64 x1.Start.Size, .slice x1.Order.a x1.Order.n x1.Order.c] :: [])) xms.length
    ⟨0, none_, [], by simp, rfl, by subst hst0; rfl, Int.le_refl 0, by simp, by subst hst0; rfl, by subst hst0; simp [cRun], by subst hst0; rfl, fun j x hj => by omega, by subst hst0; exact H⟩ ?_
  rintro k ⟨al, ofs, left, tot, ii, ⟨⟩⟩ w8 ⟨i, N, ga, hik, hi, htot, ht0, ht1, hll, hal, hof, hcut, H⟩ d
  have hi : ii = (i : Int) := hi
  subst hi
  dsimp only at htot ht0 ht1 H ⊢
  generalize hst : cRun z st0 (xms.take i) = st at htot hll hal hof H
  have hta : ga.length = st.all.length := All2.len (show All2 (rPiece.R w8 N) ga st.all from H.hold.at 3 rfl)
  have haln : al.n = ga.length := RowT.len ok60 (show (RowT ti60 60 7 al ga).F w8 from H.hold.at 2 rfl)
  refine Go.Wf.ifK.mk (fun hc => ?_) (fun hc => ?_)
  · have hc := of_decide_eq_true hc
    refine SlT.getN ok54 (hL.ext ok54 H.step) (by omega) fun v5 hv5 => ?_
    obtain ⟨x, hx, Sx, rx⟩ := hMc.at? hv5
    refine H.new fun b6 w9 H _ => ?_
    refine H.st 0 0 rfl rfl rfl fun w10 H => ?_
    replace H : Go.Wf.Own _ _ _ (Var b6 54 [.int .i64 v5.Stream, .bool v5.Unordered, .slice v5.Text.a v5.Text.n v5.Text.c] :: _) := H
    refine H.ld 0 0 rfl rfl rfl (p := v5) ?_
    refine H.ld 5 0 rfl rfl rfl (p := (⟨st.tsn, st.seq, x1.Start.Size⟩ : GStart)) ?_
    refine C_frag_Cut.mono (cut_spec (x := x) H (fun W HW => ⟨Sx, rMessage.ext rx HW.step⟩)) fun r w11 hr => ?_
    obtain ⟨r1, r2, r3⟩ := hr
    refine ⟨by rw [r1]; exact errV_ifc _, ?_⟩
    refine Go.Wf.ifK.mk (fun q => ?_) (fun q => ?_)
    · have q : cutE x x1.Start.Size ≠ 0 := by rw [r1, errV_nil] at q; simpa using q
      obtain ⟨e, H⟩ := r2 q
      exact ⟨H.step, by rw [e]; rfl⟩
    have q : cutE x x1.Start.Size = 0 := by rw [r1, errV_nil] at q; simpa using q
    obtain ⟨gs, N1, H⟩ := r3 q
    dsimp only at H
    rw [hz] at H
    obtain ⟨hgx, hs1, hs2⟩ := cutE_zero q
    obtain ⟨hx1, hx2⟩ := goodX_len hgx
    have hgs : gs.length = (cutX x st.tsn st.seq z).length := All2.len (show All2 (rPiece.R w11 N1) gs _ from H.hold.at 0 rfl)
    have hcl : gs.length ≤ x.Text.length := by
      rw [hgs, cutX_len]
      exact cnt_le _ _ (by omega)
    have hrn : r.1.n = gs.length := RowT.len ok60 (show (RowT ti60 60 7 r.1 gs).F w11 from H.hold.at 1 rfl)
    have hvt : v5.Text.n = x.Text.length := rx.1.1
    refine H.ld 2 2 rfl rfl rfl (p := v5.Text) ?_
    refine H.new fun b7 w12 H _ => ?_
    refine H.appendT 4 ok3 el48 (s := left) (x := (⟨some (bx b7), 1, 1⟩ : Sl)) (fun s => s) (fun _ => rfl) rfl (H.varSl 0 (J := ti3) [(r.1.n : Int)] rfl rfl) (by simp; omega) fun left' w13 H => ?_
    replace H : Go.Wf.Own _ _ _ (_ :: _ :: _ :: _ :: RowT ti3 3 1 left' (st.left ++ [(r.1.n : Int)]) :: _) := H
    have H := H.drop 0
    refine LI.loop (X := Sl × Sl × Int × Unit) (I := fun k s w' => ∃ j : Nat, j + k = gs.length ∧ s.2.2.1 = (j : Int) ∧ Go.Wf.Own none_ w w' (rPieces.ent N1 gs (cutX x st.tsn st.seq z) :: RowT ti60 60 7 r.1 gs :: Var b6 54 [.int .i64 v5.Stream, .bool v5.Unordered, .slice v5.Text.a v5.Text.n v5.Text.c] ::
        RowT ti3 3 1 left' (st.left ++ [(r.1.n : Int)]) :: RowT ti3 3 1 s.2.1 (st.of ++ List.replicate j (i : Int)) :: RowT ti60 60 7 s.1 (ga ++ gs.take j) :: rPieces.ent N ga st.all :: Var b5 47 [.int .u32 st.tsn, .int .u16 st.seq, .int .i64 x1.Start.Size] ::
        Var b 50 [.slice x1.List.a x1.List.n x1.List.c, .int .u32 x1.Start.TSN, .int .u16 x1.Start.Seq, .int .i64 x1.Start.Size, .slice x1.Order.a x1.Order.n x1.Order.c] :: [])) gs.length ⟨0, by simp, rfl, by simpa using H⟩ ?_
    rintro k2 ⟨al2, ofs2, jj, ⟨⟩⟩ w14 ⟨j, hjk, hj, H⟩ d2
    have hj : jj = (j : Int) := hj
    subst hj
    dsimp only at H ⊢
    refine Go.Wf.ifK.mk (fun hc2 => ?_) (fun hc2 => ?_)
    · have hc2 := of_decide_eq_true hc2
      refine SlT.getN ok60 (RowT.sl ok60 (show (RowT ti60 60 7 r.1 gs).F w14 from H.hold.at 1 rfl)) (by omega) fun v11 hv11 => ?_
      refine H.new fun b8 w15 H _ => ?_
      refine H.st 0 0 rfl rfl rfl fun w16 H => ?_
      replace H : Go.Wf.Own _ _ _ (Var b8 60 [.int .u32 v11.TSN, .int .u16 v11.Stream, .int .u16 v11.Seq, .bool v11.Begin, .bool v11.End, .bool v11.Unordered, .slice v11.Text.a v11.Text.n v11.Text.c] :: _) := H
      refine H.ld 0 0 rfl rfl rfl (p := v11) ?_
      refine H.new fun b9 w17 H _ => ?_
      refine H.appendT 7 ok60 el51 (s := al2) (x := (⟨some (bx b9), 1, 1⟩ : Sl)) (fun s => s) (fun _ => rfl) rfl (H.varSl 0 (J := ti60) [v11] rfl rfl) (by simp; omega) fun al3 w18 H => ?_
      replace H : Go.Wf.Own _ _ _ (_ :: _ :: _ :: _ :: _ :: _ :: _ :: RowT ti60 60 7 al3 (ga ++ gs.take j ++ [v11]) :: _) := H
      refine H.new fun b10 w19 H _ => ?_
      refine H.appendT 7 ok3 el48 (s := ofs2) (x := (⟨some (bx b10), 1, 1⟩ : Sl)) (fun s => s) (fun _ => rfl) rfl (H.varSl 0 (J := ti3) [(i : Int)] rfl rfl) (by simp; omega) fun ofs3 w20 H => ?_
      replace H : Go.Wf.Own _ _ _ (_ :: _ :: _ :: _ :: _ :: _ :: _ :: RowT ti3 3 1 ofs3 (st.of ++ List.replicate j (i : Int) ++ [(i : Int)]) :: _) := H
      refine LI.next (m := k2 - 1) (by omega) ⟨j + 1, by omega, wrapN (by omega), ?_⟩
      rw [take_snoc hv11, List.replicate_succ', ← List.append_assoc, ← List.append_assoc]
      exact ((H.drop 0).drop 0).drop 0
    · have hc2 := of_decide_eq_false hc2
      have hjg : j = gs.length := by omega
      subst hjg
      rw [List.take_of_length_le (Nat.le_refl _)] at H
      refine H.ld 7 0 rfl rfl rfl (p := st.tsn) ?_
      refine H.st 7 0 rfl rfl rfl fun w21 H => ?_
      replace H : Go.Wf.Own _ _ _ (_ :: _ :: _ :: _ :: _ :: _ :: _ :: Var b5 47 [.int .u32 (IntKind.u32.wrap (st.tsn + IntKind.u32.wrap (r.1.n : Int))), .int .u16 st.seq, .int .i64 x1.Start.Size] :: _) := H
      refine H.ld 7 1 rfl rfl rfl (p := st.seq) ?_
      refine H.st 7 1 rfl rfl rfl fun w22 H => ?_
      replace H : Go.Wf.Own _ _ _ (_ :: _ :: _ :: _ :: _ :: _ :: _ :: Var b5 47 [.int .u32 (IntKind.u32.wrap (st.tsn + IntKind.u32.wrap (r.1.n : Int))), .int .u16 (IntKind.u16.wrap (st.seq + 1)), .int .i64 x1.Start.Size] :: _) := H
      have H := ((H.drop 1).drop 1).front 4 rfl
      have H := (H.front 1 rfl).appL
      have H := ((H.front 3 rfl).front 3 rfl).front 3 rfl
      have hnx : cRun z st0 (xms.take (i + 1)) = cNext z st x := by rw [take_snoc hx, cRun_snoc, hst]
      have hil : i < xms.length := (List.getElem?_eq_some_iff.1 hx).1
      refine LI.next (m := k - 1) (by omega) ⟨i + 1, (fun k => N1 k ∨ N k), ga ++ gs, by omega, wrapN (by omega), ?_⟩
      rw [hnx]
      have hwt : IntKind.i64.wrap (tot + (v5.Text.n : Int)) = tot + (v5.Text.n : Int) := wrap64 (by omega) (by omega)
      refine ⟨?_, ?_, ?_, ?_, ?_, ?_, ?_, ?_⟩
      · show IntKind.i64.wrap (tot + (v5.Text.n : Int)) = st.total + x.Text.length
        rw [hwt, htot, hvt]
      · show 0 ≤ IntKind.i64.wrap (tot + (v5.Text.n : Int))
        rw [hwt]; omega
      · show IntKind.i64.wrap (tot + (v5.Text.n : Int)) ≤ 400 * ((i + 1 : Nat) : Int)
        rw [hwt]; omega
      · simp [cNext, hll]
      · simp only [cNext, List.length_append]; omega
      · simp only [cNext, List.length_append, List.length_replicate]; omega
      · intro j y hj hy
        by_cases hji : j = i
        · subst hji; rw [hx] at hy; cases hy; exact q
        · exact hcut j y (by omega) hy
      · simp only [cNext]
        rw [← hgs, ← hrn, hll]
        rw [hrn] at H ⊢
        exact H
  · have hc := of_decide_eq_false hc
    have hie : i = xms.length := by omega
    subst hie
    rw [List.take_of_length_le (Nat.le_refl _)] at hst
    have hM := hM (by omega) (fun j x hj => hcut j x (List.getElem?_eq_some_iff.1 hj).1 hj)
    rw [hst] at hM
    refine Go.Wf.ifK.mk (fun _ => ⟨H.step, rfl⟩) (fun q1 => ?_)
    have q1 := of_decide_eq_false q1
    refine Go.Wf.ifK.mk (fun _ => ⟨H.step, rfl⟩) (fun q2 => ?_)
    have q2 := of_decide_eq_false q2
    refine C_reasm_New.mono (reasmNew_spec H) fun v17 w23 h17 => ?_
    obtain ⟨bb, m, rfl, H⟩ := h17
    have H := H.cast 5 (e' := rAl.ent (fun k => ∃ a, al.a = some a ∧ a.block = k) al ga) rfl (fun _ h => h) (RowT.sl ok60)
    have H := H.cast 4 (e' := rIn.ent (fun k => ∃ a, ofs.a = some a ∧ a.block = k) ofs st.of) rfl (fun _ h => h) (RowT.sl ok3)
    have H := (((((((H.drop 7).front 4 rfl).front 5 rfl).front 5 rfl).front 5 rfl).front 5 rfl).front 5 rfl)
    refine mixes_loop3 hM (hM.init (by omega) (by omega)) ?_ H (fun W HW => ⟨SL, hL.ext ok54 HW.step, hMc.ext HW.step⟩) (fun W HW => ⟨SO, hO.ext ok3 HW.step⟩) hok hbig
    exact all2_idx hta
end Go.Wf2
