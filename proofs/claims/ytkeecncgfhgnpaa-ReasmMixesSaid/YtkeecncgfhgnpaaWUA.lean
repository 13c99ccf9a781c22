/- A part of the proof: lemmas; nothing is claimed here. -/
import Derived.Test.YtkeecncgfhgnpaaWAf
import Derived.Test.YtkeecncgfhgnpaaWU8
set_option linter.all false
namespace Go.Wf2
open Go Go.Wf Go.Proofs
set_option linter.unusedVariables false
set_option maxRecDepth 4000
/-- The k-th chunk. -/
def chunkS (s : Sl) (n k : Nat) : Sl := subS s 1 (k * n) (k * n + min n (s.n - k * n)) (k * n + min n (s.n - k * n))
theorem run_min {P : Program} {w : World} {t : Nat} {a b : Int} : (Builtin.min_ #[t, t] t #[.int .i64 a, .int .i64 b]).run P w = .ok (.int .i64 (if b < a then b else a)) w := by
  simp [Builtin.min_, Builtin.min2]
theorem chunk1_spec {I : Nat → World → Prop} {s : Sl} {n l : Nat} {cap cap2 : Addr} (hext : ∀ k w w', I k w → Ext w w' → I k w') (hcap : ∀ k w, I k w → CellsAt w cap [.slice s.a s.n s.c] ∧ CellsAt w cap2 [.int .i64 n])
    (hn : 1 ≤ n) (hn2 : n ≤ 1000) (hs : s.n ≤ s.c) (hs2 : s.n ≤ 1000000) {w : World} (h0 : I 0 w) (hy : ∀ k w K, I k w → k * n < s.n → (∀ w', I (k + 1) w' → K (.bool true) w') → yieldK Try.prog l [.slice (chunkS s n k).a (chunkS s n k).n (chunkS s n k).c] w K) :
    C_slices_Chunk_byte_1 ⟨.yield l, #[], #[]⟩ cap cap2 w fun _ w' => ∃ k, I k w' ∧ s.n ≤ k * n ∧ (k = 0 ∨ (k - 1) * n < s.n) := by
  refine E_slices_Chunk_byte_1 _ _ _ _ _ ?_
  refine ⟨fun x w' => ∃ k : Nat, x.1 = ((k * n : Nat) : Int) ∧ I k w' ∧ (k = 0 ∨ (k - 1) * n < s.n), fun x _ => s.n - x.1.toNat, ⟨0, by simp, h0, .inl rfl⟩, ?_⟩
  rintro ⟨i, ⟨⟩⟩ w1 ⟨k, hi, hI, hk⟩ d
  simp only at hi
  subst hi
  refine ⟨s, (hcap _ _ hI).1, ?_⟩
  refine ifK.mk (fun hc => ?_) (fun hc => ?_)
  · have hc := of_decide_eq_true hc
    have hc : k * n < s.n := by exact Int.ofNat_lt.1 hc
    refine gLd.mk (I := ti3) (p := (n : Int)) (fun _ h => h) (hcap _ _ hI).2 ?_
    refine gLd.mk (I := ti52) (p := s) (fun _ h => h) (hcap _ _ hI).1 ?_
    refine (subs_l el52 (by omega) (by omega)).g (I := ti52) (fun s => s) (fun _ => rfl) ?_
    intro W hW _
    have hI := hext _ _ _ hI hW
    have hmin : (if ((s.n - k * n : Nat) : Int) < (n : Int) then ((s.n - k * n : Nat) : Int) else (n : Int)) = ((min n (s.n - k * n) : Nat) : Int) := by split <;> omega
    refine runT.of run_min rfl ?_
    simp only [subS, Int.toNat_natCast, hmin]
    refine ⟨s, (hcap _ _ hI).1, ?_⟩
    have hw : IntKind.i64.wrap (((k * n : Nat) : Int) + ((min n (s.n - k * n) : Nat) : Int)) = ((k * n + min n (s.n - k * n) : Nat) : Int) := by rw [wrap64 (by omega) (by omega)]; omega
    simp only [hw]
    have hS := subs_lhm (k := .i64) (k' := .i64) (k'' := .i64) (a := s.a) (n := s.n) (c := s.c) (l := ((k * n : Nat) : Int)) (h := ((k * n + min n (s.n - k * n) : Nat) : Int)) (m := ((k * n + min n (s.n - k * n) : Nat) : Int)) el52 (by omega) (by omega) (by omega) (by omega)
    refine hS.r (I := ti52) (fun s => s) (fun _ => rfl) ?_
    have := hy k W (fun v w' => ofK ti4 v fun v8 => ifK (!v8) (∃ k, I k w' ∧ s.n ≤ k * n ∧ (k = 0 ∨ (k - 1) * n < s.n)) (Go.Wf.ldK ti3 w' cap2 fun v9 => (∃ k' : Nat, IntKind.i64.wrap (((k * n : Nat) : Int) + v9) = ((k' * n : Nat) : Int) ∧ I k' w' ∧ (k' = 0 ∨ (k' - 1) * n < s.n)) ∧ s.n - (IntKind.i64.wrap (((k * n : Nat) : Int) + v9)).toNat < s.n - (((k * n : Nat) : Int)).toNat)) hI hc (fun w' hI' => ?_)
    · simp only [Int.toNat_natCast]
      exact this
    · refine ⟨(n : Int), (hcap _ _ hI').2, ?_⟩
      have e : (k + 1) * n = k * n + n := by rw [Nat.add_mul, Nat.one_mul]
      dsimp only
      rw [wrap64 (by omega) (by omega)]
      exact ⟨⟨k + 1, by rw [e]; omega, hI', .inr (by simpa using hc)⟩, by simp only [Int.toNat_natCast]; omega⟩
  · have hc := of_decide_eq_false hc
    have hc : ¬ k * n < s.n := fun h => hc (Int.ofNat_lt.2 h)
    exact ⟨k, hI, by omega, hk⟩
end Go.Wf2

namespace Go.Wf2
open Go Go.Wf Go.Proofs
set_option linter.unusedVariables false
set_option maxRecDepth 4000
theorem _root_.Go.Wf.Own.cells {M : Nat → Prop} {w0 w : World} {L : List Ent} (h : Go.Wf.Own M w0 w L) (i : Nat) {b t : Nat} {l : List Value} (hi : L[i]? = some (Var b t l)) : CellsAt w (bx b) l := by
  have hF : w.heap[b]? = some (.cells l.toArray t (0, 0)) := h.hold.at i hi
  have := CellsAt.of hF 0 (cs := l) (fun i v hv => by simpa using hv)
  rwa [add_zero] at this
theorem All2.set {G X : Type} {R : G → X → Prop} : ∀ {gs : List G} {xs : List X}, All2 R gs xs → ∀ (i : Nat) {g : G} {x : X}, R g x → All2 R (gs.set i g) (xs.set i x)
  | [], [], _, _, _, _, _ => trivial
  | _ :: _, _ :: _, h, 0, _, _, h' => ⟨h', h.2⟩
  | _ :: _, _ :: _, h, i + 1, _, _, h' => ⟨h.1, All2.set h.2 i h'⟩
  | [], _ :: _, h, _, _, _, _ => h.elim
  | _ :: _, [], h, _, _, _, _ => h.elim
theorem chunk0_spec {w0 w : World} {B : List Ent} {s : Sl} {n : Int} (H : Go.Wf.Own none_ w0 w B) (hn : 1 ≤ n) :
    C_slices_Chunk_byte s n w fun r w' => ∃ cb cb2, r = ⟨.func 131, #[], #[.pointer (some (bx cb)), .pointer (some (bx cb2))]⟩ ∧ Go.Wf.Own none_ w0 w' (Var cb2 3 [.int .i64 n] :: Var cb 52 [.slice s.a s.n s.c] :: B) := by
  refine E_slices_Chunk_byte _ _ _ _ ?_
  refine H.new fun b w1 H _ => ?_
  refine H.new fun b2 w2 H _ => ?_
  refine H.ld 0 0 rfl (add_zero _).symm rfl (p := n) ?_
  refine ifK.mk (fun h => ?_) (fun h => ?_)
  · have h := of_decide_eq_true h
    omega
  · exact ⟨_, _, rfl, H⟩
def rawP (tsn str q : Int) (u : Bool) (text : List Int) (n k : Nat) : XPiece := ⟨stepT tsn k, str, q, false, false, u, (text.drop (k * n)).take n⟩
def rawPs (tsn str q : Int) (u : Bool) (text : List Int) (n k : Nat) : List XPiece := (List.range k).map (rawP tsn str q u text n)
theorem rawPs_succ (tsn str q : Int) (u : Bool) (text : List Int) (n k : Nat) : rawPs tsn str q u text n (k + 1) = rawPs tsn str q u text n k ++ [rawP tsn str q u text n k] := by simp [rawPs, List.range_succ]
theorem chunk_read {w : World} {S : Nat → Prop} {s : Sl} {text : List Int} (h : rBytes.R w S s text) {n k : Nat} (hk : k * n < s.n) : rBytes.R w S (chunkS s n k) ((text.drop (k * n)).take n) := by
  have hl := h.1
  have := SlT.sub ok5 (show SlT ti5 w S s text from h) (L := k * n) (H := k * n + min n (s.n - k * n)) (M := k * n + min n (s.n - k * n)) (by omega) (by omega) (by omega)
  have e : (text.drop (k * n)).take (k * n + min n (s.n - k * n) - k * n) = (text.drop (k * n)).take n := by
    rw [Nat.add_sub_cancel_left, hl, ← List.length_drop]
    by_cases h : n ≤ (text.drop (k * n)).length
    · rw [Nat.min_eq_left h]
    · rw [Nat.min_eq_right (by omega), List.take_of_length_le (Nat.le_refl _), List.take_of_length_le (by omega)]
  rw [e] at this
  exact this
/-- What the loop holds. -/
def CutI (w0 : World) (B : List Ent) (b b2 b3 b4 cb cb2 l D : Nat) (rec : LoopState → Option Code → Obj) (m : GMessage) (s : GStart) (str q : Int) (text : List Int) (n : Nat) (st : LoopState) (k : Nat) (W : World) : Prop :=
  ∃ (out : Sl) (gs : List GPiece) (N : Nat → Prop), gs.length = k ∧ Go.Wf.Own none_ w0 W (rPieces.ent N gs (rawPs s.TSN str q m.Unordered text n k) :: RowT ti60 60 7 out gs :: Var b4 51 [.slice out.a out.n out.c] :: Rec l (rec st none) :: Rec D (.deferred (some [])) :: Var cb2 3 [.int .i64 (n : Int)] :: Var cb 52 [.slice m.Text.a m.Text.n m.Text.c] ::
    Var b3 60 [.int .u32 s.TSN, .int .u16 str, .int .u16 q, .bool false, .bool false, .bool m.Unordered, .slice none 0 0] :: Var b2 47 [.int .u32 s.TSN, .int .u16 s.Seq, .int .i64 s.Size] :: Var b 54 [.int .i64 m.Stream, .bool m.Unordered, .slice m.Text.a m.Text.n m.Text.c] :: B)
def cutE (x : XMessage) (size : Int) : Int := if goodX x = false then 2 else if (decide (1 ≤ size) && decide (size ≤ 64)) = false then 1 else 0
def cntX (len n : Nat) : Nat := (len + n - 1) / n
theorem cnt_of {len n k : Nat} (hl : 1 ≤ len) (hn : 1 ≤ n) (h1 : len ≤ k * n) (h2 : k = 0 ∨ (k - 1) * n < len) : k = cntX len n ∧ 1 ≤ k := by
  have hk : 1 ≤ k := by rcases Nat.eq_zero_or_pos k with h | h; · subst h; omega
                        · exact h
  refine ⟨(Nat.div_eq_of_lt_le ?_ ?_).symm, hk⟩
  · have : (k - 1) * n < len := h2.resolve_left (by omega)
    have e : k * n = (k - 1) * n + n := by rw [← Nat.succ_mul]; congr 1; omega
    omega
  · rw [Nat.succ_mul]; omega
def cutX (x : XMessage) (tsn seq : Int) (n : Nat) : List XPiece :=
  (List.range (cntX x.Text.length n)).map fun k => { rawP tsn (IntKind.u16.wrap x.Stream) (if x.Unordered then 0 else seq) x.Unordered x.Text n k with Begin := decide (k = 0), End := decide (k + 1 = cntX x.Text.length n) }
theorem cut_marks {tsn str q : Int} {u : Bool} {text : List Int} {n k : Nat} (hk : 1 ≤ k) {y : XPiece} (hy : ((rawPs tsn str q u text n k).set 0 { rawP tsn str q u text n 0 with Begin := true })[k - 1]? = some y) :
    ((rawPs tsn str q u text n k).set 0 { rawP tsn str q u text n 0 with Begin := true }).set (k - 1) { y with End := true } = (List.range k).map fun j => { rawP tsn str q u text n j with Begin := decide (j = 0), End := decide (j + 1 = k) } := by
  have hr : ∀ j, (List.range k)[j]? = if j < k then some j else none := fun j => by
    by_cases h : j < k
    · rw [if_pos h, List.getElem?_range h]
    · rw [if_neg h]; exact List.getElem?_eq_none (by simp; omega)
  have hget : ∀ j, (rawPs tsn str q u text n k)[j]? = if j < k then some (rawP tsn str q u text n j) else none := fun j => by
    unfold rawPs
    rw [List.getElem?_map, hr]
    split <;> rfl
  apply List.ext_getElem?
  intro j
  rw [List.getElem?_set] at hy
  rw [List.getElem?_set, List.getElem?_set, List.getElem?_map, hr, hget]
  simp only [List.length_set, show (rawPs tsn str q u text n k).length = k by simp [rawPs]] at hy ⊢
  by_cases h1 : k - 1 = j
  · subst h1
    rw [hget] at hy
    by_cases h0 : 0 = k - 1
    · rw [if_pos h0, if_pos (by omega)] at hy
      cases hy
      have e : k = 1 := by omega
      subst e
      simp [rawP]
    · rw [if_neg h0, if_pos (by omega)] at hy
      cases hy
      rw [if_pos rfl, if_pos (by omega), if_pos (by omega)]
      simp only [rawP, Option.map_some]
      have : k - 1 + 1 = k := by omega
      simp [this]; omega
  · rw [if_neg h1]
    by_cases h0 : 0 = j
    · subst h0
      rw [if_pos rfl, if_pos (by omega), if_pos (by omega)]
      simp [rawP]; omega
    · rw [if_neg h0]
      by_cases h2 : j < k
      · rw [if_pos h2, if_pos h2]
        simp [rawP]; omega
      · rw [if_neg h2, if_neg h2]; rfl
end Go.Wf2

namespace Go.Wf2
open Go Go.Wf Go.Proofs
set_option linter.unusedVariables false
set_option maxRecDepth 4000
set_option maxHeartbeats 4000000
theorem cutI_ext {w0 : World} {B : List Ent} {b b2 b3 b4 cb cb2 l D : Nat} {rec : LoopState → Option Code → Obj} {m : GMessage} {s : GStart} {str q : Int} {text : List Int} {n : Nat} {st : LoopState} (k : Nat) (w w' : World) (h : CutI w0 B b b2 b3 b4 cb cb2 l D rec m s str q text n st k w) (hx : Ext w w') : CutI w0 B b b2 b3 b4 cb cb2 l D rec m s str q text n st k w' := by
  obtain ⟨out, gs, N, hl, H⟩ := h
  exact ⟨out, gs, N, hl, H.ext hx⟩
theorem cut_spec {w0 w : World} {B : List Ent} {m : GMessage} {s : GStart} {x : XMessage} (H : Go.Wf.Own none_ w0 w B) (hm : ∀ W, Go.Wf.Own none_ w0 W B → ∃ S, rMessage.R W S m x) :
    C_frag_Cut m s w fun r w' => r.2 = errV (cutE x s.Size) ∧ (cutE x s.Size ≠ 0 → r.1 = ⟨none, 0, 0⟩ ∧ Go.Wf.Own none_ w0 w' B) ∧
      (cutE x s.Size = 0 → ∃ gs N, Go.Wf.Own none_ w0 w' (rPieces.ent N gs (cutX x s.TSN s.Seq s.Size.toNat) :: RowT ti60 60 7 r.1 gs :: B)) := by
  refine E_frag_Cut _ _ _ _ ?_
  refine H.new fun b w1 H _ => ?_
  refine H.new fun b2 w2 H _ => ?_
  obtain ⟨S0, hm0⟩ := hm _ H.tail.tail
  refine H.ld 1 0 rfl (add_zero _).symm rfl (p := m) ?_
  refine C_frag_Good.mono (good_spec hm0) fun v2 w3 h_v2 => ?_
  obtain ⟨hx3, rfl⟩ := h_v2
  have H := H.ext hx3
  refine ifK.mk (fun q1 => ?_) (fun q1 => ?_)
  · have q1 : goodX x = false := by simpa using q1
    have e : cutE x s.Size = 2 := by rw [cutE, if_pos q1]
    exact ⟨by rw [e]; rfl, fun _ => ⟨rfl, H.tail.tail⟩, fun h => by rw [e] at h; cases h⟩
  have q1 : goodX x = true := by simpa using q1
  refine H.ld 0 2 rfl rfl rfl (p := s.Size) ?_
  refine C_frag_within.mono within_spec fun v4 w4 h_v4 => ?_
  obtain ⟨hx4, rfl⟩ := h_v4
  have H := H.ext hx4
  refine ifK.mk (fun q2 => ?_) (fun q2 => ?_)
  · have q2 : (decide (1 ≤ s.Size) && decide (s.Size ≤ 64)) = false := by rw [Bool.not_eq_true'] at q2; exact q2
    have e : cutE x s.Size = 1 := by rw [cutE, if_neg (by simp [q1]), if_pos q2]
    exact ⟨by rw [e]; rfl, fun _ => ⟨rfl, H.tail.tail⟩, fun h => by rw [e] at h; cases h⟩
  have q2 : (decide (1 ≤ s.Size) && decide (s.Size ≤ 64)) = true := by rw [Bool.not_eq_false'] at q2; exact q2
  have hE : cutE x s.Size = 0 := by rw [cutE, if_neg (by simp [q1]), if_neg (by simp [q2])]
  rw [hE]
  simp only [Bool.and_eq_true, decide_eq_true_eq] at q2
  obtain ⟨n, hn⟩ : ∃ n : Nat, s.Size = (n : Int) := ⟨s.Size.toNat, by omega⟩
  have hnT : s.Size.toNat = n := by omega
  rw [hnT]
  have hgood : 1 ≤ x.Text.length ∧ x.Text.length ≤ 400 := by
    simp only [goodX, Bool.and_eq_true, decide_eq_true_eq] at q1
    omega
  refine H.ld 0 0 rfl rfl rfl (p := s.TSN) ?_
  refine H.ld 1 0 rfl rfl rfl (p := m.Stream) ?_
  refine H.ld 0 1 rfl rfl rfl (p := s.Seq) ?_
  refine H.ld 1 1 rfl rfl rfl (p := m.Unordered) ?_
  refine H.new fun b3 w5 H _ => ?_
  refine H.st 0 0 rfl (add_zero _).symm rfl fun w6 H => ?_
  replace H : Go.Wf.Own _ _ _ (Var b3 60 [.int .u32 s.TSN, .int .u16 (IntKind.u16.wrap m.Stream), .int .u16 s.Seq, .bool false, .bool false, .bool m.Unordered, .slice none 0 0] :: _) := H
  refine H.ld 2 1 rfl rfl rfl (p := m.Unordered) ?_
  have hms : m.Stream = x.Stream ∧ m.Unordered = x.Unordered := hm0.2
  -- both ways
  have hmn : m.Text.n = x.Text.length := hm0.1.1
  have hmc : m.Text.n ≤ m.Text.c := hm0.1.2.1
  refine ifK.mk (fun q3 => ?_) (fun q3 => ?_)
  case' refine_1 =>
    refine H.st 0 2 rfl rfl rfl fun w6 H => ?_
    replace H : Go.Wf.Own _ _ _ (Var b3 60 [.int .u32 s.TSN, .int .u16 (IntKind.u16.wrap m.Stream), .int .u16 0, .bool false, .bool false, .bool m.Unordered, .slice none 0 0] :: _) := H
    have hq : (if x.Unordered then (0 : Int) else s.Seq) = 0 := by rw [← hms.2, q3]; rfl
  case' refine_2 =>
    have hq : (if x.Unordered then (0 : Int) else s.Seq) = s.Seq := by rw [← hms.2, q3]; rfl
  all_goals
    obtain ⟨q, hq, H⟩ : ∃ q, (if x.Unordered then (0 : Int) else s.Seq) = q ∧ Go.Wf.Own none_ w0 _ (Var b3 60 [.int .u32 s.TSN, .int .u16 (IntKind.u16.wrap m.Stream), .int .u16 q, .bool false, .bool false, .bool m.Unordered, .slice none 0 0] :: Var b2 47 [.int .u32 s.TSN, .int .u16 s.Seq, .int .i64 s.Size] :: Var b 54 [.int .i64 m.Stream, .bool m.Unordered, .slice m.Text.a m.Text.n m.Text.c] :: B) := ⟨_, hq, H⟩
    refine H.new fun b4 w8 H _ => ?_
    refine H.ld 3 2 rfl rfl rfl (p := m.Text) ?_
    refine H.ld 2 2 rfl rfl rfl (p := s.Size) ?_
    refine C_slices_Chunk_byte.mono (chunk0_spec H (by omega)) fun v12 w9 h_v12 => ?_
    obtain ⟨cb, cb2, rfl, H⟩ := h_v12
    intro rec w11 hx11 hsz hd hl hY
    have H := ((H.recs hx11 hsz hd hl).front 4 rfl)
    have H := (H.nilT ti60 60 7).list0 rPiece
    have h0 : CutI w0 B b b2 b3 b4 cb cb2 (w9.heap.size + 1) w9.heap.size rec m s (IntKind.u16.wrap m.Stream) q x.Text n .ready 0 w11 := ⟨⟨none, 0, 0⟩, [], none_, rfl, by rw [← hn]; exact H⟩
    refine iterK.of (I := ti0) ?_ (by kernel_rfl)
    show C_slices_Chunk_byte_1 ⟨.yield (w9.heap.size + 1), #[], #[]⟩ (bx cb) (bx cb2) w11 _
    refine C_slices_Chunk_byte_1.mono (chunk1_spec (I := CutI w0 B b b2 b3 b4 cb cb2 (w9.heap.size + 1) w9.heap.size rec m s (IntKind.u16.wrap m.Stream) q x.Text n .ready) (s := m.Text) (n := n) (l := w9.heap.size + 1) (cap := bx cb) (cap2 := bx cb2) cutI_ext (fun k W hI => ?_) (by omega) (by omega) hmc (by omega) h0 (fun k W K hI hk hnext => ?_)) (fun _ w13 hend => ?_)
    · obtain ⟨out, gs, N, _, H⟩ := hI
      exact ⟨H.cells 6 rfl, H.cells 5 rfl⟩
    · obtain ⟨out, gs, N, hgl, H⟩ := hI
      refine hY W K (chunkS m.Text n k) (H.hold.at 3 rfl) ⟨H.hold.at 3 rfl, fun W2 hU => ?_⟩
      have H := H.upd 3 rfl hU
      replace H : Go.Wf.Own _ _ _ (_ :: _ :: _ :: Rec (w9.heap.size + 1) (rec .busy none) :: _) := H
      refine H.ld 7 0 rfl rfl rfl (p := (⟨s.TSN, IntKind.u16.wrap m.Stream, q, false, false, m.Unordered, ⟨none, 0, 0⟩⟩ : GPiece)) ?_
      refine H.new fun b5 w15 H _ => ?_
      refine H.st 0 0 rfl rfl rfl fun w16 H => ?_
      replace H : Go.Wf.Own _ _ _ (Var b5 60 [.int .u32 s.TSN, .int .u16 (IntKind.u16.wrap m.Stream), .int .u16 q, .bool false, .bool false, .bool m.Unordered, .slice none 0 0] :: _) := H
      refine H.ld 9 0 rfl rfl rfl (p := s.TSN) ?_
      refine H.ld 3 0 rfl rfl rfl (p := out) ?_
      have hon : out.n = k := by have := RowT.len ok60 (H.hold.at 2 rfl); omega
      refine C_serial_Step_uint32.mono serialStep_spec fun v16 w17 h_v16 => ?_
      obtain ⟨hx17, rfl⟩ := h_v16
      have H := H.ext hx17
      obtain ⟨S1, hm1⟩ := hm _ H.tail.tail.tail.tail.tail.tail.tail.tail.tail.tail.tail
      have hkl : k ≤ k * n := Nat.le_mul_of_pos_right k (by omega)
      refine C_slices_Clone_byte.mono (clone_byte (chunk_read hm1.1 hk) (by simp only [List.length_take, List.length_drop]; omega)) fun v17 w18 h_v17 => ?_
      have H := H.made h_v17
      refine H.st 1 0 rfl rfl rfl fun w19 H => ?_
      replace H : Go.Wf.Own _ _ _ (_ :: Var b5 60 [.int .u32 (stepT s.TSN out.n), .int .u16 (IntKind.u16.wrap m.Stream), .int .u16 q, .bool false, .bool false, .bool m.Unordered, .slice none 0 0] :: _) := H
      refine H.st 1 6 rfl rfl rfl fun w20 H => ?_
      replace H : Go.Wf.Own _ _ _ (_ :: Var b5 60 [.int .u32 (stepT s.TSN out.n), .int .u16 (IntKind.u16.wrap m.Stream), .int .u16 q, .bool false, .bool false, .bool m.Unordered, .slice v17.a v17.n v17.c] :: _) := H
      refine H.ld 4 0 rfl rfl rfl (p := out) ?_
      refine H.ld 1 0 rfl rfl rfl (p := (⟨stepT s.TSN out.n, IntKind.u16.wrap m.Stream, q, false, false, m.Unordered, v17⟩ : GPiece)) ?_
      refine H.new fun b6 w21 H _ => ?_
      refine H.appendT 4 ok60 el51 (s := out) (x := (⟨some (bx b6), 1, 1⟩ : Sl)) (fun s => s) (fun _ => rfl) rfl (H.varSl 0 [(⟨stepT s.TSN out.n, IntKind.u16.wrap m.Stream, q, false, false, m.Unordered, v17⟩ : GPiece)] rfl rfl) (by simp; omega) fun v20 w22 H => ?_
      replace H : Go.Wf.Own _ _ _ (_ :: _ :: _ :: _ :: RowT _ _ _ v20 _ :: _) := H
      refine H.st 5 0 rfl rfl rfl fun w23 H => ?_
      replace H : Go.Wf.Own _ _ _ (_ :: _ :: _ :: _ :: _ :: Var b4 51 [.slice v20.a v20.n v20.c] :: _) := H
      refine ⟨H.hold.at 6 rfl, fun w' hU2 => hnext w' ?_⟩
      have H := H.upd 6 rfl hU2
      replace H : Go.Wf.Own _ _ _ (_ :: _ :: _ :: _ :: _ :: _ :: Rec (w9.heap.size + 1) (rec .ready none) :: _) := H
      have H := (H.drop 0).drop 1
      have H := H.cast 0 (e' := rPiece.ent (newB w17 w18) ⟨stepT s.TSN out.n, IntKind.u16.wrap m.Stream, q, false, false, m.Unordered, v17⟩ (rawP s.TSN (IntKind.u16.wrap m.Stream) q m.Unordered x.Text n k)) rfl (fun _ hk => hk) (fun h => ⟨h, by rw [hon]; rfl⟩)
      have H := Go.Wf.Own.snoc (R := rPiece) H
      refine ⟨v20, gs ++ [(⟨stepT s.TSN out.n, IntKind.u16.wrap m.Stream, q, false, false, m.Unordered, v17⟩ : GPiece)], (fun k => newB w17 w18 k ∨ N k), by simp [hgl], ?_⟩
      rw [rawPs_succ]
      exact H
    · obtain ⟨k, ⟨out, gs, N, hgl, H⟩, hk1, hk2⟩ := hend
      obtain ⟨hcnt, hk0⟩ := cnt_of (len := m.Text.n) (by omega) (by omega) hk1 hk2
      rw [hmn] at hcnt
      have hkl : k - 1 ≤ (k - 1) * n := Nat.le_mul_of_pos_right _ (by omega)
      refine Or.inl ⟨H.hold.at 3 rfl, fun w14 hU => ?_⟩
      have H := H.upd 3 rfl hU
      replace H : Go.Wf.Own _ _ _ (_ :: _ :: _ :: Rec (w9.heap.size + 1) (rec .exhausted none) :: _) := H
      have hsl := RowT.sl ok60 (H.hold.at 1 rfl)
      have hon : out.n = gs.length := hsl.1
      obtain ⟨a, ha⟩ : ∃ a, out.a = some a := by
        rcases hsl.2.2 with h | ⟨a, ha, _⟩
        · rw [h] at hgl; simp at hgl; omega
        · exact ⟨a, ha⟩
      have g0 : gs[0]? = some gs[0] := List.getElem?_eq_getElem (by omega)
      refine ⟨fun W => CellsAt W (bx b4) [.slice out.a out.n out.c], ⟨H.cells 2 rfl, fun W W' h hx => h.ext hx⟩, ?_⟩
      refine ⟨out, fun W hW => hW, ?_⟩
      refine ⟨out, fun W hW => hW, ?_⟩
      refine ⟨out, fun W hW => hW, ?_⟩
      refine ⟨⟨by omega, by omega⟩, a, ha, ?_⟩
      intro w24 _ hx24
      have H := H.ext (show Ext w14 w24 from hx24)
      refine H.rowSt 1 ok60 rfl ha (e := 0) (v := gs[0]) (v' := { gs[0] with Begin := true }) g0 (off := 3) (cs := [.bool true]) (by decide) rfl rfl fun w25 H => ?_
      replace H : Go.Wf.Own _ _ _ (_ :: RowT ti60 60 7 out (gs.set 0 { gs[0] with Begin := true }) :: _) := H
      generalize hgs1 : gs.set 0 { gs[0] with Begin := true } = gs1 at H
      have hl1 : gs1.length = k := by rw [← hgs1]; simpa using hgl
      have g1 : gs1[k - 1]? = some gs1[k - 1] := List.getElem?_eq_getElem (by omega)
      have e1 : IntKind.i64.wrap ((out.n : Int) - 1) = ((k - 1 : Nat) : Int) := by rw [wrap64 (by omega) (by omega)]; omega
      refine ⟨H.cells 2 rfl, ?_⟩
      rw [e1]
      refine ⟨⟨by omega, by omega⟩, a, ha, ?_⟩
      refine H.rowSt 1 ok60 rfl ha (e := k - 1) (v := gs1[k - 1]) (v' := { gs1[k - 1] with End := true }) g1 (off := 4) (cs := [.bool true]) (by decide) rfl rfl fun w26 H => ?_
      replace H : Go.Wf.Own _ _ _ (_ :: RowT ti60 60 7 out (gs1.set (k - 1) { gs1[k - 1] with End := true }) :: _) := H
      refine H.ld 2 0 rfl rfl rfl (p := out) ?_
      refine ⟨H.hold.at 4 rfl, fun w27 hU2 => ?_⟩
      have H := H.upd 4 rfl hU2
      replace H : Go.Wf.Own _ _ _ (_ :: _ :: _ :: _ :: Rec w9.heap.size (.deferred none) :: _) := H
      refine ⟨rfl, fun h => absurd rfl h, fun _ => ⟨gs1.set (k - 1) { gs1[k - 1] with End := true }, N, ?_⟩⟩
      have H := (((((((H.drop 2).drop 2).drop 2).drop 2).drop 2).drop 2).drop 2).drop 2
      refine H.cast 0 rfl (fun _ hk => hk) fun hF => ?_
      have hF : All2 (rPiece.R w27 N) gs (rawPs s.TSN (IntKind.u16.wrap m.Stream) q m.Unordered x.Text n k) := hF
      have hx0 : (rawPs s.TSN (IntKind.u16.wrap m.Stream) q m.Unordered x.Text n k)[0]? = some (rawP s.TSN (IntKind.u16.wrap m.Stream) q m.Unordered x.Text n 0) := by
        unfold rawPs
        rw [List.getElem?_map, List.getElem?_range (by omega)]; rfl
      have r0 := hF.at2 g0 hx0
      have hF1 := All2.set hF 0 (g := { gs[0] with Begin := true }) (x := { rawP s.TSN (IntKind.u16.wrap m.Stream) q m.Unordered x.Text n 0 with Begin := true }) ⟨r0.1, by
        have := r0.2
        obtain ⟨t1, t2, t3, t4, t5, t6⟩ := piece_tsn r0
        simp only [xPiece, t1, t3, t4, t5, t6]⟩
      rw [hgs1] at hF1
      obtain ⟨y, hy, ry⟩ := hF1.at? g1
      have hF2 := All2.set hF1 (k - 1) (g := { gs1[k - 1] with End := true }) (x := { y with End := true }) ⟨ry.1, by
        have := ry.2
        obtain ⟨t1, t2, t3, t4, t5, t6⟩ := piece_tsn ry
        simp only [xPiece, t1, t2, t4, t5, t6]⟩
      rw [cut_marks hk0 hy] at hF2
      have hc : cutX x s.TSN s.Seq n = (List.range k).map fun j => { rawP s.TSN (IntKind.u16.wrap m.Stream) q m.Unordered x.Text n j with Begin := decide (j = 0), End := decide (j + 1 = k) } := by
        rw [cutX, ← hcnt, hms.1, hms.2, hq]
      rw [hc]
      exact hF2
end Go.Wf2

namespace Go.Wf2
open Go Go.Wf Go.Proofs
set_option linter.unusedVariables false
set_option linter.deprecated false
set_option maxRecDepth 4000
/-- Messages that read, each over memory of its own. -/
abbrev McR (w : World) (gs : List GMessage) (xs : List XMessage) : Prop := All2 (fun g x => ∃ S, rMessage.R w S g x) gs xs
theorem McR.ext {w w' : World} {gs : List GMessage} {xs : List XMessage} (h : McR w gs xs) (hx : Ext w w') : McR w' gs xs := All2.imp (fun _ _ ⟨S, h⟩ => ⟨S, rMessage.ext h hx⟩) h
theorem ext_message {x y : XMessage} (h1 : x.Stream = y.Stream) (h2 : x.Unordered = y.Unordered) (h3 : x.Text = y.Text) : x = y := by cases x; cases y; simp_all
def msgsOk (l : List XMessage) : Prop := ∀ (i : Nat) x, l[i]? = some x → bytesOk x.Text
theorem messages_spec {a b : Sl} {w : World} {S S' : Nat → Prop} {gs hs : List GMessage} {xs ys : List XMessage} (ha : SlT ti54 w S a gs) (hb : SlT ti54 w S' b hs) (hx : McR w gs xs) (hy : McR w hs ys) (ox : msgsOk xs) (oy : msgsOk ys) (hn : gs.length ≤ 1000000) : C_weftlinenum_Messages a b w (fun r w' => Ext w w' ∧ (r = true ↔ xs = ys)) := by
  refine E_weftlinenum_Messages _ _ _ _ ?_
  have l1 := hx.len
  have l2 := hy.len
  have k1 := ha.len
  have k2 := hb.len
  have H := Own.start none_ w
  refine ifK.mk (fun q1 => ?_) (fun q1 => ?_)
  · skip
    have q1 := by simpa using q1
    exact ⟨H.step, by simp only [Bool.false_eq_true, false_iff]; intro h; subst h; omega⟩
  · skip
    have q1 := by simpa using q1
    refine RInv0.loop (n := gs.length) (I := fun i w' => xs.take i = ys.take i ∧ Go.Wf.Own none_ w w' []) (⟨rfl, H⟩) ?_
    rintro i  w1 hi hI d
    obtain ⟨t, H⟩ := hI
    dsimp only
    refine ifK.mk (fun q0 => ?_) (fun q0 => ?_)
    · skip
      have q0 := of_decide_eq_true q0
      have ga : gs[i]? = some gs[i] := List.getElem?_eq_getElem (by omega)
      have gb : hs[i]? = some hs[i] := List.getElem?_eq_getElem (by omega)
      obtain ⟨x, hxi, S1, r1⟩ := All2.at? hx ga
      obtain ⟨y, hyi, S2, r2⟩ := All2.at? hy gb
      have r1 := rMessage.ext r1 H.step
      have r2 := rMessage.ext r2 H.step
      have HN := H.nest
      refine SlT.ggetPart ok54 HN (SlT.ext ha ok54 H.step) (i := i) rfl ga 0 (J := ti3) (p := gs[i].Stream) rfl ?_
      refine SlT.ggetPart ok54 HN (SlT.ext hb ok54 H.step) (i := i) rfl gb 0 (J := ti3) (p := hs[i].Stream) rfl ?_
      refine ifK.mk (fun q2 => ?_) (fun q2 => ?_)
      · skip
        have q2 := by simpa using q2
        refine HN.fin fun w2 hx_w2 H => ?_
        have hX := hx_w2
        exact ⟨H.step, by simp only [Bool.false_eq_true, false_iff]; intro h; subst h; rw [hxi] at hyi; cases hyi; have := r1.2.1.trans r2.2.1.symm; exact q2 this⟩
      · skip
        have q2 := by simpa using q2
        refine SlT.ggetPart ok54 HN (SlT.ext ha ok54 H.step) (i := i) rfl ga 1 (J := ti4) (p := gs[i].Unordered) rfl ?_
        refine SlT.ggetPart ok54 HN (SlT.ext hb ok54 H.step) (i := i) rfl gb 1 (J := ti4) (p := hs[i].Unordered) rfl ?_
        refine ifK.mk (fun q3 => ?_) (fun q3 => ?_)
        · skip
          have q3 := by simpa using q3
          refine HN.fin fun w3 hx_w3 H => ?_
          have hX := hx_w3
          exact ⟨H.step, by simp only [Bool.false_eq_true, false_iff]; intro h; subst h; rw [hxi] at hyi; cases hyi; have := r1.2.2.trans r2.2.2.symm; rw [this] at q3; simp at q3⟩
        · skip
          have q3 := by simpa using q3
          refine SlT.ggetPart ok54 HN (SlT.ext ha ok54 H.step) (i := i) rfl ga 2 (J := ti52) (p := gs[i].Text) rfl ?_
          refine gRd.of (fun W hW => toStr (rBytes.ext r1.1 (show Ext _ W from hW))) rfl ?_
          refine SlT.ggetPart ok54 HN (SlT.ext hb ok54 H.step) (i := i) rfl gb 2 (J := ti52) (p := hs[i].Text) rfl ?_
          refine gRd.of (fun W hW => toStr (rBytes.ext r2.1 (show Ext _ W from hW))) rfl ?_
          refine HN.fin fun w6 hx_w6 H => ?_
          have hX := hx_w6
          refine ifK.mk (fun q4 => ?_) (fun q4 => ?_)
          · skip
            have q4 := by simpa using q4
            exact ⟨H.step, by simp only [Bool.false_eq_true, false_iff]; intro h; subst h; rw [hxi] at hyi; cases hyi; simp at q4⟩
          · skip
            have q4 := by simpa using q4
            have q2 : gs[i].Stream = hs[i].Stream := by simpa using q2
            have q3 : gs[i].Unordered = hs[i].Unordered := by simpa using q3
            have q4 : (strOf x.Text).toList = (strOf y.Text).toList := by simpa using q4
            exact RInv0.next (by omega) (by omega) ⟨take_eq_snoc t hxi hyi (ext_message (r1.2.1.symm.trans (q2.trans r2.2.1)) (r1.2.2.symm.trans (q3.trans r2.2.2)) (strOf_inj (ox i x hxi) (oy i y hyi) q4)), H⟩
    · skip
      have q0 := of_decide_eq_false q0
      exact ⟨H.step, ⟨fun _ => take_full t (by omega) (by omega), fun _ => rfl⟩⟩
end Go.Wf2

namespace Go.Wf2
open Go Go.Wf Go.Proofs
set_option maxRecDepth 4000
theorem freeze_heap {w : World} {b : Nat} {C : Array Value} {e : Nat} (h : w.heap[b]? = some (.cells C e (0, 0))) : (w.freeze ⟨b, C.size, none⟩ 1).heap[b]? = some (.cells C e (C.size, C.size + 1)) ∧ Step (fun k => k = b) w (w.freeze ⟨b, C.size, none⟩ 1) ∧ (w.freeze ⟨b, C.size, none⟩ 1).heap.size = w.heap.size := by
  have hlt := (Array.getElem?_eq_some_iff.1 h).1
  unfold World.freeze
  rw [if_neg (by decide)]
  refine ⟨?_, ⟨rfl, rfl, rfl, by simp, fun k _ hn => by simp [Array.getElem?_modify, Ne.symm hn]⟩, by simp⟩
  simp [Array.getElem?_modify, h]
theorem run_conv52 {w : World} {b : Nat} {C : Array Value} {n c : Nat} (h : w.heap[b]? = some (.cells C 5 (0, 0))) : (convert 52 52 (.slice (some (bx b)) n c)).run Try.prog w = .ok (.slice (some (bx b)) n c) (w.freeze ⟨b, C.size, none⟩ 1) := by
  have ht : Try.prog.underlying 52 = some (.slice 5) := by kernel_rfl
  have he : Try.prog.underlying 5 = some (.int .u8) := by kernel_rfl
  have hsh : w.shape? b = some (5, C.size) := by unfold World.shape?; rw [h]
  simp [convert, run_underlying ht, run_underlying he, markStringish, hsh]
theorem conv52 {M : Nat → Prop} {w0 w : World} {L : List Ent} (H : Go.Wf.Own M w0 w L) (i : Nat) {b : Nat} {cs : List Value} (l : List Int) {n : Nat} (hi : L[i]? = some (Var b 5 cs)) (hc : cs = l.flatMap (wrT ti5)) (hn : n = l.length) {K : Sl → World → Prop}
    (hk : ∀ w', Go.Wf.Own M w0 w' (L.set i (rBytes.ent (fun k => k = b) ⟨some (bx b), n, n⟩ l)) → K ⟨some (bx b), n, n⟩ w') : Go.Wf.runT Try.prog ti52 (convert 52 52 (.slice (some (bx b)) n n)) w K := by
  subst hc
  subst hn
  have hF : w.heap[b]? = some (.cells (l.flatMap (wrT ti5)).toArray 5 (0, 0)) := H.hold.at i hi
  obtain ⟨g1, g2, g3⟩ := freeze_heap hF
  refine runT.of (run_conv52 hF) rfl (hk _ (H.turn i hi g2 (fun k (hk : k = b) => ⟨.inl hk, by rw [g3, hk]; exact (Array.getElem?_eq_some_iff.1 hF).1⟩) ?_))
  refine ⟨rfl, Nat.le_refl _, .inr ⟨_, rfl, rfl, fun j v hv => ?_⟩⟩
  have h1 : ((bx b).add j).block = b := add_block _ _
  have h2 : ((bx b).add j).off = j := by simp [add_off]
  have h3 : ((bx b).add j).spot = none := add_spot rfl j
  simp only [World.cell?, h1, g1, h2, h3]
  simpa using hv
def stA : Nat → List XPiece × Int
  | 0 => ([], 0)
  | 1 => ([⟨2, 0, 0, false, true, false, [100]⟩], 1)
  | 2 => ([⟨2, 0, 0, false, true, false, [100]⟩, ⟨0, 0, 0, true, false, false, [97, 98]⟩], 3)
  | _ => ([], 0)
def pA (i : Nat) : XPiece := match i with
  | 0 => ⟨2, 0, 0, false, true, false, [100]⟩
  | 1 => ⟨0, 0, 0, true, false, false, [97, 98]⟩
  | _ => ⟨1, 0, 0, false, false, false, [99]⟩
theorem putA0 : putX (stA 0).1 (stA 0).2 (pA 0) = ⟨xm0, 0, false, 0, (stA 1).1, (stA 1).2⟩ := by rfl
theorem putA1 : putX (stA 1).1 (stA 1).2 (pA 1) = ⟨xm0, 0, false, 0, (stA 2).1, (stA 2).2⟩ := by rfl
theorem putA2 : putX (stA 2).1 (stA 2).2 (pA 2) = ⟨⟨0, false, [97, 98, 99, 100]⟩, 0, true, 0, (stA 3).1, (stA 3).2⟩ := by rfl
end Go.Wf2

namespace Go.Wf2
open Go Go.Wf Go.Proofs
set_option linter.unusedVariables false
set_option linter.deprecated false
set_option maxRecDepth 4000
theorem abcd : ((strOf [97, 98, 99, 100]).toList == (⟨#[97, 98, 99, 100]⟩ : ByteArray).toList) = true := by
  have : strOf [97, 98, 99, 100] = (⟨#[97, 98, 99, 100]⟩ : ByteArray) := by rfl
  rw [this]; simp
theorem alive20_spec {w : World} : C_weftlinelaw20_alive w (Val w true) := by
  refine E_weftlinelaw20_alive _ _ ?_
  have H := Own.start none_ w
  refine C_reasm_New.mono (reasmNew_spec H) fun v w1 h_v => ?_
  obtain ⟨bb, m, rfl, H⟩ := h_v
  refine H.new fun b w2 H _ => ?_
  refine conv52 H 0 [100] rfl rfl rfl fun w3 H => ?_
  refine H.new fun b2 w4 H _ => ?_
  refine conv52 H 0 [97, 98] rfl rfl rfl fun w5 H => ?_
  refine H.new fun b3 w6 H _ => ?_
  refine conv52 H 0 [99] rfl rfl rfl fun w7 H => ?_
  refine H.new fun b4 w8 H _ => ?_
  refine RInv0.loop (n := 3) (I := fun i w' => ∃ ps N, Go.Wf.Own none_ w w' (Var bb 162 [.map (some m), .int .i64 (stA i).2] :: MapB ti23 ti60 m (kp ps) :: rPieces.ent N ps (stA i).1 :: (Var b4 60 [.int .u32 2, .int .u16 0, .int .u16 0, .bool false, .bool true, .bool false, .slice (some (bx b)) 1 1, .int .u32 0, .int .u16 0, .int .u16 0, .bool true, .bool false, .bool false, .slice (some (bx b2)) 2 2, .int .u32 1, .int .u16 0, .int .u16 0, .bool false, .bool false, .bool false, .slice (some (bx b3)) 1 1]) :: rBytes.ent (fun k => k = b3) ⟨some (bx b3), 1, 1⟩ [99] :: rBytes.ent (fun k => k = b2) ⟨some (bx b2), 2, 2⟩ [97, 98] :: rBytes.ent (fun k => k = b) ⟨some (bx b), 1, 1⟩ [100] :: [])) (⟨[], none_, ((H.front 6 rfl).front 6 rfl).front 6 rfl⟩) ?_
  rintro i  w9 hi hI d
  obtain ⟨ps, N, H⟩ := hI
  dsimp only
  refine ifK.mk (fun hc1 => ?_) (fun hc1 => ?_)
  · skip
    have hc1 := of_decide_eq_true hc1
    refine SlT.getN ok60 (H.varSl 3 (J := ti60) [(⟨2, 0, 0, false, true, false, ⟨some (bx b), 1, 1⟩⟩ : GPiece), (⟨0, 0, 0, true, false, false, ⟨some (bx b2), 2, 2⟩⟩ : GPiece), (⟨1, 0, 0, false, false, false, ⟨some (bx b3), 1, 1⟩⟩ : GPiece)] rfl rfl) (by simp; omega) fun v5 hv5 => ?_
    have hi3 : i = 0 ∨ i = 1 ∨ i = 2 := by omega
    have hpv : ∀ W, rBytes.R W (fun k => k = b) ⟨some (bx b), 1, 1⟩ [100] → rBytes.R W (fun k => k = b2) ⟨some (bx b2), 2, 2⟩ [97, 98] → rBytes.R W (fun k => k = b3) ⟨some (bx b3), 1, 1⟩ [99] → ∃ S, rPiece.R W S v5 (pA i) := by
      intro W t1 t2 t3
      rcases hi3 with rfl | rfl | rfl
      · cases hv5; exact ⟨_, t1, rfl⟩
      · cases hv5; exact ⟨_, t2, rfl⟩
      · cases hv5; exact ⟨_, t3, rfl⟩
    have hst : 0 ≤ (stA i).2 ∧ (stA i).2 ≤ 2000 ∧ (stA i).1.length < 90000 ∧ ∀ (j : Nat) y, (stA i).1[j]? = some y → y.Text.length ≤ 64 := by
      rcases hi3 with rfl | rfl | rfl
      · exact ⟨by decide, by decide, by decide, fun j y h => by simp [stA] at h⟩
      · refine ⟨by decide, by decide, by decide, fun j y h => ?_⟩
        rcases j with _ | j
        · cases h; decide
        · simp [stA] at h
      · refine ⟨by decide, by decide, by decide, fun j y h => ?_⟩
        rcases j with _ | _ | j
        · cases h; decide
        · cases h; decide
        · simp [stA] at h
    have hput : putX (stA i).1 (stA i).2 (pA i) = ⟨if i = 2 then ⟨0, false, [97, 98, 99, 100]⟩ else xm0, 0, decide (i = 2), 0, (stA (i + 1)).1, (stA (i + 1)).2⟩ := by
      rcases hi3 with rfl | rfl | rfl
      · exact putA0
      · exact putA1
      · exact putA2
    refine H.new fun b5 w10 H _ => ?_
    refine H.st 0 0 rfl rfl rfl fun w11 H => ?_
    replace H : Go.Wf.Own _ _ _ (Var b5 _ [.int .u32 v5.TSN, .int .u16 v5.Stream, .int .u16 v5.Seq, .bool v5.Begin, .bool v5.End, .bool v5.Unordered, .slice v5.Text.a v5.Text.n v5.Text.c] :: _) := H
    refine H.ld 0 0 rfl rfl rfl (p := v5) ?_
    refine C_reasm_Bench_Put.mono (reasmPut_spec (x := pA i) (((H.front 3 rfl).front 3 rfl).front 3 rfl) (fun W HW => hpv W (HW.hold.at 4 rfl) (HW.hold.at 3 rfl) (HW.hold.at 2 rfl)) hst.2.2.1 hst.2.2.2 hst.1 hst.2.1) fun v7 w12 h_v7 => ?_
    obtain ⟨ps2, N2, NM, H, e1, e2, e3⟩ := h_v7
    rw [hput] at H e1 e2 e3
    refine H.new fun b6 w13 H _ => ?_
    refine H.st 0 0 rfl rfl rfl fun w14 H => ?_
    replace H : Go.Wf.Own _ _ _ (Var b6 _ [.int .i64 v7.1.M.Stream, .bool v7.1.M.Unordered, .slice v7.1.M.Text.a v7.1.M.Text.n v7.1.M.Text.c, .int .u16 v7.1.Seq] :: _) := H
    refine ⟨by rw [e3]; exact errV_ifc _, ?_⟩
    refine ifK.mk (fun q1 => ?_) (fun q1 => ?_)
    · skip
      rw [e3] at q1; cases q1
    · skip
      refine ifK.mk (fun q2 => ?_) (fun q2 => ?_)
      · skip
        have q2 := by simpa using q2
        exfalso
        rw [e2] at q2
        have e9 : ((i : Int) == 2) = decide (i = 2) := by rw [Bool.eq_iff_iff]; simp; omega
        rw [e9] at q2
        simp at q2
      · skip
        have q2 := by simpa using q2
        refine ifK.mk (fun q3 => ?_) (fun q3 => ?_)
        · skip
          refine H.ld 0 2 rfl rfl rfl (p := v7.1.M.Text) ?_
          refine runT.of (toStr (S := NM) (l := (if i = 2 then ⟨0, false, [97, 98, 99, 100]⟩ else xm0 : XMessage).Text) (show rMessage.R _ NM v7.1.M _ from H.hold.at 1 rfl).1) rfl ?_
          have q3 : i = 2 := by rw [e2] at q3; simpa using q3
          subst q3
          refine ifK.mk (fun q4 => ?_) (fun q4 => ?_)
          · skip
            have q4 := by simpa using q4
            exact absurd (by simpa using abcd) q4
          · skip
            have q4 := by simpa using q4
            have H := H.drop 5
            have H := H.drop 1
            have H := H.drop 0
            exact RInv0.next (by omega) (by omega) ⟨_, _, H⟩
        · skip
          have H := H.drop 5
          have H := H.drop 1
          have H := H.drop 0
          exact RInv0.next (by omega) (by omega) ⟨_, _, H⟩
  · skip
    have hc1 := of_decide_eq_false hc1
    have hil : i = 3 := by omega
    subst hil
    refine C_reasm_Bench_Len.mono (reasmLen_spec H) fun v10 w16 h_v10 => ?_
    obtain ⟨e10, H⟩ := h_v10
    have hps : ps.length = 0 := All2.len (show All2 (rPiece.R w16 N) ps (stA 3).1 from H.hold.at 2 rfl)
    rw [kp_len, hps] at e10
    refine ifK.mk (fun q5 => ?_) (fun q5 => ?_)
    · skip
      have q5 := by simpa using q5
      refine C_reasm_Bench_Held.mono (reasmHeld_spec H) fun v11 w17 h_v11 => ?_
      obtain ⟨e11, H⟩ := h_v11
      exact ⟨H.step, by rw [e11]; rfl⟩
    · skip
      have q5 := by simpa using q5
      rw [e10] at q5; exact absurd rfl q5
end Go.Wf2
