/- A part of the proof: lemmas; nothing is claimed here. -/
import Derived.Test.YtkeecncgfhgnpaaWMx2
set_option linter.all false
namespace Go.Wf2
open Go Go.Wf Go.Proofs
set_option maxRecDepth 4000
set_option linter.unusedVariables false
/-! The plain law of ReasmMixes. -/
def dP : XPiece := ⟨0, 0, 0, false, false, false, []⟩
/-- Pieces in groups: group i stands from lo i on and has cnt i pieces. -/
structure Grp (Pf : Nat → XPiece) (N : Nat) (msg lo cnt : Nat → Nat) (G : Nat) (t0 : Int) : Prop where
  few : N ≤ 300
  tsn : ∀ k, k < N → (Pf k).TSN = (t0 + k) % 4294967296
  inn : ∀ k, k < N → msg k < G ∧ lo (msg k) ≤ k ∧ k < lo (msg k) + cnt (msg k)
  of : ∀ i r, i < G → r < cnt i → lo i + r < N ∧ msg (lo i + r) = i
  pos : ∀ i, i < G → 1 ≤ cnt i
  beg : ∀ k, k < N → (Pf k).Begin = decide (k = lo (msg k))
  fin : ∀ k, k < N → (Pf k).End = decide (k + 1 = lo (msg k) + cnt (msg k))
  txt : ∀ k, k < N → 1 ≤ (Pf k).Text.length ∧ (Pf k).Text.length ≤ 64
  str : ∀ k, k < N → (Pf k).Stream < 8
section
variable {Pf : Nat → XPiece} {N : Nat} {msg lo cnt : Nat → Nat} {G : Nat} {t0 : Int}
theorem Grp.same (g : Grp Pf N msg lo cnt G t0) {k t : Nat} (hk : k < N) (h1 : lo (msg k) ≤ t) (h2 : t < lo (msg k) + cnt (msg k)) : t < N ∧ msg t = msg k := by
  have := g.of (msg k) (t - lo (msg k)) (g.inn k hk).1 (by omega)
  rwa [show lo (msg k) + (t - lo (msg k)) = t by omega] at this
theorem Grp.inj (g : Grp Pf N msg lo cnt G t0) {k k' : Nat} (hk : k < N) (hk' : k' < N) (h : (Pf k).TSN = (Pf k').TSN) : k = k' := by
  have := g.few
  rw [g.tsn k hk, g.tsn k' hk'] at h
  omega
theorem Grp.find (g : Grp Pf N msg lo cnt G t0) {bs : List Nat} (hb : ∀ k ∈ bs, k < N) {k : Nat} (hk : k < N) : findX (bs.map Pf) (Pf k).TSN = if k ∈ bs then some (Pf k) else none := by
  by_cases h : k ∈ bs
  · rw [if_pos h]
    cases hf : findX (bs.map Pf) (Pf k).TSN with
    | none =>
      have := List.find?_eq_none.1 hf (Pf k) (List.mem_map.2 ⟨k, h, rfl⟩)
      simp at this
    | some y =>
      obtain ⟨hm, hy⟩ := find_mem hf
      obtain ⟨k', hk', rfl⟩ := List.mem_map.1 hm
      rw [g.inj (hb k' hk') hk hy]
  · rw [if_neg h]
    cases hf : findX (bs.map Pf) (Pf k).TSN with
    | none => rfl
    | some y =>
      obtain ⟨hm, hy⟩ := find_mem hf
      obtain ⟨k', hk', rfl⟩ := List.mem_map.1 hm
      exact absurd (g.inj (hb k' hk') hk hy ▸ hk') h
theorem Grp.back (g : Grp Pf N msg lo cnt G t0) {k : Nat} (hk : k < N) (h : lo (msg k) < k) : stepT (Pf k).TSN (-1) = (Pf (k - 1)).TSN := by
  rw [g.tsn k hk, g.tsn (k - 1) (by omega), stepT, wrapU32, wrapU32]
  have := g.few
  omega
theorem Grp.fore (g : Grp Pf N msg lo cnt G t0) {k : Nat} (hk : k < N) (h : k + 1 < lo (msg k) + cnt (msg k)) : stepT (Pf k).TSN 1 = (Pf (k + 1)).TSN := by
  have h1 := (g.same hk (t := k + 1) (by have := g.inn k hk; omega) h).1
  rw [g.tsn k hk, g.tsn (k + 1) h1, stepT, wrapU32, wrapU32]
  omega
theorem Grp.start (g : Grp Pf N msg lo cnt G t0) {bs : List Nat} (hb : ∀ k ∈ bs, k < N) : ∀ (f k : Nat), k < N → bs.countP (fun t => decide (t < k)) + 1 ≤ f →
    ∃ a, startF (bs.map Pf) f (Pf k) = Pf a ∧ lo (msg k) ≤ a ∧ a ≤ k ∧ (∀ t, a ≤ t → t < k → t ∈ bs) ∧ (a = lo (msg k) ∨ a - 1 ∉ bs)
  | 0, k, _, h => by omega
  | f + 1, k, hk, h => by
    have hin := g.inn k hk
    by_cases h0 : k = lo (msg k)
    · exact ⟨k, startF_b (by rw [g.beg k hk]; exact decide_eq_true h0), by omega, Nat.le_refl _, fun t h1 h2 => by omega, .inl h0⟩
    · have hB : (Pf k).Begin = false := by rw [g.beg k hk]; exact decide_eq_false h0
      have hst := g.back hk (by omega)
      have hs := g.same hk (t := k - 1) (by omega) (by omega)
      have hf := g.find hb hs.1
      rw [← hst] at hf
      by_cases h1 : k - 1 ∈ bs
      · rw [if_pos h1] at hf
        have hE : (Pf (k - 1)).End = false := by rw [g.fin _ hs.1, hs.2]; exact decide_eq_false (by omega)
        have hc := countP_lt (p := fun t => decide (t < k - 1)) (q := fun t => decide (t < k)) (fun a ha => by simp at ha ⊢; omega) h1 (by simp; omega) (by simp)
        obtain ⟨a, e, b1, b2, b3, b4⟩ := Grp.start g hb f (k - 1) hs.1 (by omega)
        rw [hs.2] at b1 b4
        refine ⟨a, by rw [startF_s hB hf hE]; exact e, b1, by omega, fun t h1' h2' => ?_, b4⟩
        by_cases ht : t = k - 1
        · rw [ht]; exact h1
        · exact b3 t h1' (by omega)
      · rw [if_neg h1] at hf
        exact ⟨k, startF_n hB hf, by omega, Nat.le_refl _, fun t h1 h2 => by omega, .inr h1⟩
theorem Grp.rest (g : Grp Pf N msg lo cnt G t0) {bs : List Nat} (hb : ∀ k ∈ bs, k < N) : ∀ (f k : Nat), k < N → bs.countP (fun t => decide (k < t)) + 1 ≤ f →
    ∃ e, k ≤ e ∧ e < lo (msg k) + cnt (msg k) ∧ restF (bs.map Pf) f (Pf k) = (List.range' (k + 1) (e - k)).map Pf ∧ (∀ t, k < t → t ≤ e → t ∈ bs) ∧ (e + 1 = lo (msg k) + cnt (msg k) ∨ e + 1 ∉ bs)
  | 0, k, _, h => by omega
  | f + 1, k, hk, h => by
    have hin := g.inn k hk
    by_cases h0 : k + 1 = lo (msg k) + cnt (msg k)
    · exact ⟨k, Nat.le_refl _, by omega, by rw [restF_b (by rw [g.fin k hk]; exact decide_eq_true h0)]; simp, fun t h1 h2 => by omega, .inl h0⟩
    · have hE : (Pf k).End = false := by rw [g.fin k hk]; exact decide_eq_false h0
      have hst := g.fore hk (by omega)
      have hs := g.same hk (t := k + 1) (by omega) (by omega)
      have hf := g.find hb hs.1
      rw [← hst] at hf
      by_cases h1 : k + 1 ∈ bs
      · rw [if_pos h1] at hf
        have hB : (Pf (k + 1)).Begin = false := by rw [g.beg _ hs.1, hs.2]; exact decide_eq_false (by omega)
        have hc := countP_lt (p := fun t => decide (k + 1 < t)) (q := fun t => decide (k < t)) (fun a ha => by simp at ha ⊢; omega) h1 (by simp) (by simp)
        obtain ⟨e, b1, b2, b3, b4, b5⟩ := Grp.rest g hb f (k + 1) hs.1 (by omega)
        rw [hs.2] at b2 b5
        refine ⟨e, by omega, b2, ?_, fun t h1' h2' => ?_, b5⟩
        · rw [restF_s hE hf hB, b3, show e - k = (e - (k + 1)) + 1 by omega, List.range'_succ, List.map_cons]
        · by_cases ht : t = k + 1
          · rw [ht]; exact h1
          · exact b4 t (by omega) h2'
      · rw [if_neg h1] at hf
        exact ⟨k, Nat.le_refl _, by omega, by rw [restF_n hE hf]; simp, fun t h1 h2 => by omega, .inr h1⟩
/-- The part of a piece that is there. -/
theorem Grp.part (g : Grp Pf N msg lo cnt G t0) {bs : List Nat} (hb : ∀ k ∈ bs, k < N) {k : Nat} (hk : k < N) (hkb : k ∈ bs) :
    ∃ a e, lo (msg k) ≤ a ∧ a ≤ k ∧ k ≤ e ∧ e < lo (msg k) + cnt (msg k) ∧ partX (bs.map Pf) (Pf k) = (List.range' a (e + 1 - a)).map Pf ∧ (∀ t, a ≤ t → t ≤ e → t ∈ bs) ∧ (a = lo (msg k) ∨ a - 1 ∉ bs) ∧ (e + 1 = lo (msg k) + cnt (msg k) ∨ e + 1 ∉ bs) := by
  obtain ⟨a, e1, a1, a2, a3, a4⟩ := g.start hb ((bs.map Pf).length + 1) k hk (by have := List.countP_le_length (p := fun t => decide (t < k)) (l := bs); simp; omega)
  have hs := g.same hk (t := a) a1 (by have := g.inn k hk; omega)
  obtain ⟨e, b1, b2, b3, b4, b5⟩ := g.rest hb ((bs.map Pf).length + 1) a hs.1 (by have := List.countP_le_length (p := fun t => decide (a < t)) (l := bs); simp; omega)
  rw [hs.2] at b2 b5
  have hke : k ≤ e := by
    rcases b5 with h | h
    · have := g.inn k hk; omega
    · rcases Nat.lt_or_ge e k with h' | h'
      · by_cases h2 : e + 1 = k
        · rw [h2] at h; exact absurd hkb h
        · exact absurd (a3 (e + 1) (by omega) (by omega)) h
      · exact h'
  refine ⟨a, e, a1, a2, hke, b2, ?_, fun t h1 h2 => ?_, a4, b5⟩
  · rw [partX, e1, b3, show e + 1 - a = (e - a) + 1 by omega, List.range'_succ, List.map_cons]
  · by_cases ht : t = a
    · subst ht
      by_cases h3 : t = k
      · rw [h3]; exact hkb
      · exact a3 t (Nat.le_refl _) (by omega)
    · exact b4 t (by omega) h2
end
end Go.Wf2

namespace Go.Wf2
open Go Go.Wf Go.Proofs
set_option maxRecDepth 4000
set_option linter.unusedVariables false
def cutP (x : XMessage) (tsn seq : Int) (n k : Nat) : XPiece := { rawP tsn (IntKind.u16.wrap x.Stream) (if x.Unordered then 0 else seq) x.Unordered x.Text n k with Begin := decide (k = 0), End := decide (k + 1 = cntX x.Text.length n) }
theorem cutX_eq (x : XMessage) (tsn seq : Int) (n : Nat) : cutX x tsn seq n = (List.range (cntX x.Text.length n)).map (cutP x tsn seq n) := rfl
theorem range_at (N k : Nat) : (List.range N)[k]? = if k < N then some k else none := by
  by_cases h : k < N
  · rw [if_pos h, List.getElem?_range h]
  · rw [if_neg h]; exact List.getElem?_eq_none (by simp; omega)
theorem cutX_at (x : XMessage) (tsn seq : Int) (n k : Nat) : (cutX x tsn seq n)[k]? = if k < cntX x.Text.length n then some (cutP x tsn seq n k) else none := by
  rw [cutX_eq, List.getElem?_map, range_at]
  split <;> rfl
theorem cnt_lt {len n k : Nat} (hn : 1 ≤ n) (h : k < cntX len n) : k * n < len := by
  unfold cntX at h
  have h1 : (k + 1) * n ≤ len + n - 1 := (Nat.le_div_iff_mul_le (by omega)).1 h
  rw [Nat.succ_mul] at h1
  omega
theorem cnt_ge {len n : Nat} (hn : 1 ≤ n) : len ≤ cntX len n * n := by
  unfold cntX
  have := Nat.lt_div_mul_add (a := len + n - 1) (b := n) (by omega)
  omega
theorem cnt_pos {len n : Nat} (hn : 1 ≤ n) (hl : 1 ≤ len) : 1 ≤ cntX len n := by
  unfold cntX
  exact (Nat.le_div_iff_mul_le (by omega)).2 (by omega)
theorem chunk_len {text : List Int} {n k : Nat} (hn : 1 ≤ n) (h : k < cntX text.length n) : 1 ≤ ((text.drop (k * n)).take n).length ∧ ((text.drop (k * n)).take n).length ≤ n := by
  have := cnt_lt hn h
  simp only [List.length_take, List.length_drop]
  omega
theorem chunks_text (text : List Int) (n k : Nat) : (List.range k).flatMap (fun i => (text.drop (i * n)).take n) = text.take (k * n) := by
  induction k with
  | zero => simp
  | succ k ih => rw [List.range_succ, List.flatMap_append, ih, Nat.succ_mul, List.take_add]; simp
theorem textX_cut (x : XMessage) (tsn seq : Int) {n : Nat} (hn : 1 ≤ n) : textX (cutX x tsn seq n) = x.Text := by
  rw [cutX_eq, textX, List.flatMap_map]
  have := chunks_text x.Text n (cntX x.Text.length n)
  rw [List.take_of_length_le (cnt_ge hn)] at this
  exact this
theorem joined_cut {x : XMessage} {tsn seq : Int} {n : Nat} (hn : 1 ≤ n) (hn2 : n ≤ 64) (hl : 1 ≤ x.Text.length) : joinedX (cutX x tsn seq n) = true := by
  have hlen := cutX_len x tsn seq n
  have hp := cnt_pos hn hl
  rw [joinedX_yes, hlen]
  · simp; omega
  · intro i hi
    rw [hlen] at hi
    have hc := chunk_len hn hi
    rw [joinedAt, cutX_at, if_pos hi, hlen]
    have e1 : (cutP x tsn seq n i).Text = (x.Text.drop (i * n)).take n := rfl
    have e2 : (cutP x tsn seq n i).Begin = decide (i = 0) := rfl
    have e3 : (cutP x tsn seq n i).End = decide (i + 1 = cntX x.Text.length n) := rfl
    dsimp only
    rw [e1, e2, e3]
    simp only [beq_self_eq_true, Bool.true_and, Bool.and_eq_true, decide_eq_true_eq, Bool.or_eq_true]
    refine ⟨by omega, ?_⟩
    by_cases h0 : i = 0
    · exact .inl h0
    · refine .inr ?_
      rw [cutX_at, if_pos (by omega)]
      simp only [followsX, Bool.and_eq_true, decide_eq_true_eq]
      refine ⟨?_, rfl, rfl, rfl⟩
      show stepT tsn i = stepT (stepT tsn ((i - 1 : Nat) : Int)) 1
      simp only [stepT, wrapU32]
      omega
theorem whole_cut {x : XMessage} {tsn seq : Int} {n : Nat} (hg : goodX x = true) (hn : 1 ≤ n) (hn2 : n ≤ 64) : wholeX (cutX x tsn seq n) = (x, 0) := by
  have hl := goodX_len hg
  have hp := cnt_pos hn hl.1
  have hst : 0 ≤ x.Stream ∧ x.Stream ≤ 7 := by
    simp only [goodX, Bool.and_eq_true, decide_eq_true_eq] at hg
    omega
  have e : whole0 (cutX x tsn seq n) = x := by
    have h0 : (cutX x tsn seq n)[0]? = some (cutP x tsn seq n 0) := by rw [cutX_at, if_pos (by omega)]
    have e2 : IntKind.i64.wrap (IntKind.u16.wrap x.Stream) = x.Stream := by
      have : IntKind.u16.wrap x.Stream = x.Stream := by
        simp [IntKind.wrap, IntKind.bits, IntKind.signed]; omega
      rw [this, wrap64 (by omega) (by omega)]
    rw [whole0, h0, textX_cut x tsn seq hn]
    exact ext_message e2 rfl rfl
  rw [wholeX, if_pos (joined_cut hn hn2 hl.1), e, if_pos hg]
end Go.Wf2

namespace Go.Wf2
open Go Go.Wf Go.Proofs
set_option maxRecDepth 4000
set_option linter.unusedVariables false
theorem nodup_filter {l : List Nat} (h : l.Nodup) (p : Nat → Bool) : (l.filter p).Nodup := h.sublist List.filter_sublist
theorem split_perm {l b : List Nat} (hl : l.Nodup) (hb : b.Nodup) (hs : ∀ x ∈ b, x ∈ l) : l.Perm (b ++ l.filter fun x => decide (x ∉ b)) := by
  refine (List.perm_ext_iff_of_nodup hl ?_).2 fun x => ?_
  · rw [List.nodup_append]
    refine ⟨hb, nodup_filter hl _, fun x hx y hy he => ?_⟩
    subst he
    have := (List.mem_filter.1 hy).2
    simp at this
    exact this hx
  · rw [List.mem_append, List.mem_filter]
    by_cases h : x ∈ b
    · exact ⟨fun _ => .inl h, fun _ => hs x h⟩
    · exact ⟨fun hx => .inr ⟨hx, by simpa using h⟩, fun hx => hx.elim (fun h' => absurd h' h) fun h' => h'.1⟩
theorem sum_split {l b : List Nat} (hl : l.Nodup) (hb : b.Nodup) (hs : ∀ x ∈ b, x ∈ l) (f : Nat → Nat) : (l.map f).sum = (b.map f).sum + ((l.filter fun x => decide (x ∉ b)).map f).sum := by
  rw [((split_perm hl hb hs).map f).sum_nat, List.map_append, List.sum_append]
theorem sum_le {l : List Nat} {N : Nat} (hl : l.Nodup) (h : ∀ x ∈ l, x < N) (f : Nat → Nat) : (l.map f).sum ≤ ((List.range N).map f).sum := by
  have := sum_split (l := List.range N) (b := l) List.nodup_range hl (fun x hx => List.mem_range.2 (h x hx)) f
  omega
theorem len_le {l : List Nat} {N : Nat} (hl : l.Nodup) (h : ∀ x ∈ l, x < N) : l.length ≤ N := by
  have h1 := sum_le hl h fun _ => 1
  have e : ∀ m : List Nat, (m.map fun _ => 1).sum = m.length := fun m => by induction m with
    | nil => rfl
    | cons x m ih => simp [ih]; omega
  rw [e, e, List.length_range] at h1
  exact h1
def lenK (Pf : Nat → XPiece) (k : Nat) : Nat := (Pf k).Text.length
theorem lensX_nat (Pf : Nat → XPiece) (l : List Nat) : lensX (l.map Pf) = ((l.map (lenK Pf)).sum : Nat) := by
  induction l with
  | nil => rfl
  | cons k l ih =>
    simp only [lensX, List.map_cons, List.sum_cons] at ih ⊢
    rw [ih]; simp [lenK]
section
variable {Pf : Nat → XPiece} {N : Nat} {msg lo cnt : Nat → Nat} {G : Nat} {t0 : Int}
theorem Grp.off (g : Grp Pf N msg lo cnt G t0) : ∀ (ks bs : List Nat), (∀ k ∈ ks, k < N) → (∀ k ∈ bs, k < N) → offX (ks.map Pf) (bs.map Pf) = (bs.filter fun x => decide (x ∉ ks)).map Pf
  | [], bs, _, _ => by
    rw [List.filter_eq_self.2 (by simp)]; rfl
  | k :: ks, bs, hk, hb => by
    have h1 : (bs.map Pf).filter (fun q => decide (q.TSN ≠ (Pf k).TSN)) = (bs.filter fun x => decide (x ≠ k)).map Pf := by
      rw [List.filter_map]
      congr 1
      refine List.filter_congr fun x hx => ?_
      simp only [Function.comp]
      rw [Bool.eq_iff_iff]
      simp only [decide_eq_true_eq]
      exact ⟨fun h e => h (by rw [e]), fun h e => h (g.inj (hb x hx) (hk k (by simp)) e)⟩
    have h2 : offX ((k :: ks).map Pf) (bs.map Pf) = offX (ks.map Pf) ((bs.map Pf).filter fun q => decide (q.TSN ≠ (Pf k).TSN)) := rfl
    rw [h2, h1, Grp.off g ks (bs.filter fun x => decide (x ≠ k)) (fun x hx => hk x (by simp [hx])) (fun x hx => hb x (List.mem_filter.1 hx).1), List.filter_filter]
    congr 1
    refine List.filter_congr fun x _ => ?_
    rw [Bool.eq_iff_iff]
    simp only [Bool.and_eq_true, decide_eq_true_eq, List.mem_cons, not_or]
    exact ⟨fun h => ⟨h.2, h.1⟩, fun h => ⟨h.2, h.1⟩⟩
theorem closed_run (Pf : Nat → XPiece) (a m : Nat) : closedX ((List.range' a (m + 1)).map Pf) = ((Pf a).Begin && (Pf (a + m)).End) := by
  unfold closedX
  have h0 : ((List.range' a (m + 1)).map Pf)[0]? = some (Pf a) := by simp [List.range'_succ]
  have h1 : ((List.range' a (m + 1)).map Pf)[((List.range' a (m + 1)).map Pf).length - 1]? = some (Pf (a + m)) := by
    simp only [List.length_map, List.length_range', Nat.add_sub_cancel, List.getElem?_map]
    rw [List.getElem?_range' (by omega)]
    simp
  rw [h0, h1]; rfl
/-- What the mixing holds. -/
def MI (Pf : Nat → XPiece) (N : Nat) (msg : Nat → Nat) (G : Nat) (s : MSt) : Prop :=
  ∃ rem bs : List Nat, rem.Nodup ∧ bs.Nodup ∧ (∀ k ∈ rem, k < N) ∧ (∀ k ∈ bs, k < N ∧ k ∉ rem) ∧ (∀ k, k < N → k ∉ rem → (k ∈ bs ↔ ∃ k' ∈ rem, msg k' = msg k)) ∧
    s.all = rem.map Pf ∧ s.of = rem.map (fun k => (msg k : Int)) ∧ s.left.length = G ∧ (∀ i, i < G → s.left[i]? = some ((rem.countP fun k => decide (msg k = i) : Nat) : Int)) ∧ s.bx = bs.map Pf ∧ s.held = ((bs.map (lenK Pf)).sum : Nat)
theorem MI.fin {s : MSt} (h : MI Pf N msg G s) (hs : s.all = []) : s.bx = [] ∧ s.held = 0 := by
  obtain ⟨rem, bs, h1, h2, h3, h4, h5, h6, h7, h8, h9, h10, h11⟩ := h
  have hr : rem = [] := by rw [hs] at h6; exact List.map_eq_nil_iff.1 h6.symm
  have hb : bs = [] := by
    apply List.eq_nil_iff_forall_not_mem.2
    intro k hk
    obtain ⟨k', hk', _⟩ := (h5 k (h4 k hk).1 (by rw [hr]; simp)).1 hk
    rw [hr] at hk'; simp at hk'
  subst hb
  exact ⟨h10, h11⟩
theorem Grp.few' (g : Grp Pf N msg lo cnt G t0) {s : MSt} (h : MI Pf N msg G s) : s.all.length ≤ 300 := by
  obtain ⟨rem, bs, h1, h2, h3, h4, h5, h6, h7, h8, h9, h10, h11⟩ := h
  rw [h6, List.length_map]
  exact Nat.le_trans (len_le h1 h3) g.few
/-- The groups are what messages are cut into. -/
def CutG (Pf : Nat → XPiece) (lo cnt : Nat → Nat) (G n : Nat) (M : List XMessage) : Prop :=
  M.length = G ∧ ∀ i, i < G → ∃ x tsn seq, M[i]? = some x ∧ goodX x = true ∧ cnt i = cntX x.Text.length n ∧ ∀ r, r < cnt i → Pf (lo i + r) = cutP x tsn seq n r
theorem Grp.step (g : Grp Pf N msg lo cnt G t0) {n : Nat} {M : List XMessage} (hn1 : 1 ≤ n) (hn2 : n ≤ 64) (hc : CutG Pf lo cnt G n M) (htot : ((List.range N).map (lenK Pf)).sum ≤ 2000) {s : MSt} (h : MI Pf N msg G s) {q : Nat} {p : XPiece} (hp : s.all[q]? = some p) :
    ∃ j v, MGo M s q j p v ∧ MI Pf N msg G (mNext s q j p v) := by
  have hfew := g.few' h
  obtain ⟨rem, bs, h1, h2, h3, h4, h5, h6, h7, h8, h9, h10, h11⟩ := h
  rw [h6, List.getElem?_map] at hp
  cases hk0 : rem[q]? with
  | none => rw [hk0] at hp; cases hp
  | some k0 =>
  rw [hk0] at hp
  obtain rfl : Pf k0 = p := Option.some.inj hp
  obtain ⟨hq, hqe⟩ := List.getElem?_eq_some_iff.1 hk0
  have hm0 : k0 ∈ rem := List.mem_of_getElem? hk0
  have hk0N := h3 k0 hm0
  have hsplit : rem = rem.take q ++ k0 :: rem.drop (q + 1) := by rw [← hqe, ← List.drop_eq_getElem_cons hq, List.take_append_drop]
  generalize hrem' : rem.take q ++ rem.drop (q + 1) = rem' at *
  have hmem : ∀ x, x ∈ rem ↔ x = k0 ∨ x ∈ rem' := fun x => by
    conv => lhs; rw [hsplit]
    rw [← hrem']
    simp only [List.mem_append, List.mem_cons]
    constructor
    · rintro (h | h | h)
      · exact .inr (.inl h)
      · exact .inl h
      · exact .inr (.inr h)
    · rintro (h | h | h)
      · exact .inr (.inl h)
      · exact .inl h
      · exact .inr (.inr h)
  have hnd : k0 ∉ rem' ∧ rem'.Nodup := by
    rw [hsplit] at h1
    rw [← hrem']
    rw [List.nodup_append] at h1 ⊢
    obtain ⟨n1, n2, n3⟩ := h1
    rw [List.nodup_cons] at n2
    refine ⟨fun hx => ?_, n1, n2.2, fun a ha b hb => n3 a ha b (by simp [hb])⟩
    rcases List.mem_append.1 hx with hx | hx
    · exact n3 k0 hx k0 (by simp) rfl
    · exact n2.1 hx
  have hcount : ∀ i, rem.countP (fun k => decide (msg k = i)) = rem'.countP (fun k => decide (msg k = i)) + if msg k0 = i then 1 else 0 := fun i => by
    conv => lhs; rw [hsplit]
    rw [← hrem']
    simp only [List.countP_append, List.countP_cons, decide_eq_true_eq]
    omega
  obtain ⟨hjG, hjlo, hjhi⟩ := g.inn k0 hk0N
  have hb0 : k0 ∉ bs := fun hx => (h4 k0 hx).2 hm0
  have hb1 : (bs ++ [k0]).Nodup := by
    rw [List.nodup_append]
    exact ⟨h2, by simp, fun a ha b hb he => by simp at hb; subst hb; subst he; exact hb0 ha⟩
  have hbN : ∀ k ∈ bs ++ [k0], k < N := fun k hk => by
    rcases List.mem_append.1 hk with hk | hk
    · exact (h4 k hk).1
    · simp at hk; rw [hk]; exact hk0N
  have hbs1 : s.bx ++ [Pf k0] = (bs ++ [k0]).map Pf := by rw [h10]; simp
  have hsum1 : ((bs ++ [k0]).map (lenK Pf)).sum = (bs.map (lenK Pf)).sum + (Pf k0).Text.length := by simp [lenK]
  have hle1 := sum_le hb1 hbN (lenK Pf)
  obtain ⟨ht1, ht2⟩ := g.txt k0 hk0N
  have hfind : findX s.bx (Pf k0).TSN = none := by rw [h10, g.find (fun k hk => (h4 k hk).1) hk0N, if_neg hb0]
  have hmay : mayX (Pf k0).Text.length (Pf k0).Stream (findX s.bx (Pf k0).TSN).isSome s.held = 0 := by
    rw [hfind, mayX, if_neg (by have := g.str k0 hk0N; omega), if_neg (by simp), if_neg (by omega)]
  obtain ⟨a, e, a1, a2, a3, a4, hpart, a5, a6, a7⟩ := g.part hbN hk0N (by simp)
  rw [← hbs1] at hpart
  have hga := g.same hk0N (t := a) a1 (by omega)
  have hge := g.same hk0N (t := e) (by omega) a4
  have hclosed : closedX (partX (s.bx ++ [Pf k0]) (Pf k0)) = (decide (a = lo (msg k0)) && decide (e + 1 = lo (msg k0) + cnt (msg k0))) := by
    rw [hpart, show e + 1 - a = (e - a) + 1 by omega, closed_run, show a + (e - a) = e by omega, g.beg a hga.1, g.fin e hge.1, hga.2, hge.2]
  have hlast : (decide (a = lo (msg k0)) && decide (e + 1 = lo (msg k0) + cnt (msg k0))) = decide (rem'.countP (fun k => decide (msg k = msg k0)) = 0) := by
    rw [Bool.eq_iff_iff]
    simp only [Bool.and_eq_true, decide_eq_true_eq]
    constructor
    · rintro ⟨b1, b2⟩
      rw [List.countP_eq_zero]
      intro k' hk' hmk
      have hmk : msg k' = msg k0 := by simpa using hmk
      have hk'r : k' ∈ rem := (hmem k').2 (.inr hk')
      have hin := g.inn k' (h3 k' hk'r)
      rw [hmk] at hin
      have := a5 k' (by omega) (by omega)
      rcases List.mem_append.1 this with hx | hx
      · exact (h4 k' hx).2 hk'r
      · simp at hx; subst hx; exact hnd.1 hk'
    · intro hz
      rw [List.countP_eq_zero] at hz
      have hall : ∀ t, lo (msg k0) ≤ t → t < lo (msg k0) + cnt (msg k0) → t ∈ bs ++ [k0] := fun t b1 b2 => by
        have hs := g.same hk0N b1 b2
        by_cases ht : t = k0
        · simp [ht]
        · have htr : t ∉ rem := fun hx => by
            rcases (hmem t).1 hx with hx | hx
            · exact ht hx
            · exact hz t hx (by simpa using hs.2)
          exact List.mem_append.2 (.inl ((h5 t hs.1 htr).2 ⟨k0, hm0, hs.2.symm⟩))
      constructor
      · rcases a6 with h | h
        · exact h
        · by_cases ha : a = lo (msg k0)
          · exact ha
          · exact absurd (hall (a - 1) (by omega) (by omega)) h
      · rcases a7 with h | h
        · exact h
        · by_cases he : e + 1 = lo (msg k0) + cnt (msg k0)
          · exact he
          · exact absurd (hall (e + 1) (by omega) (by omega)) h
  have hv := h9 (msg k0) hjG
  have hcv := hcount (msg k0)
  rw [if_pos rfl] at hcv
  have hrl := len_le h1 h3
  have hcl := List.countP_le_length (p := fun k => decide (msg k = msg k0)) (l := rem)
  have hN := g.few
  have hbl : bs.length ≤ N := len_le h2 fun k hk => (h4 k hk).1
  obtain ⟨x, tsn, seq, hMx, hgx, hcx, hPx⟩ := hc.2 (msg k0) hjG
  have hok0 : decide ((((rem.countP fun k => decide (msg k = msg k0) : Nat) : Int)) - 1 = 0) = decide (rem'.countP (fun k => decide (msg k = msg k0)) = 0) := by
    rw [Bool.eq_iff_iff]; simp only [decide_eq_true_eq]; omega
  -- what Put answers
  have hput : ∃ bs' : List Nat, (mPut s (Pf k0)).err = 0 ∧ (mPut s (Pf k0)).ok = decide (rem'.countP (fun k => decide (msg k = msg k0)) = 0) ∧ ((mPut s (Pf k0)).ok = true → M[msg k0]? = some (mPut s (Pf k0)).m) ∧ (mPut s (Pf k0)).xs = bs'.map Pf ∧ (mPut s (Pf k0)).held = ((bs'.map (lenK Pf)).sum : Nat) ∧
      bs'.Nodup ∧ (∀ k, k ∈ bs' ↔ k ∈ bs ++ [k0] ∧ (rem'.countP (fun k => decide (msg k = msg k0)) = 0 → msg k ≠ msg k0)) := by
    unfold mPut putX
    rw [if_neg (by rw [hmay]; simp), hclosed, hlast]
    by_cases hz : rem'.countP (fun k => decide (msg k = msg k0)) = 0
    · rw [if_neg (by simp [hz])]
      have hae : a = lo (msg k0) ∧ e + 1 = lo (msg k0) + cnt (msg k0) := by
        have := hlast
        rw [decide_eq_true hz] at this
        simpa using this
      have hcut : partX (s.bx ++ [Pf k0]) (Pf k0) = cutX x tsn seq n := by
        rw [hpart, hae.1, show e + 1 - lo (msg k0) = cnt (msg k0) by omega, cutX_eq, ← hcx]
        apply List.ext_getElem?
        intro i
        rw [List.getElem?_map, List.getElem?_map, range_at]
        by_cases hi : i < cnt (msg k0)
        · rw [if_pos hi, List.getElem?_range' hi]
          simp only [Option.map_some, Nat.one_mul]
          rw [hPx i hi]
        · rw [if_neg hi, List.getElem?_eq_none (by simp; omega)]; rfl
      have hw := whole_cut (tsn := tsn) (seq := seq) hgx hn1 hn2
      rw [hcut, hw, if_neg (by simp)]
      rw [← hcut, hpart, hbs1, hae.1, show e + 1 - lo (msg k0) = cnt (msg k0) by omega, g.off _ _ (fun k hk => by
        rw [List.mem_range'_1] at hk
        exact (g.same hk0N hk.1 hk.2).1) hbN]
      have hrn : (List.range' (lo (msg k0)) (cnt (msg k0))).Nodup := List.nodup_range'
      have hsub : ∀ k ∈ List.range' (lo (msg k0)) (cnt (msg k0)), k ∈ bs ++ [k0] := fun k hk => by
        rw [List.mem_range'_1] at hk
        exact a5 k (by omega) (by omega)
      have hss := sum_split hb1 hrn hsub (lenK Pf)
      refine ⟨(bs ++ [k0]).filter fun k => decide (k ∉ List.range' (lo (msg k0)) (cnt (msg k0))), rfl, by simp [hz], fun _ => hMx, rfl, ?_, nodup_filter hb1 _, fun k => ?_⟩
      · rw [lensX_nat, h11]
        dsimp only
        omega
      · rw [List.mem_filter]
        constructor
        · rintro ⟨b1, b2⟩
          refine ⟨b1, fun _ hmk => ?_⟩
          have hin := g.inn k (hbN k b1)
          rw [hmk] at hin
          simp only [List.mem_range'_1, decide_eq_true_eq] at b2
          omega
        · rintro ⟨b1, b2⟩
          refine ⟨b1, decide_eq_true fun hk => b2 hz ?_⟩
          rw [List.mem_range'_1] at hk
          exact (g.same hk0N hk.1 hk.2).2
    · rw [if_pos (by simp [hz])]
      exact ⟨bs ++ [k0], rfl, by simp [hz], fun h => by simp at h, hbs1, by simp only [h11, hsum1]; push_cast; rfl, hb1, fun k => ⟨fun hk => ⟨hk, fun h => absurd h hz⟩, fun hk => hk.1⟩⟩
  obtain ⟨bs', p1, p2, p3, p4, p5, p6, p7⟩ := hput
  refine ⟨msg k0, _, ⟨by rw [h6, List.getElem?_map, hk0]; rfl, by rw [h7, List.getElem?_map, hk0]; rfl, hv, by rw [hc.1]; exact hjG, by rw [h6, h7]; simp, hfew, by omega, by rw [h10]; simp; omega, fun i y hy => ?_, by omega, by omega, p1, by rw [p2, hok0], p3⟩, ?_⟩
  · rw [h10, List.getElem?_map] at hy
    cases hbi : bs[i]? with
    | none => rw [hbi] at hy; cases hy
    | some k =>
      rw [hbi] at hy; cases hy
      exact (g.txt k (h4 k (List.mem_of_getElem? hbi)).1).2
  · refine ⟨rem', bs', hnd.2, p6, fun k hk => h3 k ((hmem k).2 (.inr hk)), fun k hk => ?_, fun k hkN hkr => ?_, ?_, ?_, by simp [mNext, h8], fun i hi => ?_, p4, p5⟩
    · obtain ⟨b1, _⟩ := (p7 k).1 hk
      refine ⟨hbN k b1, fun hx => ?_⟩
      rcases List.mem_append.1 b1 with b1 | b1
      · exact (h4 k b1).2 ((hmem k).2 (.inr hx))
      · simp at b1; subst b1; exact hnd.1 hx
    · rw [p7]
      by_cases hkk : k = k0
      · subst hkk
        constructor
        · rintro ⟨_, b2⟩
          by_cases hz : rem'.countP (fun k' => decide (msg k' = msg k)) = 0
          · exact absurd rfl (b2 hz)
          · obtain ⟨k', hk', he⟩ := List.countP_pos_iff.1 (Nat.pos_of_ne_zero hz)
            exact ⟨k', hk', by simpa using he⟩
        · rintro ⟨k', hk', he⟩
          refine ⟨by simp, fun hz => ?_⟩
          rw [List.countP_eq_zero] at hz
          exact absurd (by simpa using he) (hz k' hk')
      · have hkr' : k ∉ rem := fun hx => by
          rcases (hmem k).1 hx with hx | hx
          · exact hkk hx
          · exact hkr hx
        have h5' := h5 k hkN hkr'
        constructor
        · rintro ⟨b1, b2⟩
          have b1 : k ∈ bs := by
            rcases List.mem_append.1 b1 with b1 | b1
            · exact b1
            · simp at b1; exact absurd b1 hkk
          obtain ⟨k', hk', he⟩ := h5'.1 b1
          rcases (hmem k').1 hk' with hx | hx
          · subst hx
            by_cases hz : rem'.countP (fun k'' => decide (msg k'' = msg k')) = 0
            · exact absurd he.symm (b2 hz)
            · obtain ⟨k'', hk'', he'⟩ := List.countP_pos_iff.1 (Nat.pos_of_ne_zero hz)
              exact ⟨k'', hk'', by rw [← he]; simpa using he'⟩
          · exact ⟨k', hx, he⟩
        · rintro ⟨k', hk', he⟩
          refine ⟨List.mem_append.2 (.inl (h5'.2 ⟨k', (hmem k').2 (.inr hk'), he⟩)), fun hz hmk => ?_⟩
          rw [List.countP_eq_zero] at hz
          exact hz k' hk' (by simpa using he.trans hmk)
    · show s.all.take q ++ s.all.drop (q + 1) = rem'.map Pf
      rw [h6, ← hrem', List.map_append, List.map_take, List.map_drop]
    · show s.of.take q ++ s.of.drop (q + 1) = _
      rw [h7, ← hrem', List.map_append, List.map_take, List.map_drop]
    · show (s.left.set (msg k0) _)[i]? = _
      rw [List.getElem?_set]
      by_cases hi' : msg k0 = i
      · subst hi'
        rw [if_pos rfl, if_pos (by omega)]
        congr 1
        omega
      · rw [if_neg hi', h9 i hi]
        have := hcount i
        rw [if_neg hi'] at this
        rw [this]; rfl
end
end Go.Wf2

namespace Go.Wf2
open Go Go.Wf Go.Proofs
set_option maxRecDepth 4000
set_option linter.unusedVariables false
theorem lensX_app (a b : List XPiece) : lensX (a ++ b) = lensX a + lensX b := by simp [lensX]
theorem lensX_text (a : List XPiece) : lensX a = ((textX a).length : Int) := by
  induction a with
  | nil => rfl
  | cons x a ih =>
    simp only [lensX, textX, List.map_cons, List.sum_cons, List.flatMap_cons, List.length_append] at ih ⊢
    rw [ih]; push_cast; rfl
structure CInv (n : Nat) (t0 : Int) (xs : List XMessage) (st : CSt) (lo cnt : Nat → Nat) : Prop where
  ll : st.left.length = xs.length
  ol : st.of.length = st.all.length
  tsn : st.tsn % 4294967296 = (t0 + st.all.length) % 4294967296
  tot : st.total = lensX st.all
  grp : ∀ i, i < xs.length → ∃ x tsn seq, xs[i]? = some x ∧ cnt i = cntX x.Text.length n ∧ st.left[i]? = some (cnt i : Int) ∧ lo i + cnt i ≤ st.all.length ∧ tsn % 4294967296 = (t0 + lo i) % 4294967296 ∧
    ∀ r, r < cnt i → st.all[lo i + r]? = some (cutP x tsn seq n r) ∧ st.of[lo i + r]? = some (i : Int)
  all : ∀ k, k < st.all.length → ∃ i, i < xs.length ∧ lo i ≤ k ∧ k < lo i + cnt i
theorem CInv.snoc {n : Nat} {t0 : Int} {xs : List XMessage} {st : CSt} {lo cnt : Nat → Nat} (hn : 1 ≤ n) (h : CInv n t0 xs st lo cnt) (x : XMessage) :
    CInv n t0 (xs ++ [x]) (cNext n st x) (fun i => if i < xs.length then lo i else st.all.length) (fun i => if i < xs.length then cnt i else cntX x.Text.length n) where
  ll := by simp [cNext, h.ll]
  ol := by simp [cNext, h.ol]
  tsn := by
    have := h.tsn
    simp only [cNext, wrapU32, List.length_append]
    push_cast
    omega
  tot := by
    simp only [cNext, lensX_app, h.tot]
    rw [lensX_text (cutX x st.tsn st.seq n), textX_cut x _ _ hn]
  grp := fun i hi => by
    by_cases hlt : i < xs.length
    · obtain ⟨y, tsn, seq, g1, g2, g3, g4, g5, g6⟩ := h.grp i hlt
      simp only [hlt, if_true]
      refine ⟨y, tsn, seq, by rw [List.getElem?_append_left hlt]; exact g1, g2, ?_, ?_, g5, fun r hr => ?_⟩
      · simp only [cNext]; rw [List.getElem?_append_left (by rw [h.ll]; exact hlt)]; exact g3
      · simp only [cNext, List.length_append]; omega
      · obtain ⟨k1, k2⟩ := g6 r hr
        simp only [cNext]
        rw [List.getElem?_append_left (by omega), List.getElem?_append_left (by rw [h.ol]; omega)]
        exact ⟨k1, k2⟩
    · have hie : i = xs.length := by simp at hi; omega
      subst hie
      simp only [Nat.lt_irrefl, if_false]
      refine ⟨x, st.tsn, st.seq, by simp, rfl, ?_, ?_, h.tsn, fun r hr => ?_⟩
      · simp only [cNext, cutX_len]
        rw [← h.ll]; simp
      · simp [cNext, cutX_len]
      · simp only [cNext]
        rw [List.getElem?_append_right (by omega), Nat.add_sub_cancel_left, cutX_at, if_pos hr, List.getElem?_append_right (by rw [h.ol]; omega), h.ol, Nat.add_sub_cancel_left, List.getElem?_replicate, cutX_len, if_pos hr, h.ll]
        exact ⟨rfl, rfl⟩
  all := fun k hk => by
    by_cases hlt : k < st.all.length
    · obtain ⟨i, h1, h2, h3⟩ := h.all k hlt
      exact ⟨i, by simp; omega, by simpa [h1] using h2, by simpa [h1] using h3⟩
    · simp only [cNext, List.length_append, cutX_len] at hk
      exact ⟨xs.length, by simp, by simp; omega, by simp; omega⟩
theorem CInv.run {n : Nat} {t0 seq0 : Int} (hn : 1 ≤ n) : ∀ (m : Nat) (xs : List XMessage), xs.length = m → ∃ lo cnt, CInv n t0 xs (cRun n ⟨[], [], [], 0, t0, seq0⟩ xs) lo cnt
  | 0, xs, h => by
    have : xs = [] := List.eq_nil_of_length_eq_zero h
    subst this
    exact ⟨fun _ => 0, fun _ => 0, rfl, rfl, by simp [cRun], rfl, fun i hi => by simp at hi, fun k hk => by simp [cRun] at hk⟩
  | m + 1, xs, h => by
    have hne : xs ≠ [] := by intro e; rw [e] at h; simp at h
    obtain ⟨lo, cnt, hI⟩ := CInv.run (t0 := t0) (seq0 := seq0) hn m xs.dropLast (by simp; omega)
    have := hI.snoc hn (xs.getLast hne)
    rw [← cRun_snoc, List.dropLast_concat_getLast] at this
    exact ⟨_, _, this⟩
theorem mixes_ok {n : Nat} {t0 seq0 : Int} {xs : List XMessage} (hn : 1 ≤ n) (hn2 : n ≤ 64) (hg : ∀ (i : Nat) x, xs[i]? = some x → goodX x = true) :
    (cRun n ⟨[], [], [], 0, t0, seq0⟩ xs).total ≤ 2000 → (cRun n ⟨[], [], [], 0, t0, seq0⟩ xs).all.length ≤ 300 → ∃ MI', MOk xs (cRun n ⟨[], [], [], 0, t0, seq0⟩ xs) MI' := by
  obtain ⟨lo, cnt, h⟩ := CInv.run (t0 := t0) (seq0 := seq0) hn xs.length xs rfl
  generalize cRun n ⟨[], [], [], 0, t0, seq0⟩ xs = st at h ⊢
  intro htot hfew
  let Pf : Nat → XPiece := fun k => (st.all[k]?).getD dP
  let msg : Nat → Nat := fun k => ((st.of[k]?).getD 0).toNat
  have key : ∀ i r, i < xs.length → r < cnt i → lo i + r < st.all.length ∧ msg (lo i + r) = i ∧ ∃ x tsn seq, xs[i]? = some x ∧ goodX x = true ∧ cnt i = cntX x.Text.length n ∧ tsn % 4294967296 = (t0 + lo i) % 4294967296 ∧ Pf (lo i + r) = cutP x tsn seq n r := fun i r hi hr => by
    obtain ⟨x, tsn, seq, g1, g2, g3, g4, g5, g6⟩ := h.grp i hi
    obtain ⟨k1, k2⟩ := g6 r hr
    refine ⟨by omega, ?_, x, tsn, seq, g1, hg i x g1, g2, g5, ?_⟩
    · show ((st.of[lo i + r]?).getD 0).toNat = i
      rw [k2]; simp
    · show (st.all[lo i + r]?).getD dP = _
      rw [k1]; rfl
  have at' : ∀ k, k < st.all.length → msg k < xs.length ∧ lo (msg k) ≤ k ∧ k < lo (msg k) + cnt (msg k) ∧ ∃ x tsn seq, goodX x = true ∧ cnt (msg k) = cntX x.Text.length n ∧ tsn % 4294967296 = (t0 + lo (msg k)) % 4294967296 ∧ Pf k = cutP x tsn seq n (k - lo (msg k)) := fun k hk => by
    obtain ⟨i, h1, h2, h3⟩ := h.all k hk
    obtain ⟨a1, a2, x, tsn, seq, a3, a4, a5, a6, a7⟩ := key i (k - lo i) h1 (by omega)
    rw [show lo i + (k - lo i) = k by omega] at a2 a7
    rw [a2]
    exact ⟨h1, h2, h3, x, tsn, seq, a4, a5, a6, a7⟩
  have G : Grp Pf st.all.length msg lo cnt xs.length t0 := by
    refine ⟨hfew, fun k hk => ?_, fun k hk => ?_, fun i r hi hr => ?_, fun i hi => ?_, fun k hk => ?_, fun k hk => ?_, fun k hk => ?_, fun k hk => ?_⟩
    · obtain ⟨a1, a2, a3, x, tsn, seq, a4, a5, a6, a7⟩ := at' k hk
      rw [a7]
      show stepT tsn ((k - lo (msg k) : Nat) : Int) = _
      rw [stepT, wrapU32, wrapU32]
      omega
    · obtain ⟨a1, a2, a3, _⟩ := at' k hk
      exact ⟨a1, a2, a3⟩
    · obtain ⟨a1, a2, _⟩ := key i r hi hr
      exact ⟨a1, a2⟩
    · obtain ⟨x, tsn, seq, g1, g2, _⟩ := h.grp i hi
      rw [g2]
      exact cnt_pos hn (goodX_len (hg i x g1)).1
    · obtain ⟨a1, a2, a3, x, tsn, seq, a4, a5, a6, a7⟩ := at' k hk
      rw [a7]
      show decide (k - lo (msg k) = 0) = _
      rw [Bool.eq_iff_iff]; simp only [decide_eq_true_eq]; omega
    · obtain ⟨a1, a2, a3, x, tsn, seq, a4, a5, a6, a7⟩ := at' k hk
      rw [a7]
      show decide (k - lo (msg k) + 1 = cntX x.Text.length n) = _
      rw [← a5, Bool.eq_iff_iff]; simp only [decide_eq_true_eq]; omega
    · obtain ⟨a1, a2, a3, x, tsn, seq, a4, a5, a6, a7⟩ := at' k hk
      rw [a7]
      have := chunk_len (text := x.Text) hn (k := k - lo (msg k)) (by omega)
      exact ⟨this.1, Nat.le_trans this.2 hn2⟩
    · obtain ⟨a1, a2, a3, x, tsn, seq, a4, a5, a6, a7⟩ := at' k hk
      rw [a7]
      show IntKind.u16.wrap x.Stream < 8
      simp only [goodX, Bool.and_eq_true, decide_eq_true_eq] at a4
      simp [IntKind.wrap, IntKind.bits, IntKind.signed]; omega
  have hCut : CutG Pf lo cnt xs.length n xs := by
    refine ⟨rfl, fun i hi => ?_⟩
    obtain ⟨x, tsn, seq, g1, g2, g3, g4, g5, g6⟩ := h.grp i hi
    refine ⟨x, tsn, seq, g1, hg i x g1, g2, fun r hr => ?_⟩
    show (st.all[lo i + r]?).getD dP = _
    rw [(g6 r hr).1]; rfl
  have hall : st.all = (List.range st.all.length).map Pf := by
    apply List.ext_getElem?
    intro k
    rw [List.getElem?_map, range_at]
    by_cases hk : k < st.all.length
    · rw [if_pos hk]
      show _ = some ((st.all[k]?).getD dP)
      rw [List.getElem?_eq_getElem hk]; rfl
    · rw [if_neg hk, List.getElem?_eq_none (by omega)]; rfl
  have hof : st.of = (List.range st.all.length).map fun k => (msg k : Int) := by
    apply List.ext_getElem?
    intro k
    rw [List.getElem?_map, range_at]
    by_cases hk : k < st.all.length
    · rw [if_pos hk]
      obtain ⟨i, h1, h2, h3⟩ := h.all k hk
      obtain ⟨x, tsn, seq, g1, g2, g3, g4, g5, g6⟩ := h.grp i h1
      have := (g6 (k - lo i) (by omega)).2
      rw [show lo i + (k - lo i) = k by omega] at this
      show _ = some ((((st.of[k]?).getD 0).toNat : Nat) : Int)
      rw [this]; simp
    · rw [if_neg hk, List.getElem?_eq_none (by rw [h.ol]; omega)]; rfl
  have hsum : ((List.range st.all.length).map (lenK Pf)).sum ≤ 2000 := by
    have h1 := lensX_nat Pf (List.range st.all.length)
    rw [← hall, ← h.tot] at h1
    omega
  refine ⟨MI Pf st.all.length msg xs.length, ⟨fun _ _ => ?_, fun s hs q p hp => G.step hn hn2 hCut hsum hs hp, fun s hs => MI.fin hs, fun s hs => G.few' hs⟩⟩
  refine ⟨List.range st.all.length, [], List.nodup_range, by simp, fun k hk => List.mem_range.1 hk, fun k hk => by simp at hk, fun k hk hkr => absurd (List.mem_range.2 hk) hkr, hall, hof, h.ll, fun i hi => ?_, rfl, rfl⟩
  obtain ⟨x, tsn, seq, g1, g2, g3, g4, g5, g6⟩ := h.grp i hi
  show st.left[i]? = _
  rw [g3]
  congr 2
  rw [List.countP_eq_length_filter]
  have hp : ((List.range st.all.length).filter fun k => decide (msg k = i)).Perm (List.range' (lo i) (cnt i)) := by
    refine (List.perm_ext_iff_of_nodup (nodup_filter List.nodup_range _) List.nodup_range').2 fun k => ?_
    rw [List.mem_filter, List.mem_range, List.mem_range'_1]
    constructor
    · rintro ⟨h1, h2⟩
      have h2 : msg k = i := by simpa using h2
      have := G.inn k h1
      rw [h2] at this
      exact this.2
    · rintro ⟨h1, h2⟩
      obtain ⟨a1, a2, _⟩ := key i (k - lo i) hi (by omega)
      rw [show lo i + (k - lo i) = k by omega] at a1 a2
      exact ⟨a1, by simpa using a2⟩
  rw [hp.length_eq, List.length_range']
end Go.Wf2
namespace Go.Wf2
open Go Go.Wf Go.Proofs
set_option maxRecDepth 4000
theorem mixes_all {x1 : GMix} {w : World} {SL SO : Nat → Prop} {gms : List GMessage} {xms : List XMessage} {os : List Int} (hL : SlT ti54 w SL x1.List gms) (hMc : McR w gms xms) (hO : SlT ti3 w SO x1.Order os) (hok : msgsOk xms) (hbig : gms.length ≤ 4611686018427387904) :
    C_weftlinelaw20_ReasmMixes x1 w (Val w true) := by
  have : ∃ MI : MSt → Prop, xms.length ≤ 8 → (∀ (i : Nat) x, xms[i]? = some x → cutE x x1.Start.Size = 0) → MOk xms (cRun x1.Start.Size.toNat ⟨[], [], [], 0, x1.Start.TSN, x1.Start.Seq⟩ xms) MI := by
    by_cases hc : (∀ (i : Nat) x, xms[i]? = some x → cutE x x1.Start.Size = 0) ∧ (cRun x1.Start.Size.toNat ⟨[], [], [], 0, x1.Start.TSN, x1.Start.Seq⟩ xms).total ≤ 2000 ∧ (cRun x1.Start.Size.toNat ⟨[], [], [], 0, x1.Start.TSN, x1.Start.Seq⟩ xms).all.length ≤ 300
    · obtain ⟨h1, h2, h3⟩ := hc
      cases hx : xms with
      | nil =>
        refine ⟨fun s => s.all = [] ∧ s.bx = [] ∧ s.held = 0, fun _ _ => ⟨fun _ _ => ⟨rfl, rfl, rfl⟩, fun s hs n p hp => ?_, fun s hs _ => hs.2, fun s hs => by rw [hs.1]; simp⟩⟩
        rw [hs.1] at hp; simp at hp
      | cons x xs =>
        have h0 := h1 0 x (by rw [hx]; rfl)
        obtain ⟨_, hs1, hs2⟩ := cutE_zero h0
        rw [hx] at h1 h2 h3
        obtain ⟨MI', h⟩ := mixes_ok (n := x1.Start.Size.toNat) (t0 := x1.Start.TSN) (seq0 := x1.Start.Seq) (xs := x :: xs) (by omega) (by omega) (fun i y hy => (cutE_zero (h1 i y hy)).1) h2 h3
        exact ⟨MI', fun _ _ => h⟩
    · refine ⟨fun _ => False, fun h8 hcut => ⟨fun h1 h2 => hc ⟨hcut, h1, h2⟩, fun s hs => hs.elim, fun s hs => hs.elim, fun s hs => hs.elim⟩⟩
  obtain ⟨MI', hM⟩ := this
  exact mixes_spec hL hMc hO hok hbig hM
end Go.Wf2
