/- A part of the proof: lemmas; nothing is claimed here. -/
import Derived.Test.YtkeecncgfhgnpaaWS5
import Derived.Lib.AppendZeros
import Derived.Test.YtkeecncgfhgnpaaWEn0
set_option linter.all false
namespace Go.Wf
open Go Go.RowKit
theorem run_cap {P : Program} {t el ty : Nat} (ht : P.underlying t = some (.slice el)) (a : Option Addr) (n c : Nat) (w : World) : (Builtin.cap_ #[t] ty #[.slice a n c]).run P w = .ok (.int .i64 c) w := by
  simp [Builtin.cap_, run_underlying ht, Result.andThen, goInt]
end Go.Wf
namespace Go.Wf2
open Go Go.Wf Go.Proofs
set_option linter.unusedVariables false
set_option linter.deprecated false
set_option maxRecDepth 4000
theorem u27 : Try.prog.underlying 27 = some (.slice 22) := by kernel_rfl
theorem u3 : Try.prog.underlying 3 = some (.int .i64) := by kernel_rfl
theorem adF_of {w : World} {S : Nat → Prop} {s : Sl} {l : List Int} (h : rAddrs.R w S s l) : (AdF s l).F w :=
  ⟨by rw [flat_len cI_len]; rw [h.1], h.2.1, SlT.in (show SlT ti22 w S s l from h)⟩
theorem grow_nil {w : World} {n : Int} (h0 : 0 ≤ n) (h1 : n ≤ 1000000000) : C_slices_Grow_Addr ⟨none, 0, 0⟩ n w (Made w (fun r _ => RowT ti22 22 1 r []) (fun _ => True)) := by
  refine E_slices_Grow_Addr _ _ _ _ ?_
  refine ifK.mk (fun hc => absurd (of_decide_eq_true hc) (by omega)) (fun _ => ?_)
  refine runT.of (run_cap u27 _ _ _ _) rfl ?_
  have e1 : IntKind.i64.wrap (((0 : Nat) : Int) - ((0 : Nat) : Int)) = 0 := by rw [wrap64 (by omega) (by omega)]; rfl
  have e2 : IntKind.i64.wrap (n - IntKind.i64.wrap (((0 : Nat) : Int) - ((0 : Nat) : Int))) = n := by rw [e1, wrap64 (by omega) (by omega)]; omega
  show ifK (decide (IntKind.i64.wrap (n - IntKind.i64.wrap (((0 : Nat) : Int) - ((0 : Nat) : Int))) > 0)) _ _
  refine ifK.mk (fun hc => ?_) (fun hc => ?_)
  · rw [e2] at hc
    have hc := of_decide_eq_true hc
    refine runT.of (run_cap u27 _ _ _ _) rfl ?_
    refine runT.to el27 (fun s => s) (fun _ => rfl) (by decide) (by decide) ?_
    rw [e2]
    obtain ⟨inf, zv, g1, g2, g3, g4, g5⟩ := el27.info
    obtain ⟨m, rfl⟩ := Int.eq_ofNat_of_zero_le h0
    have hr := Go.Lib.run_append_nil_zeros w 27 3 27 22 inf zv .i64 .i64 u27 u3 g1 g2 m (by omega) (by omega) (by omega) (by rw [g4]; omega)
    refine runT.of hr (I := ti27) (p := ⟨some ⟨w.heap.size, 0, none⟩, m, grownCap w m 0 22⟩) rfl ?_
    refine runT.to el27 (fun s => s) (fun _ => rfl) (by simp) (by simp) ?_
    have hcap : m ≤ grownCap w m 0 22 := grownCap_ge w m 0 22
    have hmax := grownCap_le_maxLen w m 0 22 (by unfold maxLen; omega)
    refine ⟨⟨rfl, rfl, rfl, by simp, fun k hk _ => heap_alloc_old w.drew _ k hk⟩, ?_, ?_, trivial⟩
    · refine ⟨rfl, .inr ⟨w.heap.size, _, _, rfl, Nat.zero_le _, heap_alloc_new w.drew _, Nat.zero_le _, hmax, ?_, by simp⟩⟩
      simp only [Array.size_append, size_zeroCells, g5]
      omega
    · rintro k ⟨a, ha, rfl⟩
      cases ha
      exact ⟨Nat.le_refl _, by simp⟩
  · rw [e2] at hc
    exact ⟨Step.refl _ _, ⟨by simp, .inl ⟨rfl, rfl⟩⟩, fun k hk => (by obtain ⟨a, ha, _⟩ := hk; cases ha), trivial⟩
def rLists : Rdr Sl (List (List Int)) := Rdr.sl ok27 rAddrs
def lenSum (l : List (List Int)) : Nat := (l.map List.length).sum
theorem lenSum_snoc (l : List (List Int)) (x : List Int) : lenSum (l ++ [x]) = lenSum l + x.length := by simp [lenSum]
theorem lenSum_flat (l : List (List Int)) : l.flatten.length = lenSum l := by simp [lenSum, List.length_flatten]
theorem lenSum_le {m : Nat} : ∀ {l : List (List Int)} (_ : ∀ (i : Nat) xs, l[i]? = some xs → xs.length ≤ m), lenSum l ≤ l.length * m
  | [], _ => by simp [lenSum]
  | x :: l, h => by
    have h1 := h 0 x rfl
    have h2 := lenSum_le (l := l) fun i xs hi => h (i + 1) xs (by simpa using hi)
    simp only [lenSum, List.map_cons, List.sum_cons, List.length_cons, Nat.succ_mul] at *
    omega
theorem concat_spec {s : Sl} {w : World} {S : Nat → Prop} {xss : List (List Int)} (hx : rLists.R w S s xss) (h1 : xss.length ≤ 10) (h2 : ∀ (i : Nat) xs, xss[i]? = some xs → xs.length ≤ 10000000) : C_slices_Concat_Addr s w (Made w (fun r N => rAddrs.ent N r xss.flatten) (fun _ => True)) := by
  refine E_slices_Concat_Addr _ _ _ ?_
  obtain ⟨gs, g1, g2⟩ := hx
  have hlen := g2.len
  have hgn := g1.len
  have H := Own.start none_ w
  refine RInv.loop (n := gs.length) (I := fun i (a : Int) w' => 0 ≤ a ∧ a ≤ i * 10000000 ∧ a = lenSum (xss.take i) ∧ Go.Wf.Own none_ w w' []) (⟨by simp, by simp, rfl, H⟩) ?_
  rintro i a w1 hi hI d
  obtain ⟨a0, a1, a2, H⟩ := hI
  dsimp only
  refine ifK.mk (fun hc1 => ?_) (fun hc1 => ?_)
  · skip
    have hc1 := of_decide_eq_true hc1
    refine SlT.getN ok27 (Rdr.ext (Rdr.sl0 ok27) g1 H.step) (by omega) fun v hv => ?_
    obtain ⟨xs, hxs, r⟩ := g2.at? hv
    have hb := h2 i xs hxs
    have hvn : v.n = xs.length := r.1
    rw [wrap64 (n := a + (v.n : Int)) (by omega) (by omega)]
    refine ifK.mk (fun hc2 => ?_) (fun hc2 => ?_)
    · skip
      have hc2 := of_decide_eq_true hc2
      exfalso; omega
    · skip
      have hc2 := of_decide_eq_false hc2
      exact RInv.next (by omega) (by omega) ⟨by omega, by omega, by rw [take_snoc hxs, lenSum_snoc]; omega, H⟩
  · skip
    have hc1 := of_decide_eq_false hc1
    have hil : i = gs.length := by omega
    subst hil
    rw [List.take_of_length_le (by omega)] at a2
    refine C_slices_Grow_Addr.mono (grow_nil (by omega) (by omega)) fun v2 w2 h_v2 => ?_
    have H := H.made h_v2
    have p_v2 := h_v2.2.2.2
    refine RInv.loop (n := gs.length) (I := fun i (b2 : Sl) w' => Go.Wf.Own none_ w w' [RowT ti22 22 1 b2 (xss.take i).flatten]) (H) ?_
    rintro i2 b2 w3 hi hI d
    have H := hI
    dsimp only
    refine ifK.mk (fun hc3 => ?_) (fun hc3 => ?_)
    · skip
      have hc3 := of_decide_eq_true hc3
      refine SlT.getN ok27 (Rdr.ext (Rdr.sl0 ok27) g1 H.step) (by omega) fun v3 hv3 => ?_
      obtain ⟨xs, hxs, r⟩ := g2.at? hv3
      have hb := h2 i2 xs hxs
      have hs : lenSum (xss.take i2) + xs.length ≤ 100000000 := by
        have := lenSum_le (l := xss.take i2) (m := 10000000) (fun j ys hj => h2 j ys (by rw [List.getElem?_take] at hj; split at hj; exact hj; cases hj))
        rw [List.length_take] at this
        omega
      refine H.appendT 0 ok22 el27 (s := b2) (x := v3) (fun s => s) (fun _ => rfl) rfl (rAddrs.ext r H.step) (by rw [lenSum_flat]; omega) fun v4 w4 H => ?_
      replace H : Go.Wf.Own _ _ _ (RowT _ _ _ v4 _ :: _) := H
      exact RInv.next (by omega) (by omega) (by rw [take_snoc hxs, List.flatten_append]; simpa using H)
    · skip
      have hc3 := of_decide_eq_false hc3
      have hil : i2 = gs.length := by omega
      subst hil
      rw [List.take_of_length_le (by omega)] at H
      exact ⟨H.step, H.slOf0 ok22 0 rfl, fun _ h => h, trivial⟩
end Go.Wf2
