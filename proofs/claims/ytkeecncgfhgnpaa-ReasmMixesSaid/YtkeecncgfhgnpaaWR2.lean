/- A part of the proof: lemmas; nothing is claimed here. -/
import Derived.Test.YtkeecncgfhgnpaaWR1
import Derived.Test.YtkeecncgfhgnpaaWEn0
set_option linter.all false
namespace Go.Wf2
open Go Go.Wf Go.Proofs
def addrB (a : Int) : Bool := decide (1 ≤ a) && decide (a ≤ 2147483647)
def okAt (xs ys : List Int) (i : Nat) : Bool :=
  addrB (xs.getD i 0) && (addrB (ys.getD i 0) && (!(xs.take i).contains (xs.getD i 0) && (!(ys.take i).contains (ys.getD i 0) && !xs.contains (ys.getD i 0))))
def rightB (xs ys : List Int) : Bool :=
  !decide (xs.length < 1) && (!decide (xs.length > 4) && ((ys.length == xs.length) && (List.range xs.length).all (okAt xs ys)))
theorem rightB_false {xs ys : List Int} {i : Nat} (hi : i < xs.length) (h : okAt xs ys i = false) : rightB xs ys = false := by
  have : (List.range xs.length).all (okAt xs ys) = false := by
    rw [List.all_eq_false]
    exact ⟨i, List.mem_range.2 hi, by simp [h]⟩
  simp [rightB, this]
theorem getD_at {xs : List Int} {i : Nat} (hi : i < xs.length) : xs.getD i 0 = xs[i] := by simp [List.getD_eq_getElem?_getD, hi]
theorem right28_spec {p : GPlan} {w : World} {xs ys : List Int} (hx : (AdF p.From xs).F w) (hy : (AdF p.To ys).F w) (h1 : xs.length < 1000000) (h2 : ys.length < 1000000) :
    C_weftlineref28_Right p w fun r w' => Ext w w' ∧ r = rightB xs ys := by
  refine E_weftlineref28_Right _ _ _ ?_
  have hnx := Rdf.len cI_len hx (by decide)
  have hny := Rdf.len cI_len hy (by decide)
  refine (Own.start none_ w).new fun b w1 H _ => ?_
  refine H.ld 0 0 rfl rfl rfl ?_
  refine ifK.mk (fun hc => ?_) (fun hc => ?_)
  · refine ⟨H.step, ?_⟩
    have hc := of_decide_eq_true hc
    have : xs.length < 1 := by omega
    simp [rightB, this]
  have hc := of_decide_eq_false hc
  have g1 : ¬ xs.length < 1 := by omega
  refine H.ld 0 0 rfl rfl rfl ?_
  refine ifK.mk (fun hc => ?_) (fun hc => ?_)
  · have hc := of_decide_eq_true hc
    have : 4 < xs.length := by omega
    exact ⟨H.step, by simp [rightB, this]⟩
  have hc := of_decide_eq_false hc
  have g2 : ¬ 4 < xs.length := by omega
  refine H.ld 0 1 rfl rfl rfl (H.ld 0 0 rfl rfl rfl ?_)
  refine ifK.mk (fun hc => ?_) (fun hc => ?_)
  · have hc : (p.To.n : Int) ≠ p.From.n := by simpa using hc
    have : ¬ ys.length = xs.length := by omega
    exact ⟨H.step, by simp [rightB, this]⟩
  have hc : (p.To.n : Int) = p.From.n := by simpa using hc
  have g3 : ys.length = xs.length := by omega
  refine ⟨fun s w' => Ext w1 w' ∧ 0 ≤ s.1 ∧ s.1 ≤ xs.length ∧ ∀ i, i < s.1.toNat → okAt xs ys i = true, fun s _ => (xs.length - s.1).toNat, ⟨Ext.refl _, by simp, by simp, by simp⟩, ?_⟩
  rintro ⟨i, _⟩ w2 ⟨hw2, h0, h1', h2'⟩ d
  simp only at h0 h1' h2'
  have H2 := H.ext hw2
  refine H2.ld 0 0 rfl rfl rfl ?_
  refine ifK.mk (fun hc => ?_) (fun hc => ?_)
  · have hc := of_decide_eq_true hc
    have hi : i.toNat < xs.length := by simp only at hc; omega
    have hiy : i.toNat < ys.length := by omega
    have hG : ∀ W, (Th.start w2).G W → Ext w2 W := fun _ h => h
    have X2 := Rdf.ext hx H2.step
    refine H2.gld hG 0 0 rfl rfl rfl ?_
    refine Rdf.at cI_len X2 (by decide) h0 (by omega) fun a ha => ?_
    refine gLd.mk (I := ti22) (p := xs[i.toNat]) hG ha ?_
    refine gEff.val (addrB xs[i.toNat]) (fun W _ => (addr_spec _ W).mono fun r W' h => ⟨by rw [h.1]; exact Ext.refl _, h.2⟩) fun N th hth => ?_
    have hG1 : ∀ W, th.G W → Ext w2 W := fun W h => hG W (hth W h)
    refine ifK.mk (fun hc => ?_) (fun hc => ?_)
    · intro W hW _
      refine ⟨(H2.ext (hG1 W hW)).step, ?_⟩
      exact (rightB_false hi (by simp only [okAt, getD_at hi]; simp at hc; simp [hc])).symm
    have k1 : addrB xs[i.toNat] = true := by simpa using hc
    refine H2.gld hG1 0 1 rfl rfl rfl ?_
    refine Rdf.at cI_len (Rdf.ext hy H2.step) (by decide) h0 (by omega) fun a2 ha2 => ?_
    refine gLd.mk (I := ti22) (p := ys[i.toNat]) hG1 ha2 ?_
    refine gEff.val (addrB ys[i.toNat]) (fun W _ => (addr_spec _ W).mono fun r W' h => ⟨by rw [h.1]; exact Ext.refl _, h.2⟩) fun N2 th2 hth2 => ?_
    have hG2 : ∀ W, th2.G W → Ext w2 W := fun W h => hG1 W (hth2 W h)
    refine ifK.mk (fun hc => ?_) (fun hc => ?_)
    · intro W hW _
      refine ⟨(H2.ext (hG2 W hW)).step, ?_⟩
      exact (rightB_false hi (by simp only [okAt, getD_at hi, getD_at hiy, k1]; simp at hc; simp [hc])).symm
    have k2 : addrB ys[i.toNat] = true := by simpa using hc
    have hcx : p.From.n ≤ p.From.c := hx.2.1
    have hcy : p.To.n ≤ p.To.c := hy.2.1
    refine H2.gld hG2 0 0 rfl rfl rfl ?_
    refine gRd.to el27 (fun s => s) (fun _ => rfl) h0 (by omega) ?_
    refine H2.gld hG2 0 0 rfl rfl rfl ?_
    refine Rdf.at cI_len (Rdf.ext hx H2.step) (by decide) h0 (by omega) fun a3 ha3 => ?_
    refine gLd.mk (I := ti22) (p := xs[i.toNat]) hG2 ha3 ?_
    have hxt : ∀ W, Ext w2 W → (AdF ⟨p.From.a, i.toNat, p.From.c⟩ (xs.take i.toNat)).F W := fun W hW => by
      exact Rdf.toL cI_len (Rdf.ext hx (H2.ext hW).step) (j := i.toNat) (by omega)
    refine gEff.val ((xs.take i.toNat).contains xs[i.toNat]) (fun W hW => (has_spec (hxt W (hG2 W hW)) (by simp; omega)).mono fun r W' h => ⟨by rw [h.1]; exact Ext.refl _, h.2⟩) fun N3 th3 hth3 => ?_
    have hG3 : ∀ W, th3.G W → Ext w2 W := fun W h => hG2 W (hth3 W h)
    refine ifK.mk (fun hc => ?_) (fun hc => ?_)
    · intro W hW _
      refine ⟨(H2.ext (hG3 W hW)).step, ?_⟩
      exact (rightB_false hi (by simp only [okAt, getD_at hi, getD_at hiy, k1, k2, hc]; rfl)).symm
    have k3 := hc
    refine H2.gld hG3 0 1 rfl rfl rfl ?_
    refine gRd.to el27 (fun s => s) (fun _ => rfl) h0 (by omega) ?_
    refine H2.gld hG3 0 1 rfl rfl rfl ?_
    refine Rdf.at cI_len (Rdf.ext hy H2.step) (by decide) h0 (by omega) fun a4 ha4 => ?_
    refine gLd.mk (I := ti22) (p := ys[i.toNat]) hG3 ha4 ?_
    have hyt : ∀ W, Ext w2 W → (AdF ⟨p.To.a, i.toNat, p.To.c⟩ (ys.take i.toNat)).F W := fun W hW => by
      exact Rdf.toL cI_len (Rdf.ext hy (H2.ext hW).step) (j := i.toNat) (by omega)
    refine gEff.val ((ys.take i.toNat).contains ys[i.toNat]) (fun W hW => (has_spec (hyt W (hG3 W hW)) (by simp; omega)).mono fun r W' h => ⟨by rw [h.1]; exact Ext.refl _, h.2⟩) fun N4 th4 hth4 => ?_
    have hG4 : ∀ W, th4.G W → Ext w2 W := fun W h => hG3 W (hth4 W h)
    refine ifK.mk (fun hc => ?_) (fun hc => ?_)
    · intro W hW _
      refine ⟨(H2.ext (hG4 W hW)).step, ?_⟩
      exact (rightB_false hi (by simp only [okAt, getD_at hi, getD_at hiy, k1, k2, k3, hc]; rfl)).symm
    have k4 := hc
    refine H2.gld hG4 0 0 rfl rfl rfl ?_
    refine H2.gld hG4 0 1 rfl rfl rfl ?_
    refine Rdf.at cI_len (Rdf.ext hy H2.step) (by decide) h0 (by omega) fun a5 ha5 => ?_
    refine gLd.mk (I := ti22) (p := ys[i.toNat]) hG4 ha5 ?_
    intro W hW _
    have H3 := H2.ext (hG4 W hW)
    refine (has_spec (Rdf.ext hx H3.step) h1).mono fun r W' h => ?_
    obtain ⟨rfl, rfl⟩ := h
    refine ifK.mk (fun hc => ?_) (fun hc => ?_)
    · exact ⟨H3.step, (rightB_false hi (by simp only [okAt, getD_at hi, getD_at hiy, k1, k2, k3, k4, hc]; rfl)).symm⟩
    have k5 := hc
    rw [wrap64 (by simp only; omega) (by simp only; omega)]
    refine ⟨⟨hw2.trans (hG4 W' hW), by simp only; omega, by simp only; omega, fun j hj => ?_⟩, by simp only; omega⟩
    by_cases hji : j = i.toNat
    · subst hji
      simp only [okAt, getD_at hi, getD_at hiy, k1, k2, k3, k4, k5]; rfl
    · exact h2' j (by simp only at hj; omega)
  · have hc := of_decide_eq_false hc
    refine ⟨H2.step, ?_⟩
    have : (List.range xs.length).all (okAt xs ys) = true := by
      rw [List.all_eq_true]
      intro j hj
      exact h2' j (by have := List.mem_range.1 hj; simp only at hc; omega)
    simp [rightB, g1, g2, g3, this]
end Go.Wf2
