/- A part of the proof: lemmas; nothing is claimed here. -/
import Derived.Test.YtkeecncgfhgnpaaWR2
import Derived.Test.YtkeecncgfhgnpaaWEn0
set_option linter.all false
namespace Go.Wf2
open Go Go.Wf Go.Proofs
/-- Where an address goes. -/
def ofA (xs ys : List Int) (a : Int) : Int := if rightB xs ys then (match xs.findIdx? (· == a) with | some i => ys.getD i 0 | none => a) else a
theorem of28_spec {p : GPlan} {a : Int} {w : World} {xs ys : List Int} (hx : (AdF p.From xs).F w) (hy : (AdF p.To ys).F w) (h1 : xs.length < 1000000) (h2 : ys.length < 1000000) :
    C_weftlineref28_Of p a w fun r w' => Ext w w' ∧ r = ofA xs ys a := by
  refine E_weftlineref28_Of _ _ _ _ ?_
  have hnx := Rdf.len cI_len hx (by decide)
  have hny := Rdf.len cI_len hy (by decide)
  refine (Own.start none_ w).new fun b w1 H _ => ?_
  refine ⟨fun s w' => Ext w1 w' ∧ 0 ≤ s.1 ∧ s.1 ≤ xs.length ∧ (s.1 = 0 ∨ rightB xs ys = true) ∧ ∀ i, i < s.1.toNat → xs[i]? ≠ some a, fun s _ => (xs.length - s.1).toNat, ⟨Ext.refl _, by simp, by simp, by simp, by simp⟩, ?_⟩
  rintro ⟨i, _⟩ w2 ⟨hw2, h0, h1', hr0, h2'⟩ d
  simp only at h0 h1' h2' hr0
  have H2 := H.ext hw2
  refine H2.ld 0 0 rfl rfl rfl ?_
  refine ifK.mk (fun hc => ?_) (fun hc => ?_)
  · have hc := of_decide_eq_true hc
    have hi : i.toNat < xs.length := by simp only at hc; omega
    refine H2.ld 0 0 rfl rfl rfl (p := p) ?_
    refine (right28_spec (Rdf.ext hx H2.step) (Rdf.ext hy H2.step) h1 h2).mono fun r w3 h => ?_
    obtain ⟨hw3, rfl⟩ := h
    have H3 := H2.ext hw3
    refine ifK.mk (fun hr => ?_) (fun hr => ?_)
    · have hlen : ys.length = xs.length := by
        simp only [rightB, Bool.and_eq_true, beq_iff_eq] at hr
        exact hr.2.2.1
      refine H3.ld 0 0 rfl rfl rfl ?_
      refine Rdf.at cI_len (Rdf.ext hx H3.step) (by decide) h0 (by omega) fun a2 ha => ?_
      refine ⟨(xs[i.toNat] : Int), ha, ?_⟩
      refine ifK.mk (fun he => ?_) (fun he => ?_)
      · have he : xs[i.toNat] = a := by simpa using he
        refine H3.ld 0 1 rfl rfl rfl ?_
        refine Rdf.at cI_len (Rdf.ext hy H3.step) (by decide) h0 (by omega) fun a3 ha3 => ?_
        refine ⟨(ys[i.toNat]'(by omega) : Int), ha3, H3.step, ?_⟩
        have : xs.findIdx? (· == a) = some i.toNat := by
          rw [List.findIdx?_eq_some_iff_getElem]
          refine ⟨by omega, by simp [he], fun j hj => ?_⟩
          have := h2' j hj
          rw [List.getElem?_eq_getElem (by omega)] at this
          simpa using this
        simp only [ofA, hr, this, if_true, getD_at (show i.toNat < ys.length by omega)]
      · have he : xs[i.toNat] ≠ a := by simpa using he
        rw [wrap64 (by simp only; omega) (by simp only; omega)]
        refine ⟨⟨hw2.trans hw3, by simp only; omega, by simp only; omega, .inr hr, fun j hj => ?_⟩, by simp only; omega⟩
        by_cases hji : j = i.toNat
        · subst hji
          rw [List.getElem?_eq_getElem (by omega)]
          simpa using he
        · exact h2' j (by simp only at hj; omega)
    · exact ⟨H3.step, by simp [ofA, hr]⟩
  · have hc := of_decide_eq_false hc
    refine ⟨H2.step, ?_⟩
    have : xs.findIdx? (· == a) = none := by
      rw [List.findIdx?_eq_none_iff]
      intro x hm
      obtain ⟨j, hj, he⟩ := List.getElem_of_mem hm
      have := h2' j (by simp only at hc; omega)
      rw [List.getElem?_eq_getElem hj, he] at this
      simpa using this
    simp [ofA, this]
end Go.Wf2
