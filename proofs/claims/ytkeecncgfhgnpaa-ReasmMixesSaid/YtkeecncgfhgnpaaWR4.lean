/- A part of the proof: lemmas; nothing is claimed here. -/
import Derived.Test.YtkeecncgfhgnpaaWS6
set_option linter.all false
namespace Go.Wf2
open Go Go.Wf Go.Proofs
def rightP (xs ys : List Int) : Prop := 1 ≤ xs.length ∧ xs.length ≤ 4 ∧ ys.length = xs.length ∧ (∀ a ∈ xs ++ ys, addrB a = true) ∧ (xs ++ ys).Nodup
theorem nodup_idx (l : List Int) : l.Nodup ↔ ∀ (i j : Nat) (hi : i < l.length) (hj : j < i), l[j]'(by omega) ≠ l[i] := by
  unfold List.Nodup
  rw [List.pairwise_iff_getElem]
  exact ⟨fun h i j hi hj => h j i (by omega) hi hj, fun h i j hi hj hij => h j i hj hij⟩
theorem notin_take {l : List Int} {i : Nat} (hi : i < l.length) : (l.take i).contains l[i] = false ↔ ∀ j (hj : j < i), l[j]'(by omega) ≠ l[i] := by
  rw [Bool.eq_false_iff, Ne, List.contains_iff_mem, List.mem_iff_getElem]
  constructor
  · intro h j hj he
    exact h ⟨j, by simp; omega, by simpa using he⟩
  · rintro h ⟨j, hj, he⟩
    simp at hj
    exact h j (by omega) (by simpa using he)
theorem rightB_iff (xs ys : List Int) : rightB xs ys = true ↔ rightP xs ys := by
  unfold rightB rightP
  simp only [Bool.and_eq_true, Bool.not_eq_true', decide_eq_false_iff_not, beq_iff_eq, List.all_eq_true, List.mem_range]
  constructor
  · rintro ⟨h1, h2, h3, h4⟩
    have H : ∀ i (hi : i < xs.length), addrB xs[i] = true ∧ addrB (ys[i]'(by omega)) = true ∧ (xs.take i).contains xs[i] = false ∧ (ys.take i).contains (ys[i]'(by omega)) = false ∧ xs.contains (ys[i]'(by omega)) = false := by
      intro i hi
      have := h4 i hi
      simp only [okAt, getD_at hi, getD_at (show i < ys.length by omega), Bool.and_eq_true, Bool.not_eq_true'] at this
      exact this
    refine ⟨by omega, by omega, h3, ?_, ?_⟩
    · intro a ha
      rcases List.mem_append.1 ha with ha | ha
      · obtain ⟨i, hi, rfl⟩ := List.getElem_of_mem ha
        exact (H i hi).1
      · obtain ⟨i, hi, rfl⟩ := List.getElem_of_mem ha
        exact (H i (by omega)).2.1
    · rw [List.nodup_append]
      refine ⟨(nodup_idx xs).2 fun i j hi hj => (notin_take hi).1 (H i hi).2.2.1 j hj, (nodup_idx ys).2 fun i j hi hj => (notin_take hi).1 (H i (by omega)).2.2.2.1 j hj, ?_⟩
      intro a ha b hb he
      obtain ⟨i, hi, rfl⟩ := List.getElem_of_mem hb
      have := (H i (by omega)).2.2.2.2
      rw [Bool.eq_false_iff, Ne, List.contains_iff_mem, ← he] at this
      exact this ha
  · rintro ⟨h1, h2, h3, h4, h5⟩
    rw [List.nodup_append] at h5
    obtain ⟨n1, n2, n3⟩ := h5
    refine ⟨by omega, by omega, h3, fun i hi => ?_⟩
    have hiy : i < ys.length := by omega
    simp only [okAt, getD_at hi, getD_at hiy, Bool.and_eq_true, Bool.not_eq_true']
    refine ⟨h4 _ (by simp), h4 _ (by simp), (notin_take hi).2 fun j hj => (nodup_idx xs).1 n1 i j hi hj, (notin_take hiy).2 fun j hj => (nodup_idx ys).1 n2 i j hiy hj, ?_⟩
    rw [Bool.eq_false_iff, Ne, List.contains_iff_mem]
    intro hm
    exact n3 _ hm _ (List.getElem_mem hiy) rfl
theorem findI_at {l : List Int} {i : Nat} (hi : i < l.length) : (findI l l[i] = (i : Int)) ↔ ∀ j (hj : j < i), l[j]'(by omega) ≠ l[i] := by
  unfold findI
  cases h : l.findIdx? (· == l[i]) with
  | none =>
    rw [List.findIdx?_eq_none_iff] at h
    have := h l[i] (List.getElem_mem hi)
    simp at this
  | some k =>
    rw [List.findIdx?_eq_some_iff_getElem] at h
    obtain ⟨hk, he, hlt⟩ := h
    have he : l[k] = l[i] := by simpa using he
    constructor
    · intro hki j hj
      have hki : k = i := by have := hki; simp at this; omega
      subst hki
      have := hlt j hj
      simpa using this
    · intro hj
      have : ¬ k < i := fun hh => hj k hh he
      have : ¬ i < k := fun hh => by have := hlt i hh; simp at this
      simp; omega
theorem rightP_of {xs ys : List Int} (h1 : 1 ≤ xs.length) (h2 : xs.length ≤ 4) (h3 : ys.length = xs.length) (h : ∀ i (hi : i < (xs ++ ys).length), addrB (xs ++ ys)[i] = true ∧ findI (xs ++ ys) (xs ++ ys)[i] = (i : Int)) : rightP xs ys := by
  refine ⟨h1, h2, h3, fun a ha => ?_, ?_⟩
  · obtain ⟨i, hi, rfl⟩ := List.getElem_of_mem ha
    exact (h i hi).1
  · rw [nodup_idx]
    exact fun i j hi hj => (findI_at hi).1 (h i hi).2 j hj
theorem rightP_at {xs ys : List Int} (h : rightP xs ys) {i : Nat} {a : Int} (hi : (xs ++ ys)[i]? = some a) : addrB a = true ∧ findI (xs ++ ys) a = (i : Int) := by
  obtain ⟨hlt, rfl⟩ := List.getElem?_eq_some_iff.1 hi
  exact ⟨h.2.2.2.1 _ (List.getElem_mem hlt), (findI_at hlt).2 fun j hj => (nodup_idx _).1 h.2.2.2.2 i j hlt hj⟩
end Go.Wf2
