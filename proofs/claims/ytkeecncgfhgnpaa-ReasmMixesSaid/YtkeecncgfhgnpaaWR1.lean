/- A part of the proof: lemmas; nothing is claimed here. -/
import Derived.Test.YtkeecncgfhgnpaaWMem
import Derived.Test.YtkeecncgfhgnpaaWEn0
set_option linter.all false
namespace Go.Wf2
open Go Go.Wf Go.Proofs

/-- Reading addresses. -/
abbrev cI (x : Int) : List Value := [.int .i64 x]
theorem cI_len : ∀ x, (cI x).length = 1 := fun _ => rfl
theorem el27 : ElOk Try.prog 27 22 1 8 := elOk_of (by kernel_rfl)
def AdF (s : Sl) (l : List Int) : Ent := Rdf 1 s (l.flatMap cI)

theorem wrap64 {n : Int} (h0 : -9223372036854775808 ≤ n) (h : n ≤ 9223372036854775807) : IntKind.i64.wrap n = n := by
  have h1 : n % 2 ^ 64 = if 0 ≤ n then n else n + 18446744073709551616 := by split <;> omega
  simp only [IntKind.wrap, IntKind.bits, IntKind.signed, Bool.true_and, h1]
  by_cases hn : 0 ≤ n
  · rw [if_pos hn, if_neg (by simp; omega)]
  · rw [if_neg hn, if_pos (by simp; omega)]
    omega

theorem has_spec {l : Sl} {a : Int} {w : World} {xs : List Int} (hx : (AdF l xs).F w) (hlen : xs.length < 1000000) :
    C_weftlineref28_has l a w fun r w' => w' = w ∧ r = xs.contains a := by
  refine E_weftlineref28_has _ _ _ _ ?_
  have hn := Rdf.len cI_len hx (by decide)
  refine ⟨fun s w' => w' = w ∧ 0 ≤ s.1 ∧ s.1 ≤ xs.length ∧ ∀ i, i < s.1.toNat → xs[i]? ≠ some a, fun s _ => (xs.length - s.1).toNat, ⟨rfl, by simp, by simp, by simp⟩, ?_⟩
  rintro ⟨i, _⟩ w' ⟨rfl, h0, h1, h2⟩ d
  simp only at h0 h1 h2
  refine ifK.mk (fun hc => ?_) (fun hc => ?_)
  · have hc := of_decide_eq_true hc
    simp only [hn] at hc
    refine Rdf.at cI_len hx (by decide) h0 (by omega) fun a2 ha => ?_
    refine ⟨(xs[i.toNat]'(by omega) : Int), ha, ?_⟩
    refine ifK.mk (fun he => ?_) (fun he => ?_)
    · have he : xs[i.toNat]'(by omega) = a := by simpa using he
      refine ⟨rfl, ?_⟩
      symm
      rw [List.contains_iff_mem, ← he]
      exact List.getElem_mem _
    · have he : xs[i.toNat]'(by omega) ≠ a := by simpa using he
      rw [wrap64 (by omega) (by omega)]
      refine ⟨⟨rfl, by simp; omega, by simp; omega, fun j hj => ?_⟩, by simp; omega⟩
      by_cases hji : j = i.toNat
      · subst hji
        rw [List.getElem?_eq_getElem (by omega)]
        simpa using he
      · exact h2 j (by simp at hj; omega)
  · have hc : ¬ (i < (l.n : Int)) := of_decide_eq_false hc
    refine ⟨rfl, ?_⟩
    symm
    rw [Bool.eq_false_iff, Ne, List.contains_iff_mem]
    intro hm
    obtain ⟨j, hj, he⟩ := List.getElem_of_mem hm
    exact h2 j (by omega) (by rw [List.getElem?_eq_getElem hj, he])

theorem addr_spec (a : Int) (w : World) : C_weftlineref13_Addr a w fun r w' => w' = w ∧ r = (decide (1 ≤ a) && decide (a ≤ 2147483647)) := by
  refine E_weftlineref13_Addr _ _ _ ?_
  refine ifK.mk (fun hc => ?_) (fun hc => ?_)
  · have := of_decide_eq_true hc
    exact ⟨rfl, by simp [this]⟩
  · have := of_decide_eq_false hc
    exact ⟨rfl, by simp; omega⟩
/-- The first place of a value. -/
def findI (xs : List Int) (a : Int) : Int := match xs.findIdx? (· == a) with
  | some i => (i : Int)
  | none => -1
theorem index_spec {s : Sl} {a : Int} {w : World} {xs : List Int} (hx : (AdF s xs).F w) (hlen : xs.length < 1000000) :
    C_slices_Index_Addr s a w fun r w' => w' = w ∧ r = findI xs a := by
  refine E_slices_Index_Addr _ _ _ _ ?_
  have hn := Rdf.len cI_len hx (by decide)
  refine ⟨fun s w' => w' = w ∧ 0 ≤ s.1 ∧ s.1 ≤ xs.length ∧ ∀ i, i < s.1.toNat → xs[i]? ≠ some a, fun s _ => (xs.length - s.1).toNat, ⟨rfl, by simp, by simp, by simp⟩, ?_⟩
  rintro ⟨i, _⟩ w' ⟨rfl, h0, h1, h2⟩ d
  simp only at h0 h1 h2
  refine ifK.mk (fun hc => ?_) (fun hc => ?_)
  · have hc := of_decide_eq_true hc
    simp only [hn] at hc
    refine Rdf.at cI_len hx (by decide) h0 (by omega) fun a2 ha => ?_
    refine ⟨(xs[i.toNat]'(by omega) : Int), ha, ?_⟩
    refine ifK.mk (fun he => ?_) (fun he => ?_)
    · have he : a = xs[i.toNat]'(by omega) := by simpa using he
      refine ⟨rfl, ?_⟩
      have : xs.findIdx? (· == a) = some i.toNat := by
        rw [List.findIdx?_eq_some_iff_getElem]
        refine ⟨by omega, by simp [← he], fun j hj => ?_⟩
        have := h2 j hj
        rw [List.getElem?_eq_getElem (by omega)] at this
        simpa using this
      simp [findI, this]; omega
    · have he : a ≠ xs[i.toNat]'(by omega) := by simpa using he
      rw [wrap64 (by omega) (by omega)]
      refine ⟨⟨rfl, by simp; omega, by simp; omega, fun j hj => ?_⟩, by simp; omega⟩
      by_cases hji : j = i.toNat
      · subst hji
        rw [List.getElem?_eq_getElem (by omega)]
        simpa using Ne.symm he
      · exact h2 j (by simp at hj; omega)
  · have hc : ¬ (i < (s.n : Int)) := of_decide_eq_false hc
    refine ⟨rfl, ?_⟩
    have : xs.findIdx? (· == a) = none := by
      rw [List.findIdx?_eq_none_iff]
      intro x hm
      obtain ⟨j, hj, he⟩ := List.getElem_of_mem hm
      have := h2 j (by omega)
      rw [List.getElem?_eq_getElem hj, he] at this
      simpa using this
    simp [findI, this]
end Go.Wf2
