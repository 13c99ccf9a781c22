/- A part of the proof: lemmas; nothing is claimed here. -/
import Derived.Test.YtkeecncgfhgnpaaWS7
import Derived.Test.YtkeecncgfhgnpaaWEn0
set_option linter.all false
namespace Go.Wf2
open Go Go.Wf Go.Proofs
set_option linter.unusedVariables false
set_option linter.deprecated false
set_option maxRecDepth 4000
def opsN (xs ys : List Int) (n : Nat) : List GOp := (List.range n).flatMap fun i => [⟨1, ys.getD i 0⟩, ⟨2, xs.getD i 0⟩]
theorem opsN_len (xs ys : List Int) (n : Nat) : (opsN xs ys n).length = 2 * n := by
  induction n with
  | zero => rfl
  | succ n ih => simp only [opsN, List.range_succ, List.flatMap_append, List.length_append] at *; rw [ih]; simp; omega
theorem opsN_succ (xs ys : List Int) (n : Nat) : opsN xs ys (n + 1) = opsN xs ys n ++ [⟨1, ys.getD n 0⟩, ⟨2, xs.getD n 0⟩] := by simp [opsN, List.range_succ]
theorem ops_spec {p : GPlan} {w : World} {S : Nat → Prop} {xs ys : List Int} (hx : rAddrs.R w S p.From xs) (hy : rAddrs.R w S p.To ys) (h1 : xs.length ≤ 100000) (h2 : ys.length ≤ 100000) (hr : rightB xs ys = true) : C_rebind_Ops p w (fun r w' => Ext w w' ∧ r.2 = Value.nilIface ∧ SlT ti141 w' (newB w w') r.1 (opsN xs ys ys.length ++ [⟨4, ys.getD 0 0⟩])) := by
  refine E_rebind_Ops _ _ _ ?_
  have lx := hx.1
  have ly := hy.1
  have hp := (rightB_iff xs ys).1 hr
  have hp1 := hp.1
  have hp3 := hp.2.2.1
  have H := Own.start none_ w
  refine H.new fun b w1 H _ => ?_
  refine H.ld 0 0 rfl rfl rfl (p := p) ?_
  refine C_rebind_Right.mono (rightR_spec (rAddrs.ext hx H.step) (rAddrs.ext hy H.step) (by omega) (by omega)) fun v2 w2 h_v2 => ?_
  obtain ⟨hx_w2, rfl⟩ := h_v2
  have H := H.ext hx_w2
  refine ifK.mk (fun q1 => ?_) (fun q1 => ?_)
  · skip
    rw [hr] at q1; cases q1
  · skip
    refine H.ld 0 1 rfl rfl rfl (p := p.To) ?_
    refine RInv.loop (n := ys.length) (I := fun i (a : Sl) w' => Go.Wf.Own none_ w w' [RowT ti141 141 2 a (opsN xs ys i), (Var b 38 [.slice p.From.a p.From.n p.From.c, .slice p.To.a p.To.n p.To.c])]) (H.nilT ti141 141 2) ?_
    rintro i a w3 hi hI d
    have H := hI
    dsimp only
    refine ifK.mk (fun hc2 => ?_) (fun hc2 => ?_)
    · skip
      have hc2 := of_decide_eq_true hc2
      refine SlT.getN ok22 (rAddrs.ext hy H.step) (by omega) fun v4 hv4 => ?_
      refine H.ld 1 0 rfl rfl rfl (p := p.From) ?_
      refine SlT.getN ok22 (rAddrs.ext hx H.step) (by omega) fun v6 hv6 => ?_
      refine H.new fun b2 w4 H _ => ?_
      refine H.appendT 1 ok141 el131 (s := a) (x := (⟨some (bx b2), 2, 2⟩ : Sl)) (fun s => s) (fun _ => rfl) rfl (H.varSl 0 (J := ti141) ([⟨1, v4⟩, ⟨2, v6⟩] : List GOp) rfl rfl) (by rw [opsN_len]; simp; omega) fun v7 w5 H => ?_
      replace H : Go.Wf.Own _ _ _ (_ :: RowT _ _ _ v7 _ :: _) := H
      have H := H.drop 0
      exact RInv.next (by omega) (by omega) (by rw [opsN_succ]; simp only [List.getD_eq_getElem?_getD, hv4, hv6, Option.getD_some]; exact H)
    · skip
      have hc2 := of_decide_eq_false hc2
      have hil : i = ys.length := by omega
      subst hil
      refine H.ld 1 1 rfl rfl rfl (p := p.To) ?_
      refine SlT.getNat (i := 0) ok22 (rAddrs.ext hy H.step) (by rfl) (by omega) fun v9 hv9 => ?_
      refine H.new fun b3 w6 H _ => ?_
      refine H.appendT 1 ok141 el131 (s := a) (x := (⟨some (bx b3), 1, 1⟩ : Sl)) (fun s => s) (fun _ => rfl) rfl (H.varSl 0 (J := ti141) ([⟨4, v9⟩] : List GOp) rfl rfl) (by rw [opsN_len]; simp; omega) fun v10 w7 H => ?_
      replace H : Go.Wf.Own _ _ _ (_ :: RowT _ _ _ v10 _ :: _) := H
      refine ⟨H.step, rfl, ?_⟩
      have := H.slOf0 ok141 1 rfl
      simp only [List.getD_eq_getElem?_getD, hv9, Option.getD_some]
      exact this
end Go.Wf2
