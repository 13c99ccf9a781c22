/- A part of the proof: lemmas; nothing is claimed here. -/
import Derived.Test.YtkeecncgfhgnpaaWTy
import Derived.Laws.StructEq
import Derived.Laws.BytesArg
set_option linter.all false
namespace Go.Wf
open Go Go.RowKit
variable {P : Program}
/-- A struct of two whole numbers. -/
def two (P : Program) (t : Nat) : Bool := (match (P.fieldsOf t).toList with
  | [a, b] => (!(a.name == "_") && !(b.name == "_")) && ((Nat.beq a.offset 0 && Nat.beq b.offset 1) && ((match P.underlying a.type with | some (.int _) => true | _ => false) && (match P.underlying b.type with | some (.int _) => true | _ => false)))
  | _ => false) && ((!P.eqGuardType P.depth t && !P.stoodInHeld t) && (match P.underlying t with | some (.struct _) => true | _ => false))
theorem run_two {t : Nat} (h : two P t = true) (w : World) (k1 k2 : IntKind) (a b c d : Int) : (Op.equalIn 10000 t (.agg #[.int k1 a, .int k2 b]) (.agg #[.int k1 c, .int k2 d])).run P w = .ok (a == c && b == d) w := by
  simp only [two, Bool.and_eq_true] at h
  obtain ⟨h1, ⟨h2, h3⟩, h4⟩ := h
  have hu : P.underlying t = some (.struct (P.fieldsOf t)) := by
    split at h4
    · rename_i fs hf; rw [hf]; simp [Program.fieldsOf, hf]
    · cases h4
  rw [show (10000 : Nat) = 9999 + 1 from rfl, run_equalIn_struct w 9999 t _ _ hu (by simpa using h3)]
  split at h1
  · rename_i x y he
    rw [he]
    simp only [Bool.and_eq_true] at h1
    obtain ⟨⟨n1, n2⟩, ⟨o1, o2⟩, u1, u2⟩ := h1
    have e1 := Nat.eq_of_beq_eq_true o1
    have e2 := Nat.eq_of_beq_eq_true o2
    split at u1
    · rename_i kk1 hk1
      split at u2
      · rename_i kk2 hk2
        have n1' : x.name ≠ "_" := by simpa using n1
        have n2' : y.name ≠ "_" := by simpa using n2
        have i1 : ∀ (a c : Int) v, (Op.equalIn 9999 x.type (.int k1 a) (.int k1 c)).run P v = .ok (a == c) v := fun a c v => run_equalIn_int v 9998 _ _ _ _ _ hk1
        have i2 : ∀ (b d : Int) v, (Op.equalIn 9999 y.type (.int k2 b) (.int k2 d)).run P v = .ok (b == d) v := fun b d v => run_equalIn_int v 9998 _ _ _ _ _ hk2
        have p1 : ∀ (kk : IntKind) (t : Nat) (_ : P.underlying t = some (.int kk)) (cs : Array Value) (i : Nat) (u : Value) (_ : cs[i]? = some u) v, (part t cs i).run P v = .ok u v := by
          intro kk t ht cs i u hu v
          simp [part, isAgg, run_underlying ht, Result.andThen, hu]
        simp only [Op.eqFields, n1', n2', ne_eq, not_false_eq_true, if_true, e1, e2, Sem.run_bind, p1 _ _ hk1 #[.int k1 a, .int k2 b] 0 _ rfl, p1 _ _ hk1 #[.int k1 c, .int k2 d] 0 _ rfl, p1 _ _ hk2 #[.int k1 a, .int k2 b] 1 _ rfl, p1 _ _ hk2 #[.int k1 c, .int k2 d] 1 _ rfl, i1, Result.andThen_ok]
        cases hac : a == c <;> cases hbd : b == d <;> simp [i1, hac, hbd, Result.andThen, Sem.run_ite, p1 _ _ hk2 #[.int k1 a, .int k2 b] 1 _ rfl, p1 _ _ hk2 #[.int k1 c, .int k2 d] 1 _ rfl, i2]
      · cases u2
    · cases u1
  · cases h1
theorem two_guard {t : Nat} (h : two P t = true) : P.eqGuardType P.depth t = false := by
  simp only [two, Bool.and_eq_true] at h
  simpa using h.2.1.1
theorem run_eq2 {t : Nat} (h : two P t = true) (w : World) (x y : Operand) (k1 k2 : IntKind) (a b c d : Int) :
    (do eqGuard .eql t x y (.agg #[.int k1 a, .int k2 b]) (.agg #[.int k1 c, .int k2 d]); binOp .eql t (.agg #[.int k1 a, .int k2 b]) (.agg #[.int k1 c, .int k2 d]) : Sem Value).run P w = .ok (.bool (a == c && b == d)) w := by
  simp only [Sem.run_bind, run_eqGuard_agg w _ _ _ _ _ _ (two_guard h), Result.andThen_ok, run_eql_struct, run_two h]
theorem run_ne2 {t : Nat} (h : two P t = true) (w : World) (x y : Operand) (k1 k2 : IntKind) (a b c d : Int) :
    (do eqGuard .neq t x y (.agg #[.int k1 a, .int k2 b]) (.agg #[.int k1 c, .int k2 d]); binOp .neq t (.agg #[.int k1 a, .int k2 b]) (.agg #[.int k1 c, .int k2 d]) : Sem Value).run P w = .ok (.bool (!(a == c && b == d))) w := by
  simp only [Sem.run_bind, run_eqGuard_agg w _ _ _ _ _ _ (two_guard h), Result.andThen_ok, run_neq_struct, run_two h]
/-- An operation that leaves the world and whose value is known. -/
theorem runT.of {I : TI} {s : Sem Value} {w w' : World} {v : Value} {p : I.ty} {K : I.ty → World → Prop} (hr : s.run P w = .ok v w') (hp : I.of v = some p) (hk : K p w') : runT P I s w K := by
  unfold runT
  rw [hr]
  simp only [ofK, hp]
  exact hk
theorem gRd.of {I : TI} {th : Th} {s : Sem Value} {v : Value} {p : I.ty} {k : I.ty → Prop} (hr : ∀ W, th.G W → s.run P W = .ok v W) (hp : I.of v = some p) (hk : k p) : gRd P I th s k :=
  ⟨p, fun W hW => by
    unfold runT
    rw [hr W hW]
    simp only [ofK, hp]
    exact ⟨trivial, trivial⟩, hk⟩
/-- The bytes of a list of numbers. -/
def strOf (l : List Int) : ByteArray := Go.strOfNums l
theorem run_str {src e : Nat} (hs : P.underlying src = some (.slice e)) (he : P.underlying e = some (.int .u8)) {dst : Nat} (hd : P.underlying dst = some .string) {w : World} {s : Sl} {l : List Int} (hn : s.n = l.length) (h : CellsIn w s (l.flatMap fun n => [Value.int .u8 n])) : (convert src dst (.slice s.a s.n s.c)).run P w = .ok (.string (strOf l)) w := by
  have e1 : l.flatMap (fun n => [Value.int .u8 n]) = l.map (Value.int .u8) := by
    clear h hn
    induction l with
    | nil => rfl
    | cons x l ih => simp only [List.flatMap_cons, List.map_cons, ih, List.singleton_append]
  have key : ∀ a, s.a = some a → (loadCells a s.n).run P w = .ok (l.map (Value.int .u8)).toArray w := by
    intro a ha
    rcases h with h0 | ⟨a', ha', hc⟩
    · have : l = [] := by
        cases l with
        | nil => rfl
        | cons x l => simp at h0
      subst this
      rw [hn]
      exact run_loadCells (l := []) (fun i v hv => by simp at hv)
    · rw [ha] at ha'
      cases ha'
      rw [e1] at hc
      have := run_loadCells (P := P) hc
      rw [List.length_map, ← hn] at this
      exact this
  cases hsa : s.a with
  | none =>
    rw [run_convert_bytes_nil w src e hs he _ _ dst hd]
    rcases h with h0 | ⟨a, ha, _⟩
    · cases l with
      | nil => rfl
      | cons x l => simp at h0
    · rw [hsa] at ha; cases ha
  | some a =>
    rw [run_convert_bytes_string w src dst e _ s.n s.c hs he hd, run_bytesToString w _ s.n s.c l (key a hsa), foldl_push_bytes]
    simp [strOf, strOfNums, ByteArray.empty, ByteArray.emptyWithCapacity]
    rfl
end Go.Wf
