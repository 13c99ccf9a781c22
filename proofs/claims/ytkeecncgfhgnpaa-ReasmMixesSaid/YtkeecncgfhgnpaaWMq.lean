/- A part of the proof: lemmas; nothing is claimed here. -/
import Derived.Test.YtkeecncgfhgnpaaWAf
import Derived.Test.YtkeecncgfhgnpaaWS1
set_option linter.all false
namespace Go.Wf2
open Go Go.Wf Go.Proofs
set_option maxRecDepth 100000
theorem k23 : KeyOk Try.prog 23 ti23 := keyOk_int (k := .u32) (by kernel_rfl) (fun a => a) (fun _ => rfl) (fun _ _ h => h)
theorem u160 : Try.prog.underlying 160 = some (.map 23 60) := by kernel_rfl
def g0 : GPiece := ⟨0, 0, 0, false, false, false, ⟨none, 0, 0⟩⟩
theorem zv60 : ∀ w, (zeroValue 60).run Try.prog w = .ok (ti60.val g0) w := fun w => by kernel_rfl
instance : DecidableEq ti23.ty := inferInstanceAs (DecidableEq Int)
variable {M : Nat → Prop} {w0 w v : World} {L : List Ent} {th : Th}
theorem glook160 (h : NOwn M w0 v th L) (i : Nat) {m : Nat} {gs : List (Int × GPiece)} (hi : L[i]? = some (MapB ti23 ti60 m gs)) (k : Int) {Kk : GPiece × Bool → Prop} (hk : ∀ r : GPiece × Bool, r = ((getG gs k).getD g0, (getG gs k).isSome) → Kk r) :
    gRd Try.prog ti214 th (Instr.lookup 160 (.map (some m)) (.int .u32 k) true) Kk := h.lookup i hi k23 u160 zv60 k (I := ti214) (fun g b => (g, b)) (fun _ _ => rfl) (hk _ rfl)
theorem look160 (h : Go.Wf.Own M w0 w L) (i : Nat) {m : Nat} {gs : List (Int × GPiece)} (hi : L[i]? = some (MapB ti23 ti60 m gs)) (k : Int) {Kk : GPiece × Bool → World → Prop} (hk : ∀ (r : GPiece × Bool) w', Go.Wf.Own M w0 w' L → r = ((getG gs k).getD g0, (getG gs k).isSome) → Kk r w') :
    Go.Wf.runT Try.prog ti214 (Instr.lookup 160 (.map (some m)) (.int .u32 k) true) w Kk := h.lookupT i hi k23 u160 zv60 k (I := ti214) (fun g b => (g, b)) (fun _ _ => rfl) (hk _ _ h rfl)
theorem put160 (h : Go.Wf.Own M w0 w L) (i : Nat) {m : Nat} {gs : List (Int × GPiece)} (hi : L[i]? = some (MapB ti23 ti60 m gs)) (k : Int) (g : GPiece) {Kk : World → Prop} (hk : ∀ w', Go.Wf.Own M w0 w' (L.set i (MapB ti23 ti60 m (putG gs k g))) → Kk w') :
    Go.Wf.runU Try.prog (Instr.mapUpdate 160 (.map (some m)) (.int .u32 k) (ti60.val g)) w Kk := h.mapPut i hi k23 u160 k g hk
theorem del160 (h : Go.Wf.Own M w0 w L) (i : Nat) {m : Nat} {gs : List (Int × GPiece)} (hi : L[i]? = some (MapB ti23 ti60 m gs)) (k : Int) {Kk : Unit → World → Prop} (hk : ∀ w', Go.Wf.Own M w0 w' (L.set i (MapB ti23 ti60 m (delG gs k))) → Kk () w') :
    Go.Wf.runT Try.prog ti0 (Builtin.delete_ #[160, 23] 0 #[.map (some m), .int .u32 k]) w Kk := h.mapDel i hi k23 u160 (I := ti0) () rfl k hk
theorem len160 (h : Go.Wf.Own M w0 w L) (i : Nat) {m : Nat} {gs : List (Int × GPiece)} (hi : L[i]? = some (MapB ti23 ti60 m gs)) {Kk : Int → World → Prop} (hk : ∀ w', Go.Wf.Own M w0 w' L → Kk gs.length w') :
    Go.Wf.runT Try.prog ti3 (Builtin.len_ #[160] 3 #[.map (some m)]) w Kk := by
  unfold Go.Wf.runT
  rw [h.mapLen i hi u160]
  exact hk _ h
end Go.Wf2
