/- A part of the proof: lemmas; nothing is claimed here. -/
import Derived.Test.YtkeecncgfhgnpaaWRow
import Derived.Test.YtkeecncgfhgnpaaWS5
set_option linter.all false
namespace Go.Wf2
open Go Go.Wf Go.Proofs
set_option maxRecDepth 100000
variable {H : Type} {enc : TypeId × Value → H} {w : World} {sp : Nat → Bool} {held : Bool}
/-- Whole numbers of a kind. -/
def inK (k : IntKind) (n : Int) : Prop := (Lit.int k n).wf = true
def cInt (k : IntKind) (cs : List Value) : Prop := ∃ n, cs = [.int k n] ∧ inK k n
def cBool (cs : List Value) : Prop := ∃ b, cs = [.bool b]
abbrev OpT (enc : TypeId × Value → H) (w : World) (sp : Nat → Bool) (held : Bool) (t : Nat) (C : List Value → Prop) : Prop := OpenF enc Try.prog w sp held t C
theorem o3 : OpT enc w sp held 3 (cInt .i64) := open_int (by kernel_rfl)
theorem o4 : OpT enc w sp held 4 cBool := open_bool (by kernel_rfl)
theorem o5 : OpT enc w sp held 5 (cInt .u8) := open_int (by kernel_rfl)
theorem o22 : OpT enc w sp held 22 (cInt .i64) := open_int (by kernel_rfl)
theorem o23 : OpT enc w sp held 23 (cInt .u32) := open_int (by kernel_rfl)
theorem o45 : OpT enc w sp held 45 (cInt .u16) := open_int (by kernel_rfl)
/-- All blocks that are there. -/
def allB (w : World) : Nat → Prop := fun k => k < w.heap.size
/-- A slice that reads. -/
def cSl {X : Type} (R : Rdr Sl (List X)) (w : World) (bytes : Nat) (Q : X → Prop) (cs : List Value) : Prop := ∃ (s : Sl) (xs : List X), cs = [.slice s.a s.n s.c] ∧ R.R w (allB w) s xs ∧ xs.length * bytes ≤ reachBytes ∧ ∀ (i : Nat) x, xs[i]? = some x → Q x
theorem o52 : OpT enc w sp held 52 (cSl rBytes w 1 (inK .u8)) := open_sl0 (by kernel_rfl) (by kernel_rfl) (by kernel_rfl) ok5 (o5.imp fun cs h => h)
theorem o27 : OpT enc w sp held 27 (cSl rAddrs w 8 (inK .i64)) := open_sl0 (by kernel_rfl) (by kernel_rfl) (by kernel_rfl) ok22 (o22.imp fun cs h => h)
theorem o130 : OpT enc w sp held 130 (cSl rWords w 4 (inK .u32)) := open_sl0 (by kernel_rfl) (by kernel_rfl) (by kernel_rfl) ok23 (o23.imp fun cs h => h)
theorem o48 : OpT enc w sp held 48 (cSl (Rdr.sl0 ok3) w 8 (inK .i64)) := open_sl0 (by kernel_rfl) (by kernel_rfl) (by kernel_rfl) ok3 (o3.imp fun cs h => h)
/-- A piece. -/
structure XPiece.wf (x : XPiece) : Prop where
  tsn : inK .u32 x.TSN
  stream : inK .u16 x.Stream
  seq : inK .u16 x.Seq
  text : ∀ (i : Nat) n, x.Text[i]? = some n → inK .u8 n
  len : x.Text.length ≤ reachBytes
theorem o60 : OpT enc w sp held 60 fun cs => ∃ g x, cs = wrT ti60 g ∧ rPiece.R w (allB w) g x ∧ XPiece.wf x := by
  refine (open_struct [⟨23, 1, cInt .u32⟩, ⟨45, 1, cInt .u16⟩, ⟨45, 1, cInt .u16⟩, ⟨4, 1, cBool⟩, ⟨4, 1, cBool⟩, ⟨4, 1, cBool⟩, ⟨52, 1, cSl rBytes w 1 (inK .u8)⟩] (n := 7) (by kernel_rfl) rfl ?_).imp ?_
  · intro f hf
    simp only [List.mem_cons, List.not_mem_nil, or_false] at hf
    rcases hf with rfl | rfl | rfl | rfl | rfl | rfl | rfl <;> first | exact o23 | exact o45 | exact o4 | exact o52
  · rintro cs ⟨_, _, rfl, ⟨n1, rfl, h1⟩, _, _, rfl, ⟨n2, rfl, h2⟩, _, _, rfl, ⟨n3, rfl, h3⟩, _, _, rfl, ⟨b4, rfl⟩, _, _, rfl, ⟨b5, rfl⟩, _, _, rfl, ⟨b6, rfl⟩, _, _, rfl, ⟨s, xs, rfl, h7, h8, h9⟩, rfl⟩
    exact ⟨⟨n1, n2, n3, b4, b5, b6, s⟩, ⟨n1, n2, n3, b4, b5, b6, xs⟩, rfl, ⟨h7, rfl⟩, ⟨h1, h2, h3, h9, by simpa using h8⟩⟩
theorem o228 : OpT enc w sp held 228 fun cs => ∃ g : GGap, cs = wrT ti228 g ∧ True := by
  refine (open_struct [⟨3, 1, cInt .i64⟩, ⟨3, 1, cInt .i64⟩] (n := 2) (by kernel_rfl) rfl ?_).imp ?_
  · intro f hf
    simp only [List.mem_cons, List.not_mem_nil, or_false] at hf
    rcases hf with rfl | rfl <;> exact o3
  · rintro cs ⟨_, _, rfl, ⟨n1, rfl, h1⟩, _, _, rfl, ⟨n2, rfl, h2⟩, rfl⟩
    exact ⟨⟨n1, n2⟩, rfl, trivial⟩
theorem o229 : OpT enc w sp held 229 fun cs => ∃ g : GOp, cs = wrT ti229 g ∧ True := by
  refine (open_struct [⟨3, 1, cInt .i64⟩, ⟨22, 1, cInt .i64⟩] (n := 2) (by kernel_rfl) rfl ?_).imp ?_
  · intro f hf
    simp only [List.mem_cons, List.not_mem_nil, or_false] at hf
    rcases hf with rfl | rfl <;> first | exact o3 | exact o22
  · rintro cs ⟨_, _, rfl, ⟨n1, rfl, h1⟩, _, _, rfl, ⟨n2, rfl, h2⟩, rfl⟩
    exact ⟨⟨n1, n2⟩, rfl, trivial⟩
theorem o142 : OpT enc w sp held 142 (cSl rGaps w 16 fun _ => True) := open_sl0 (by kernel_rfl) (by kernel_rfl) (by kernel_rfl) ok228 o228
theorem o143 : OpT enc w sp held 143 (cSl rOps w 16 fun _ => True) := open_sl0 (by kernel_rfl) (by kernel_rfl) (by kernel_rfl) ok229 o229
theorem o145 : OpT enc w sp held 145 fun cs => ∃ g x, cs = wrT ti145 g ∧ rChunk.R w (allB w) g x ∧ (x.ok ∧ x.small 140737488355328) := by
  refine (open_struct [⟨3, 1, cInt .i64⟩, ⟨60, 7, fun cs => ∃ g x, cs = wrT ti60 g ∧ rPiece.R w (allB w) g x ∧ XPiece.wf x⟩, ⟨23, 1, cInt .u32⟩, ⟨3, 1, cInt .i64⟩, ⟨3, 1, cInt .i64⟩, ⟨3, 1, cInt .i64⟩, ⟨23, 1, cInt .u32⟩, ⟨52, 1, cSl rBytes w 1 (inK .u8)⟩, ⟨27, 1, cSl rAddrs w 8 (inK .i64)⟩,
    ⟨52, 1, cSl rBytes w 1 (inK .u8)⟩, ⟨142, 1, cSl rGaps w 16 fun _ => True⟩, ⟨130, 1, cSl rWords w 4 (inK .u32)⟩, ⟨3, 1, cInt .i64⟩, ⟨23, 1, cInt .u32⟩, ⟨143, 1, cSl rOps w 16 fun _ => True⟩, ⟨4, 1, cBool⟩] (n := 22) (by kernel_rfl) rfl ?_).imp ?_
  · intro f hf
    simp only [List.mem_cons, List.not_mem_nil, or_false] at hf
    rcases hf with rfl | rfl | rfl | rfl | rfl | rfl | rfl | rfl | rfl | rfl | rfl | rfl | rfl | rfl | rfl | rfl <;> first | exact o3 | exact o60 | exact o23 | exact o52 | exact o27 | exact o142 | exact o130 | exact o143 | exact o4
  · rintro cs ⟨_, _, rfl, ⟨n1, rfl, h1⟩, _, _, rfl, ⟨gp, xp, rfl, hp, hpw⟩, _, _, rfl, ⟨n3, rfl, h3⟩, _, _, rfl, ⟨n4, rfl, h4⟩, _, _, rfl, ⟨n5, rfl, h5⟩, _, _, rfl, ⟨n6, rfl, h6⟩, _, _, rfl, ⟨n7, rfl, h7⟩, _, _, rfl, ⟨s8, x8, rfl, h8, l8, q8⟩, _, _, rfl, ⟨s9, x9, rfl, h9, l9, q9⟩,
      _, _, rfl, ⟨s10, x10, rfl, h10, l10, q10⟩, _, _, rfl, ⟨s11, x11, rfl, h11, l11, q11⟩, _, _, rfl, ⟨s12, x12, rfl, h12, l12, q12⟩, _, _, rfl, ⟨n13, rfl, h13⟩, _, _, rfl, ⟨n14, rfl, h14⟩, _, _, rfl, ⟨s15, x15, rfl, h15, l15, q15⟩, _, _, rfl, ⟨b16, rfl⟩, rfl⟩
    have by8 : ∀ (l : List Int), (∀ (i : Nat) n, l[i]? = some n → inK .u8 n) → bytesOk l := fun l h n hn => by
      obtain ⟨i, hi, rfl⟩ := List.getElem_of_mem hn
      have := h i _ (List.getElem?_eq_getElem hi)
      simpa [inK, Lit.wf, IntKind.min, IntKind.max, IntKind.signed, IntKind.bits, Int.le_iff_lt_add_one] using this
    refine ⟨⟨n1, gp, n3, n4, n5, n6, n7, s8, s9, s10, s11, s12, n13, n14, s15, b16⟩, ⟨n1, xp, n3, n4, n5, n6, n7, x8, x9, x10, x11, x12, n13, n14, x15, b16⟩, rfl, ⟨hp, h8, h9, h10, h11, h12, h15, rfl⟩, ⟨by8 _ hpw.text, by8 _ q8, by8 _ q10⟩, ?_⟩
    have := hpw.len
    simp only [reachBytes] at *
    refine ⟨?_, ?_, ?_, ?_, ?_, ?_, ?_⟩ <;> simp only <;> omega
end Go.Wf2
