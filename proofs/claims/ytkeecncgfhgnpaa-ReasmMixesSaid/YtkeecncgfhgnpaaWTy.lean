/- A part of the proof: lemmas; nothing is claimed here. -/
import Derived.Test.YtkeecncgfhgnpaaWAp
import Derived.Test.YtkeecncgfhgnpaaWTypes
set_option linter.all false
namespace Go.Wf2
open Go Go.Wf Go.Proofs
set_option maxRecDepth 100000

theorem ok3 : Wf.WrOk ti3 1 := ⟨fun _ => rfl, fun _ => rfl, by decide⟩
theorem ok4 : Wf.WrOk ti4 1 := ⟨fun _ => rfl, fun _ => rfl, by decide⟩
theorem ok5 : Wf.WrOk ti5 1 := ⟨fun _ => rfl, fun _ => rfl, by decide⟩
theorem ok9 : Wf.WrOk ti9 1 := ⟨fun _ => rfl, fun _ => rfl, by decide⟩
theorem ok22 : Wf.WrOk ti22 1 := ⟨fun _ => rfl, fun _ => rfl, by decide⟩
theorem ok23 : Wf.WrOk ti23 1 := ⟨fun _ => rfl, fun _ => rfl, by decide⟩
theorem ok24 : Wf.WrOk ti24 1 := ⟨fun _ => rfl, fun _ => rfl, by decide⟩
theorem ok26 : Wf.WrOk ti26 4 := ⟨fun _ => rfl, fun _ => rfl, by decide⟩
theorem ok27 : Wf.WrOk ti27 1 := ⟨fun _ => rfl, fun _ => rfl, by decide⟩
theorem ok29 : Wf.WrOk ti29 2 := ⟨fun _ => rfl, fun _ => rfl, by decide⟩
theorem ok32 : Wf.WrOk ti32 1 := ⟨fun _ => rfl, fun _ => rfl, by decide⟩
theorem ok34 : Wf.WrOk ti34 4 := ⟨fun _ => rfl, fun _ => rfl, by decide⟩
theorem ok38 : Wf.WrOk ti38 2 := ⟨fun _ => rfl, fun _ => rfl, by decide⟩
theorem ok44 : Wf.WrOk ti44 1 := ⟨fun _ => rfl, fun _ => rfl, by decide⟩
theorem ok45 : Wf.WrOk ti45 1 := ⟨fun _ => rfl, fun _ => rfl, by decide⟩
theorem ok47 : Wf.WrOk ti47 3 := ⟨fun _ => rfl, fun _ => rfl, by decide⟩
theorem ok48 : Wf.WrOk ti48 1 := ⟨fun _ => rfl, fun _ => rfl, by decide⟩
theorem ok50 : Wf.WrOk ti50 5 := ⟨fun _ => rfl, fun _ => rfl, by decide⟩
theorem ok51 : Wf.WrOk ti51 1 := ⟨fun _ => rfl, fun _ => rfl, by decide⟩
theorem ok52 : Wf.WrOk ti52 1 := ⟨fun _ => rfl, fun _ => rfl, by decide⟩
theorem ok54 : Wf.WrOk ti54 3 := ⟨fun _ => rfl, fun _ => rfl, by decide⟩
theorem ok60 : Wf.WrOk ti60 7 := ⟨fun _ => rfl, fun _ => rfl, by decide⟩
theorem ok61 : Wf.WrOk ti61 1 := ⟨fun _ => rfl, fun _ => rfl, by decide⟩
theorem ok63 : Wf.WrOk ti63 1 := ⟨fun _ => rfl, fun _ => rfl, by decide⟩
theorem ok65 : Wf.WrOk ti65 4 := ⟨fun _ => rfl, fun _ => rfl, by decide⟩
theorem ok71 : Wf.WrOk ti71 1 := ⟨fun _ => rfl, fun _ => rfl, by decide⟩
theorem ok73 : Wf.WrOk ti73 1 := ⟨fun _ => rfl, fun _ => rfl, by decide⟩
theorem ok76 : Wf.WrOk ti76 5 := ⟨fun _ => rfl, fun _ => rfl, by decide⟩
theorem ok82 : Wf.WrOk ti82 1 := ⟨fun _ => rfl, fun _ => rfl, by decide⟩
theorem ok85 : Wf.WrOk ti85 1 := ⟨fun _ => rfl, fun _ => rfl, by decide⟩
theorem ok87 : Wf.WrOk ti87 10 := ⟨fun _ => rfl, fun _ => rfl, by decide⟩
theorem ok97 : Wf.WrOk ti97 4 := ⟨fun _ => rfl, fun _ => rfl, by decide⟩
theorem ok98 : Wf.WrOk ti98 4 := ⟨fun _ => rfl, fun _ => rfl, by decide⟩
theorem ok101 : Wf.WrOk ti101 1 := ⟨fun _ => rfl, fun _ => rfl, by decide⟩
theorem ok115 : Wf.WrOk ti115 6 := ⟨fun _ => rfl, fun _ => rfl, by decide⟩
theorem ok116 : Wf.WrOk ti116 1 := ⟨fun _ => rfl, fun _ => rfl, by decide⟩
theorem ok119 : Wf.WrOk ti119 1 := ⟨fun _ => rfl, fun _ => rfl, by decide⟩
theorem ok125 : Wf.WrOk ti125 1 := ⟨fun _ => rfl, fun _ => rfl, by decide⟩
theorem ok128 : Wf.WrOk ti128 8 := ⟨fun _ => rfl, fun _ => rfl, by decide⟩
theorem ok129 : Wf.WrOk ti129 1 := ⟨fun _ => rfl, fun _ => rfl, by decide⟩
theorem ok130 : Wf.WrOk ti130 1 := ⟨fun _ => rfl, fun _ => rfl, by decide⟩
theorem ok131 : Wf.WrOk ti131 1 := ⟨fun _ => rfl, fun _ => rfl, by decide⟩
theorem ok133 : Wf.WrOk ti133 22 := ⟨fun _ => rfl, fun _ => rfl, by decide⟩
theorem ok141 : Wf.WrOk ti141 2 := ⟨fun _ => rfl, fun _ => rfl, by decide⟩
theorem ok142 : Wf.WrOk ti142 1 := ⟨fun _ => rfl, fun _ => rfl, by decide⟩
theorem ok143 : Wf.WrOk ti143 1 := ⟨fun _ => rfl, fun _ => rfl, by decide⟩
theorem ok145 : Wf.WrOk ti145 22 := ⟨fun _ => rfl, fun _ => rfl, by decide⟩
theorem ok160 : Wf.WrOk ti160 1 := ⟨fun _ => rfl, fun _ => rfl, by decide⟩
theorem ok162 : Wf.WrOk ti162 2 := ⟨fun _ => rfl, fun _ => rfl, by decide⟩
theorem ok168 : Wf.WrOk ti168 1 := ⟨fun _ => rfl, fun _ => rfl, by decide⟩
theorem ok170 : Wf.WrOk ti170 10 := ⟨fun _ => rfl, fun _ => rfl, by decide⟩
theorem ok175 : Wf.WrOk ti175 2 := ⟨fun _ => rfl, fun _ => rfl, by decide⟩
theorem ok179 : Wf.WrOk ti179 1 := ⟨fun _ => rfl, fun _ => rfl, by decide⟩
theorem ok215 : Wf.WrOk ti215 1 := ⟨fun _ => rfl, fun _ => rfl, by decide⟩
theorem ok218 : Wf.WrOk ti218 3 := ⟨fun _ => rfl, fun _ => rfl, by decide⟩
theorem ok227 : Wf.WrOk ti227 2 := ⟨fun _ => rfl, fun _ => rfl, by decide⟩
theorem ok228 : Wf.WrOk ti228 2 := ⟨fun _ => rfl, fun _ => rfl, by decide⟩
theorem ok229 : Wf.WrOk ti229 2 := ⟨fun _ => rfl, fun _ => rfl, by decide⟩
theorem ok254 : Wf.WrOk ti254 3 := ⟨fun _ => rfl, fun _ => rfl, by decide⟩
theorem ok275 : Wf.WrOk ti275 1 := ⟨fun _ => rfl, fun _ => rfl, by decide⟩
theorem ok278 : Wf.WrOk ti278 1 := ⟨fun _ => rfl, fun _ => rfl, by decide⟩
theorem ok286 : Wf.WrOk ti286 1 := ⟨fun _ => rfl, fun _ => rfl, by decide⟩
theorem ok293 : Wf.WrOk ti293 1 := ⟨fun _ => rfl, fun _ => rfl, by decide⟩
theorem ok297 : Wf.WrOk ti297 1 := ⟨fun _ => rfl, fun _ => rfl, by decide⟩
theorem ok302 : Wf.WrOk ti302 1 := ⟨fun _ => rfl, fun _ => rfl, by decide⟩
theorem el24 : Wf.ElOk Try.prog 24 145 22 256 := Wf.elOk_of (by kernel_rfl)
theorem el27 : Wf.ElOk Try.prog 27 22 1 8 := Wf.elOk_of (by kernel_rfl)
theorem el32 : Wf.ElOk Try.prog 32 133 22 256 := Wf.elOk_of (by kernel_rfl)
theorem el44 : Wf.ElOk Try.prog 44 54 3 40 := Wf.elOk_of (by kernel_rfl)
theorem el48 : Wf.ElOk Try.prog 48 3 1 8 := Wf.elOk_of (by kernel_rfl)
theorem el51 : Wf.ElOk Try.prog 51 60 7 40 := Wf.elOk_of (by kernel_rfl)
theorem el52 : Wf.ElOk Try.prog 52 5 1 1 := Wf.elOk_of (by kernel_rfl)
theorem el71 : Wf.ElOk Try.prog 71 76 5 48 := Wf.elOk_of (by kernel_rfl)
theorem el82 : Wf.ElOk Try.prog 82 98 4 48 := Wf.elOk_of (by kernel_rfl)
theorem el85 : Wf.ElOk Try.prog 85 97 4 48 := Wf.elOk_of (by kernel_rfl)
theorem el116 : Wf.ElOk Try.prog 116 9 1 16 := Wf.elOk_of (by kernel_rfl)
theorem el125 : Wf.ElOk Try.prog 125 128 8 48 := Wf.elOk_of (by kernel_rfl)
theorem el129 : Wf.ElOk Try.prog 129 227 2 16 := Wf.elOk_of (by kernel_rfl)
theorem el130 : Wf.ElOk Try.prog 130 23 1 4 := Wf.elOk_of (by kernel_rfl)
theorem el131 : Wf.ElOk Try.prog 131 141 2 16 := Wf.elOk_of (by kernel_rfl)
theorem el142 : Wf.ElOk Try.prog 142 228 2 16 := Wf.elOk_of (by kernel_rfl)
theorem el143 : Wf.ElOk Try.prog 143 229 2 16 := Wf.elOk_of (by kernel_rfl)
theorem el179 : Wf.ElOk Try.prog 179 175 2 16 := Wf.elOk_of (by kernel_rfl)
theorem el275 : Wf.ElOk Try.prog 275 27 1 24 := Wf.elOk_of (by kernel_rfl)
end Go.Wf2
