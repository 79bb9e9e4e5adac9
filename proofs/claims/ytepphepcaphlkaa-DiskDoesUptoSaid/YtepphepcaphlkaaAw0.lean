import Derived.Test.YtepphepcaphlkaaDo
import Derived.Test.YtepphepcaphlkaaSt
namespace Go.Proofs.Ytepphepcaphlkaa
open Go Go.RowKit Go.MapKept Go.Maps
open Dk
variable {c c' : Col} {w w' : World}
def P0 : APlan := ⟨4, [2], [], [], 0⟩
def P1 : APlan := ⟨0, [], [], [], 0⟩
def M0 : ADisk := new_ P0
def M1 : ADisk := ⟨P0, 1, false, [([97], ⟨[], [], []⟩)]⟩
def M2 : ADisk := ⟨P0, 2, false, [([97], ⟨[], [.wr 0 [97, 98, 99]], [97, 98, 99]⟩)]⟩
def M3 : ADisk := ⟨P0, 3, false, [([97], ⟨[], [.wr 0 [97, 98, 99]], [97, 98, 99]⟩)]⟩
def M4 : ADisk := ⟨P0, 4, true, [([97], ⟨[97, 98], [], [97, 98]⟩)]⟩
def M5 : ADisk := ⟨P1, 0, false, [([97], ⟨[97, 98], [], [97, 98]⟩)]⟩
theorem m1 : create M0 [97] = (0, M1) := by rfl
theorem m2 : Dk.append M1 [97] [97, 98, 99] = (0, M2) := by rfl
theorem m3 : Dk.sync M2 [98] = (13, M3) := by rfl
theorem m4 : Dk.append M3 [97] [100, 101] = (10, M4) := by rfl
theorem m5 : Dk.start M4 P1 = M5 := by rfl
theorem m6 : read M5 [97] 0 2 = ([97, 98], 0) := by rfl
theorem m7 : files M5 = [([97], [97, 98])] := by rfl
end Go.Proofs.Ytepphepcaphlkaa
