/- Each: a range over the files of a disk: its iterator's contract. -/
import Derived.RangeFuncWrites
import Derived.RangeFuncLeaves
import Derived.Shelf.Abstract
import Derived.OwnWalkIn
import Derived.TacticsInMore
import Derived.LoopNIn
import Derived.LoopIn
import Derived.Maps.OwnIn
import Derived.Test.YtnifmoigalmcmaaGreatLt
import Derived.Test.YtnifmoigalmcmaaGreatNo
namespace Go.Proofs.YtnifmoigalmcmaaGreat
open Go Go.RowKit Go.MapKept Go.Maps Go.Shelf
open Dk
attribute [local go_sem] Oper.semAt_some
variable {c c' : Col} {w w' : World}
theorem Kp.row (h : ∀ S, Kp c S w w') : w.grownBy w' none := by
  have h := h (fun _ => False)
  exact ⟨h.os, h.tape, h.output, h.size, fun k hk _ => h.block k hk (fun h => h)⟩
/-- What a round keeps: all cells but those of the blocks Bx. -/
def KpX (Bx : Nat → Prop) (A B : World) : Prop := A.heap.size ≤ B.heap.size ∧ ∀ b cs t fz, A.heap[b]? = some (.cells cs t fz) → ¬ Bx b → B.heap[b]? = some (.cells cs t fz)
theorem kpx_t {Bx : Nat → Prop} {A B C : World} (h : KpX Bx A B) (k : KpX Bx B C) : KpX Bx A C := ⟨Nat.le_trans h.1 k.1, fun b cs t fz hb hn => k.2 b cs t fz (h.2 b cs t fz hb hn) hn⟩
theorem kpx_b {Bx : Nat → Prop} {n : Nat} (W : World) (l : Nat) (o o' : Obj) (_ : n ≤ l) (h : W.heap[l]? = some o) (ho : o.isCells = false) (_ : o.isWalk = false) : KpX Bx W (W.putObj l o') := by
  have hg := grownBy_putObj' W l o'
  refine ⟨hg.size, fun b cs t fz hb _ => ?_⟩
  have hne : b ≠ l := by rintro rfl; rw [hb] at h; cases h; cases ho
  exact (hg.block b (lt_of_heap hb) (by simp; exact hne)).trans hb
theorem kpx_alloc {Bx : Nat → Prop} (W : World) (o : Obj) : KpX Bx W (W.alloc o) := ⟨by simp, fun b cs t fz hb _ => heap_alloc_old o hb⟩
/-- Names and lengths of a list of files, as the iterator reads them. -/
def Heads (Bx : Nat → Prop) (w : World) (v : Value) (L : List (Nm × Nat)) : Prop :=
  ∃ a cap, v = .slice a L.length cap ∧ (L.length : Int) ≤ 4096 ∧ (∀ x ∈ L, (x.2 : Int) ≤ 268435456) ∧ (0 < L.length → ∃ g cs t fz, a = some ⟨g, 0, none⟩ ∧ ¬ Bx g ∧ w.heap[g]? = some (.cells cs t fz) ∧ ∀ j x, L[j]? = some x → cs[j * 2]? = some (str x.1) ∧ ∃ ad kd, cs[j * 2 + 1]? = some (.slice ad x.2 kd))
theorem Heads.kpx {Bx : Nat → Prop} {v : Value} {L : List (Nm × Nat)} (h : Heads Bx w v L) (hk : KpX Bx w w') : Heads Bx w' v L := by
  obtain ⟨a, cap, e, h1, h2, h3⟩ := h
  refine ⟨a, cap, e, h1, h2, fun h0 => ?_⟩
  obtain ⟨g, cs, t, fz, e1, e2, e3, e4⟩ := h3 h0
  exact ⟨g, cs, t, fz, e1, e2, hk.2 g cs t fz e3 e2, e4⟩
end Go.Proofs.YtnifmoigalmcmaaGreat
