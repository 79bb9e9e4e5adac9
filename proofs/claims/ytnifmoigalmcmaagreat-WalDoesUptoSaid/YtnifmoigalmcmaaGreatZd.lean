/- digest: words read and laid. -/
import Derived.Test.YtnifmoigalmcmaaGreatZr
namespace Go.Proofs.YtnifmoigalmcmaaGreat
open Go Go.RowKit
def wd (f : Nat → Int) : Nat → Int
  | 0 => 0
  | i + 1 => bits BinOp.or IntKind.u64 (IntKind.u64.wrap (wd f i * 2 ^ 8)) (f (7 - i))
theorem word_c (w : World) (b o n cap : Nat) (f : Nat → Int) (hn : 8 ≤ n) (hcap : cap ≤ maxLen) (hnc : n ≤ cap) (hf : ∀ j, 0 ≤ f j ∧ f j < 256) (hc : ∀ j, j < 8 → w.cell? ⟨b, o + j, none⟩ = some (.int .u8 (f j))) :
    Calls Tryz.prog 163 #[.slice (some ⟨b, o, none⟩) n cap, .int .i64 8, .int .i64 0] w fun e w' => e = .returned (.int .u64 (wd f 8)) ∧ w' = w := by
  have hm : n ≤ 9223372036854775807 := by unfold maxLen at hcap; omega
  have HC := Lib.hid hc; have HF := Lib.hid hf; clear hc hf
  go_enter Tryz.func163, Tryz.ntmps163
  go_wp2
  go_loop [7, 11] (fun v s => ∃ i : Nat, i ≤ 8 ∧ s = .int .i64 i ∧ v = .int .u64 (wd f i)) (fun _ s => 8 - (intOf s).toNat)
  case atStart => exact ⟨0, by omega, rfl, rfl⟩
  case round =>
    obtain ⟨i, hi, rfl, rfl⟩ := hrel
    by_cases hlt : i < 8
    · have g := HC.out (7 - i) (by omega)
      have hb1 := (HF.out (7 - i)).1
      have hb2 := (HF.out (7 - i)).2
      have hw : IntKind.u64.wrap (f (7 - i)) = f (7 - i) := by rw [IntKind.wrap_u64]; omega
      obtain ⟨y, hy⟩ : ∃ y, y = f (7 - i) := ⟨_, rfl⟩
      obtain ⟨z, hz⟩ : ∃ z, z = wd f i := ⟨_, rfl⟩
      rw [← hy] at g hb1 hb2 hw
      rw [← hz]
      have HY := Lib.hid hy; have HZ := Lib.hid hz; clear hy hz
      go_wp2
      go_round
      case rel =>
        refine ⟨i + 1, by omega, by go_num, ?_⟩
        rw [wd, ← HZ.out, ← HY.out]; rfl
      case measure => simp [intOf]; omega
    · obtain rfl : i = 8 := by omega
      go_wp2
      go_ret
      exact ⟨rfl, rfl⟩
def layTab (cs : Array Value) (o : Nat) (x : Int) : Nat → Array Value
  | 0 => cs
  | i + 1 => (layTab cs o x i).setIfInBounds (o + i) (.int .u8 (x / 2 ^ (8 * i) % 256))
theorem layTab_size (cs : Array Value) (o : Nat) (x : Int) : ∀ i, (layTab cs o x i).size = cs.size
  | 0 => rfl
  | i + 1 => by simp [layTab, layTab_size cs o x i]
theorem lay_c (c : Col) (w : World) (b o cap : Nat) (x : Int) (cs : Array Value) (hh : w.heap[b]? = some (.cells cs 183 (0, 0))) (hs : o + 8 ≤ cs.size) (h1 : ∀ i, i < cs.size → ∃ y, cs[i]? = some (.int .u8 y)) :
    Calls Tryz.prog 165 #[.slice (some ⟨b, o, none⟩) 8 cap, .int .u64 x, .int .i64 0] w fun e w' => e = .returned (.tuple #[]) ∧ w'.heap[b]? = some (.cells (layTab cs o x 8) 183 (0, 0)) ∧ ∀ S, S (c b) → Kp c S w w' := by
  go_enter Tryz.func165, Tryz.ntmps165
  have HH := Lib.hid hh; have HO := Lib.hid h1; clear hh h1
  go_wp2
  go_loopw [10] (fun s wr => ∃ i : Nat, i ≤ 8 ∧ s = .int .i64 i ∧ wr.heap[b]? = some (.cells (layTab cs o x i) 183 (0, 0)) ∧ (∀ j, j < cs.size → ∃ y, (layTab cs o x i)[j]? = some (.int .u8 y)) ∧ ∀ S, S (c b) → Kp c S w wr) (fun s _ => 8 - (intOf s).toNat)
  case atStart => exact ⟨0, by omega, rfl, HH.out, HO.out, fun S _ => Kp.refl c S w⟩
  case round =>
    obtain ⟨i, hi, rfl, h, h1, hK⟩ := hrel
    have HO := Lib.hid h1
    by_cases hlt : i < 8
    · obtain ⟨y, hy⟩ := h1 (o + i) (by omega)
      have g : wr.cell? ⟨b, o + i, none⟩ = some (.int .u8 y) := by rw [cell_of_heap h]; exact hy
      clear h1 hy
      have f := unfrozen_of_heap h (o + i)
      have H := Lib.hid h; have HK := Lib.hid hK; clear h hK
      go_wp2
      go_roundw
      case rel =>
        refine ⟨i + 1, by omega, by go_num, heap_setCell H.out (o + i) _, fun j hj => ?_, fun S hS => (HK.out S hS).setCell (fun _ => hS) _⟩
        rw [layTab, Array.getElem?_setIfInBounds]
        split
        · rename_i e; subst e; rw [if_pos (by rw [layTab_size]; exact hj)]; exact ⟨_, rfl⟩
        · exact HO.out j hj
      case measure => simp [intOf]; omega
    · obtain rfl : i = 8 := by omega
      go_wp2
      go_end0
      exact ⟨rfl, h, hK⟩
end Go.Proofs.YtnifmoigalmcmaaGreat
