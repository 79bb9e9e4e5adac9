/- The law's few over one step; cairnref10.Same. -/
import Derived.Test.YtnifmoigalmcmaaYp
import Derived.Laws.IdiomStrings
namespace Go.Proofs.Ytnifmoigalmcmaa
open Go Go.RowKit
open Wl
variable {c c' : Col} {w w' : World} {S : Nat × Nat → Prop} {q : Nat × Nat}
def sumL (l : List Bs) (i : Nat) : Nat := ((l.take i).map List.length).sum
def tot (l : List Bs) : Nat := l.length + (l.map List.length).sum
theorem sumL_succ (l : List Bs) (i : Nat) (h : i < l.length) : sumL l (i + 1) = sumL l i + l[i].length := by
  unfold sumL
  rw [List.take_succ_eq_append_getElem h, List.map_append, List.sum_append]; simp
theorem sumL_le (l : List Bs) (i : Nat) (h : ∀ r ∈ l, r.length ≤ 1000000000) : sumL l i ≤ i * 1000000000 := by
  induction i with
  | zero => simp [sumL]
  | succ i ih =>
    by_cases hi : i < l.length
    · rw [sumL_succ l i hi]; have := h l[i] (List.getElem_mem hi); omega
    · have : sumL l (i + 1) = sumL l i := by unfold sumL; rw [List.take_of_length_le (by omega), List.take_of_length_le (by omega)]
      omega
theorem sumL_full (l : List Bs) : tot l = l.length + sumL l l.length := by unfold tot sumL; rw [List.take_length]
set_option maxRecDepth 20000 in
set_option maxHeartbeats 4000000 in
theorem few1_c (q1 q2 : Nat × Nat) (va : Value) (l : List Bs) (B : Nat) (w : World) (h : BatW w c q1 q2 va l) (hl : l.length ≤ 1000000000) (hb : ∀ r ∈ l, r.length ≤ 1000000000)
    (hB : w.heap[B]? = some (.cells #[.int .i64 0, va, .int .i64 0, .slice none 0 0, .slice none 0 0, .slice none 0 0, .int .i64 0, .slice none 0 0] 30 (0, 0))) :
    Calls Try.prog 8 #[.slice (some ⟨B, 0, none⟩) 1 1] w fun e w' => e = .returned (.bool (decide (tot l ≤ 20000))) ∧ ∀ c S, Kp c S w w' := by
  have g0 : w.cell? ⟨B, 0, none⟩ = some (.int .i64 0) := cell_of_heap hB 0
  have g1 : w.cell? ⟨B, 1, none⟩ = some va := cell_of_heap hB 1
  have g2 : w.cell? ⟨B, 2, none⟩ = some (.int .i64 0) := cell_of_heap hB 2
  have g3 : w.cell? ⟨B, 3, none⟩ = some (.slice none 0 0) := cell_of_heap hB 3
  have g4 : w.cell? ⟨B, 4, none⟩ = some (.slice none 0 0) := cell_of_heap hB 4
  have g5 : w.cell? ⟨B, 5, none⟩ = some (.slice none 0 0) := cell_of_heap hB 5
  have g6 : w.cell? ⟨B, 6, none⟩ = some (.int .i64 0) := cell_of_heap hB 6
  have g7 : w.cell? ⟨B, 7, none⟩ = some (.slice none 0 0) := cell_of_heap hB 7
  clear hB
  rcases h.at with ⟨a, cap, rfl, rfl⟩ | ⟨b, o, cap, rfl, hlc, hcm, hx⟩
  · clear h hl hb
    go_enter Try.func8, Try.ntmps8
    go_wp2
    refine wp_loop_rounds 2 ?_
    rw [rounds_succ]
    go_wp2
    refine wp_loop_rounds 1 ?_
    rw [rounds_succ]
    go_wp2
    rw [rounds_succ]
    go_wp2
    go_ret
    exact ⟨rfl, fun c S => (Kp.refl c S w).alloc _⟩
  · have HX := Lib.hid hx; have HB := Lib.hid hb; clear hx h hb
    go_enter Try.func8, Try.ntmps8
    go_wp2
    refine wp_loop_rounds 2 ?_
    rw [rounds_succ]
    go_wp2
    go_loop [3, 26] (fun v s => ∃ i : Nat, i ≤ l.length ∧ s = .int .i64 i ∧ v = .int .i64 ((l.length + sumL l i : Nat) : Int)) (fun _ s => l.length - (intOf s).toNat)
    case atStart => exact ⟨0, by omega, rfl, by simp [sumL]⟩
    case round =>
      obtain ⟨i, hi, rfl, rfl⟩ := hrel
      have hsum := sumL_le l i HB.out
      have hs63 : sumL l i ≤ 1000000000000000000 := by have : i * 1000000000 ≤ 1000000000 * 1000000000 := Nat.mul_le_mul_right _ (by omega); omega
      by_cases hlt : i < l.length
      · obtain ⟨a, k, g, hsc⟩ := HX.out i hlt
        have g := (World.cell?_alloc_lt w (.cells #[.int .i64 0, .slice (some ⟨b, o, none⟩) l.length cap, .int .i64 0, .slice none 0 0, .slice none 0 0, .slice none 0 0, .int .i64 0, .slice none 0 0] 30) ⟨b, o + i, none⟩ (World.block_lt_of_cell? _ _ g)).trans g
        have hsucc := sumL_succ l i hlt
        have hbi := HB.out l[i] (List.getElem_mem hlt)
        obtain ⟨m, hm⟩ : ∃ m, m = l[i].length := ⟨_, rfl⟩
        rw [← hm] at g hsucc hbi
        have HM := Lib.hid hm; clear hm hsc
        obtain ⟨x, hx⟩ : ∃ x, x = sumL l i := ⟨_, rfl⟩
        rw [← hx] at hsucc hsum hs63 ⊢
        have HSU := Lib.hid hsucc; clear hsucc hx hsum
        go_wp2
        go_round
        case rel => exact ⟨i + 1, by omega, by go_num, by rw [HSU.out]; go_num⟩
        case measure => simp [intOf]; omega
      · obtain rfl : i = l.length := by omega
        have hfull := sumL_full l
        obtain ⟨x, hx⟩ : ∃ x, x = sumL l l.length := ⟨_, rfl⟩
        rw [← hx] at hsum hs63 hfull ⊢
        have HF := Lib.hid hfull
        clear hfull hx hsum HX HB
        go_wp2
        rw [rounds_succ]
        go_wp2
        all_goals
          go_ret
          refine ⟨?_, fun c S => (Kp.refl c S w).alloc _⟩
          rw [HF.out]; simp; omega
end Go.Proofs.Ytnifmoigalmcmaa
