/- cairnref10: low and number. -/
import Derived.Test.YtnifmoigalmcmaaYa
namespace Go.Proofs.Ytnifmoigalmcmaa
open Go Go.RowKit
open Wl
variable {c : Col} {w : World}
theorem rlow_c (w : World) (n many : Nat) (hn : n < 2 ^ 64) (hl : many ≤ 8) :
    Calls Try.prog 30 #[.int .u64 n, .int .i64 many] w fun e w' => ∃ v', e = .returned v' ∧ w'.ownsRow 0 5 1 v' (low n many).length ((low n many).map bv) ∧ (∀ g, v'.ownBlock = some g → w.heap.size ≤ g) ∧ ∀ c S, Kp c S w w' := by
  obtain ⟨i0, hi, hz0, hz1, hz2⟩ := info_parts info_u8
  have H6 := Lib.hid hi; have H7 := Lib.hid hz0; have H8 := Lib.hid hz1; have H9 := Lib.hid hz2; clear hi hz0 hz1 hz2
  have HN := Lib.hid hn; clear hn
  go_enter Try.func30, Try.ntmps30
  go_wp2
  go_loopw [5, 6] (fun v' s wr => ∃ i : Nat, i ≤ many ∧ s = .int .i64 i ∧ wr.ownsRow 0 5 1 v' i ((low n i).map bv) ∧ (∀ g, v'.ownBlock = some g → w.heap.size ≤ g) ∧ ∀ c S, Kp c S w wr) (fun _ s _ => many - (intOf s).toNat)
  case atStart => exact ⟨0, by omega, rfl, World.ownsRow_nil _ _ _ _, (fun _ h => nomatch h), fun c S => Kp.refl c S w⟩
  case round =>
    obtain ⟨i, hi, rfl, ho, hf, hK⟩ := hrel
    have HO := Lib.hid ho; have HF := Lib.hid hf; have HK := Lib.hid hK; clear ho hf hK
    by_cases hlt : i < many
    · have n1 : IntKind.i64.wrap (8 * (i : Int)) = 8 * (i : Int) := IntWalk.i64_in _ (by omega)
      have n2 : (8 * (i : Int)).toNat = 8 * i := by omega
      have n3 : (0 : Int) ≤ 8 * (i : Int) := by omega
      have n4 : min (8 * i) 64 = 8 * i := by omega
      go_wp2_with (at_builtin; refine wpList_append2 rfl _ _ _ rfl 5 i0 (.int .u8 0) 1 Try.underlying23 H6.out H7.out H8.out H9.out rfl u5 i ((low n i).map bv) rfl (owns_alloc HO.out _) ⟨wr.heap.size, 0, none⟩ 1 1 [.int .u8 ((n : Int) / 2 ^ (8 * i) % 256)] rfl rfl (one_new _ _ _) (by simp [Value.oneCell']) (by unfold maxLen; omega) (by omega) ?_; intro v5 w5 hown5 hg5 hf5; have HO5 := Lib.hid hown5; have HF5 := Lib.hid hf5; have HG5 := Lib.hid hg5; clear hown5 hg5 hf5)
      go_roundw
      case rel =>
        refine ⟨i + 1, by omega, by go_num, ?_, fun g hg => ?_, fun c S => ((HK.out c S).alloc _).grown HG5.out (fun g hg hlt => absurd (HF.out g hg) (by omega))⟩
        · have := HO5.out
          rw [byte_eq] at this
          rw [low_snoc, List.map_append]
          exact this
        · rcases HF5.out g hg with h | h
          · exact HF.out g h
          · have := (HK.out (fun _ => (0, 0)) (fun _ => True)).size
            have h2 : wr.heap.size ≤ (wr.alloc (.cells #[.int .u8 ((n : Int) / 2 ^ (8 * i) % 256)] 5)).heap.size := by simp
            exact Nat.le_trans this (Nat.le_trans h2 h)
      case measure => simp [intOf]; omega
    · obtain rfl : i = many := by omega
      go_wp2
      go_ret
      exact ⟨_, rfl, by rw [low_length]; exact HO.out, HF.out, HK.out⟩
theorem num_drop (l : List UInt8) (k : Nat) (h : k < l.length) : num (l.drop k) = num (l.drop (k + 1)) * 256 + l[k].toNat := by
  rw [List.drop_eq_getElem_cons h, num]; omega
theorem rnumber_c (w : World) (b o cap : Nat) (l : List UInt8) (hl : l.length ≤ 8) (hcap : l.length ≤ cap) (hcm : cap ≤ maxLen) (hc : ∀ (j : Nat) u, (l.map bv)[j]? = some u → w.cell? ⟨b, o + j, none⟩ = some u) :
    Calls Try.prog 57 #[.slice (some ⟨b, o, none⟩) l.length cap] w fun e w' => e = .returned (.int .u64 (num l : Nat)) ∧ w' = w := by
  have HC := Lib.hid hc; clear hc
  unfold maxLen at hcm
  go_enter Try.func57, Try.ntmps57
  go_wp2
  go_loop [3, 4] (fun v s => ∃ k : Nat, k ≤ l.length ∧ s = .int .i64 ((k : Int) - 1) ∧ v = .int .u64 ((num (l.drop k) : Nat) : Int)) (fun _ s => (intOf s + 1).toNat)
  case atStart => exact ⟨l.length, Nat.le_refl _, rfl, by simp [num]⟩
  case round =>
    obtain ⟨k, hk, rfl, rfl⟩ := hrel
    by_cases h0 : 0 < k
    · obtain ⟨i, rfl⟩ : ∃ i, k = i + 1 := ⟨k - 1, by omega⟩
      have g := HC.out i _ (List.getElem?_eq_getElem (by rw [List.length_map]; omega))
      rw [List.getElem_map] at g
      have hb := (l[i]'(by omega)).toNat_lt
      have hm := num_drop l i (by omega)
      have hlt := num_lt (l.drop (i + 1))
      have hp : (256 : Nat) ^ (l.drop (i + 1)).length ≤ 256 ^ 7 := Nat.pow_le_pow_right (by decide) (by rw [List.length_drop]; omega)
      obtain ⟨x, hx⟩ : ∃ x, x = (l[i]'(by omega)).toNat := ⟨_, rfl⟩
      obtain ⟨m, hme⟩ : ∃ m, m = num (l.drop (i + 1)) := ⟨_, rfl⟩
      replace g : w.cell? ⟨b, o + i, none⟩ = some (.int .u8 (x : Int)) := by rw [g, hx]; rfl
      rw [← hx] at hb hm
      rw [← hme] at hm hlt ⊢
      have hm7 : m < 72057594037927936 := by omega
      have HM := Lib.hid hm
      clear hx hme hm hlt hp
      have i1 : (((i + 1 : Nat) : Int) - 1) = i := by omega
      rw [i1]
      clear i1
      go_wp2
      go_round
      case rel => exact ⟨i, by omega, rfl, by rw [HM.out]; go_num⟩
      case measure => simp [intOf]
    · obtain rfl : k = 0 := by omega
      go_wp2
      go_ret
      exact ⟨rfl, rfl⟩
end Go.Proofs.Ytnifmoigalmcmaa
