/- wal: put and get. -/
import Derived.Test.YtnifmoigalmcmaaF
import Derived.Test.YtnifmoigalmcmaaWl
import Derived.IntWalk
import Derived.Laws.Bits64b
namespace Go.Proofs.Ytnifmoigalmcmaa
open Go Go.RowKit
open Wl
variable {c : Col} {w : World}
theorem byte_eq (n k : Nat) : ((n : Int) / 2 ^ k % 256) = ((UInt8.ofNat (n / 2 ^ k)).toNat : Int) := by
  rw [UInt8.toNat_ofNat', Int.natCast_emod, Int.natCast_ediv, Int.natCast_pow]; rfl
theorem wput_c (w : World) (v : Value) (l : List UInt8) (n long : Nat) (hv : w.ownsRow 0 5 1 v l.length (l.map bv)) (hn : n < 2 ^ 64) (hl : long ≤ 8) (hll : l.length ≤ 20000000) :
    Calls Try.prog 28 #[v, .int .u64 n, .int .i64 long] w fun e w' => ∃ v', e = .returned v' ∧ w'.ownsRow 0 5 1 v' (l ++ low n long).length ((l ++ low n long).map bv) ∧ (∀ g, v'.ownBlock = some g → v.ownBlock = some g ∨ w.heap.size ≤ g) ∧ ∀ c S, (∀ g, v.ownBlock = some g → S (c g)) → Kp c S w w' := by
  obtain ⟨i0, hi, hz0, hz1, hz2⟩ := info_parts info_u8
  have H6 := Lib.hid hi; have H7 := Lib.hid hz0; have H8 := Lib.hid hz1; have H9 := Lib.hid hz2; clear hi hz0 hz1 hz2
  have HV := Lib.hid hv; have HN := Lib.hid hn; clear hv hn
  go_enter Try.func28, Try.ntmps28
  go_wp2
  go_loopw [0, 9] (fun v' s wr => ∃ i : Nat, i ≤ long ∧ s = .int .i64 i ∧ wr.ownsRow 0 5 1 v' (l.length + i) ((l ++ low n i).map bv) ∧ (∀ g, v'.ownBlock = some g → v.ownBlock = some g ∨ w.heap.size ≤ g) ∧ ∀ c S, (∀ g, v.ownBlock = some g → S (c g)) → Kp c S w wr) (fun _ s _ => long - (intOf s).toNat)
  case atStart => exact ⟨0, by omega, rfl, by simpa [low] using HV.out, fun g h => .inl h, fun c S _ => Kp.refl c S w⟩
  case round =>
    obtain ⟨i, hi, rfl, ho, hf, hK⟩ := hrel
    have HO := Lib.hid ho; have HF := Lib.hid hf; have HK := Lib.hid hK; clear ho hf hK
    by_cases hlt : i < long
    · have n1 : IntKind.i64.wrap (8 * (i : Int)) = 8 * (i : Int) := IntWalk.i64_in _ (by omega)
      have n2 : (8 * (i : Int)).toNat = 8 * i := by omega
      have n3 : (0 : Int) ≤ 8 * (i : Int) := by omega
      have n4 : min (8 * i) 64 = 8 * i := by omega
      obtain ⟨L, hL⟩ : ∃ L, L = l.length + i := ⟨_, rfl⟩
      rw [← hL] at HO
      have hL2 : L ≤ 20000010 := by omega
      have HL := Lib.hid hL; clear hL
      go_wp2_with (at_builtin; refine wpList_append2 rfl _ _ _ rfl 5 i0 (.int .u8 0) 1 Try.underlying23 H6.out H7.out H8.out H9.out rfl u0 L ((l ++ low n i).map bv) rfl (owns_alloc HO.out _) ⟨wr.heap.size, 0, none⟩ 1 1 [.int .u8 ((n : Int) / 2 ^ (8 * i) % 256)] rfl rfl (one_new _ _ _) (by simp [Value.oneCell']) (by unfold maxLen; omega) (by omega) ?_; intro v5 w5 hown5 hg5 hf5; have HO5 := Lib.hid hown5; have HF5 := Lib.hid hf5; have HG5 := Lib.hid hg5; clear hown5 hg5 hf5)
      go_roundw
      case rel =>
        refine ⟨i + 1, by omega, by go_num, ?_, fun g hg => ?_, fun c S hS => ((HK.out c S hS).alloc _).grown HG5.out (fun g hg hlt => ?_)⟩
        · have := HO5.out
          rw [byte_eq] at this
          rw [low_snoc, ← List.append_assoc, List.map_append, show l.length + (i + 1) = L + 1 by rw [HL.out]; omega]
          exact this
        · rcases HF5.out g hg with h | h
          · exact HF.out g h
          · right
            have := (HK.out (fun _ => (0, 0)) (fun _ => True) (fun _ _ => trivial)).size
            have h2 : wr.heap.size ≤ (wr.alloc (.cells #[.int .u8 ((n : Int) / 2 ^ (8 * i) % 256)] 5)).heap.size := by simp
            exact Nat.le_trans this (Nat.le_trans h2 h)
        · rcases HF.out g hg with h | h
          · exact hS g h
          · omega
      case measure => simp [intOf]; omega
    · obtain rfl : i = long := by omega
      go_wp2
      go_ret
      refine ⟨_, rfl, ?_, HF.out, HK.out⟩
      rw [List.length_append, low_length]; exact HO.out
theorem num_lt : ∀ l : List UInt8, num l < 256 ^ l.length
  | [] => by simp [num]
  | b :: r => by
    have := num_lt r
    have := b.toNat_lt
    rw [num, List.length_cons, Nat.pow_succ]; omega
theorem num_snoc (x : UInt8) : ∀ l : List UInt8, num (l ++ [x]) = num l + 256 ^ l.length * x.toNat
  | [] => by simp [num]
  | b :: r => by
    rw [List.cons_append, num, num_snoc x r, num, List.length_cons, Nat.pow_succ]
    rw [Nat.mul_add, Nat.mul_comm (256 ^ r.length) 256, Nat.mul_assoc]; omega
theorem or_add (l : List UInt8) (x : UInt8) (h : l.length < 8) : bits BinOp.or IntKind.u64 ((num l : Nat) : Int) (((2 ^ (8 * l.length) * x.toNat : Nat)) : Int) = ((num (l ++ [x]) : Nat) : Int) := by
  have h1 := num_lt l
  have h2 := x.toNat_lt
  have e : (256 : Nat) ^ l.length = 2 ^ (8 * l.length) := by rw [Nat.pow_mul]
  rw [e] at h1
  have h3 : 2 ^ (8 * l.length) ≤ 2 ^ 56 := Nat.pow_le_pow_right (by decide) (by omega)
  have h4 : 2 ^ (8 * l.length) * x.toNat ≤ 2 ^ 56 * 255 := Nat.mul_le_mul h3 (by omega)
  rw [bits_or_u64_nat _ _ (by omega) (by omega), num_snoc, e, Nat.or_comm, ← Nat.two_pow_add_eq_or_of_lt h1, Nat.add_comm]
theorem wget_c (w : World) (b o n cap : Nat) (l : List UInt8) (long : Nat) (hlong : long = l.length) (hl : long ≤ 8) (hn : long ≤ n) (hcap : n ≤ cap) (hcm : cap ≤ maxLen) (hc : ∀ (j : Nat) u, (l.map bv)[j]? = some u → w.cell? ⟨b, o + j, none⟩ = some u) :
    Calls Try.prog 55 #[.slice (some ⟨b, o, none⟩) n cap, .int .i64 (long : Nat)] w fun e w' => e = .returned (.int .u64 (num l : Nat)) ∧ w' = w := by
  have hm : n ≤ 9223372036854775807 := by unfold maxLen at hcm; omega
  have HC := Lib.hid hc; have HL := Lib.hid hlong; clear hc hlong
  go_enter Try.func55, Try.ntmps55
  go_wp2
  go_loop [5, 8] (fun v s => ∃ i : Nat, i ≤ long ∧ s = .int .i64 i ∧ v = .int .u64 ((num (l.take i) : Nat) : Int)) (fun _ s => long - (intOf s).toNat)
  case atStart => exact ⟨0, by omega, rfl, rfl⟩
  case round =>
    obtain ⟨i, hi, rfl, rfl⟩ := hrel
    by_cases hlt : i < long
    · have hil : i < l.length := by have := HL.out; omega
      have g := HC.out i (bv l[i]) (by rw [List.getElem?_map, List.getElem?_eq_getElem hil]; rfl)
      have hor := or_add (l.take i) l[i] (by rw [List.length_take]; omega)
      obtain ⟨x, hx⟩ : ∃ x, x = l[i] := ⟨_, rfl⟩
      rw [← hx] at g hor
      have hxl := x.toNat_lt
      unfold bv at g
      rw [List.length_take, Nat.min_eq_left (by omega)] at hor
      have n1 : IntKind.i64.wrap (8 * (i : Int)) = 8 * (i : Int) := IntWalk.i64_in _ (by omega)
      have n2 : (8 * (i : Int)).toNat = 8 * i := by omega
      have n3 : (0 : Int) ≤ 8 * (i : Int) := by omega
      have n4 : min (8 * i) 64 = 8 * i := by omega
      have n5 : IntKind.u64.wrap ((x.toNat : Int)) = (x.toNat : Int) := by rw [IntKind.wrap_u64]; omega
      have n6 : IntKind.u64.wrap ((x.toNat : Int) * 2 ^ (8 * i)) = ((2 ^ (8 * i) * x.toNat : Nat) : Int) := by
        have h3 : 2 ^ (8 * i) ≤ 2 ^ 56 := Nat.pow_le_pow_right (by decide) (by omega)
        have h4 : 2 ^ (8 * i) * x.toNat ≤ 2 ^ 56 * 255 := Nat.mul_le_mul h3 (by omega)
        have h5 : (x.toNat : Int) * 2 ^ (8 * i) = ((2 ^ (8 * i) * x.toNat : Nat) : Int) := by rw [Int.natCast_mul, Int.natCast_pow, Int.mul_comm]; rfl
        rw [h5, IntKind.wrap_u64]; omega
      obtain ⟨P, hP⟩ : ∃ P : Int, P = ((2 ^ (8 * i) * x.toNat : Nat) : Int) := ⟨_, rfl⟩
      rw [← hP] at hor n6
      obtain ⟨A, hA⟩ : ∃ A : Int, A = ((num (l.take i) : Nat) : Int) := ⟨_, rfl⟩
      rw [← hA] at hor ⊢
      have HX := Lib.hid hx; have HP := Lib.hid hP; have HA := Lib.hid hA; clear hx hP hA
      have HOR := Lib.hid hor; clear hor
      go_wp2
      go_round
      case rel =>
        refine ⟨i + 1, by omega, by go_num, ?_⟩
        rw [List.take_succ_eq_append_getElem hil, ← HX.out, ← HOR.out]
      case measure => simp [intOf]; omega
    · obtain rfl : i = long := by omega
      go_wp2
      go_ret
      rw [HL.out, List.take_length]
      exact ⟨rfl, rfl⟩
end Go.Proofs.Ytnifmoigalmcmaa
