/- wal: put and get. -/
import Derived.Test.YtnifmoigalmcmaaGreatWl
import Derived.IntWalk
import Derived.Laws.Bits64b
import Derived.Laws.OwnMore
namespace Go.Proofs.YtnifmoigalmcmaaGreat
open Go Go.RowKit
open Wl
variable {c : Col} {w : World}
theorem byte_eq (n k : Nat) : ((n : Int) / 2 ^ k % 256) = ((UInt8.ofNat (n / 2 ^ k)).toNat : Int) := by
  rw [UInt8.toNat_ofNat', Int.natCast_emod, Int.natCast_ediv, Int.natCast_pow]; rfl
theorem wput_c (w : World) (v : Value) (l : List UInt8) (n long : Nat) (hv : w.ownsRow 0 5 1 v l.length (l.map bv)) (hn : n < 2 ^ 64) (hl : long ≤ 8) (hll : l.length ≤ 20000000) :
    Calls Tryz.prog 120 #[v, .int .u64 n, .int .i64 long] w fun e w' => ∃ v', e = .returned v' ∧ w'.ownsRow 0 5 1 v' (l ++ low n long).length ((l ++ low n long).map bv) ∧ (∀ g, v'.ownBlock = some g → v.ownBlock = some g ∨ w.heap.size ≤ g) ∧ ∀ c S, (∀ g, v.ownBlock = some g → S (c g)) → Kp c S w w' := by
  obtain ⟨i0, hi, hz0, hz1, hz2⟩ := info_parts info_u8
  have H6 := Lib.hid hi; have H7 := Lib.hid hz0; have H8 := Lib.hid hz1; have H9 := Lib.hid hz2; clear hi hz0 hz1 hz2
  have HV := Lib.hid hv; have HN := Lib.hid hn; clear hv hn
  go_enter Tryz.func120, Tryz.ntmps120
  go_wp2
  go_loopw [0, 9] (fun v' s wr => ∃ i : Nat, i ≤ long ∧ s = .int .i64 i ∧ wr.ownsRow 0 5 1 v' (l.length + i) ((l ++ low n i).map bv) ∧ (∀ g, v'.ownBlock = some g → v.ownBlock = some g ∨ w.heap.size ≤ g) ∧ ∀ c S, (∀ g, v.ownBlock = some g → S (c g)) → Kp c S w wr) (fun _ s _ => long - (intOf s).toNat)
  case atStart => exact ⟨0, by omega, rfl, by simpa [low] using HV.out, fun g h => .inl h, fun c S _ => Kp.refl c S w⟩
  case round =>
    obtain ⟨i, hi, rfl, ho, hf, hK⟩ := hrel
    have HO := Lib.hid ho; have HF := Lib.hid hf; have HK := Lib.hid hK; clear ho hf hK
    by_cases hlt : i < long
    · have n1 : IntKind.i64.wrap (8 * (i : Int)) = 8 * (i : Int) := IntWalk.i64_in _ (by omega)
      have n2 : (8 * (i : Int)).toNat = 8 * i := by omega
      have n3 : (0 : Int) ≤ 8 * (i : Int) := by omega
      have n4 : min (8 * i) 64 = 8 * i := by omega
      obtain ⟨L, hL⟩ : ∃ L, L = l.length + i := ⟨_, rfl⟩
      rw [← hL] at HO
      have hL2 : L ≤ 20000010 := by omega
      have HL := Lib.hid hL; clear hL
      go_wp2_with (at_builtin; refine wpList_append2 rfl _ _ _ rfl 5 i0 (.int .u8 0) 1 Tryz.underlying41 H6.out H7.out H8.out H9.out rfl u0 L ((l ++ low n i).map bv) rfl (owns_alloc HO.out _) ⟨wr.heap.size, 0, none⟩ 1 1 [.int .u8 ((n : Int) / 2 ^ (8 * i) % 256)] rfl rfl (one_new _ _ _) (by simp [Value.oneCell']) (by unfold maxLen; omega) (by omega) ?_; intro v5 w5 hown5 hg5 hf5; have HO5 := Lib.hid hown5; have HF5 := Lib.hid hf5; have HG5 := Lib.hid hg5; clear hown5 hg5 hf5)
      go_roundw
      case rel =>
        refine ⟨i + 1, by omega, by go_num, ?_, fun g hg => ?_, fun c S hS => ((HK.out c S hS).alloc _).grown HG5.out (fun g hg hlt => ?_)⟩
        · have := HO5.out
          rw [byte_eq] at this
          rw [low_snoc, ← List.append_assoc, List.map_append, show l.length + (i + 1) = L + 1 by rw [HL.out]; omega]
          exact this
        · rcases HF5.out g hg with h | h
          · exact HF.out g h
          · right
            have := (HK.out (fun _ => (0, 0)) (fun _ => True) (fun _ _ => trivial)).size
            have h2 : wr.heap.size ≤ (wr.alloc (.cells #[.int .u8 ((n : Int) / 2 ^ (8 * i) % 256)] 5)).heap.size := by simp
            exact Nat.le_trans this (Nat.le_trans h2 h)
        · rcases HF.out g hg with h | h
          · exact hS g h
          · omega
      case measure => simp [intOf]; omega
    · obtain rfl : i = long := by omega
      go_wp2
      go_ret
      refine ⟨_, rfl, ?_, HF.out, HK.out⟩
      rw [List.length_append, low_length]; exact HO.out
theorem num_lt : ∀ l : List UInt8, num l < 256 ^ l.length
  | [] => by simp [num]
  | b :: r => by
    have := num_lt r
    have := b.toNat_lt
    rw [num, List.length_cons, Nat.pow_succ]; omega
theorem num_snoc (x : UInt8) : ∀ l : List UInt8, num (l ++ [x]) = num l + 256 ^ l.length * x.toNat
  | [] => by simp [num]
  | b :: r => by
    rw [List.cons_append, num, num_snoc x r, num, List.length_cons, Nat.pow_succ]
    rw [Nat.mul_add, Nat.mul_comm (256 ^ r.length) 256, Nat.mul_assoc]; omega
theorem or_add (l : List UInt8) (x : UInt8) (h : l.length < 8) : bits BinOp.or IntKind.u64 ((num l : Nat) : Int) (((2 ^ (8 * l.length) * x.toNat : Nat)) : Int) = ((num (l ++ [x]) : Nat) : Int) := by
  have h1 := num_lt l
  have h2 := x.toNat_lt
  have e : (256 : Nat) ^ l.length = 2 ^ (8 * l.length) := by rw [Nat.pow_mul]
  rw [e] at h1
  have h3 : 2 ^ (8 * l.length) ≤ 2 ^ 56 := Nat.pow_le_pow_right (by decide) (by omega)
  have h4 : 2 ^ (8 * l.length) * x.toNat ≤ 2 ^ 56 * 255 := Nat.mul_le_mul h3 (by omega)
  rw [bits_or_u64_nat _ _ (by omega) (by omega), num_snoc, e, Nat.or_comm, ← Nat.two_pow_add_eq_or_of_lt h1, Nat.add_comm]
theorem wget_c (w : World) (b o n cap : Nat) (l : List UInt8) (long : Nat) (hlong : long = l.length) (hl : long ≤ 8) (hn : long ≤ n) (hcap : n ≤ cap) (hcm : cap ≤ maxLen) (hc : ∀ (j : Nat) u, (l.map bv)[j]? = some u → w.cell? ⟨b, o + j, none⟩ = some u) :
    Calls Tryz.prog 166 #[.slice (some ⟨b, o, none⟩) n cap, .int .i64 (long : Nat)] w fun e w' => e = .returned (.int .u64 (num l : Nat)) ∧ w' = w := by
  have hm : n ≤ 9223372036854775807 := by unfold maxLen at hcm; omega
  have HC := Lib.hid hc; have HL := Lib.hid hlong; clear hc hlong
  go_enter Tryz.func166, Tryz.ntmps166
  go_wp2
  go_loop [5, 8] (fun v s => ∃ i : Nat, i ≤ long ∧ s = .int .i64 i ∧ v = .int .u64 ((num (l.take i) : Nat) : Int)) (fun _ s => long - (intOf s).toNat)
  case atStart => exact ⟨0, by omega, rfl, rfl⟩
  case round =>
    obtain ⟨i, hi, rfl, rfl⟩ := hrel
    by_cases hlt : i < long
    · have hil : i < l.length := by have := HL.out; omega
      have g := HC.out i (bv l[i]) (by rw [List.getElem?_map, List.getElem?_eq_getElem hil]; rfl)
      have hor := or_add (l.take i) l[i] (by rw [List.length_take]; omega)
      obtain ⟨x, hx⟩ : ∃ x, x = l[i] := ⟨_, rfl⟩
      rw [← hx] at g hor
      have hxl := x.toNat_lt
      unfold bv at g
      rw [List.length_take, Nat.min_eq_left (by omega)] at hor
      have n1 : IntKind.i64.wrap (8 * (i : Int)) = 8 * (i : Int) := IntWalk.i64_in _ (by omega)
      have n2 : (8 * (i : Int)).toNat = 8 * i := by omega
      have n3 : (0 : Int) ≤ 8 * (i : Int) := by omega
      have n4 : min (8 * i) 64 = 8 * i := by omega
      have n5 : IntKind.u64.wrap ((x.toNat : Int)) = (x.toNat : Int) := by rw [IntKind.wrap_u64]; omega
      have n6 : IntKind.u64.wrap ((x.toNat : Int) * 2 ^ (8 * i)) = ((2 ^ (8 * i) * x.toNat : Nat) : Int) := by
        have h3 : 2 ^ (8 * i) ≤ 2 ^ 56 := Nat.pow_le_pow_right (by decide) (by omega)
        have h4 : 2 ^ (8 * i) * x.toNat ≤ 2 ^ 56 * 255 := Nat.mul_le_mul h3 (by omega)
        have h5 : (x.toNat : Int) * 2 ^ (8 * i) = ((2 ^ (8 * i) * x.toNat : Nat) : Int) := by rw [Int.natCast_mul, Int.natCast_pow, Int.mul_comm]; rfl
        rw [h5, IntKind.wrap_u64]; omega
      obtain ⟨P, hP⟩ : ∃ P : Int, P = ((2 ^ (8 * i) * x.toNat : Nat) : Int) := ⟨_, rfl⟩
      rw [← hP] at hor n6
      obtain ⟨A, hA⟩ : ∃ A : Int, A = ((num (l.take i) : Nat) : Int) := ⟨_, rfl⟩
      rw [← hA] at hor ⊢
      have HX := Lib.hid hx; have HP := Lib.hid hP; have HA := Lib.hid hA; clear hx hP hA
      have HOR := Lib.hid hor; clear hor
      go_wp2
      go_round
      case rel =>
        refine ⟨i + 1, by omega, by go_num, ?_⟩
        rw [List.take_succ_eq_append_getElem hil, ← HX.out, ← HOR.out]
      case measure => simp [intOf]; omega
    · obtain rfl : i = long := by omega
      go_wp2
      go_ret
      rw [HL.out, List.take_length]
      exact ⟨rfl, rfl⟩
end Go.Proofs.YtnifmoigalmcmaaGreat
/- wal: batches in memory; which lists are batches. -/
namespace Go.Proofs.YtnifmoigalmcmaaGreat
open Go Go.RowKit
open Wl
variable {c c' : Col} {w w' : World} {S : Nat × Nat → Prop}
/-- A batch as it lies in memory: a slice of slices. -/
def Bat (w : World) (c : Col) (q1 q2 : Nat × Nat) (v : Value) (l : List Bs) : Prop :=
  ∃ xs, Sc w c q1 v xs ∧ xs.length = l.length ∧ ∀ (i : Nat) x y, xs[i]? = some x → l[i]? = some y → Sc w c q2 x (y.map bv)
theorem Bat.kp {q1 q2 : Nat × Nat} {v : Value} {l : List Bs} (h : Bat w c q1 q2 v l) (hk : Kp c S w w') (h1 : ¬ S q1) (h2 : ¬ S q2) (hc : Cx w c c') : Bat w' c' q1 q2 v l := by
  obtain ⟨xs, a, b, d⟩ := h
  exact ⟨xs, a.kp hk h1 hc, b, fun i x y hx hy => (d i x y hx hy).kp hk h2 hc⟩
theorem Bat.at {q1 q2 : Nat × Nat} {v : Value} {l : List Bs} (h : Bat w c q1 q2 v l) : (v = .slice none 0 0 ∧ l = []) ∨ ∃ b o cap, v = .slice (some ⟨b, o, none⟩) l.length cap ∧ l.length ≤ cap ∧ cap ≤ maxLen ∧
    ∀ (j : Nat) (hj : j < l.length), ∃ a k, w.cell? ⟨b, o + j, none⟩ = some (.slice a l[j].length k) ∧ Sc w c q2 (.slice a l[j].length k) (l[j].map bv) := by
  obtain ⟨xs, hs, hl, hx⟩ := h
  rcases hs.cases with ⟨rfl, h0⟩ | ⟨b, o, cap, rfl, hlc, hcm, _, hc⟩
  · subst h0
    exact .inl ⟨rfl, List.eq_nil_of_length_eq_zero (by simpa using hl.symm)⟩
  · right
    refine ⟨b, o, cap, by rw [hl], by omega, hcm, fun j hj => ?_⟩
    have hj' : j < xs.length := by omega
    have h1 := hx j xs[j] l[j] (List.getElem?_eq_getElem hj') (List.getElem?_eq_getElem hj)
    have h2 := hc j xs[j] (List.getElem?_eq_getElem hj')
    obtain ⟨a, k, he, h3⟩ := id h1
    rw [List.length_map] at he
    rw [he] at h1 h2
    exact ⟨a, k, h2, h1⟩
def sumTo (l : List Bs) (i : Nat) : Nat := ((l.take i).map fun r => 4 + r.length).sum
theorem sumTo_succ (l : List Bs) (i : Nat) (h : i < l.length) : sumTo l (i + 1) = sumTo l i + (4 + l[i].length) := by
  unfold sumTo
  rw [List.take_succ_eq_append_getElem h, List.map_append, List.sum_append]; simp
theorem sumTo_le (l : List Bs) (i : Nat) (h : ∀ j (hj : j < l.length), j < i → l[j].length ≤ 1048576) : sumTo l i ≤ i * 1048580 := by
  induction i with
  | zero => simp [sumTo]
  | succ i ih =>
    have := ih (fun j hj hji => h j hj (by omega))
    by_cases hi : i < l.length
    · rw [sumTo_succ l i hi]; have := h i hi (by omega); omega
    · have : sumTo l (i + 1) = sumTo l i := by unfold sumTo; rw [List.take_of_length_le (by omega), List.take_of_length_le (by omega)]
      omega
theorem may_c (q1 q2 : Nat × Nat) (v : Value) (l : List Bs) (h : Bat w c q1 q2 v l) (hl : l.length ≤ 1000000000) (hb : ∀ r ∈ l, r.length ≤ 1000000000) : Calls Tryz.prog 119 #[v] w fun e w' => e = .returned (.bool (good l)) ∧ w' = w := by
  rcases h.at with ⟨rfl, rfl⟩ | ⟨b, o, cap, rfl, hlc, hcm, hx⟩
  · go_enter Tryz.func119, Tryz.ntmps119
    go_wp2
    go_ret
    exact ⟨rfl, rfl⟩
  · have HX := Lib.hid hx; clear hx h
    by_cases h1 : l.length < 1
    · have hg : good l = false := by unfold good; simp; omega
      have hl0 : l.length = 0 := by omega
      rw [hl0, hg]
      go_enter Tryz.func119, Tryz.ntmps119
      go_wp2
      go_ret
      exact ⟨rfl, rfl⟩
    · by_cases h2 : 4096 < l.length
      · have hg : good l = false := by unfold good; simp; omega
        rw [hg]
        go_enter Tryz.func119, Tryz.ntmps119
        go_wp2
        go_ret
        exact ⟨rfl, rfl⟩
      · have HB := Lib.hid hb; clear hb
        go_enter Tryz.func119, Tryz.ntmps119
        go_wp2
        have d1 : decide ((l.length : Int) < 1) = false := by simp; omega
        have d2 : decide ((4096 : Int) < l.length) = false := by simp; omega
        (try simp only [d1, d2, Bool.or_self])
        clear d1 d2
        go_loop [3, 16] (fun v s => ∃ i : Nat, i ≤ l.length ∧ s = .int .i64 i ∧ v = .int .i64 ((12 + sumTo l i : Nat) : Int) ∧ ∀ j (hj : j < l.length), j < i → l[j].length ≤ 1048576) (fun _ s => l.length - (intOf s).toNat)
        case atStart => exact ⟨0, by omega, rfl, rfl, fun _ _ h => absurd h (Nat.not_lt_zero _)⟩
        case round =>
          obtain ⟨i, hi, rfl, rfl, hr⟩ := hrel
          have hsum := sumTo_le l i hr
          have hs63 : sumTo l i ≤ 5000000000 := by have : i * 1048580 ≤ 4096 * 1048580 := Nat.mul_le_mul_right _ (by omega); omega
          by_cases hlt : i < l.length
          · obtain ⟨a, k, g, hsc⟩ := HX.out i hlt
            have hsucc := sumTo_succ l i hlt
            have hbi := HB.out l[i] (List.getElem_mem hlt)
            obtain ⟨m, hm⟩ : ∃ m, m = l[i].length := ⟨_, rfl⟩
            rw [← hm] at g hsucc hbi
            have HM := Lib.hid hm; have HR := Lib.hid hr; clear hm hr hsc
            obtain ⟨x, hx⟩ : ∃ x, x = sumTo l i := ⟨_, rfl⟩
            rw [← hx] at hsucc hsum hs63 ⊢
            have HSU := Lib.hid hsucc; have HX2 := Lib.hid hx; clear hsucc hx hsum
            by_cases hbig : 1048576 < m
            · have hg : good l = false := by
                have : ¬ l[i].length ≤ 1048576 := by rw [← HM.out]; omega
                unfold good
                simp only [decide_eq_false_iff_not]
                exact fun h => this (h.2.2.1 _ (List.getElem_mem hlt))
              have HG := Lib.hid hg; clear hg
              go_wp2
              go_ret
              exact ⟨by rw [HG.out]; rfl, rfl⟩
            · go_wp2
              go_round
              case rel =>
                refine ⟨i + 1, by omega, by go_num, ?_, fun j hj hji => ?_⟩
                · rw [HSU.out]; go_num
                · by_cases he : j = i
                  · subst he; rw [← HM.out]; omega
                  · exact HR.out j hj (by omega)
              case measure => simp [intOf]; omega
          · obtain rfl : i = l.length := by omega
            have hall : ∀ r ∈ l, r.length ≤ 1048576 := fun r hr' => by
              obtain ⟨j, hj, rfl⟩ := List.getElem_of_mem hr'
              exact hr j hj hj
            have hfull : sumTo l l.length = (l.map fun r => 4 + r.length).sum := by unfold sumTo; rw [List.take_length]
            obtain ⟨x, hx⟩ : ∃ x, x = sumTo l l.length := ⟨_, rfl⟩
            rw [← hx] at hsum hs63 hfull ⊢
            have hg : good l = decide ((((12 + x : Nat)) : Int) ≤ 16777216) := by
              unfold good
              rw [decide_eq_decide]
              constructor
              · intro h; rw [hfull]; have := h.2.2.2; omega
              · intro h; exact ⟨by omega, by omega, hall, by rw [← hfull]; omega⟩
            have HG := Lib.hid hg
            clear hr hall hfull hx hg hsum HX HB
            go_wp2
            go_ret
            refine ⟨?_, rfl⟩
            rw [HG.out]; simp
end Go.Proofs.YtnifmoigalmcmaaGreat
/- A slice that grows, of elements that lie in memory of their own. -/
namespace Go.Proofs.YtnifmoigalmcmaaGreat
open Go Go.RowKit
open Wl
variable {c c' : Col} {w w' : World} {S : Nat × Nat → Prop} {q : Nat × Nat}
theorem Sc.recol1 {q2 : Nat × Nat} {v : Value} {xs : List Value} (h : Sc w c q v xs) (hc : ∀ b, c b = q → c' b = q2) : Sc w c' q2 v xs := by
  obtain ⟨a, cap, h1, h2, h3, h4, h5⟩ := h
  exact ⟨a, cap, h1, h2, h3, h4, fun ad had => ⟨(h5 ad had).1, fun j u hj => ⟨hc _ ((h5 ad had).2 j u hj).1, ((h5 ad had).2 j u hj).2⟩⟩⟩
theorem Bat.recol {q1 q2 p1 p2 : Nat × Nat} {v : Value} {l : List Bs} (h : Bat w c q1 q2 v l) (h1 : ∀ b, c b = q1 → c' b = p1) (h2 : ∀ b, c b = q2 → c' b = p2) : Bat w c' p1 p2 v l := by
  obtain ⟨xs, a, b, d⟩ := h
  exact ⟨xs, a.recol1 h1, b, fun i x y hx hy => (d i x y hx hy).recol1 h2⟩
/-- What is said of an element, at colour (0, 0), stays. -/
structure Stays {α : Type} (Q : World → Col → Value → α → Prop) : Prop where
  stay : ∀ {w w' : World} {c c' : Col} {S : Nat × Nat → Prop} {x : Value} {y : α}, Q w c x y → Kp c S w w' → ¬ S (0, 0) → Cx w c c' → Q w' c' x y
  one : ∀ {w : World} {c : Col} {x : Value} {y : α}, Q w c x y → x.oneCell' = true
def QB (w : World) (c : Col) (x : Value) (y : Bs) : Prop := Sc w c (0, 0) x (y.map bv)
def QL (w : World) (c : Col) (x : Value) (l : List Bs) : Prop := Bat w c (0, 0) (0, 0) x l
theorem QB.stays : Stays QB where
  stay := fun h hk hs hc => Sc.kp h hk hs hc
  one := fun h => by obtain ⟨a, k, rfl, _⟩ := h; rfl
theorem QL.stays : Stays QL where
  stay := fun h hk hs hc => Bat.kp h hk hs hs hc
  one := fun h => by obtain ⟨xs, ⟨a, k, rfl, _⟩, _⟩ := h; rfl
/-- A slice that its function owns, over elements that lie elsewhere; all of it is newer than block B. -/
structure Grow {α : Type} (Q : World → Col → Value → α → Prop) (B : Nat) (wr : World) (e : TypeId) (v : Value) (cf : Col) (l : List α) : Prop where
  own : ∃ xs, wr.ownsRow 0 e 1 v l.length xs ∧ ∀ (i : Nat) x y, xs[i]? = some x → l[i]? = some y → Q wr cf x y
  col : ∀ g, v.ownBlock = some g → cf g = (1, 0)
  old : ∀ b, b < B → cf b = (9, 9)
  size : B ≤ wr.heap.size
variable {α : Type} {Q : World → Col → Value → α → Prop} {B : Nat} {wr w1 w2 : World} {e : TypeId} {v v' : Value} {cf : Col} {l : List α}
theorem Grow.start (e : TypeId) (h : B ≤ wr.heap.size) : Grow Q B wr e (.slice none 0 0) (fun b => if b < B then (9, 9) else (0, 0)) [] :=
  ⟨⟨[], World.ownsRow_nil _ _ _ _, fun i x y hx => by simp at hx⟩, fun g hg => (by cases hg), fun b hb => if_pos hb, h⟩
theorem Grow.fresh (h : Grow Q B wr e v cf l) : ∀ g, v.ownBlock = some g → B ≤ g := by
  intro g hg
  refine Nat.not_lt.1 fun hlt => ?_
  have h1 := h.col g hg
  rw [h.old g hlt] at h1
  cases h1
theorem own_base' {base size n : Nat} {v : Value} {xs : List Value} (h : wr.ownsRow base e size v n xs) (g : Nat) (hg : v.ownBlock = some g) : base ≤ g := by
  rcases h.2 with ⟨rfl, _⟩ | ⟨g', _, _, rfl, hh, _⟩
  · cases hg
  · cases hg; exact hh
theorem own_slice {base size n : Nat} {v : Value} {xs : List Value} (h : wr.ownsRow base e size v n xs) : ∃ a m k, v = .slice a m k := by
  rcases h.2 with ⟨rfl, _⟩ | ⟨g', _, _, rfl, hh, _⟩
  · exact ⟨_, _, _, rfl⟩
  · exact ⟨_, _, _, rfl⟩
theorem own_zero' {base size n : Nat} {v : Value} {xs : List Value} (h : wr.ownsRow base e size v n xs) : wr.ownsRow 0 e size v n xs := by
  obtain ⟨h1, h2⟩ := h
  refine ⟨h1, ?_⟩
  rcases h2 with h2 | ⟨g, cap, cur, rfl, hg, r⟩
  · exact .inl h2
  · exact .inr ⟨g, cap, cur, rfl, Nat.zero_le _, r⟩
def newCol (w : World) (cf : Col) (p : Nat × Nat) : Col := fun b => if b < w.heap.size then cf b else p
theorem newCol_cx (w : World) (cf : Col) (p : Nat × Nat) : Cx w cf (newCol w cf p) := fun _ hb => if_pos hb
/-- New memory is made; no old block turns but such as are none of the elements'. -/
theorem Grow.kp {S : Nat × Nat → Prop} (hQ : Stays Q) (h : Grow Q B wr e v cf l) (hk : Kp cf S wr w2) (h0 : ¬ S (0, 0)) (h1 : ¬ S (1, 0)) : Grow Q B w2 e v (newCol wr cf (0, 0)) l := by
  obtain ⟨⟨xs, ho, hx⟩, hc, hold, hs⟩ := h
  refine ⟨⟨xs, ownsRow_kp ho hc hk h1, fun i x y hi hj => hQ.stay (hx i x y hi hj) hk h0 (newCol_cx _ _ _)⟩, fun g hg => ?_, fun b hb => ?_, Nat.le_trans hs hk.size⟩
  · exact (newCol_cx _ _ _ g (ownBlock_lt ho g hg)).trans (hc g hg)
  · exact (newCol_cx _ _ _ b (by omega)).trans (hold b hb)
theorem ownsRow_same {w : World} {base e size n : Nat} {v : Value} {xs ys : List Value} (h : w.ownsRow base e size v n xs) (h' : w.ownsRow base e size v n ys) : xs = ys := by
  obtain ⟨hl, h⟩ := h
  obtain ⟨hl', h'⟩ := h'
  rcases h with ⟨rfl, h0⟩ | ⟨g, cap, cur, rfl, _, hh, _, _, _, ht⟩
  · subst h0
    rw [Nat.zero_mul] at hl hl'
    rw [List.eq_nil_of_length_eq_zero hl, List.eq_nil_of_length_eq_zero hl']
  · rcases h' with ⟨h', _⟩ | ⟨g', cap', cur', h', _, hh', _, _, _, ht'⟩
    · cases h'
    · cases h'
      rw [hh] at hh'
      cases hh'
      rw [← ht, ← ht']
/-- One element more. -/
theorem Grow.push {xs : List Value} {x : Value} {y : α} (hQ : Stays Q) (h : Grow Q B w1 e v cf l) (hown : w1.ownsRow 0 e 1 v l.length xs) (hx : Q w1 cf x y) (ho2 : w2.ownsRow 0 e 1 v' (l.length + 1) (xs ++ [x])) (hg : w1.grownBy w2 v.ownBlock) (hf : ∀ g, v'.ownBlock = some g → v.ownBlock = some g ∨ w1.heap.size ≤ g) :
    Grow Q B w2 e v' (newCol w1 cf (1, 0)) (l ++ [y]) := by
  obtain ⟨⟨xs', ho, hx'⟩, hc, hold, hs⟩ := h
  have hxx : xs' = xs := ownsRow_same ho hown
  subst hxx
  have hk : Kp cf (· = (1, 0)) w1 w2 := Kp.of_grown hg (fun g hg _ => hc g hg)
  have hlen : xs'.length = l.length := by simpa using hown.1
  refine ⟨⟨xs' ++ [x], by simpa using ho2, fun i x' y' hi hj => ?_⟩, fun g hg' => ?_, fun b hb => ?_, Nat.le_trans hs hk.size⟩
  · by_cases hlt : i < xs'.length
    · rw [List.getElem?_append_left hlt] at hi
      rw [List.getElem?_append_left (by omega)] at hj
      exact hQ.stay (hx' i x' y' hi hj) hk (by simp) (newCol_cx _ _ _)
    · rw [List.getElem?_append_right (by omega)] at hi
      rw [List.getElem?_append_right (by omega)] at hj
      have h0 : i - xs'.length = 0 := by
        cases hd : i - xs'.length with
        | zero => rfl
        | succ d => rw [hd] at hi; simp at hi
      rw [h0] at hi
      rw [show i - l.length = 0 by omega] at hj
      simp at hi hj
      subst hi hj
      exact hQ.stay hx hk (by simp) (newCol_cx _ _ _)
  · rcases hf g hg' with h1 | h1
    · exact (newCol_cx _ _ _ g (ownBlock_lt hown g h1)).trans (hc g h1)
    · exact if_neg (by omega)
  · exact (newCol_cx _ _ _ b (by omega)).trans (hold b hb)
end Go.Proofs.YtnifmoigalmcmaaGreat
