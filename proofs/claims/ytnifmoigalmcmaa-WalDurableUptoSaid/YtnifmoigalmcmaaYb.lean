/- wal: batches in memory; which lists are batches. -/
import Derived.Test.YtnifmoigalmcmaaYa
namespace Go.Proofs.Ytnifmoigalmcmaa
open Go Go.RowKit
open Wl
variable {c c' : Col} {w w' : World} {S : Nat × Nat → Prop}
/-- A batch as it lies in memory: a slice of slices. -/
def Bat (w : World) (c : Col) (q1 q2 : Nat × Nat) (v : Value) (l : List Bs) : Prop :=
  ∃ xs, Sc w c q1 v xs ∧ xs.length = l.length ∧ ∀ (i : Nat) x y, xs[i]? = some x → l[i]? = some y → Sc w c q2 x (y.map bv)
theorem Bat.kp {q1 q2 : Nat × Nat} {v : Value} {l : List Bs} (h : Bat w c q1 q2 v l) (hk : Kp c S w w') (h1 : ¬ S q1) (h2 : ¬ S q2) (hc : Cx w c c') : Bat w' c' q1 q2 v l := by
  obtain ⟨xs, a, b, d⟩ := h
  exact ⟨xs, a.kp hk h1 hc, b, fun i x y hx hy => (d i x y hx hy).kp hk h2 hc⟩
theorem Bat.at {q1 q2 : Nat × Nat} {v : Value} {l : List Bs} (h : Bat w c q1 q2 v l) : (v = .slice none 0 0 ∧ l = []) ∨ ∃ b o cap, v = .slice (some ⟨b, o, none⟩) l.length cap ∧ l.length ≤ cap ∧ cap ≤ maxLen ∧
    ∀ (j : Nat) (hj : j < l.length), ∃ a k, w.cell? ⟨b, o + j, none⟩ = some (.slice a l[j].length k) ∧ Sc w c q2 (.slice a l[j].length k) (l[j].map bv) := by
  obtain ⟨xs, hs, hl, hx⟩ := h
  rcases hs.cases with ⟨rfl, h0⟩ | ⟨b, o, cap, rfl, hlc, hcm, _, hc⟩
  · subst h0
    exact .inl ⟨rfl, List.eq_nil_of_length_eq_zero (by simpa using hl.symm)⟩
  · right
    refine ⟨b, o, cap, by rw [hl], by omega, hcm, fun j hj => ?_⟩
    have hj' : j < xs.length := by omega
    have h1 := hx j xs[j] l[j] (List.getElem?_eq_getElem hj') (List.getElem?_eq_getElem hj)
    have h2 := hc j xs[j] (List.getElem?_eq_getElem hj')
    obtain ⟨a, k, he, h3⟩ := id h1
    rw [List.length_map] at he
    rw [he] at h1 h2
    exact ⟨a, k, h2, h1⟩
def sumTo (l : List Bs) (i : Nat) : Nat := ((l.take i).map fun r => 4 + r.length).sum
theorem sumTo_succ (l : List Bs) (i : Nat) (h : i < l.length) : sumTo l (i + 1) = sumTo l i + (4 + l[i].length) := by
  unfold sumTo
  rw [List.take_succ_eq_append_getElem h, List.map_append, List.sum_append]; simp
theorem sumTo_le (l : List Bs) (i : Nat) (h : ∀ j (hj : j < l.length), j < i → l[j].length ≤ 1048576) : sumTo l i ≤ i * 1048580 := by
  induction i with
  | zero => simp [sumTo]
  | succ i ih =>
    have := ih (fun j hj hji => h j hj (by omega))
    by_cases hi : i < l.length
    · rw [sumTo_succ l i hi]; have := h i hi (by omega); omega
    · have : sumTo l (i + 1) = sumTo l i := by unfold sumTo; rw [List.take_of_length_le (by omega), List.take_of_length_le (by omega)]
      omega
theorem may_c (q1 q2 : Nat × Nat) (v : Value) (l : List Bs) (h : Bat w c q1 q2 v l) (hl : l.length ≤ 1000000000) (hb : ∀ r ∈ l, r.length ≤ 1000000000) : Calls Try.prog 27 #[v] w fun e w' => e = .returned (.bool (good l)) ∧ w' = w := by
  rcases h.at with ⟨rfl, rfl⟩ | ⟨b, o, cap, rfl, hlc, hcm, hx⟩
  · go_enter Try.func27, Try.ntmps27
    go_wp2
    go_ret
    exact ⟨rfl, rfl⟩
  · have HX := Lib.hid hx; clear hx h
    by_cases h1 : l.length < 1
    · have hg : good l = false := by unfold good; simp; omega
      have hl0 : l.length = 0 := by omega
      rw [hl0, hg]
      go_enter Try.func27, Try.ntmps27
      go_wp2
      go_ret
      exact ⟨rfl, rfl⟩
    · by_cases h2 : 4096 < l.length
      · have hg : good l = false := by unfold good; simp; omega
        rw [hg]
        go_enter Try.func27, Try.ntmps27
        go_wp2
        go_ret
        exact ⟨rfl, rfl⟩
      · have HB := Lib.hid hb; clear hb
        go_enter Try.func27, Try.ntmps27
        go_wp2
        have d1 : decide ((l.length : Int) < 1) = false := by simp; omega
        have d2 : decide ((4096 : Int) < l.length) = false := by simp; omega
        (try simp only [d1, d2, Bool.or_self])
        clear d1 d2
        go_loop [3, 16] (fun v s => ∃ i : Nat, i ≤ l.length ∧ s = .int .i64 i ∧ v = .int .i64 ((12 + sumTo l i : Nat) : Int) ∧ ∀ j (hj : j < l.length), j < i → l[j].length ≤ 1048576) (fun _ s => l.length - (intOf s).toNat)
        case atStart => exact ⟨0, by omega, rfl, rfl, fun _ _ h => absurd h (Nat.not_lt_zero _)⟩
        case round =>
          obtain ⟨i, hi, rfl, rfl, hr⟩ := hrel
          have hsum := sumTo_le l i hr
          have hs63 : sumTo l i ≤ 5000000000 := by have : i * 1048580 ≤ 4096 * 1048580 := Nat.mul_le_mul_right _ (by omega); omega
          by_cases hlt : i < l.length
          · obtain ⟨a, k, g, hsc⟩ := HX.out i hlt
            have hsucc := sumTo_succ l i hlt
            have hbi := HB.out l[i] (List.getElem_mem hlt)
            obtain ⟨m, hm⟩ : ∃ m, m = l[i].length := ⟨_, rfl⟩
            rw [← hm] at g hsucc hbi
            have HM := Lib.hid hm; have HR := Lib.hid hr; clear hm hr hsc
            obtain ⟨x, hx⟩ : ∃ x, x = sumTo l i := ⟨_, rfl⟩
            rw [← hx] at hsucc hsum hs63 ⊢
            have HSU := Lib.hid hsucc; have HX2 := Lib.hid hx; clear hsucc hx hsum
            by_cases hbig : 1048576 < m
            · have hg : good l = false := by
                have : ¬ l[i].length ≤ 1048576 := by rw [← HM.out]; omega
                unfold good
                simp only [decide_eq_false_iff_not]
                exact fun h => this (h.2.2.1 _ (List.getElem_mem hlt))
              have HG := Lib.hid hg; clear hg
              go_wp2
              go_ret
              exact ⟨by rw [HG.out]; rfl, rfl⟩
            · go_wp2
              go_round
              case rel =>
                refine ⟨i + 1, by omega, by go_num, ?_, fun j hj hji => ?_⟩
                · rw [HSU.out]; go_num
                · by_cases he : j = i
                  · subst he; rw [← HM.out]; omega
                  · exact HR.out j hj (by omega)
              case measure => simp [intOf]; omega
          · obtain rfl : i = l.length := by omega
            have hall : ∀ r ∈ l, r.length ≤ 1048576 := fun r hr' => by
              obtain ⟨j, hj, rfl⟩ := List.getElem_of_mem hr'
              exact hr j hj hj
            have hfull : sumTo l l.length = (l.map fun r => 4 + r.length).sum := by unfold sumTo; rw [List.take_length]
            obtain ⟨x, hx⟩ : ∃ x, x = sumTo l l.length := ⟨_, rfl⟩
            rw [← hx] at hsum hs63 hfull ⊢
            have hg : good l = decide ((((12 + x : Nat)) : Int) ≤ 16777216) := by
              unfold good
              rw [decide_eq_decide]
              constructor
              · intro h; rw [hfull]; have := h.2.2.2; omega
              · intro h; exact ⟨by omega, by omega, hall, by rw [← hfull]; omega⟩
            have HG := Lib.hid hg
            clear hr hall hfull hx hg hsum HX HB
            go_wp2
            go_ret
            refine ⟨?_, rfl⟩
            rw [HG.out]; simp
theorem Good_c (q1 q2 : Nat × Nat) (v : Value) (l : List Bs) (h : Bat w c q1 q2 v l) (hl : l.length ≤ 1000000000) (hb : ∀ r ∈ l, r.length ≤ 1000000000) : Calls Try.prog 15 #[v] w fun e w' => e = .returned (.bool (good l)) ∧ w' = w := by
  rcases h.at with ⟨rfl, rfl⟩ | ⟨b, o, cap, rfl, hlc, hcm, hx⟩
  · go_enter Try.func15, Try.ntmps15
    go_wp2
    go_ret
    exact ⟨rfl, rfl⟩
  · have HX := Lib.hid hx; clear hx h
    by_cases h1 : l.length < 1
    · have hg : good l = false := by unfold good; simp; omega
      have hl0 : l.length = 0 := by omega
      rw [hl0, hg]
      go_enter Try.func15, Try.ntmps15
      go_wp2
      go_ret
      exact ⟨rfl, rfl⟩
    · by_cases h2 : 4096 < l.length
      · have hg : good l = false := by unfold good; simp; omega
        rw [hg]
        go_enter Try.func15, Try.ntmps15
        go_wp2
        go_ret
        exact ⟨rfl, rfl⟩
      · have HB := Lib.hid hb; clear hb
        go_enter Try.func15, Try.ntmps15
        go_wp2
        have d1 : decide ((l.length : Int) < 1) = false := by simp; omega
        have d2 : decide ((4096 : Int) < l.length) = false := by simp; omega
        (try simp only [d1, d2, Bool.or_self])
        clear d1 d2
        go_loop [3, 16] (fun v s => ∃ i : Nat, i ≤ l.length ∧ s = .int .i64 i ∧ v = .int .i64 ((12 + sumTo l i : Nat) : Int) ∧ ∀ j (hj : j < l.length), j < i → l[j].length ≤ 1048576) (fun _ s => l.length - (intOf s).toNat)
        case atStart => exact ⟨0, by omega, rfl, rfl, fun _ _ h => absurd h (Nat.not_lt_zero _)⟩
        case round =>
          obtain ⟨i, hi, rfl, rfl, hr⟩ := hrel
          have hsum := sumTo_le l i hr
          have hs63 : sumTo l i ≤ 5000000000 := by have : i * 1048580 ≤ 4096 * 1048580 := Nat.mul_le_mul_right _ (by omega); omega
          by_cases hlt : i < l.length
          · obtain ⟨a, k, g, hsc⟩ := HX.out i hlt
            have hsucc := sumTo_succ l i hlt
            have hbi := HB.out l[i] (List.getElem_mem hlt)
            obtain ⟨m, hm⟩ : ∃ m, m = l[i].length := ⟨_, rfl⟩
            rw [← hm] at g hsucc hbi
            have HM := Lib.hid hm; have HR := Lib.hid hr; clear hm hr hsc
            obtain ⟨x, hx⟩ : ∃ x, x = sumTo l i := ⟨_, rfl⟩
            rw [← hx] at hsucc hsum hs63 ⊢
            have HSU := Lib.hid hsucc; have HX2 := Lib.hid hx; clear hsucc hx hsum
            by_cases hbig : 1048576 < m
            · have hg : good l = false := by
                have : ¬ l[i].length ≤ 1048576 := by rw [← HM.out]; omega
                unfold good
                simp only [decide_eq_false_iff_not]
                exact fun h => this (h.2.2.1 _ (List.getElem_mem hlt))
              have HG := Lib.hid hg; clear hg
              go_wp2
              go_ret
              exact ⟨by rw [HG.out]; rfl, rfl⟩
            · go_wp2
              go_round
              case rel =>
                refine ⟨i + 1, by omega, by go_num, ?_, fun j hj hji => ?_⟩
                · rw [HSU.out]; go_num
                · by_cases he : j = i
                  · subst he; rw [← HM.out]; omega
                  · exact HR.out j hj (by omega)
              case measure => simp [intOf]; omega
          · obtain rfl : i = l.length := by omega
            have hall : ∀ r ∈ l, r.length ≤ 1048576 := fun r hr' => by
              obtain ⟨j, hj, rfl⟩ := List.getElem_of_mem hr'
              exact hr j hj hj
            have hfull : sumTo l l.length = (l.map fun r => 4 + r.length).sum := by unfold sumTo; rw [List.take_length]
            obtain ⟨x, hx⟩ : ∃ x, x = sumTo l l.length := ⟨_, rfl⟩
            rw [← hx] at hsum hs63 hfull ⊢
            have hg : good l = decide ((((12 + x : Nat)) : Int) ≤ 16777216) := by
              unfold good
              rw [decide_eq_decide]
              constructor
              · intro h; rw [hfull]; have := h.2.2.2; omega
              · intro h; exact ⟨by omega, by omega, hall, by rw [← hfull]; omega⟩
            have HG := Lib.hid hg
            clear hr hall hfull hx hg hsum HX HB
            go_wp2
            go_ret
            refine ⟨?_, rfl⟩
            rw [HG.out]; simp
end Go.Proofs.Ytnifmoigalmcmaa
