/- cairnref10.Same: whether two lists of batches are alike. -/
import Derived.Test.YtnifmoigalmcmaaYq
namespace Go.Proofs.Ytnifmoigalmcmaa
open Go Go.RowKit
open Wl
variable {c c' : Col} {w w' : World} {S : Nat × Nat → Prop} {q : Nat × Nat}
theorem Sw.any {v : Value} {xs : List Value} (h : Sw w c q v xs) : Sw w c00 (0, 0) v xs := by
  obtain ⟨a, cap, h1, h2, h3, h4, h5⟩ := h
  exact ⟨a, cap, h1, h2, h3, h4, fun ad had j u hj => ⟨(h5 ad had j u hj).1, rfl, (h5 ad had j u hj).2.2⟩⟩
theorem BatW.any {q1 q2 : Nat × Nat} {v : Value} {l : List Bs} (h : BatW w c q1 q2 v l) : BatW w c00 (0, 0) (0, 0) v l := by
  obtain ⟨xs, a, b, d⟩ := h
  exact ⟨xs, a.any, b, fun i x y hx hy => (d i x y hx hy).any⟩
theorem LogW.any {v : Value} {l : List (List Bs)} (h : LogW w c q v l) : LogW w c00 (0, 0) v l := by
  obtain ⟨xs, a, b, d⟩ := h
  exact ⟨xs, a.any, b, fun i x y hx hy => (d i x y hx hy).any⟩
theorem Grow.logW {B : Nat} {v : Value} {cf : Col} {l : List (List Bs)} {e : TypeId} (G : Grow QL B w e v cf l) : LogW w c00 (0, 0) v l := by
  obtain ⟨⟨xs, ho, hx⟩, hc, -, -⟩ := G
  refine ⟨xs, (Sc.of_owns ho hc).wide.any, by simpa using ho.1, fun i x y hx' hy => ((hx i x y hx' hy).wide).any⟩
theorem Sw.take {v : Value} {xs : List Value} (h : Sw w c q v xs) (n : Nat) (hn : n ≤ xs.length) : ∃ a k, v = .slice a xs.length k ∧ Sw w c q (.slice a n k) (xs.take n) := by
  obtain ⟨a, cap, rfl, h2, h3, h4, h5⟩ := h
  refine ⟨a, cap, rfl, a, cap, by rw [List.length_take, Nat.min_eq_left hn], by rw [List.length_take]; omega, h3, h4, fun ad had j u hj => h5 ad had j u ?_⟩
  rw [List.getElem?_take] at hj
  split at hj
  · exact hj
  · cases hj
theorem LogW.take {v : Value} {l : List (List Bs)} (h : LogW w c q v l) (n : Nat) (hn : n ≤ l.length) : ∃ a k, v = .slice a l.length k ∧ LogW w c q (.slice a n k) (l.take n) := by
  obtain ⟨xs, a, b, d⟩ := h
  obtain ⟨ad, k, h1, h2⟩ := a.take n (by omega)
  refine ⟨ad, k, by rw [h1, b], xs.take n, h2, by simp [b], fun i x y hx hy => ?_⟩
  rw [List.getElem?_take] at hx hy
  split at hx
  · rw [if_pos (by assumption)] at hy
    exact d i x y hx hy
  · cases hx
theorem LogW.shape {v : Value} {l : List (List Bs)} (h : LogW w c q v l) : ∃ a k, v = .slice a l.length k ∧ l.length ≤ k ∧ k ≤ maxLen ∧ (l.length ≠ 0 → ∃ b o, a = some ⟨b, o, none⟩) := by
  obtain ⟨xs, ⟨a, cap, rfl, h2, h3, h4, h5⟩, b, d⟩ := h
  refine ⟨a, cap, by rw [b], by omega, h3, fun hn => ?_⟩
  cases a with
  | none => have := h4 rfl; omega
  | some ad =>
    have := (h5 ad rfl 0 (xs[0]'(by omega)) (List.getElem?_eq_getElem _)).1
    obtain ⟨b, o, s⟩ := ad
    cases this
    exact ⟨b, o, rfl⟩
theorem LogW.get {b o n k : Nat} {l : List (List Bs)} (h : LogW w c q (.slice (some ⟨b, o, none⟩) n k) l) (j : Nat) (hj : j < l.length) : ∃ a m, w.cell? ⟨b, o + j, none⟩ = some (.slice a l[j].length m) ∧ BatW w c q q (.slice a l[j].length m) l[j] := by
  obtain ⟨xs, ⟨a, cap, hv, h2, h3, h4, h5⟩, hl, d⟩ := h
  injection hv with e1 e2 e3
  subst e1
  have hj' : j < xs.length := by omega
  have h1 := d j xs[j] l[j] (List.getElem?_eq_getElem hj') (List.getElem?_eq_getElem hj)
  have h2 := (h5 _ rfl j xs[j] (List.getElem?_eq_getElem hj')).2.2
  obtain ⟨ys, ⟨a, m, he, h3⟩, hyl, hd⟩ := id h1
  rw [hyl] at he
  rw [he] at h1 h2
  exact ⟨a, m, h2, h1⟩
theorem BatW.spot {a : Option Addr} {q1 q2 : Nat × Nat} {n k : Nat} {l : List Bs} (h : BatW w c q1 q2 (.slice a n k) l) (hn : l.length ≠ 0) : ∃ b o, a = some ⟨b, o, none⟩ := by
  rcases h.at with ⟨a', cap, hv, rfl⟩ | ⟨b, o, cap, hv, _⟩
  · exact absurd rfl hn
  · injection hv with e1 _ _; exact ⟨b, o, e1⟩
theorem BatW.get {b o n k : Nat} {q1 q2 : Nat × Nat} {l : List Bs} (h : BatW w c q1 q2 (.slice (some ⟨b, o, none⟩) n k) l) (j : Nat) (hj : j < l.length) : ∃ a m, w.cell? ⟨b, o + j, none⟩ = some (.slice a l[j].length m) ∧ Sw w c q2 (.slice a l[j].length m) (l[j].map bv) := by
  rcases h.at with ⟨a', cap, hv, rfl⟩ | ⟨b', o', cap, hv, _, _, hx⟩
  · exact absurd hj (by simp)
  · injection hv with e1 _ _; injection e1 with e1; injection e1 with e1 e2 _
    subst e1 e2
    exact hx j hj
theorem BatW.le {v : Value} {q1 q2 : Nat × Nat} {l : List Bs} (h : BatW w c q1 q2 v l) : (l.length : Int) ≤ 9223372036854775807 := by
  obtain ⟨xs, ⟨a, cap, rfl, h2, h3, h4, h5⟩, b, d⟩ := h
  unfold maxLen at h3
  omega
theorem conv_sw {v : Value} {l : List UInt8} (h : Sw w c q v (l.map bv)) : (convert 23 9 v).run Try.prog w = .ok (.string ⟨l.toArray⟩) w := by
  obtain ⟨a, cap, rfl, hcap, _, h0, h1⟩ := h
  rw [List.length_map]
  cases a with
  | none =>
    have h0 : l = [] := by
      have h2 := h0 rfl
      rw [List.length_map] at hcap
      exact List.eq_nil_of_length_eq_zero (by omega)
    subst h0
    rw [run_convert_bytes_string w 23 9 5 none _ cap Try.underlying23 Try.underlying5 Try.underlying9]
    rfl
  | some ad =>
    refine run_convert_bytes_back w 23 9 5 ad cap l Try.underlying23 Try.underlying5 Try.underlying9 (fun j hj => ?_)
    obtain ⟨h2, _, h3⟩ := h1 ad rfl j (bv (l[j])) (by rw [List.getElem?_map, List.getElem?_eq_getElem hj]; rfl)
    rw [add_eq h2]
    exact h3
theorem take_step {α : Type} {l m : List α} {j : Nat} (h : l.take j = m.take j) (hl : j < l.length) (hm : j < m.length) (h1 : l[j] = m[j]) : l.take (j + 1) = m.take (j + 1) := by
  rw [List.take_succ_eq_append_getElem hl, List.take_succ_eq_append_getElem hm, h, h1]
theorem take_all {α : Type} {l m : List α} {j : Nat} (h : l.take j = m.take j) (hl : l.length ≤ j) (hm : m.length ≤ j) : l = m := by
  rw [List.take_of_length_le hl, List.take_of_length_le hm] at h
  exact h
theorem not_at {α : Type} {l m : List α} {j : Nat} (hl : j < l.length) (hm : j < m.length) (h : l[j] ≠ m[j]) : l ≠ m := by
  rintro rfl
  exact h rfl
set_option maxRecDepth 20000 in
set_option maxHeartbeats 8000000 in
theorem sameW_c (v1 v2 : Value) (l1 l2 : List (List Bs)) (w : World) (h1 : LogW w c00 (0, 0) v1 l1) (h2 : LogW w c00 (0, 0) v2 l2) :
    Calls Try.prog 14 #[v1, v2] w fun e w' => e = .returned (.bool (decide (l1 = l2))) ∧ ∀ c S, Kp c S w w' := by
  obtain ⟨a1, k1, rfl, m1, n1, p1⟩ := h1.shape
  obtain ⟨a2, k2, rfl, m2, n2, p2⟩ := h2.shape
  have P1 := Lib.hid p1; have P2 := Lib.hid p2; clear p1 p2
  have H1 := Lib.hid h1; clear h1
  have H2 := Lib.hid h2; clear h2
  unfold maxLen at n1 n2
  by_cases hle : l1.length = l2.length
  · rw [← hle] at H2 P2 m2 ⊢
    have HLE := Lib.hid hle
    clear hle
    go_enter Try.func14, Try.ntmps14
    go_wp2
    go_loopw [14] (fun s wr => ∃ j : Nat, j ≤ l1.length ∧ s = .int .i64 j ∧ l1.take j = l2.take j ∧ ∀ c S, Kp c S w wr) (fun s _ => l1.length - (intOf s).toNat)
    case atStart => exact ⟨0, Nat.zero_le _, rfl, rfl, fun c S => Kp.refl _ _ _⟩
    case round =>
      obtain ⟨j, hj, rfl, ht, hk⟩ := hrel
      have HT := Lib.hid ht; clear ht
      have HK := Lib.hid hk; clear hk
      by_cases hlt : j < l1.length
      · have hlt2 : j < l2.length := by have := HLE.out; omega
        obtain ⟨b1, o1, rfl⟩ := P1.out (by omega)
        obtain ⟨b2, o2, rfl⟩ := P2.out (by omega)
        obtain ⟨a3, k3, g3, B3⟩ := H1.out.get j hlt
        obtain ⟨a4, k4, g4, B4⟩ := H2.out.get j hlt2
        have hstep : l1[j] = l2[j] → l1.take (j + 1) = l2.take (j + 1) := fun h => take_step HT.out hlt hlt2 h
        have hnot : l1[j] ≠ l2[j] → l1 ≠ l2 := fun h => not_at hlt hlt2 h
        obtain ⟨x, hx⟩ : ∃ x, x = l1[j] := ⟨_, rfl⟩
        obtain ⟨y, hy⟩ : ∃ y, y = l2[j] := ⟨_, rfl⟩
        rw [← hx] at g3 B3 hstep hnot
        rw [← hy] at g4 B4 hstep hnot
        have HX := Lib.hid hx; have HY := Lib.hid hy; clear hx hy
        have HSTEP := Lib.hid hstep; have HNOT := Lib.hid hnot; clear hstep hnot
        have HB3 := Lib.hid B3; have HB4 := Lib.hid B4; clear B3 B4
        by_cases hxy : x.length = y.length
        · rw [← hxy] at g4 HB4
          have HXY := Lib.hid hxy; clear hxy
          have G3 := Lib.hid g3; have G4 := Lib.hid g4; clear g3 g4
          have p3 := (HK.out c00 (fun _ => False)).cell G3.out (fun h => h)
          have p4 := (HK.out c00 (fun _ => False)).cell G4.out (fun h => h)
          go_wp2
          go_quiet (fail)
          go_wp2
          have hxl := HB3.out.le
          go_loopw [33] (fun s wr => ∃ i : Nat, i ≤ x.length ∧ s = .int .i64 i ∧ x.take i = y.take i ∧ ∀ c S, Kp c S w wr) (fun s _ => x.length - (intOf s).toNat)
          case atStart => exact ⟨0, Nat.zero_le _, rfl, rfl, fun c S => (HK.out c S).drewN _⟩
          case round =>
            obtain ⟨i, hi, rfl, ht, hk⟩ := hrel
            have HT2 := Lib.hid ht; clear ht
            have HK2 := Lib.hid hk; clear hk
            by_cases hi1 : i < x.length
            · have hi2 : i < y.length := by have := HXY.out; omega
              obtain ⟨b3, o3, rfl⟩ := HB3.out.spot (by omega)
              obtain ⟨b4, o4, rfl⟩ := HB4.out.spot (by omega)
              obtain ⟨a5, k5, g5, s5⟩ := HB3.out.get i hi1
              obtain ⟨a6, k6, g6, s6⟩ := HB4.out.get i hi2
              clear p3 p4
              have r3 := (HK2.out c00 (fun _ => False)).cell G3.out (fun h => h)
              have r4 := (HK2.out c00 (fun _ => False)).cell G4.out (fun h => h)
              have r5 := (HK2.out c00 (fun _ => False)).cell g5 (fun h => h)
              have r6 := (HK2.out c00 (fun _ => False)).cell g6 (fun h => h)
              have hst : x[i] = y[i] → x.take (i + 1) = y.take (i + 1) := fun h => take_step HT2.out hi1 hi2 h
              have hno : x[i] ≠ y[i] → x ≠ y := fun h => not_at hi1 hi2 h
              obtain ⟨u, hu⟩ : ∃ u, u = x[i] := ⟨_, rfl⟩
              obtain ⟨v, hv⟩ : ∃ v, v = y[i] := ⟨_, rfl⟩
              rw [← hu] at r5 s5 hst hno
              rw [← hv] at r6 s6 hst hno
              have HST := Lib.hid hst; have HNO := Lib.hid hno; clear hst hno hu hv g5 g6
              have c1 := fun n => conv_sw (s5.kp ((HK2.out c00 (fun _ => False)).drewN n) (fun h => h) (Cx.refl _ _))
              have c2 := fun n => conv_sw (s6.kp ((HK2.out c00 (fun _ => False)).drewN n) (fun h => h) (Cx.refl _ _))
              clear s5 s6
              go_wp2
              go_quiet (fail)
              go_wp2
              · have hn2 : (!u == v) = true := by assumption
                have hn2 : u ≠ v := by simpa using hn2
                go_ret
                exact ⟨ret_bool (Eq.symm (decide_eq_false (HNOT.out (HNO.out hn2)))), fun c S => (HK2.out c S).drewN _⟩
              · have hn2 : (!u == v) = false := by assumption
                have hn2 : u = v := by simpa using hn2
                refine ⟨⟨i + 1, by omega, by go_num, HST.out hn2, fun c S => (HK2.out c S).drewN _⟩, ?_⟩
                simp [intOf]; omega
            · have HJ := Lib.hid hi1
              go_wp2
              go_roundw
              case rel => exact ⟨j + 1, by omega, by go_num, HSTEP.out (take_all HT2.out (by have := HJ.out; omega) (by have := HJ.out; have := HXY.out; omega)), HK2.out⟩
              case measure => simp [intOf]; omega
        · have g3 := (HK.out c00 (fun _ => False)).cell g3 (fun h => h)
          have g4 := (HK.out c00 (fun _ => False)).cell g4 (fun h => h)
          have d1 : ((x.length : Int) == y.length) = false := by simp; omega
          have d2 : ¬ (x.length : Int) = y.length := by omega
          go_wp2
          go_quiet (fail)
          go_wp2
          go_ret
          exact ⟨ret_bool (Eq.symm (decide_eq_false (HNOT.out (fun e => d2 (by rw [e]))))), fun c S => (HK.out c S).drewN _⟩
      · have HJ := Lib.hid hlt
        go_wp2
        go_ret
        exact ⟨ret_bool (Eq.symm (decide_eq_true (take_all HT.out (by have := HJ.out; omega) (by have := HJ.out; have := HLE.out; omega)))), HK.out⟩
  · have hle' : ((l1.length : Int) == l2.length) = false := by simp; omega
    have hle2 : ¬ (l1.length : Int) = l2.length := by omega
    go_enter Try.func14, Try.ntmps14
    go_wp2
    go_ret
    exact ⟨ret_bool (by simp; intro e; exact hle (by rw [e])), fun c S => Kp.refl _ _ _⟩
end Go.Proofs.Ytnifmoigalmcmaa
