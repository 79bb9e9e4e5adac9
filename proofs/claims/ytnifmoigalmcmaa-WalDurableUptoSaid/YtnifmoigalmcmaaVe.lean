/- WalDurable: the law's good. -/
import Derived.Test.YtnifmoigalmcmaaVd
import Derived.Test.YtnifmoigalmcmaaYs
namespace Go.Proofs.Ytnifmoigalmcmaa
open Go Go.RowKit
open Wl
variable {c c' : Col} {w w' : World} {S : Nat × Nat → Prop} {q : Nat × Nat}
/-- The first so many that are batches. -/
def gl (n : Nat) (l : List (List Bs)) : List (List Bs) := (l.filter good).take n
theorem gl_succ (n : Nat) (l : List (List Bs)) (i : Nat) (h : i < l.length) : gl n (l.take (i + 1)) = if good l[i] = true ∧ (gl n (l.take i)).length < n then gl n (l.take i) ++ [l[i]] else gl n (l.take i) := by
  unfold gl
  rw [List.take_succ_eq_append_getElem h, List.filter_append]
  obtain ⟨F, hF⟩ : ∃ F, F = List.filter good (List.take i l) := ⟨_, rfl⟩
  rw [← hF]
  by_cases hg : good l[i] = true
  · have e : List.filter good [l[i]] = [l[i]] := by simp [hg]
    rw [e]
    by_cases hn : F.length < n
    · have e1 : List.take n F = F := List.take_of_length_le (by omega)
      have e2 : List.take n (F ++ [l[i]]) = F ++ [l[i]] := List.take_of_length_le (by rw [List.length_append, List.length_singleton]; omega)
      rw [e1, e2, if_pos ⟨hg, hn⟩]
    · rw [if_neg (fun h => by have := h.2; rw [List.length_take] at this; omega), List.take_append_of_le_length (by omega)]
  · have e : List.filter good [l[i]] = [] := by simp [hg]
    rw [e, if_neg (fun h => hg h.1), List.append_nil]
theorem gl_le (n : Nat) (l : List (List Bs)) (i : Nat) : (gl n (l.take i)).length ≤ l.length := by
  unfold gl
  have h1 := List.length_filter_le good (l.take i)
  have h2 : (l.take i).length ≤ l.length := by rw [List.length_take]; omega
  rw [List.length_take]; omega
set_option maxRecDepth 20000 in
set_option maxHeartbeats 1000000 in
theorem lgood_c (v : Value) (l : List (List Bs)) (n : Nat) (w : World) (h : LogW w c00 (0, 0) v l) (hl : l.length ≤ 1048576) (hb : ∀ b ∈ l, b.length ≤ 1000000000 ∧ ∀ r ∈ b, r.length ≤ 1000000000) (hn : n ≤ 1000000000) :
    Calls Try.prog 22 #[v, .int .i64 n] w fun e w' => ∃ v', e = .returned v' ∧ LogW w' c00 (0, 0) v' (gl n l) ∧ ∀ c S, Kp c S w w' := by
  obtain ⟨i0, hi, hz0, hz1, hz2⟩ := info_batch
  have H6 := Lib.hid hi; have H7 := Lib.hid hz0; have H8 := Lib.hid hz1; have H9 := Lib.hid hz2; clear hi hz0 hz1 hz2
  obtain ⟨ad, cap, rfl, hc1, hc2, hsp⟩ := h.shape
  have HV := Lib.hid h; have HB := Lib.hid hb; have HSP := Lib.hid hsp
  clear h hb hsp
  unfold maxLen at hc2
  go_enter Try.func22, Try.ntmps22
  go_wp2
  go_loopw [5, 10] (fun v s wr => ∃ i : Nat, i ≤ l.length ∧ s = .int .i64 i ∧ (∃ xs, wr.ownsRow 0 22 1 v (gl n (l.take i)).length xs ∧ ∀ (j : Nat) x y, xs[j]? = some x → (gl n (l.take i))[j]? = some y → BatW w c00 (0, 0) (0, 0) x y) ∧ (∀ g, v.ownBlock = some g → w.heap.size ≤ g) ∧ ∀ c S, Kp c S w wr) (fun _ s _ => l.length - (intOf s).toNat)
  case atStart => exact ⟨0, by omega, rfl, ⟨[], by simp [gl]; exact World.ownsRow_nil _ _ _ _, fun j x y hx => by simp at hx⟩, (fun _ h => nomatch h), fun c S => Kp.refl c S w⟩
  case round =>
    obtain ⟨i, hi, rfl, ⟨xs, ho, hx⟩, hf, hK⟩ := hrel
    obtain ⟨ao, ko, rfl⟩ := own_shape1 ho
    have HO := Lib.hid ho; have HX := Lib.hid hx; have HF := Lib.hid hf; have HK := Lib.hid hK; clear ho hx hf hK
    have hgle := gl_le n l i
    by_cases hlt : i < l.length
    · obtain ⟨b0, o0, rfl⟩ := HSP.out (by omega)
      obtain ⟨a3, k3, g3, B3⟩ := HV.out.get i hlt
      have g3 := (HK.out c00 (fun _ => False)).cell g3 (fun h => h)
      have hbb := HB.out l[i] (List.getElem_mem hlt)
      have hsucc := gl_succ n l i hlt
      obtain ⟨x, hx⟩ : ∃ x, x = l[i] := ⟨_, rfl⟩
      obtain ⟨L, hL⟩ : ∃ L, L = gl n (l.take i) := ⟨_, rfl⟩
      rw [← hx] at g3 B3 hbb hsucc
      rw [← hL] at HO HX HF hsucc hgle ⊢
      have HB3 := Lib.hid B3; have HBB := Lib.hid hbb; have HSU := Lib.hid hsucc; clear hx B3 hbb hsucc hL
      have HGW := Lib.hid (GoodW_c (0, 0) (0, 0) (.slice a3 x.length k3) x (HB3.out.kp (HK.out c00 (fun _ => False)) (fun h => h) (fun h => h) (Cx.refl _ _)) HBB.out.1 HBB.out.2)
      by_cases hg : good x = true
      · rw [hg] at HGW
        by_cases hln : L.length < n
        · have HSU2 := Lib.hid (show gl n (l.take (i + 1)) = L ++ [x] from by rw [HSU.out, if_pos ⟨hg, hln⟩])
          clear HSU hg
          go_wp2_with (first
            | (go_at_call 15; refine HGW.out.mono ?_; rintro _ w1 ⟨rfl, hw⟩; obtain rfl := hw.symm)
            | (at_builtin; refine wpList_append2 rfl _ _ _ rfl 22 i0 (.slice none 0 0) 24 Try.underlying38 H6.out H7.out H8.out H9.out rfl (.slice ao L.length ko) L.length xs rfl (owns_alloc HO.out _) ⟨wr.heap.size, 0, none⟩ 1 1 [.slice a3 x.length k3] rfl rfl (one_new _ _ _) (fun u hu => by rw [List.mem_singleton.1 hu]; rfl) (by unfold maxLen; omega) (by omega) ?_; intro v5 w5 hown5 hg5 hf5; have HO5 := Lib.hid hown5; have HF5 := Lib.hid hf5; have HG5 := Lib.hid hg5; clear hown5 hg5 hf5))
          go_roundw
          case rel =>
            have hlen : xs.length = L.length := by simpa using HO.out.1
            refine ⟨i + 1, by omega, by go_num, ⟨xs ++ [.slice a3 x.length k3], by rw [HSU2.out, List.length_append]; exact HO5.out, fun j u y hu hy => ?_⟩, fun g hg => ?_, fun c S => ((HK.out c S).alloc _).grown HG5.out (fun g hg hlt => absurd (HF.out g hg) (by omega))⟩
            · rw [HSU2.out] at hy
              by_cases hj : j < L.length
              · rw [List.getElem?_append_left (by omega)] at hu hy
                exact HX.out j u y hu hy
              · rw [List.getElem?_append_right (by omega)] at hu hy
                have h0 : j - L.length = 0 := by
                  cases hd : j - L.length with
                  | zero => rfl
                  | succ d => rw [hd] at hy; simp at hy
                rw [h0] at hy
                rw [hlen, h0] at hu
                simp at hu hy
                subst hu hy
                exact HB3.out
            · rcases HF5.out g hg with h | h
              · exact HF.out g h
              · have h1 := (HK.out (fun _ => (0, 0)) (fun _ => True)).size
                have h2 : wr.heap.size ≤ (wr.alloc (.cells #[.slice a3 x.length k3] 22)).heap.size := by simp
                exact Nat.le_trans h1 (Nat.le_trans h2 h)
          case measure => simp [intOf]; omega
        · have HSU2 := Lib.hid (show gl n (l.take (i + 1)) = L from by rw [HSU.out, if_neg (fun h => hln h.2)])
          clear HSU hg
          go_wp2_with (go_at_call 15; refine HGW.out.mono ?_; rintro _ w1 ⟨rfl, hw⟩; obtain rfl := hw.symm)
          go_roundw
          case rel => exact ⟨i + 1, by omega, by go_num, ⟨xs, by rw [HSU2.out]; exact HO.out, by rw [HSU2.out]; exact HX.out⟩, HF.out, HK.out⟩
          case measure => simp [intOf]; omega
      · have HSU2 := Lib.hid (show gl n (l.take (i + 1)) = L from by rw [HSU.out, if_neg (fun h => hg h.1)])
        have hgf : good x = false := by simpa using hg
        rw [hgf] at HGW
        clear HSU hg hgf
        go_wp2_with (go_at_call 15; refine HGW.out.mono ?_; rintro _ w1 ⟨rfl, hw⟩; obtain rfl := hw.symm)
        go_roundw
        case rel => exact ⟨i + 1, by omega, by go_num, ⟨xs, by rw [HSU2.out]; exact HO.out, by rw [HSU2.out]; exact HX.out⟩, HF.out, HK.out⟩
        case measure => simp [intOf]; omega
    · obtain rfl : i = l.length := by omega
      rw [List.take_length] at HO HX ⊢
      go_wp2
      go_ret
      refine ⟨_, rfl, ⟨xs, (Sc.of_owns HO.out (fun _ _ => rfl)).wide, by simpa using HO.out.1, fun j u y hu hy => (HX.out j u y hu hy).kp (HK.out c00 (fun _ => False)) (fun h => h) (fun h => h) (Cx.refl _ _)⟩, HK.out⟩
end Go.Proofs.Ytnifmoigalmcmaa
