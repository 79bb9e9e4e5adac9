/- wal.first: the batch that bytes begin with. -/
import Derived.Test.YtnifmoigalmcmaaGreatYe
import Derived.Test.YtnifmoigalmcmaaGreatSm
namespace Go.Proofs.YtnifmoigalmcmaaGreat
open Go Go.RowKit
open Wl
variable {c c' : Col} {w w' : World} {S : Nat × Nat → Prop} {q : Nat × Nat}
/-- Bytes at a place in memory. -/
def Bya (w : World) (b o : Nat) (l : List UInt8) : Prop := ∀ (j : Nat) u, (l.map bv)[j]? = some u → w.cell? ⟨b, o + j, none⟩ = some u
theorem Bya.take {b o : Nat} {l : List UInt8} (h : Bya w b o l) (n : Nat) : Bya w b o (l.take n) := by
  intro j u hj
  rw [List.getElem?_map, List.getElem?_take] at hj
  split at hj
  · exact h j u (by rw [List.getElem?_map]; exact hj)
  · cases hj
theorem Bya.drop {b o : Nat} {l : List UInt8} (h : Bya w b o l) (n : Nat) : Bya w b (o + n) (l.drop n) := by
  intro j u hj
  rw [Nat.add_assoc]
  refine h (n + j) u ?_
  rw [List.getElem?_map, List.getElem?_drop] at hj
  rw [List.getElem?_map]; exact hj
theorem Bya.on {b o : Nat} {l : List UInt8} (h : Bya w b o l) (hk : ∀ c S, Kp c S w w') : Bya w' b o l :=
  fun j u hj => (hk (fun _ => (0, 0)) (fun _ => False)).cell (h j u hj) (fun h => h)
theorem Bya.sc {b o n cap : Nat} {l : List UInt8} (h : Bya w b o l) (hn : n = l.length) (h1 : n ≤ cap) (h2 : cap ≤ maxLen) : Sc w (fun _ => (0, 0)) (0, 0) (.slice (some ⟨b, o, none⟩) n cap) (l.map bv) := by
  subst hn
  exact ⟨some ⟨b, o, none⟩, cap, by rw [List.length_map], by rw [List.length_map]; exact h1, h2, fun h => (by cases h), fun ad had => by cases had; exact ⟨rfl, fun j u hj => ⟨rfl, h j u hj⟩⟩⟩
theorem kec_at (w : World) (b o n cap : Nat) (l : List UInt8) (h : Bya w b o l) (hn : n = l.length) (hl : n ≤ 20000000) :
    Calls Tryz.prog 121 #[.slice (some ⟨b, o, none⟩) n cap] w fun e w' => ∃ C : Array Value, e = .returned (.agg C) ∧ C.size = 32 ∧ C = ((kec l).map bv).toArray ∧ ∀ c S, Kp c S w w' := by
  subst hn
  exact (kec1 (fun _ => (0, 0)) w b o cap l hl h).mono fun e w' h => ⟨_, h.1, by simp [kec_length], rfl, fun c S => kp_any (h.2 (fun _ => False)) c S⟩
theorem first_cv {w w6 w7 : World} {b oo cap2 : Nat} {C Z : Array Value} {X Y E D : List UInt8} {t : TypeId} (hw : (w6.alloc (.cells Z t)).setRow w6.heap.size C = w7) (hk6 : ∀ c S, Kp c S w w6) (hC : C = ((kec X).map bv).toArray) (hY : Y = kec X) (hE : E = Y.take 8)
    (hEl : E.length = 8) (hDl : D.length = 8) (hD : Bya w b oo D) (h8 : 8 ≤ cap2) (hcm : cap2 ≤ maxLen) :
    (∀ c S, Kp c S w w7) ∧ (∀ m, (convert 41 9 (.slice (some ⟨w6.heap.size, 0, none⟩) 8 32)).run Tryz.prog (w7.drewN m) = .ok (.string ⟨E.toArray⟩) (w7.drewN m)) ∧ ∀ m, (convert 41 9 (.slice (some ⟨b, oo, none⟩) 8 cap2)).run Tryz.prog (w7.drewN m) = .ok (.string ⟨D.toArray⟩) (w7.drewN m) := by
  have k67 : ∀ c S, Kp c S w6 w7 := fun c S => by rw [← hw]; exact ((Kp.refl c S w6).alloc _).setRow (fun h => absurd h (Nat.lt_irrefl _)) _
  have k7 : ∀ c S, Kp c S w w7 := fun c S => (hk6 c S).alloc_trans (k67 c S)
  have hh : w7.heap[w6.heap.size]? = some (.cells C t (0, 0)) := by rw [← hw]; exact heap_setRow (heap_alloc_new _ _)
  have hb : Bya w7 w6.heap.size 0 E := by
    intro j u hj
    have := take8_cells hh hC j u (by rw [← hY, ← hE]; exact hj)
    rw [add_eq rfl] at this; exact this
  have kd : ∀ m c S, Kp c S w7 (w7.drewN m) := fun m c S => (Kp.refl c S w7).drewN m
  exact ⟨k7, fun m => conv_sc ((hb.on (kd m)).sc hEl.symm (by omega) (by unfold maxLen; omega)), fun m => conv_sc (((hD.on k7).on (kd m)).sc hDl.symm h8 hcm)⟩
def FirstPost (w : World) (r : Option (List Bs × Nat)) (e : Ending) (w' : World) : Prop :=
  (∀ c S, Kp c S w w') ∧ match r with
  | none => e = .returned (.tuple #[.slice none 0 0, .int .i64 0])
  | some x => ∃ v cf, e = .returned (.tuple #[v, .int .i64 x.2]) ∧ Grow QB w.heap.size w' 41 v cf x.1
theorem first_eq (K : Bs → Bs) (bs : Bs) (k L M : Nat) (hL : L = num (bs.take 4)) (hM : M = num ((bs.drop 12).take 4)) : first K bs k =
    if bs.length < 4 then none else if L < 12 ∨ L > 16777216 ∨ bs.length < 4 + L + 8 then none else
    if (K (bs.take (4 + L))).take 8 ≠ (bs.drop (4 + L)).take 8 then none else if num ((bs.drop 4).take 8) ≠ k then none else
    if M < 1 ∨ M > 4096 then none else (parse M ((bs.drop 16).take (L - 12))).map fun l => (l, 4 + L + 8) := by
  subst hL hM; rfl
set_option maxRecDepth 20000 in
set_option maxHeartbeats 2000000 in
theorem first_c (w : World) (v : Value) (bs : Bs) (k : Nat) (h : Sc w c q v (bs.map bv)) (hk : k ≤ 1000000000) :
    Calls Tryz.prog 122 #[v, .int .i64 k] w (FirstPost w (first kec bs k)) := by
  obtain ⟨i0, hi, hz0, hz1, hz2⟩ := info_bytes
  have H6 := Lib.hid hi; have H7 := Lib.hid hz0; have H8 := Lib.hid hz1; have H9 := Lib.hid hz2; clear hi hz0 hz1 hz2
  obtain ⟨L, hL⟩ : ∃ L, L = num (bs.take 4) := ⟨_, rfl⟩
  obtain ⟨M, hM⟩ : ∃ M, M = num ((bs.drop 12).take 4) := ⟨_, rfl⟩
  obtain ⟨NN, hNN⟩ : ∃ NN, NN = num ((bs.drop 4).take 8) := ⟨_, rfl⟩
  have hfe := first_eq kec bs k L M hL hM
  rw [← hNN] at hfe
  obtain ⟨F, hF⟩ : ∃ F, F = first kec bs k := ⟨_, rfl⟩
  rw [← hF] at hfe ⊢
  have HFE := Lib.hid hfe; clear hF hfe
  have hlen : bs.length ≤ 9223372036854775807 := by
    obtain ⟨_, _, _, h1, h2, _⟩ := h
    rw [List.length_map] at h1; unfold maxLen at h2; omega
  by_cases h4 : bs.length < 4
  · have hF : F = none := by rw [HFE.out, if_pos h4]
    subst hF
    obtain ⟨a, cap, rfl, _⟩ := h
    rw [List.length_map]
    obtain ⟨n, hn⟩ : ∃ n, n = bs.length := ⟨_, rfl⟩
    rw [← hn] at h4 ⊢
    clear HFE hL hM hNN hlen hn
    go_enter Tryz.func122, Tryz.ntmps122
    go_wp2
    go_ret2
    exact ⟨fun c S => Kp.refl c S w, rfl⟩
  rcases h.cases with ⟨_, h0⟩ | ⟨b, o, cap, rfl, hlc, hcm, _, hc⟩
  · have : bs = [] := by simpa using h0
    rw [this] at h4; simp at h4
  rw [List.length_map] at hlc ⊢
  have HC : Hid (Bya w b o bs) := Lib.hid hc
  clear hc h
  have hL32 : L < 256 ^ 4 := by
    have := num_lt (bs.take 4)
    rw [← hL, List.length_take, Nat.min_eq_left (by omega)] at this; exact this
  have HL := Lib.hid hL; have HM := Lib.hid hM; have HNN := Lib.hid hNN; clear hL hM hNN
  obtain ⟨n, hn⟩ : ∃ n, n = bs.length := ⟨_, rfl⟩
  rw [← hn] at h4 hlen hlc ⊢
  rw [← hn] at HFE
  have HN := Lib.hid hn; clear hn
  have hL32' : L < 4294967296 := hL32
  clear hL32
  have HGET := Lib.hid (wget_c w b o n cap (bs.take 4) 4 (by rw [List.length_take]; have := HN.out; omega) (by omega) (by omega) hlc hcm (HC.out.take 4))
  rw [← HL.out] at HGET
  by_cases h2 : L < 12 ∨ L > 16777216 ∨ n < 4 + L + 8
  · have hF : F = none := by rw [HFE.out, if_neg h4, if_pos h2]
    subst hF
    by_cases ha : L < 12
    · clear h2
      go_enter Tryz.func122, Tryz.ntmps122
      go_wp2_with (go_at_call 166; refine HGET.out.mono ?_; rintro _ wg ⟨rfl, hw⟩; obtain rfl := hw.symm)
      go_ret2
      exact ⟨fun c S => Kp.refl c S w, rfl⟩
    · by_cases hb : L > 16777216
      · clear h2
        go_enter Tryz.func122, Tryz.ntmps122
        go_wp2_with (go_at_call 166; refine HGET.out.mono ?_; rintro _ wg ⟨rfl, hw⟩; obtain rfl := hw.symm)
        go_ret2
        exact ⟨fun c S => Kp.refl c S w, rfl⟩
      · have h2' : n < 4 + L + 8 := by omega
        clear h2
        go_enter Tryz.func122, Tryz.ntmps122
        go_wp2_with (go_at_call 166; refine HGET.out.mono ?_; rintro _ wg ⟨rfl, hw⟩; obtain rfl := hw.symm)
        go_ret2
        exact ⟨fun c S => Kp.refl c S w, rfl⟩
  have hL12 : ¬ L < 12 := by omega
  have hLm : ¬ L > 16777216 := by omega
  have hn8 : ¬ n < 4 + L + 8 := by omega
  have HF2 := Lib.hid (show F = _ from by rw [HFE.out, if_neg h4, if_neg h2])
  clear HFE h2
  obtain ⟨D, hD⟩ : ∃ D, D = (bs.drop (4 + L)).take 8 := ⟨_, rfl⟩
  obtain ⟨X, hX⟩ : ∃ X, X = bs.take (4 + L) := ⟨_, rfl⟩
  obtain ⟨Y, hY⟩ : ∃ Y, Y = kec X := ⟨_, rfl⟩
  obtain ⟨E, hE⟩ : ∃ E, E = Y.take 8 := ⟨_, rfl⟩
  have hEl : E.length = 8 := by rw [hE, hY, List.length_take, kec_length]; rfl
  have hDl : D.length = 8 := by rw [hD, List.length_take, List.length_drop]; have := HN.out; omega
  have hXl : 4 + L = X.length := by rw [hX, List.length_take]; have := HN.out; omega
  rw [← hX, ← hD, ← hY, ← hE] at HF2
  have HD := Lib.hid hD; have HX := Lib.hid hX; have HY := Lib.hid hY; have HE := Lib.hid hE; have HEL := Lib.hid hEl; have HDL := Lib.hid hDl; have HXL := Lib.hid hXl
  have HBX := Lib.hid (show Bya w b o X from by rw [hX]; exact HC.out.take _)
  have HBD := Lib.hid (show Bya w b (o + (4 + L)) D from by rw [hD]; exact (HC.out.drop _).take _)
  clear hD hX hY hE hEl hDl hXl
  have m1 : ¬ cap = 4 + L := by omega
  by_cases hne : E = D
  · have HF3 := Lib.hid (show F = _ from by rw [HF2.out, if_neg (by simpa using hne)])
    clear HF2
    have hs8 := hash_slice8
    have hneb : (E == D) = true := by simpa using hne
    clear hne
    have HGN := Lib.hid (fun (W : World) (hW : ∀ c S, Kp c S w W) => wget_c W b (o + 4) L (cap - 4) ((bs.drop 4).take 8) 8 (by rw [List.length_take, List.length_drop]; have := HN.out; omega) (by omega) (by omega) (by omega) (by omega) (((HC.out.drop 4).take 8).on hW))
    have HGM := Lib.hid (fun (W : World) (hW : ∀ c S, Kp c S w W) => wget_c W b (o + 4 + 8) (L - 8) (cap - 4 - 8) ((bs.drop 12).take 4) 4 (by rw [List.length_take, List.length_drop]; have := HN.out; omega) (by omega) (by omega) (by omega) (by omega) ((show Bya w b (o + 4 + 8) _ from by rw [Nat.add_assoc]; exact (HC.out.drop 12).take 4).on hW))
    rw [← HNN.out] at HGN
    rw [← HM.out] at HGM
    go_enter Tryz.func122, Tryz.ntmps122
    go_wp2_with (first
      | (refine wpList_store_row rfl 183 _ _ rfl w6.heap.size C rfl rfl 183 _ (heap_alloc_new w6 _) (by rw [hash_info, HC32.out]) (by rw [HC32.out]; rfl) (by rw [HCE.out]; exact bv_one _) ?_; generalize hw : World.setRow _ _ _ = w7; obtain ⟨k7, hcv1, hcv2⟩ := first_cv (w := w) hw HK6.out HCE.out HY.out HE.out HEL.out HDL.out HBD.out (show 8 ≤ cap - (4 + L) by omega) (show cap - (4 + L) ≤ maxLen by omega); have HK7 := Lib.hid k7; clear k7 hw)
      | (go_at_call 166; refine HGET.out.mono ?_; rintro _ wg ⟨rfl, hw⟩; obtain rfl := hw.symm)
      | (go_at_call 121; refine (kec_at w b o (4 + L) cap X HBX.out HXL.out (by omega)).mono ?_; rintro _ w6 ⟨C, rfl, hC, hCe, hk6⟩; have HC32 := Lib.hid hC; have HCE := Lib.hid hCe; have HK6 := Lib.hid hk6; clear hC hCe hk6))
    go_frame
    have n1 : IntKind.i64.wrap (4 + (L : Int)) = 4 + (L : Int) := IntWalk.i64_in _ (by omega)
    have n2 : IntKind.i64.wrap (4 + (L : Int) + 8) = 4 + (L : Int) + 8 := IntWalk.i64_in _ (by omega)
    have n3 : (4 + (L : Int)).toNat = 4 + L := by omega
    have n4 : (4 + (L : Int) + 8).toNat = 4 + L + 8 := by omega
    have n5 : (0 : Int) ≤ 4 + (L : Int) := by omega
    have n6 : 4 + (L : Int) + 8 ≤ cap := by omega
    have n7 : 4 + L + 8 - (4 + L) = 8 := by omega
    go_quiet (fail)
    obtain ⟨w8, hw8⟩ : ∃ w8, w8 = w7.drewN nq := ⟨_, rfl⟩
    have HK8 := Lib.hid (show ∀ c S, Kp c S w w8 from fun c S => by rw [hw8]; exact (HK7.out c S).drewN _)
    rw [← hw8]
    clear hw8 hcv1 hcv2 hneb HGET HK7
    clear n1 n2 n3 n4 n5 n6 n7
    have m2 : ¬ cap = 4 := by omega
    have m3 : ¬ cap - 4 = 8 := by omega
    have m4 : ¬ cap - 4 = 12 := by omega
    have hMl : M < 4294967296 := by
      have := num_lt ((bs.drop 12).take 4)
      rw [← HM.out, List.length_take, List.length_drop, Nat.min_eq_left (by have := HN.out; omega)] at this; exact this
    have hNl : NN < 18446744073709551616 := by
      have := num_lt ((bs.drop 4).take 8)
      rw [← HNN.out, List.length_take, List.length_drop, Nat.min_eq_left (by have := HN.out; omega)] at this; exact this
    have HG1 := Lib.hid (show Calls Tryz.prog 166 #[.slice (some ⟨b, o + 4, none⟩) L (cap - 4), .int .i64 8] w8 _ from HGN.out w8 HK8.out)
    have HG2 := Lib.hid (show Calls Tryz.prog 166 #[.slice (some ⟨b, o + 4 + 8, none⟩) (L - 8) (cap - 4 - 8), .int .i64 4] w8 _ from HGM.out w8 HK8.out)
    clear HGN HGM
    by_cases hkn : NN = k
    · have HF4 := Lib.hid (show F = _ from by rw [HF3.out, if_neg (by simpa using hkn)])
      clear HF3
      subst hkn
      by_cases hm1 : M < 1
      · have hF : F = none := by rw [HF4.out, if_pos (Or.inl hm1)]
        subst hF
        go_wp2_with (first
          | (go_at_call 166; with_reducible refine HG1.out.mono ?_; rintro _ wg ⟨rfl, hw⟩; obtain rfl := hw.symm)
          | (go_at_call 166; with_reducible refine HG2.out.mono ?_; rintro _ wg ⟨rfl, hw⟩; obtain rfl := hw.symm))
        go_ret2
        exact ⟨HK8.out, rfl⟩
      · by_cases hm2 : M > 4096
        · have hF : F = none := by rw [HF4.out, if_pos (Or.inr hm2)]
          subst hF
          go_wp2_with (first
            | (go_at_call 166; with_reducible refine HG1.out.mono ?_; rintro _ wg ⟨rfl, hw⟩; obtain rfl := hw.symm)
            | (go_at_call 166; with_reducible refine HG2.out.mono ?_; rintro _ wg ⟨rfl, hw⟩; obtain rfl := hw.symm))
          go_ret2
          exact ⟨HK8.out, rfl⟩
        · have HF5 := Lib.hid (show F = _ from by rw [HF4.out, if_neg (by omega)])
          clear HF4
          go_wp2_with (first
            | (go_at_call 166; with_reducible refine HG1.out.mono ?_; rintro _ wg ⟨rfl, hw⟩; obtain rfl := hw.symm)
            | (go_at_call 166; with_reducible refine HG2.out.mono ?_; rintro _ wg ⟨rfl, hw⟩; obtain rfl := hw.symm))
          have hrl : ((bs.drop 16).take (L - 12)).length = L - 12 := by rw [List.length_take, List.length_drop]; have := HN.out; omega
          have d1 : decide ((n : Int) < 4) = false := by simp; omega
          have d2 : decide ((L : Int) < 12) = false := by simp; omega
          have d3 : decide ((16777216 : Int) < L) = false := by simp; omega
          have d4 : decide ((n : Int) < 4 + L + 8) = false := by simp; omega
          have d5 : decide ((M : Int) < 1) = false := by simp; omega
          have d6 : decide ((4096 : Int) < M) = false := by simp; omega
          (try simp only [d1, d2, d3, d4, d5, d6, Bool.or_self])
          clear d1 d2 d3 d4 d5 d6
          have hb16 : Bya w b (o + 4 + 12) ((bs.drop 16).take (L - 12)) := by rw [Nat.add_assoc]; exact (HC.out.drop 16).take _
          obtain ⟨R0, hR0⟩ : ∃ R0, R0 = (bs.drop 16).take (L - 12) := ⟨_, rfl⟩
          rw [← hR0] at hrl hb16 HF5
          have HR0 := Lib.hid hrl; have HB16 := Lib.hid hb16
          clear hrl hb16 hR0 HG1 HG2 HBX HBD HX HY HE HD HEL HDL HXL HN HM HNN HL HC HCE HC32 HK6 hs8 m1 m2 m3 m4
          go_loopw [8, 10, 70] (fun vb vg s wr => ∃ i : Nat, i ≤ M ∧ s = .int .i64 i ∧ ∃ (p cp : Nat) (rest : Bs) (acc : List Bs) (cf : Col), vb = .slice (some ⟨b, p, none⟩) rest.length cp ∧ rest.length + 8 ≤ cp ∧ cp ≤ maxLen ∧ rest.length ≤ 16777216 ∧ Bya w b p rest ∧
            Grow QB w.heap.size wr 41 vg cf acc ∧ acc.length = i ∧ F = ((parse (M - i) rest).map fun l => (acc ++ l, 4 + L + 8)) ∧ ∀ c S, Kp c S w wr) (fun _ _ s _ => M - (intOf s).toNat)
          case atStart => exact ⟨0, by omega, rfl, o + 4 + 12, cap - 4 - 12, R0, [], _, by rw [HR0.out], by rw [HR0.out]; omega, by omega, by rw [HR0.out]; omega, HB16.out, Grow.start _ (HK5s HK8.out) , rfl, by simpa using HF5.out, HK8.out⟩
          case round =>
            clear HF5 HR0 HB16 HK8
            obtain ⟨i, hi, rfl, p, cp, rest, acc, cf, rfl, hcp, hcpm, hrm, hby, G, hacc, hFF, hK⟩ := hrel
            have HBY := Lib.hid hby; have HG := Lib.hid G; have HFF := Lib.hid hFF; have HK := Lib.hid hK; have HAC := Lib.hid hacc
            clear hby G hFF hK hacc
            obtain ⟨r, hr⟩ : ∃ r, r = rest.length := ⟨_, rfl⟩
            rw [← hr] at hcp hrm ⊢
            have HR := Lib.hid hr; clear hr
            by_cases hlt : i < M
            · obtain ⟨m, hm⟩ : ∃ m, M - i = m + 1 := ⟨M - i - 1, by omega⟩
              have HFP := Lib.hid (show F = _ from by rw [HFF.out, hm, parse, ← HR.out])
              have HMM := Lib.hid (show m = M - (i + 1) by omega)
              by_cases hr4 : r < 4
              · have hF : F = none := by rw [HFP.out, if_pos hr4]; rfl
                subst hF
                clear hm HFP HFF
                go_wp2
                go_ret2
                exact ⟨HK.out, rfl⟩
              · obtain ⟨nn, hnn⟩ : ∃ nn, nn = num (rest.take 4) := ⟨_, rfl⟩
                have hnl : nn < 4294967296 := by
                  have := num_lt (rest.take 4)
                  rw [← hnn, List.length_take, Nat.min_eq_left (by have := HR.out; omega)] at this; exact this
                rw [← hnn] at HFP
                have HGT := Lib.hid (show Calls Tryz.prog 166 #[.slice (some ⟨b, p, none⟩) r cp, .int .i64 4] wr _ from wget_c wr b p r cp (rest.take 4) 4 (by rw [List.length_take]; have := HR.out; omega) (by omega) (by omega) (by omega) hcpm ((HBY.out.take 4).on HK.out))
                rw [← hnn] at HGT
                have HNU := Lib.hid hnn
                clear hnn hm HFF
                by_cases hb1 : nn > 1048576
                · have hF : F = none := by rw [HFP.out, if_neg hr4, if_pos (Or.inl hb1)]; rfl
                  subst hF
                  clear HFP
                  go_wp2_with (go_at_call 166; with_reducible refine HGT.out.mono ?_; rintro _ wg ⟨rfl, hw⟩; obtain rfl := hw.symm)
                  go_ret2
                  exact ⟨HK.out, rfl⟩
                · by_cases hb2 : nn > r - 4
                  · have hF : F = none := by rw [HFP.out, if_neg hr4, if_pos (Or.inr hb2)]; rfl
                    subst hF
                    clear HFP
                    go_wp2_with (go_at_call 166; with_reducible refine HGT.out.mono ?_; rintro _ wg ⟨rfl, hw⟩; obtain rfl := hw.symm)
                    go_ret2
                    exact ⟨HK.out, rfl⟩
                  · have HFQ := Lib.hid (show F = _ from by rw [HFP.out, if_neg hr4, if_neg (by omega)])
                    clear HFP
                    obtain ⟨x, hx⟩ : ∃ x, x = (rest.drop 4).take nn := ⟨_, rfl⟩
                    have hxl : nn = x.length := by rw [hx, List.length_take, List.length_drop, ← HR.out]; omega
                    rw [← hx] at HFQ
                    have HSX := Lib.hid (Bya.sc (n := nn) (cap := cp - 4) (show Bya wr b (p + 4) x from by rw [hx]; exact ((HBY.out.drop 4).take nn).on HK.out) hxl (by omega) (by omega))
                    have HXL := Lib.hid hxl
                    have hai : acc.length ≤ 4096 := by rw [HAC.out]; omega
                    clear hx hxl
                    have m1 : ¬ cp = 4 := by omega
                    have m2 : ¬ cp = 4 + nn := by omega
                    have m3 : 4 + nn - 4 = nn := by omega
                    go_wp2_with (first
                      | (go_at_call 166; with_reducible refine HGT.out.mono ?_; rintro _ wg ⟨rfl, hw⟩; obtain rfl := hw.symm)
                      | (at_builtin; refine wpList_append2 rfl _ _ _ rfl 41 i0 (.slice none 0 0) 24 Tryz.underlying40 H6.out H7.out H8.out H9.out rfl u10 acc.length xs5 rfl HO5.out ⟨w4.heap.size, 0, none⟩ 1 1 [.slice a4 m4 k4] rfl rfl (one_new _ _ _) (fun u hu => by rw [List.mem_singleton.1 hu]; exact QB.stays.one HQ5.out) (by unfold maxLen; omega) (by omega) ?_; intro v6 w6' hown6 hg6 hf6; have G6 := Lib.hid (HG5.out.push QB.stays HO5.out HQ5.out hown6 hg6 hf6); have HK6 := Lib.hid (fun c S => ((HK4.out c S).alloc _).grown hg6 (fun g hg hlt => absurd (HG5.out.fresh g hg) (by omega))); clear hown6 hg6 hf6)
                      | (go_at_call 75; refine (cloneB (.slice (some ⟨b, p + 4, none⟩) nn (cp - 4)) (x.map bv) HSX.out (one_bv x) (by rw [List.length_map, ← HXL.out]; unfold lim; omega)).mono ?_; rintro _ w4 ⟨v4, rfl, ho4, hb4⟩; rw [List.length_map] at ho4; obtain ⟨a4, m4, k4, rfl⟩ := own_slice ho4; obtain ⟨cg, xs5, g5, o5, q5⟩ := grow_clone HG.out (own_zero' ho4) (own_base' ho4) (fun c S => Kp.of_below hb4) (.cells #[.slice a4 m4 k4] 41); have HG5 := Lib.hid g5; have HO5 := Lib.hid o5; have HQ5 := Lib.hid q5; have HK4 := Lib.hid (fun c S => (HK.out c S).alloc_trans (Kp.of_below hb4)); clear g5 o5 q5 ho4 hb4))
                    go_roundw
                    case rel =>
                      refine ⟨i + 1, by omega, by go_num, p + (4 + nn), cp - (4 + nn), rest.drop (4 + nn), acc ++ [x], _, ?_, ?_, by omega, ?_, HBY.out.drop (4 + nn), G6.out, by rw [List.length_append, HAC.out]; rfl, ?_, HK6.out⟩
                      · rw [List.length_drop, ← HR.out]
                      · rw [List.length_drop, ← HR.out]; omega
                      · rw [List.length_drop, ← HR.out]; omega
                      · rw [HFQ.out, HMM.out, Option.map_map]
                        congr 1
                        funext l
                        simp
                    case measure => simp [intOf]; omega
            · obtain rfl : i = M := by omega
              rw [Nat.sub_self] at HFF
              by_cases hr0 : 0 < r
              · have hF : F = none := by
                  rw [HFF.out, parse, if_neg (fun e => by have := HR.out; rw [e] at this; simp at this; omega)]; rfl
                subst hF
                clear HFF
                go_wp2
                go_ret2
                exact ⟨HK.out, rfl⟩
              · have hrest : rest = [] := List.eq_nil_of_length_eq_zero (by have := HR.out; omega)
                have hF : F = some (acc, 4 + L + 8) := by rw [HFF.out, parse, if_pos hrest]; simp
                subst hF
                clear HFF
                have hr00 : r = 0 := by omega
                subst hr00
                go_wp2
                go_ret2
                refine ⟨HK.out, _, _, ?_, HG.out⟩
                have e : ((4 + L + 8 : Nat) : Int) = 4 + (L : Int) + 8 := by omega
                show _ = Ending.returned (.tuple #[_, .int .i64 ((4 + L + 8 : Nat) : Int)])
                rw [e]; rfl
    · have hF : F = none := by rw [HF3.out, if_pos hkn]
      subst hF
      go_wp2_with (first
        | (go_at_call 166; with_reducible refine HG1.out.mono ?_; rintro _ wg ⟨rfl, hw⟩; obtain rfl := hw.symm))
      go_ret2
      exact ⟨HK8.out, rfl⟩
  · have hF : F = none := by rw [HF2.out, if_pos hne]
    subst hF
    have hs8 := hash_slice8
    have hneb : (E == D) = false := by simpa using hne
    clear hne
    go_enter Tryz.func122, Tryz.ntmps122
    go_wp2_with (first
      | (refine wpList_store_row rfl 183 _ _ rfl w6.heap.size C rfl rfl 183 _ (heap_alloc_new w6 _) (by rw [hash_info, HC32.out]) (by rw [HC32.out]; rfl) (by rw [HCE.out]; exact bv_one _) ?_; generalize hw : World.setRow _ _ _ = w7; obtain ⟨k7, hcv1, hcv2⟩ := first_cv (w := w) hw HK6.out HCE.out HY.out HE.out HEL.out HDL.out HBD.out (show 8 ≤ cap - (4 + L) by omega) (show cap - (4 + L) ≤ maxLen by omega); have HK7 := Lib.hid k7; clear k7 hw)
      | (go_at_call 166; refine HGET.out.mono ?_; rintro _ wg ⟨rfl, hw⟩; obtain rfl := hw.symm)
      | (go_at_call 121; refine (kec_at w b o (4 + L) cap X HBX.out HXL.out (by omega)).mono ?_; rintro _ w6 ⟨C, rfl, hC, hCe, hk6⟩; have HC32 := Lib.hid hC; have HCE := Lib.hid hCe; have HK6 := Lib.hid hk6; clear hC hCe hk6))
    go_frame
    have n1 : IntKind.i64.wrap (4 + (L : Int)) = 4 + (L : Int) := IntWalk.i64_in _ (by omega)
    have n2 : IntKind.i64.wrap (4 + (L : Int) + 8) = 4 + (L : Int) + 8 := IntWalk.i64_in _ (by omega)
    have n3 : (4 + (L : Int)).toNat = 4 + L := by omega
    have n4 : (4 + (L : Int) + 8).toNat = 4 + L + 8 := by omega
    have n5 : (0 : Int) ≤ 4 + (L : Int) := by omega
    have n6 : 4 + (L : Int) + 8 ≤ cap := by omega
    have n7 : 4 + L + 8 - (4 + L) = 8 := by omega
    go_quiet (fail)
    go_wp2
    go_ret2
    exact ⟨fun c S => (HK7.out c S).drewN _, rfl⟩
end Go.Proofs.YtnifmoigalmcmaaGreat
