/- cairnref03: Keccak, the walk. -/
import Derived.Test.YtnifmoigalmcmaaZw
namespace Go.Proofs.Ytnifmoigalmcmaa
open Go Go.RowKit
theorem kx_mid {c : Col} {w wb wr : World} {g n z : Nat} {l : List UInt8} {cur : Array Value} {y : Int} (hws : wb.heap.size = w.heap.size + 1) (hwr : Bl wb w.heap.size zero32 67) (hwk : ∀ S, Kp c S w wb) (hK : ∀ S, Kp c S wb wr) (hg : wb.heap.size ≤ g) (hn : n = l.length + 1 + z)
    (hcur : wr.heap[g]? = some (.cells cur 5 (0, 0))) (htk : cur.toList.take n = u8s (padz l z)) (hy : y = (padz l z)[n - 1]?.getD 0) :
    KX c w ((wr.setCell ⟨g, n - 1, none⟩ (.int .u8 (bits BinOp.or IntKind.u8 y 128))).alloc (.cells (u64s (Array.replicate 25 0)) 95)) wr.heap.size g n (pf l z) (Array.replicate 25 0) := by
  have hgl := lt_of_heap hcur
  have hsz : (wr.setCell ⟨g, n - 1, none⟩ (.int .u8 (bits BinOp.or IntKind.u8 y 128))).heap.size = wr.heap.size := by simp [World.setCell]
  have hcs : n ≤ cur.size := by
    have := congrArg List.length htk
    simp [u8s, padz_length] at this; omega
  have h1 : ∀ S, Kp c S w (wr.setCell ⟨g, n - 1, none⟩ (.int .u8 (bits BinOp.or IntKind.u8 y 128))) := fun S => ((hwk S).alloc_trans (hK S)).setCell (fun h' => absurd h' (by show ¬ g < w.heap.size; omega)) _
  refine ⟨by omega, hgl, by simp, ?_, ?_, ?_, fun S => (h1 S).alloc _⟩
  · exact heap_alloc_old _ ((Below.heap_setCell _ _ _ _ (by show w.heap.size ≠ g; omega)).trans ((hK (fun _ => False)).heap hwr (fun h => h)))
  · have := heap_alloc_new (wr.setCell ⟨g, n - 1, none⟩ (.int .u8 (bits BinOp.or IntKind.u8 y 128))) (.cells (u64s (Array.replicate 25 0)) 95)
    rw [hsz] at this; exact this
  · intro j hj
    have h2 := heap_alloc_old (.cells (u64s (Array.replicate 25 0)) 95) (heap_setCell hcur (n - 1) (.int .u8 (bits BinOp.or IntKind.u8 y 128)))
    rw [cell_of_heap h2, Array.getElem?_setIfInBounds]
    unfold pf padd
    rw [List.getElem?_set]
    by_cases he : n - 1 = j
    · rw [if_pos he, if_pos (by omega), if_pos (by omega), if_pos (by rw [padz_length]; omega), hy, show l.length + z = n - 1 by omega]; rfl
    · rw [if_neg he, if_neg (by omega)]; exact take_at htk (by rw [padz_length]; omega)
set_option maxRecDepth 20000 in
set_option maxHeartbeats 4000000 in
theorem rkec1 (c : Col) (w : World) (b o cap : Nat) (l : List UInt8) (hl : l.length ≤ 20000000) (hc : ∀ (j : Nat) u, (l.map bv)[j]? = some u → w.cell? ⟨b, o + j, none⟩ = some u) :
    Calls Try.prog 31 #[.slice (some ⟨b, o, none⟩) l.length cap] w fun e w' => e = .returned (.agg ((kec l).map bv).toArray) ∧ ∀ S, Kp c S w w' := by
  have HC := Lib.hid hc; clear hc
  obtain ⟨T, hT⟩ : ∃ T, T = rhoTab 24 := ⟨_, rfl⟩
  obtain ⟨R, hR⟩ : ∃ R, R = iotaTab 168 := ⟨_, rfl⟩
  have HT := Lib.hid hT; have HR := Lib.hid hR; clear hT hR
  go_enter Try.func31, Try.ntmps31
  obtain ⟨i0, hi, hz0, hz1, hz2⟩ := info_parts info_u8
  have H6 := Lib.hid hi; have H7 := Lib.hid hz0; have H8 := Lib.hid hz1; have H9 := Lib.hid hz2; clear hi hz0 hz1 hz2
  go_wp2_with (first
    | (at_builtin; refine wpList_append2 rfl _ _ _ rfl 5 i0 (.int .u8 0) 1 Try.underlying23 H6.out H7.out H8.out H9.out rfl v4 l.length (l.map bv) rfl (owns_alloc HO4.out _) ⟨w4.heap.size, 0, none⟩ 1 1 [.int .u8 1] rfl rfl (one_new _ _ _) (by simp [Value.oneCell']) (by unfold maxLen; omega) (by omega) ?_; intro v5 w5 hown5 hg5 hf5; have HO5 := Lib.hid hown5; have HF5 := Lib.hid (own_fresh HF4.out (by have := ((HK4.out (fun _ => False)).alloc (.cells #[.int .u8 1] 5)).size; exact this) hf5); have HK5 := Lib.hid (fun S => ((HK4.out S).alloc _).grown hg5 (fun g h hlt => absurd (HF4.out g h) (by omega))); clear hown5 hg5 hf5)
    | (at_builtin; refine wpList_append2 rfl _ _ _ rfl 5 i0 (.int .u8 0) 1 Try.underlying23 H6.out H7.out H8.out H9.out rfl (.slice none 0 0) 0 [] rfl (World.ownsRow_nil _ _ _ _) ⟨b, o, none⟩ l.length cap (l.map bv) rfl (by simp) (fun j u hj => by rw [add_eq rfl]; exact ((Kp.refl c (fun _ => False) w).alloc _).cell (HC.out j u hj) (fun h => h)) (one_bv l) (by unfold maxLen; omega) (by omega) ?_; intro v4 w4 hown4 hg4 hf4; simp only [Nat.zero_add, List.nil_append] at hown4; have HO4 := Lib.hid hown4; obtain ⟨wb, hws, hwr, hwk, hk4, hv4⟩ := ref_base (c := c) (by kernel_rfl) hg4 hf4; have HWR := Lib.hid hwr; have HWK := Lib.hid hwk; have HK4 := Lib.hid hk4; have HF4 := Lib.hid hv4; clear hown4 hg4 hf4 hwr hwk hk4 hv4))
  obtain ⟨m, hm⟩ : ∃ m, m = (136 - (l.length + 1) % 136) % 136 := ⟨_, rfl⟩
  go_loopw [3] (fun v wr => ∃ z : Nat, z ≤ m ∧ wr.ownsRow 0 5 1 v (l.length + 1 + z) (u8s (padz l z)) ∧ (∀ g, v.ownBlock = some g → wb.heap.size ≤ g) ∧ ∀ S, Kp c S wb wr) (fun v _ => l.length + 1 + m - lenOf v)
  case atStart => exact ⟨0, by omega, (by rw [padz_zero]; exact HO5.out), HF5.out, HK5.out⟩
  case round =>
    obtain ⟨z, hz, ho, hf, hK⟩ := hrel
    obtain ⟨g, cp, rfl⟩ := own_succ (k := l.length + z) (by rw [show l.length + z + 1 = l.length + 1 + z by omega]; exact ho)
    rw [show l.length + z + 1 = l.length + 1 + z by omega] at ho hf ⊢
    obtain ⟨n, hn⟩ : ∃ n, n = l.length + 1 + z := ⟨_, rfl⟩
    rw [← hn] at ho hf ⊢
    have hn63 : n ≤ 30000000 := by omega
    by_cases hlt : z < m
    · have hmod : ¬ (n : Int) % 136 = 0 := by omega
      have HO := Lib.hid ho; have HF := Lib.hid hf; have HK := Lib.hid hK; have HM := Lib.hid hm; have HN := Lib.hid hn
      clear ho hf hK hm hn HO5 HF5 HK5 HO4 HF4 HK4
      go_wp2_with (first
        | (at_builtin; refine wpList_append2 rfl _ _ _ rfl 5 i0 (.int .u8 0) 1 Try.underlying23 H6.out H7.out H8.out H9.out rfl (.slice (some ⟨g, 0, none⟩) n cp) n (u8s (padz l z)) rfl (owns_alloc HO.out _) ⟨wr.heap.size, 0, none⟩ 1 1 [.int .u8 0] rfl rfl (one_new _ _ _) (by simp [Value.oneCell']) (by unfold maxLen; omega) (by omega) ?_; intro v6 w6 hown6 hg6 hf6; have HO6 := Lib.hid hown6; have HF6 := Lib.hid (own_fresh HF.out (by have := ((HK.out (fun _ => False)).alloc (.cells #[.int .u8 0] 5)).size; exact this) hf6); have HK6 := Lib.hid (fun S => ((HK.out S).alloc _).grown hg6 (fun g' h hlt => absurd (HF.out g' h) (by omega))); clear hown6 hg6 hf6))
      go_roundw
      case rel => exact ⟨z + 1, by omega, (by rw [padz_succ, show l.length + 1 + (z + 1) = n + 1 by rw [HN.out]; omega]; exact HO6.out), HF6.out, HK6.out⟩
      case measure =>
        obtain ⟨g', cp', rfl⟩ := own_succ HO6.out
        simp only [lenOf]; have := HN.out; omega
    · obtain rfl : z = m := by omega
      have hmod : (n : Int) % 136 = 0 := by omega
      have hn0 : 0 < n := by omega
      obtain ⟨q, hq⟩ : ∃ q, n = 136 * q := ⟨n / 136, by omega⟩
      obtain ⟨cur, hcur, hcn, htk, hcpm⟩ := own_row ho hn0
      have HCPM := Lib.hid hcpm; clear hcpm
      obtain ⟨y, hy⟩ : ∃ y, y = (padz l z)[n - 1]?.getD 0 := ⟨_, rfl⟩
      have g0 : wr.cell? ⟨g, n - 1, none⟩ = some (.int .u8 y) := by
        rw [cell_of_heap hcur, hy]; exact take_at htk (by rw [padz_length]; omega)
      have f0 := unfrozen_of_heap hcur (n - 1)
      have HCU := Lib.hid hcur; have HTK := Lib.hid htk; have HY := Lib.hid hy; have HQ := Lib.hid hq; have HCN := Lib.hid hcn
      have HO := Lib.hid ho; have HF := Lib.hid hf; have HK := Lib.hid hK; have HM := Lib.hid hm; have HN := Lib.hid hn; have HWS := Lib.hid hws
      have i1 : ((n : Int) - 1).toNat = n - 1 := by omega
      have i2 : (0 : Int) ≤ (n : Int) - 1 := by omega
      have i3 : (1 : Int) ≤ (n : Int) := by omega
      clear ho hf hK hm hn HO5 HF5 HK5 HO4 HF4 HK4 hcur htk hy hq hcn hlt hz hws
      go_wp2
      rw [← u64s_25]
      have KM := Lib.hid (kx_mid HWS.out HWR.out HWK.out HK.out (HF.out g rfl) HN.out HCU.out HTK.out HY.out)
      obtain ⟨wa, hwa⟩ : ∃ wa, wa = ((wr.setCell ⟨g, n - 1, none⟩ (.int .u8 (bits BinOp.or IntKind.u8 y 128))).alloc (.cells (u64s (Array.replicate 25 0)) 95)) := ⟨_, rfl⟩
      obtain ⟨ab, hab⟩ : ∃ ab, ab = wr.heap.size := ⟨_, rfl⟩
      rw [← hwa, ← hab] at KM
      rw [← hwa, ← hab]
      clear hwa hab
      obtain ⟨P, hP⟩ : ∃ P, P = pf l z := ⟨_, rfl⟩
      rw [← hP] at KM
      have HP := Lib.hid hP
      have HRG := Lib.hid (show ∀ j, 0 ≤ P j ∧ P j < 256 from fun j => by rw [hP]; exact pf_range l z j); clear hP
      (try simp only [hmod])
      clear hmod HWR HWK
      go_loopw [5] (fun s wx => ∃ t : Nat, t ≤ q ∧ s = .int .i64 ((136 * t : Nat) : Int) ∧ KX c w wx ab g n P (spg T R P t)) (fun s _ => n - (intOf s).toNat)
      case atStart => exact ⟨0, by omega, rfl, KM.out⟩
      case round =>
        obtain ⟨t, ht, rfl, hm⟩ := hrel
        have KM := Lib.hid hm; clear hm
        by_cases htq : t < q
        · have hnt : 136 * t + 136 ≤ n := by have := HQ.out; omega
          obtain ⟨at0, hat0⟩ : ∃ at0, at0 = 136 * t := ⟨_, rfl⟩
          rw [← hat0] at hnt ⊢
          obtain ⟨A, hA⟩ : ∃ A, A = spg T R P t := ⟨_, rfl⟩
          rw [← hA] at KM
          have HA := Lib.hid hA; have HAT := Lib.hid hat0; clear hA hat0
          have hcn := HCN.out
          have hcp := HCPM.out
          unfold maxLen at hcp
          go_wp2
          go_loopw [6] (fun s wx => ∃ i : Nat, i ≤ 136 ∧ s = .int .i64 i ∧ KX c w wx ab g n P (rab (fun j => P (at0 + j)) A i)) (fun s _ => 136 - (intOf s).toNat)
          case atStart => exact ⟨0, by omega, rfl, KM.out⟩
          case round =>
            obtain ⟨i, hi, rfl, hm⟩ := hrel
            clear KM
            by_cases hil : i < 136
            · have g0 := hm.cA (i / 8) (by omega)
              have f := hm.fA (i / 8)
              have g1 := hm.fc (at0 + i) (by omega)
              have KM := Lib.hid hm; clear hm
              have d1 : ((i : Nat) : Int).tdiv 8 = ((i / 8 : Nat) : Int) := by rw [Int.tdiv_eq_ediv_of_nonneg (by omega)]; omega
              have d2 : ((i : Nat) : Int).tmod 8 = ((i % 8 : Nat) : Int) := by rw [Int.tmod_eq_emod_of_nonneg (by omega)]; omega
              obtain ⟨hp0, hp1⟩ := HRG.out (at0 + i)
              go_wp2
              go_region
              go_wp2
              go_roundw
              case rel => exact ⟨i + 1, by omega, by go_num, (KM.out.setA (i / 8) _).drew⟩
              case measure => simp [intOf]; omega
            · obtain rfl : i = 136 := by omega
              obtain ⟨B, hB⟩ : ∃ B, B = rab (fun j => P (at0 + j)) A 136 := ⟨_, rfl⟩
              rw [← hB] at hm
              have KM := Lib.hid hm
              have HBB := Lib.hid (show B = abso (fun j => P (136 * t + j)) A 17 from by rw [hB, ← HAT.out]; exact rab_eq (fun j => P (at0 + j)) (fun j => HRG.out _) A (by have h1 := hm.za; rw [hB, rab_size] at h1; exact h1) 17 (by omega))
              have h1 := KM.out.ha; have hz25 := KM.out.za
              have H1 := Lib.hid h1; have HZ := Lib.hid hz25
              clear hm hB h1 hz25
              go_wp2_with (first
                | (refine wpList_load_row rfl 95 _ rfl ab rfl 95 _ _ _ H1.out Try.underlying95 rfl (row25 HZ.out) ?_)
                | (go_at_call 54; refine (rpermute_c c wr B HZ.out).mono ?_; rintro _ w7 ⟨rfl, hK7⟩; rw [← HT.out, ← HR.out]; have KM7 := Lib.hid (KM.out.on hK7); have H3 := Lib.hid KM7.out.ha; have H4 := Lib.hid (perm3_size T R HZ.out 24); clear hK7)
                | (refine wpList_store_row rfl 95 _ _ rfl ab (u64s (perm3 T R B 24).1) rfl rfl 95 _ H3.out (row25 H4.out) (by simp [u64s, H4.out, HZ.out]) (u64s_one _) ?_))
              go_roundw
              case rel =>
                refine ⟨t + 1, by omega, by rw [HAT.out]; go_num, ?_⟩
                rw [spg, ← HA.out, ← HBB.out]; exact KM7.out.row H4.out
              case measure => simp [intOf]; omega
        · obtain rfl : t = q := by omega
          obtain ⟨A, hA⟩ : ∃ A, A = spg T R P t := ⟨_, rfl⟩
          rw [← hA] at KM
          have hqn := HQ.out
          have HA := Lib.hid hA; clear hA ht htq
          obtain ⟨wo, hwo⟩ : ∃ wo : World, wo = wr := ⟨_, rfl⟩
          rw [← hwo] at KM ⊢; clear hwo
          go_wp2
          rw [show (#[.int .u8 0, .int .u8 0, .int .u8 0, .int .u8 0, .int .u8 0, .int .u8 0, .int .u8 0, .int .u8 0, .int .u8 0, .int .u8 0, .int .u8 0, .int .u8 0, .int .u8 0, .int .u8 0, .int .u8 0, .int .u8 0, .int .u8 0, .int .u8 0, .int .u8 0, .int .u8 0, .int .u8 0, .int .u8 0, .int .u8 0, .int .u8 0, .int .u8 0, .int .u8 0, .int .u8 0, .int .u8 0, .int .u8 0, .int .u8 0, .int .u8 0, .int .u8 0] : Array Value) = rhT A 0 from by kernel_rfl]
          have KM8 := Lib.hid (KM.out.on (fun S => (Kp.refl c S wo).alloc (.cells (rhT A 0) 67)))
          have h8 := heap_alloc_new wo (.cells (rhT A 0) 67)
          obtain ⟨hb, hhb⟩ : ∃ hb, hb = wo.heap.size := ⟨_, rfl⟩
          have hhl : ab < hb := by rw [hhb]; exact lt_of_heap KM.out.ha
          rw [← hhb] at h8 ⊢
          obtain ⟨wp, hwp⟩ : ∃ wp, wp = wo.alloc (.cells (rhT A 0) 67) := ⟨_, rfl⟩
          rw [← hwp] at h8 KM8 ⊢
          have H8' := Lib.hid h8
          clear hwp h8 KM hhb
          go_loopw [59] (fun s wx => ∃ i : Nat, i ≤ 32 ∧ s = .int .i64 i ∧ wx.heap[hb]? = some (.cells (rhT A i) 67 (0, 0)) ∧ Only hb wp wx) (fun s _ => 32 - (intOf s).toNat)
          case atStart => exact ⟨0, by omega, rfl, H8'.out, Kp.refl _ _ _⟩
          case round =>
            obtain ⟨i, hi, rfl, hx, ho⟩ := hrel
            have ha9 := ho.heap KM8.out.ha (by omega)
            have hr9 := ho.heap KM8.out.hr (by have := KM8.out.wg; have := KM8.out.ga; omega)
            have HX := Lib.hid hx; have HON := Lib.hid ho
            by_cases hil : i < 32
            · have g0 : wr.cell? ⟨ab, i / 8, none⟩ = some (.int .u64 (gt A (i / 8))) := by rw [cell_of_heap ha9]; exact u64s_at KM8.out.za (by omega)
              have f := unfrozen_of_heap hx i
              obtain ⟨y0, hy0⟩ : ∃ y0, (rhT A i)[i]? = some y0 := ⟨_, Array.getElem?_eq_getElem (by rw [rhT_size]; exact hil)⟩
              have g1 : wr.cell? ⟨hb, i, none⟩ = some y0 := by rw [cell_of_heap hx]; exact hy0
              clear ha9 hr9 hx ho hy0
              have d1 : ((i : Nat) : Int).tdiv 8 = ((i / 8 : Nat) : Int) := by rw [Int.tdiv_eq_ediv_of_nonneg (by omega)]; omega
              have d2 : ((i : Nat) : Int).tmod 8 = ((i % 8 : Nat) : Int) := by rw [Int.tmod_eq_emod_of_nonneg (by omega)]; omega
              go_wp2
              go_roundw
              case rel => exact ⟨i + 1, by omega, by go_num, heap_setCell HX.out i _, HON.out.setCell (fun _ => by simp) _⟩
              case measure => simp [intOf]; omega
            · obtain rfl : i = 32 := by omega
              rw [rhT_eq] at HX
              have H9' := Lib.hid hr9
              have HKF := Lib.hid (fun S => HON.out.kp (w := w) (c := c) (by have := KM8.out.wg; have := KM8.out.ga; omega) (KM8.out.kp S))
              clear ha9 hr9 hx ho
              go_wp2_with (first
                | (refine wpList_load_row rfl 67 _ rfl hb rfl 67 _ _ _ HX.out Try.underlying67 rfl (by rw [hash_info, hTab_size]) ?_)
                | (refine wpList_store_row rfl 67 _ _ rfl w.heap.size (hTab A 4) rfl rfl 67 _ H9'.out (by rw [hash_info, hTab_size]) (by simp [u8s, hTab_size]) (hTab_one A) ?_))
              refine bodyPost_ret (v := .agg (hTab A 4)) ?_ rfl ⟨?_, fun S => (HKF.out S).setRow (fun h => absurd h (by omega)) _⟩
              · exact results_cell_row rfl _ _ w.heap.size 67 _ _ _ rfl (heap_setRow H9'.out) Try.underlying67 rfl (by rw [hash_info, hTab_size])
              · have e1 : padn l.length = z := HM.out.symm
                have e2 : (l.length + 1 + padn l.length) / 136 = t := by rw [e1]; have := HN.out; have := HQ.out; omega
                have e3 : (hTab A 4) = (((hTab A 4).toList.map byteOf).map bv).toArray := (kec_cells A).symm
                rw [e3, kec, e2, e1, HA.out, HP.out, HT.out, HR.out]
end Go.Proofs.Ytnifmoigalmcmaa
