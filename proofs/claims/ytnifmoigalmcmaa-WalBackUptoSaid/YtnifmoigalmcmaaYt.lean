/- WalBack: the walk. -/
import Derived.Test.YtnifmoigalmcmaaYs
namespace Go.Proofs.Ytnifmoigalmcmaa
open Go Go.RowKit
open Wl
variable {c c' : Col} {w w' : World} {S : Nat × Nat → Prop} {q : Nat × Nat}
set_option maxRecDepth 20000 in
set_option maxHeartbeats 8000000 in
theorem walBack_c (l : List (List Bs)) (vl vm : Value) (cut : Int) (more : Bs) (w : World) (hv : LogW w c00 (0, 0) vl l) (hb : ∀ b ∈ l, b.length ≤ 1000000000 ∧ ∀ r ∈ b, r.length ≤ 1000000000) (hcut : -9223372036854775808 ≤ cut ∧ cut ≤ 9223372036854775807)
    (hm : Sw w c00 (0, 0) vm (more.map bv)) (hml : more.length ≤ 1048576) :
    Calls Try.prog 4 #[vl, .int .i64 cut, vm] w fun e w' => e = .returned (.bool true) ∧ ∀ c S, Kp c S w w' := by
  obtain ⟨ad, cap, rfl, hc1, hc2, hsp⟩ := hv.shape
  obtain ⟨am, capm, rfl, hm1, hm2, -⟩ := id hm
  obtain ⟨K, hK⟩ : ∃ K, K = kec := ⟨_, rfl⟩
  have hk32 : ∀ b, (K b).length = 32 := fun b => by rw [hK]; exact kec_length b
  rw [List.length_map] at hm hm1 ⊢
  obtain ⟨i0, hi, hz0, hz1, hz2⟩ := info_parts info_u8
  have H6 := Lib.hid hi; have H7 := Lib.hid hz0; have H8 := Lib.hid hz1; have H9 := Lib.hid hz2; clear hi hz0 hz1 hz2
  obtain ⟨i1, hi, hz0, hz1, hz2⟩ := info_parts_int
  have J6 := Lib.hid hi; have J7 := Lib.hid hz0; have J8 := Lib.hid hz1; have J9 := Lib.hid hz2; clear hi hz0 hz1 hz2
  have HV := Lib.hid hv; have HB := Lib.hid hb; have HM := Lib.hid hm; have HSP := Lib.hid hsp; have HK := Lib.hid hK; have H32 := Lib.hid hk32
  clear hv hb hm hsp hK hk32
  unfold maxLen at hc2 hm2
  go_enter Try.func4, Try.ntmps4
  go_wp2_with (go_at_call 7; refine (wawake_c _).mono ?_; rintro _ w1 ⟨rfl, hk⟩; have HK1 := Lib.hid hk; clear hk)
  go_loopw [7, 8, 25] (fun vb ve s wr => ∃ i : Nat, s = .int .i64 i ∧ WB K l w i wr vb ve) (fun _ _ s _ => l.length - (intOf s).toNat)
  case atStart => exact ⟨0, rfl, Nat.zero_le _, by omega, fun x hx => (by cases hx), Two.start HK1.out⟩
  case round =>
    obtain ⟨i, rfl, I⟩ := hrel
    have hle := I.le; have hf31 := I.few
    have HI := Lib.hid I; clear I
    by_cases hlt : i < l.length
    · obtain ⟨b0, o0, rfl⟩ := HSP.out (by omega)
      obtain ⟨a3, k3, g3, B3⟩ := HV.out.get i hlt
      have g3 := (HI.out.two.kp c00 (fun _ => False)).cell g3 (fun h => h)
      have hok := fun h1 h2 => HI.out.ok.succ hlt h1 h2
      have hbb := HB.out l[i] (List.getElem_mem hlt)
      have hen := encs_succ K l i hlt
      obtain ⟨x, hx⟩ : ∃ x, x = l[i] := ⟨_, rfl⟩
      rw [← hx] at g3 B3 hbb hok hen
      have HX := Lib.hid hx; have HB3 := Lib.hid B3; have HBB := Lib.hid hbb; have HOK := Lib.hid hok; have HEN := Lib.hid hen; clear hx B3 hbb hok hen
      by_cases htot : tot x ≤ 20000
      · have dt : decide (tot x ≤ 20000) = true := decide_eq_true htot
        by_cases h30 : 30 < i
        · go_wp2_with (go_at_call 8; refine (few1_c (0, 0) (0, 0) _ x _ _ (HB3.out.kp (((HI.out.two.kp c00 (fun _ => False))).alloc _) (fun h => h) (fun h => h) (Cx.refl _ _)) HBB.out.1 HBB.out.2 (heap_alloc_new _ _)).mono ?_; rintro _ w2 ⟨rfl, hk2⟩; rw [dt]; have HK2 := Lib.hid (fun c S => (((HI.out.two.kp c S)).alloc _).alloc_trans (hk2 c S)); have HW2 := Lib.hid (HI.out.two.on (fun c S => ((Kp.refl c S _).alloc _).alloc_trans (hk2 c S))); clear hk2)
          go_ret
          exact ⟨rfl, HK2.out⟩
        · have hbl := HI.out.bytes H32.out
          by_cases hg : good x = true
          · have HGD := Lib.hid hg
            have hel := enc_few H32.out i htot
            go_wp2_with (first
              | (at_builtin; refine wpList_append2 rfl _ _ _ rfl 3 i1 (.int .i64 0) 8 Try.underlying26 J6.out J7.out J8.out J9.out rfl u8 _ _ rfl (HW5.out.on (fun c S => (Kp.refl c S _).alloc _)).two ⟨w5.heap.size, 0, none⟩ 1 1 [_] rfl rfl (one_new _ _ _) (fun u hu => by rw [List.mem_singleton.1 hu]; rfl) (by rw [List.length_map, ends_length]; unfold maxLen; omega) (by rw [List.length_map, ends_length]; omega) ?_; intro v6 w6 ho6 hg6 hf6; have HW6 := Lib.hid ((HW5.out.on (fun c S => (Kp.refl c S _).alloc _)).swap.push ho6 hg6 hf6).swap; clear ho6 hg6 hf6)
              | (at_builtin; refine wpList_appendS rfl _ _ _ rfl 5 i0 (.int .u8 0) 1 Try.underlying23 H6.out H7.out H8.out H9.out rfl u7 _ _ rfl HW4.out.one (.slice a4 m4 k4) ((enc K i x).map bv) rfl HS4.out (one_bv _) (by rw [List.length_map, List.length_map]; unfold maxLen; omega) (by rw [List.length_map, List.length_map]; omega) ?_; intro v5 w5 ho5 hg5 hf5; have HW5 := Lib.hid (HW4.out.push ho5 hg5 hf5); rw [List.length_map, List.length_map] at ho5; obtain ⟨a5, k5, rfl⟩ := own_shape1 ho5; clear ho5 hg5 hf5)
              | (go_at_call 9; refine (encode_good _ _ _ x i HG3.out HBB.out.1 HBB.out.2 (by omega) HGD.out).mono ?_; rintro _ w4 ⟨v4, rfl, ho4, hn4, hk4⟩; rw [← HK.out] at ho4; obtain ⟨a4, m4, k4, rfl⟩ := own_slice ho4; have HS4 := Lib.hid (Sc.of_owns (c := c00) (q := (0, 0)) ho4 (fun _ _ => rfl)); have HK4 := Lib.hid (fun c S => (HK3.out c S).alloc_trans (hk4 c S)); have HW4 := Lib.hid (HW3.out.on hk4); clear ho4 hn4 hk4)
              | (go_at_call 10; refine (twinsW_c (0, 0) (0, 0) _ x (HB3.out.kp (HK2.out c00 (fun _ => False)) (fun h => h) (fun h => h) (Cx.refl _ _)) HBB.out.1 (fun r hr => Nat.le_trans (HBB.out.2 r hr) (by decide))).mono ?_; rintro _ w3 ⟨v3, cf, rfl, hg3, hk3⟩; have HG3 := Lib.hid hg3.bat; have HK3 := Lib.hid (fun c S => (HK2.out c S).alloc_trans (hk3 c S)); have HW3 := Lib.hid (HW2.out.on hk3); clear hg3 hk3)
              | (go_at_call 8; refine (few1_c (0, 0) (0, 0) _ x _ _ (HB3.out.kp (((HI.out.two.kp c00 (fun _ => False))).alloc _) (fun h => h) (fun h => h) (Cx.refl _ _)) HBB.out.1 HBB.out.2 (heap_alloc_new _ _)).mono ?_; rintro _ w2 ⟨rfl, hk2⟩; rw [dt]; have HK2 := Lib.hid (fun c S => (((HI.out.two.kp c S)).alloc _).alloc_trans (hk2 c S)); have HW2 := Lib.hid (HI.out.two.on (fun c S => ((Kp.refl c S _).alloc _).alloc_trans (hk2 c S))); clear hk2))
            go_roundw
            case rel => exact ⟨i + 1, by go_num, by omega, by omega, HOK.out HGD.out htot, by rw [ends_succ, HEN.out, List.map_append, List.map_append]; have h := HW6.out; simpa [nv] using h⟩
            case measure => simp [intOf]; omega
          · have hg : good x = false := by simpa using hg
            have HGD := Lib.hid hg; clear hg
            go_wp2_with (first
              | (go_at_call 15; refine (GoodW_c (0, 0) (0, 0) _ x (HB3.out.kp (HK3.out c00 (fun _ => False)) (fun h => h) (fun h => h) (Cx.refl _ _)) HBB.out.1 HBB.out.2).mono ?_; rintro _ w5 ⟨rfl, rfl⟩; rw [HGD.out])
              | (go_at_call 9; refine (encode_bad _ _ _ x i HG3.out HBB.out.1 HBB.out.2 HGD.out).mono ?_; rintro _ w4 ⟨rfl, rfl⟩)
              | (go_at_call 10; refine (twinsW_c (0, 0) (0, 0) _ x (HB3.out.kp (HK2.out c00 (fun _ => False)) (fun h => h) (fun h => h) (Cx.refl _ _)) HBB.out.1 (fun r hr => Nat.le_trans (HBB.out.2 r hr) (by decide))).mono ?_; rintro _ w3 ⟨v3, cf, rfl, hg3, hk3⟩; have HG3 := Lib.hid hg3.bat; have HK3 := Lib.hid (fun c S => (HK2.out c S).alloc_trans (hk3 c S)); have HW3 := Lib.hid (HW2.out.on hk3); clear hg3 hk3)
              | (go_at_call 8; refine (few1_c (0, 0) (0, 0) _ x _ _ (HB3.out.kp (((HI.out.two.kp c00 (fun _ => False))).alloc _) (fun h => h) (fun h => h) (Cx.refl _ _)) HBB.out.1 HBB.out.2 (heap_alloc_new _ _)).mono ?_; rintro _ w2 ⟨rfl, hk2⟩; rw [dt]; have HK2 := Lib.hid (fun c S => (((HI.out.two.kp c S)).alloc _).alloc_trans (hk2 c S)); have HW2 := Lib.hid (HI.out.two.on (fun c S => ((Kp.refl c S _).alloc _).alloc_trans (hk2 c S))); clear hk2))
            go_ret
            exact ⟨rfl, HK3.out⟩
      · have dt : decide (tot x ≤ 20000) = false := decide_eq_false htot
        go_wp2_with (go_at_call 8; refine (few1_c (0, 0) (0, 0) _ x _ _ (HB3.out.kp (((HI.out.two.kp c00 (fun _ => False))).alloc _) (fun h => h) (fun h => h) (Cx.refl _ _)) HBB.out.1 HBB.out.2 (heap_alloc_new _ _)).mono ?_; rintro _ w2 ⟨rfl, hk2⟩; rw [dt]; have HK2 := Lib.hid (fun c S => (((HI.out.two.kp c S)).alloc _).alloc_trans (hk2 c S)); have HW2 := Lib.hid (HI.out.two.on (fun c S => ((Kp.refl c S _).alloc _).alloc_trans (hk2 c S))); clear hk2)
        go_ret
        exact ⟨rfl, HK2.out⟩
    · obtain rfl : i = l.length := by omega
      have htw := HI.out.two
      have hbl := HI.out.bytes H32.out
      have hok := HI.out.ok
      have hrd := fun more => read_encs H32.out l more (fun x hx => (hok x (by rw [List.take_length]; exact hx)).1) (by omega)
      have hrc := fun cut hc => readF_cut H32.out l 0 (((encs K 0 l).take cut).length + 1) cut (fun x hx => (hok x (by rw [List.take_length]; exact hx)).1) (by omega) (by omega) hc
      rw [List.take_length] at htw hbl
      have HRC := Lib.hid hrc; have HRD := Lib.hid hrd; clear hrc hrd hok
      obtain ⟨E, hE⟩ : ∃ E, E = encs K 0 l := ⟨_, rfl⟩
      rw [← hE] at htw hbl HRC HRD
      have HR1 : Hid (read K E = (l, E.length)) := by
        obtain ⟨r, n, h1, h2⟩ := HRD.out []
        obtain ⟨rfl, rfl⟩ := h2 rfl
        rw [List.append_nil, List.append_nil] at h1
        exact h1
      have h1 := htw.one; have h2 := htw.two
      rw [List.length_map] at h1 h2
      rw [ends_length] at h2
      obtain ⟨a7, k7, rfl⟩ := own_shape1 h1
      obtain ⟨a8, k8, rfl⟩ := own_shape1 h2
      have hk7 := own_cap h1; have hk8 := own_cap h2
      obtain ⟨cv, hcv, hcvl⟩ := cut_in cut E.length (by omega) hcut
      have HTW := Lib.hid htw; have HE := Lib.hid hE
      have HS1 := Lib.hid (Sc.of_owns (c := c00) (q := (0, 0)) h1 (fun _ _ => rfl))
      have HS8 := Lib.hid (Sc.of_owns (c := c00) (q := (0, 0)) h2 (fun _ _ => rfl))
      have HKW := Lib.hid htw.kp
      have HS1c := Lib.hid (Sc.cutb HS1.out cv hcvl)
      have HCL : Hid ((E.take cv).length = cv) := by rw [List.length_take]; exact Nat.min_eq_left hcvl
      obtain ⟨j, hjl, hj1, hj2⟩ := HRC.out cv hcvl
      have HJ : Hid ((read K (E.take cv)).1 = l.take j) := hj1
      have HJ2 := Lib.hid hj2
      clear htw hE h1 h2 HI hj1 hj2 HRC
      go_wp2_with (first
        | (go_at_call 12; refine (wread_c _ _ (E.take cv) HS5.out (by rw [HCL.out]; omega)).mono ?_; rintro _ w6 ⟨v6, cf6, rfl, hg6, hk6⟩; rw [← HK.out] at hg6 ⊢; rw [HJ.out] at hg6; have HL6 := Lib.hid hg6.logW; have HK6 := Lib.hid (fun c S => (HK5.out c S).alloc_trans (hk6 c S)); clear hg6 hk6)
        | (at_builtin; refine wpList_appendS rfl _ _ _ rfl 5 i0 (.int .u8 0) 1 Try.underlying23 H6.out H7.out H8.out H9.out rfl (.slice none 0 0) 0 [] rfl (World.ownsRow_nil _ _ _ _) (.slice a7 cv k7) ((E.take cv).map bv) rfl (HS1c.out.kp (HK4.out _ (fun _ => False)) (fun h => h) (Cx.refl _ _)) (one_bv _) (by rw [List.length_map, HCL.out]; unfold maxLen; omega) (by rw [List.length_map, HCL.out]; omega) ?_; intro v5 w5 ho5 hg5 hf5; rw [List.nil_append] at ho5; have HS5 := Lib.hid (Sc.of_owns (c := c00) (q := (0, 0)) ho5 (fun _ _ => rfl)); have HK5 := Lib.hid (fun c S => (HK4.out c S).alloc_trans (Kp.of_grown hg5 (fun g hg => by cases hg))); clear ho5 hg5 hf5)
        | (go_at_call 14; refine (sameW_c _ _ l l _ HL3.out (HV.out.kp ((HKW.out c00 (fun _ => False)).alloc_trans (HK3.out _ _)) (fun h => h) (Cx.refl _ _))).mono ?_; rintro _ w4 ⟨rfl, hk4⟩; have HK4 := Lib.hid (fun c S => (HK3.out c S).alloc_trans (hk4 c S)); clear hk4)
        | (go_at_call 12; refine (wread_c _ _ E HS2.out (by omega)).mono ?_; rintro _ w3 ⟨v3, cf3, rfl, hg3, hk3⟩; rw [← HK.out, HR1.out] at hg3 ⊢; have HL3 := Lib.hid hg3.logW; have HK3 := Lib.hid (fun c S => (HK2.out c S).alloc_trans (hk3 c S)); clear hg3 hk3)
        | (at_builtin; refine wpList_appendS rfl _ _ _ rfl 5 i0 (.int .u8 0) 1 Try.underlying23 H6.out H7.out H8.out H9.out rfl (.slice none 0 0) 0 [] rfl (World.ownsRow_nil _ _ _ _) (.slice a7 E.length k7) (E.map bv) rfl HS1.out (one_bv _) (by rw [List.length_map]; unfold maxLen; omega) (by rw [List.length_map]; omega) ?_; intro v2 w2 ho2 hg2 hf2; rw [List.nil_append] at ho2; have HS2 := Lib.hid (Sc.of_owns (c := c00) (q := (0, 0)) ho2 (fun _ _ => rfl)); have HK2 := Lib.hid (fun c S => Kp.of_grown (c := c) (S := S) hg2 (fun g hg => by cases hg)); clear ho2 hg2 hf2))
      go_loop [17, 99] (fun v s => ∃ i : Nat, i ≤ l.length ∧ s = .int .i64 i ∧ v = .int .i64 (min i j : Nat)) (fun _ s => l.length - (intOf s).toNat)
      case atStart => exact ⟨0, Nat.zero_le _, rfl, by simp⟩
      case round =>
        obtain ⟨i, hi, rfl, rfl⟩ := hrel
        by_cases hil : i < l.length
        · obtain ⟨b8, o8, rfl⟩ := HS8.out.spot (by rw [List.length_map, ends_length]; omega)
          have g8 := (HS8.out.kp (HK6.out c00 (fun _ => False)) (fun h => h) (Cx.refl _ _)).get i _ (ends_get K l _ i hil)
          have hij := HJ2.out (i + 1) (by omega)
          obtain ⟨en, hen⟩ : ∃ en, en = (encs K 0 (l.take (i + 1))).length := ⟨_, rfl⟩
          rw [← hen] at g8 hij
          replace g8 : w6.cell? ⟨b8, o8 + i, none⟩ = some (.int .i64 en) := g8
          obtain ⟨m, hm⟩ : ∃ m, m = min i j := ⟨_, rfl⟩
          have hmi : m ≤ i := by omega
          rw [← hm]
          have HMI := Lib.hid hm; have HIJ := Lib.hid hij
          clear hm hij hen
          by_cases hle : en ≤ cv
          · go_wp2
            go_round
            case rel => exact ⟨i + 1, by omega, by go_num, by have h1 := HMI.out; have h2 := HIJ.out; have h3 : min (i + 1) j = m + 1 := (by omega); rw [h3]; go_num⟩
            case measure => simp [intOf]; omega
          · go_wp2
            go_round
            case rel => exact ⟨i + 1, by omega, by go_num, by have h1 := HMI.out; have h2 := HIJ.out; have h3 : min (i + 1) j = m := (by omega); rw [h3]⟩
            case measure => simp [intOf]; omega
        · obtain rfl : i = l.length := by omega
          rw [Nat.min_eq_right hjl]
          have HVT : Hid (LogW w c00 (0, 0) (.slice ad j cap) (l.take j)) := by
            obtain ⟨a', k', e', ht⟩ := HV.out.take j hjl
            injection e' with e1 _ e2
            subst e1 e2
            exact ht
          obtain ⟨r, n, hr1, -⟩ := HRD.out more
          have HRM := Lib.hid hr1; clear hr1
          go_wp2_with (first
        | (go_at_call 14; refine (sameW_c _ _ l l _ (HL11.out.pre) (HV.out.kp ((HKW.out c00 (fun _ => False)).alloc_trans (HK11.out _ _)) (fun h => h) (Cx.refl _ _))).mono ?_; rintro _ w12 ⟨rfl, hk12⟩; have HK12 := Lib.hid (fun c S => (HK11.out c S).alloc_trans (hk12 c S)); clear hk12)
        | (go_at_call 12; refine (wread_c _ _ (E ++ more) HS9.out (by rw [List.length_append]; omega)).mono ?_; rintro _ w11 ⟨v11, cf11, rfl, hg11, hk11⟩; rw [← HK.out, HRM.out] at hg11 ⊢; obtain ⟨a11, k11, rfl, hc11, hd11, -⟩ := hg11.logW.shape; have HL11 := Lib.hid hg11.logW; rw [List.length_append] at hc11 ⊢; have HK11 := Lib.hid (fun c S => (HK9.out c S).alloc_trans (hk11 c S)); unfold maxLen at hd11; clear hg11 hk11)
        | (at_builtin; refine wpList_appendW rfl _ _ _ rfl 5 i0 (.int .u8 0) 1 Try.underlying23 H6.out H7.out H8.out H9.out rfl v8 _ _ rfl HO8.out (.slice am more.length capm) (more.map bv) rfl (HM.out.kp (((HKW.out c00 (fun _ => False)).alloc_trans (HK7.out _ _)).alloc_trans (HKA.out _ _)) (fun h => h) (Cx.refl _ _)) (one_bv _) (by rw [List.length_map, List.length_map]; unfold maxLen; omega) (by rw [List.length_map, List.length_map]; omega) ?_; intro v9 w9 ho9 hg9 hf9; rw [← List.map_append] at ho9; have HS9 := Lib.hid (Sc.of_owns (c := c00) (q := (0, 0)) ho9 (fun _ _ => rfl)); have HK9 := Lib.hid (fun c S => (HK7.out c S).alloc_trans (fresh_grown HF8.out HKA.out hg9 c S)); clear ho9 hg9 hf9)
        | (at_builtin; refine wpList_appendS rfl _ _ _ rfl 5 i0 (.int .u8 0) 1 Try.underlying23 H6.out H7.out H8.out H9.out rfl (.slice none 0 0) 0 [] rfl (World.ownsRow_nil _ _ _ _) (.slice a7 E.length k7) (E.map bv) rfl (HS1.out.kp (HK7.out _ (fun _ => False)) (fun h => h) (Cx.refl _ _)) (one_bv _) (by rw [List.length_map]; unfold maxLen; omega) (by rw [List.length_map]; omega) ?_; intro v8 w8 ho8 hg8 hf8; rw [List.nil_append] at ho8; have HO8 := Lib.hid ho8; have HF8 := Lib.hid (fun g hg => (hf8 g hg).resolve_left (fun h => nomatch h)); have HKA := Lib.hid (fun c S => Kp.of_grown (c := c) (S := S) hg8 (fun g hg => by cases hg)); clear ho8 hg8 hf8)
        | (go_at_call 14; refine (sameW_c _ _ (l.take j) (l.take j) _ HL6.out (HVT.out.kp ((HKW.out c00 (fun _ => False)).alloc_trans (HK6.out _ _)) (fun h => h) (Cx.refl _ _))).mono ?_; rintro _ w7 ⟨rfl, hk7⟩; have HK7 := Lib.hid (fun c S => (HK6.out c S).alloc_trans (hk7 c S)); clear hk7))
          go_ret
          exact ⟨rfl, fun c S => (HKW.out c S).alloc_trans (HK12.out c S)⟩
end Go.Proofs.Ytnifmoigalmcmaa
