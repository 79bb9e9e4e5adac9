/- DiskTwins: a clone goes on like the disk that it was made of, and neither changes the other. -/
import Derived.Test.YtepphepcaphlkaaTp
namespace Go.Proofs.Ytepphepcaphlkaa
open Go Go.RowKit Go.MapKept Go.Maps
open Dk
variable {c c' : Col} {w w' : World}
set_option maxRecDepth 20000 in
set_option maxHeartbeats 8000000 in
theorem diskTwins_c (p : APlan) (vk vf vu : Value) (v v2 : Value) (l l2 : List AOp) (w : World) (h : OpsAt w c v l) (h2 : OpsAt w c v2 l2) (hp : PlanW w c vk vf vu p) (lk : p.keep.length ≤ lim) (lf : p.fail.length ≤ lim) (lu : p.full.length ≤ lim) :
    Calls Try.prog 7 #[planV p vk vf vu, v, v2] w fun e w' => e = .returned (.bool true) ∧ ∀ S, Kp c S w w' := by
  obtain ⟨k, k2, k3, hk0, hk20, hk30, hn12, hn13, hn23, hkf⟩ := three_cols c w.heap.size
  have HKS := Lib.hid (⟨hk0, hk20, hk30, hn12, hn13, hn23⟩ : Ks k k2 k3)
  have HKF := Lib.hid hkf; clear hkf hk0 hk20 hk30 hn12 hn13 hn23
  have HOP := Lib.hid h
  have HOM := Lib.hid h2
  obtain ⟨ak, capk, rfl, -⟩ := id hp.keep
  obtain ⟨af, capf, rfl, -⟩ := id hp.fail
  obtain ⟨au, capu, rfl, -⟩ := id hp.full
  obtain ⟨a, cap, rfl, hm, hn, hop⟩ := h
  obtain ⟨am, capm, rfl, hmm, hnm, hopm⟩ := h2
  have hlen : (l.length : Int) ≤ 9223372036854775807 := by unfold maxLen at hm; omega
  have hlenm : (l2.length : Int) ≤ 9223372036854775807 := by unfold maxLen at hmm; omega
  clear hm hn hop hmm hnm hopm
  have HPW := Lib.hid hp; clear hp
  have LK := Lib.hid lk; clear lk
  have LF := Lib.hid lf; clear lf
  have LU := Lib.hid lu; clear lu
  simp only [List.length_map] at HPW ⊢
  unfold planV
  go_enter Try.func7, Try.ntmps7
  go_wp2_with (go_at_call 9; refine (awake_c (c := c) _).mono ?_; rintro e w1 ⟨rfl, ha⟩; have HA : Hid (∀ S, Kp c S w w1) := (fun S => ((Kp.refl c S w).alloc _).trans (ha S) (Cx.refl _ _)); have HQ1 := Lib.hid ((ha S2F).heap (heap_alloc_new w _) (fun h => h)); clear ha)
  refine (few_c (c := c) _ _ _ (HOP.out.kp (HA.out S2F) (fun h => h) (Cx.refl _ _))).mono ?_
  rintro e w2 ⟨b, rfl, hb, hf⟩
  have HB : Hid (∀ S, Kp c S w w2) := fun S => (HA.out S).trans (hb S) (Cx.refl _ _)
  have HQ2 := Lib.hid ((hb S2F).heap HQ1.out (fun h => h))
  have HF := Lib.hid hf
  clear hb hf
  cases b with
  | false =>
    go_wp2
    go_ret
    exact ⟨rfl, HB.out⟩
  | true =>
    go_wp2_with (first
      | (go_at_call 10; refine (few_c (c := c) _ _ _ (HOM.out.kp (HB.out S2F) (fun h => h) (Cx.refl _ _))).mono ?_; rintro e w3 ⟨b2, rfl, hb, hf⟩; have HB3 : Hid (∀ S, Kp c S w w3) := (fun S => (HB.out S).trans (hb S) (Cx.refl _ _)); have HQ3 := Lib.hid ((hb S2F).heap HQ2.out (fun h => h)); have HF2 := Lib.hid hf; clear hb hf; have q0 : w3.cell? ⟨w.heap.size, 0, none⟩ = some (.int .i64 p.crash) := cell_of_heap HQ3.out 0; have q1 : w3.cell? ⟨w.heap.size, 1, none⟩ = some (.slice ak p.keep.length capk) := cell_of_heap HQ3.out 1; have q2 : w3.cell? ⟨w.heap.size, 2, none⟩ = some (.slice af p.fail.length capf) := cell_of_heap HQ3.out 2; have q3 : w3.cell? ⟨w.heap.size, 3, none⟩ = some (.slice au p.full.length capu) := cell_of_heap HQ3.out 3; have q4 : w3.cell? ⟨w.heap.size, 4, none⟩ = some (.int .i64 p.room) := cell_of_heap HQ3.out 4)
      | (go_at_call 18; refine (ds_twin HB3.out HPW.out LK.out LF.out LU.out).mono ?_; rintro e w4 ⟨y1, y2, y3, z1, z2, z3, rfl, hp3⟩; clear q0 q1 q2 q3 q4; have HP3 := Lib.hid hp3; clear hp3)
      | (go_at_call 11; refine (dtN k HKS.out.k0 HP3.out LK.out LF.out LU.out).mono ?_; rintro e w5 ⟨d, rfl, hd⟩; have HD := Lib.hid hd; clear hd))
    · clear q0 q1 q2 q3 q4
      go_ret
      exact ⟨rfl, HB3.out⟩
    · have hbt : (!b2) = false := by assumption
      have hbt : b2 = true := by simpa using hbt
      have HL := Lib.hid (HF.out trivial).1
      have HL2 := Lib.hid (HF2.out hbt).1
      clear hbt
      go_loopw [37] (fun s wr => ∃ i : Nat, i ≤ l.length ∧ s = .int .i64 i ∧ DTInv w c k d i wr) (fun s _ => l.length - (intOf s).toNat)
      case atStart => exact ⟨0, Nat.zero_le _, rfl, HD.out⟩
      case round =>
        obtain ⟨i, hi, rfl, I⟩ := hrel
        obtain ⟨ci, mi, hc, hk, D, R, hpf⟩ := I.ex
        clear I
        by_cases hlt : i < l.length
        · have HPF := Lib.hid hpf; clear hpf
          obtain ⟨o, ho⟩ : ∃ o, l[i]? = some o := ⟨l[i], List.getElem?_eq_getElem hlt⟩
          obtain ⟨a', cap', he, hm, hn, hop⟩ := HOP.out.kp hk (fun h => HKS.out.k0 h.symm) hc
          injection he with he1 he2 he3
          subst he1
          subst he3
          clear he2
          cases a with
          | none => rw [hn rfl] at hlt; cases hlt
          | some ad =>
            obtain ⟨b, off, sp⟩ := ad
            have hop := hop _ rfl
            obtain ⟨hsp, vd, vk, vf, vu, O⟩ := hop i o ho
            cases hsp
            obtain ⟨ad, kd, rfl, -⟩ := O.data
            obtain ⟨ak, kk, rfl, -⟩ := O.plan.keep
            obtain ⟨af, kf, rfl, -⟩ := O.plan.fail
            obtain ⟨au, ku, rfl, -⟩ := O.plan.full
            simp only [List.length_map] at O
            have g0 : wr.cell? ⟨b, off + i * 11, none⟩ = some (.int .i64 o.kind) := O.cells 0 _ rfl
            have g1 : wr.cell? ⟨b, off + i * 11 + 1, none⟩ = some (.string ⟨o.name.toArray⟩) := O.cells 1 _ rfl
            have g2 : wr.cell? ⟨b, off + i * 11 + 2, none⟩ = some (.string ⟨o.to.toArray⟩) := O.cells 2 _ rfl
            have g3 : wr.cell? ⟨b, off + i * 11 + 3, none⟩ = some (.int .i64 o.at_) := O.cells 3 _ rfl
            have g4 : wr.cell? ⟨b, off + i * 11 + 4, none⟩ = some (.int .i64 o.long) := O.cells 4 _ rfl
            have g5 : wr.cell? ⟨b, off + i * 11 + 5, none⟩ = some (.slice ad o.data.length kd) := O.cells 5 _ rfl
            have g6 : wr.cell? ⟨b, off + i * 11 + 6, none⟩ = some (.int .i64 o.plan.crash) := O.cells 6 _ rfl
            have g7 : wr.cell? ⟨b, off + i * 11 + 7, none⟩ = some (.slice ak o.plan.keep.length kk) := O.cells 7 _ rfl
            have g8 : wr.cell? ⟨b, off + i * 11 + 8, none⟩ = some (.slice af o.plan.fail.length kf) := O.cells 8 _ rfl
            have g9 : wr.cell? ⟨b, off + i * 11 + 9, none⟩ = some (.slice au o.plan.full.length ku) := O.cells 9 _ rfl
            have g10 : wr.cell? ⟨b, off + i * 11 + 10, none⟩ = some (.int .i64 o.plan.room) := O.cells 10 _ rfl
            have HO := Lib.hid O; clear O hop hn hm
            have HOI := Lib.hid ho; clear ho
            have HCI := Lib.hid hc; clear hc
            have HKI := Lib.hid hk; clear hk
            have HDI := Lib.hid D; clear D
            have HRI := Lib.hid R; clear R
            go_wp2_with (go_at_call 12; refine (do_all k d mi o _ _ _ _ _ HRI.out (by have := HL.out; omega) (HDI.out.kp ((Kp.refl ci (fun _ => False) wr).alloc _) (fun _ h => h.elim) (Cx.refl _ _)) HKS.out.k0 (HO.out.kp ((Kp.refl ci (fun _ => False) wr).alloc _) (fun h => h) (Cx.refl _ _))).mono ?_; rintro e w6 ⟨rfl, c6, hc6, hk6, D6⟩; have HC6 := Lib.hid hc6; have HK6 := Lib.hid hk6; have HD6 := Lib.hid D6; clear hc6 hk6 D6)
            clear g0 g1 g2 g3 g4 g5 g6 g7 g8 g9 g10
            have hcc : Cx w c c6 := HCI.out.trans HC6.out (by have := HKI.out.size; simp; omega)
            have hD : DTInv w c k d (i + 1) w6 := ⟨c6, (doOp mi o).2, hcc, (HKI.out.alloc _).trans HK6.out HCI.out, HD6.out, doOp_inv HRI.out o, doOp_pf HPF.out ⟨HO.out.fits.2.1, HO.out.fits.2.2.1, HO.out.fits.2.2.2⟩⟩
            go_roundw
            case rel => exact ⟨i + 1, by omega, by go_num, hD⟩
            case measure => simp [intOf]; omega
        · obtain rfl : i = l.length := by omega
          have HCI := Lib.hid hc; clear hc
          have HKI := Lib.hid hk; clear hk
          have HDI := Lib.hid D; clear D
          have HRI := Lib.hid R; clear R
          have HPF := Lib.hid hpf; clear hpf
          go_wp2_with (first
            | (go_at_call 26; refine (dt_clone (k3 := k3) HCI.out HKI.out HDI.out HKS.out.k20 HRI.out (by have := HL.out; omega) HPF.out).mono ?_; rintro e w7 ⟨d2, rfl, h⟩; have HT0 := Lib.hid h; clear h)
            | (go_at_call 13; refine (tw_files1 HT0.out).mono ?_; rintro e w8 ⟨aw, capw, rfl, h⟩; clear HT0; have HT1 := Lib.hid h; clear h))
          obtain ⟨i0, hi0, hz0, hz1, hz2⟩ := info_parts info_int
          have H6 := Lib.hid hi0; clear hi0
          have H7 := Lib.hid hz0; clear hz0
          have H8 := Lib.hid hz1; clear hz1
          have H9 := Lib.hid hz2; clear hz2
          clear hi
          go_loopw [12, 53] (fun vs s wq => ∃ j : Nat, j ≤ l2.length ∧ s = .int .i64 j ∧ (∃ av kv, vs = .slice av j kv) ∧ TW w c k d mi k2 d2 (runD mi (l2.take j)) k3 [(.slice aw (files mi).length capw, files mi)] vs (saidL mi (l2.take j)) wq ∧ OpsInv (runD mi (l2.take j)) (l.length + j)) (fun _ s _ => l2.length - (intOf s).toNat)
          case atStart => exact ⟨0, Nat.zero_le _, rfl, ⟨none, 0, rfl⟩, HT1.out, HRI.out⟩
          case round =>
            obtain ⟨j, hj, rfl, ⟨av, kv, rfl⟩, hT, hR⟩ := hrel
            have HTJ := Lib.hid hT; clear hT
            have HRJ := Lib.hid hR; clear hR
            have hsl : (saidL mi (l2.take j)).length = j := by rw [saidL_len, List.length_take]; omega
            have HSL := Lib.hid hsl; clear hsl
            by_cases hlt : j < l2.length
            · obtain ⟨o, ho⟩ : ∃ o, l2[j]? = some o := ⟨l2[j], List.getElem?_eq_getElem hlt⟩
              obtain ⟨a', cap', he, hm, hn, hop⟩ := HOM.out
              injection he with he1 he2 he3
              subst he1
              subst he3
              clear he2
              cases am with
              | none => rw [hn rfl] at hlt; cases hlt
              | some ad =>
                obtain ⟨b, off, sp⟩ := ad
                have hop := hop _ rfl
                obtain ⟨hsp, vd, vk, vf, vu, O⟩ := hop j o ho
                cases hsp
                obtain ⟨ad, kd, rfl, -⟩ := O.data
                obtain ⟨ak, kk, rfl, -⟩ := O.plan.keep
                obtain ⟨af, kf, rfl, -⟩ := O.plan.fail
                obtain ⟨au, ku, rfl, -⟩ := O.plan.full
                simp only [List.length_map] at O
                obtain ⟨cj, OJ⟩ := tw_op HTJ.out HKS.out O
                have g0 : wr.cell? ⟨b, off + j * 11, none⟩ = some (.int .i64 o.kind) := OJ.cells 0 _ rfl
                have g1 : wr.cell? ⟨b, off + j * 11 + 1, none⟩ = some (.string ⟨o.name.toArray⟩) := OJ.cells 1 _ rfl
                have g2 : wr.cell? ⟨b, off + j * 11 + 2, none⟩ = some (.string ⟨o.to.toArray⟩) := OJ.cells 2 _ rfl
                have g3 : wr.cell? ⟨b, off + j * 11 + 3, none⟩ = some (.int .i64 o.at_) := OJ.cells 3 _ rfl
                have g4 : wr.cell? ⟨b, off + j * 11 + 4, none⟩ = some (.int .i64 o.long) := OJ.cells 4 _ rfl
                have g5 : wr.cell? ⟨b, off + j * 11 + 5, none⟩ = some (.slice ad o.data.length kd) := OJ.cells 5 _ rfl
                have g6 : wr.cell? ⟨b, off + j * 11 + 6, none⟩ = some (.int .i64 o.plan.crash) := OJ.cells 6 _ rfl
                have g7 : wr.cell? ⟨b, off + j * 11 + 7, none⟩ = some (.slice ak o.plan.keep.length kk) := OJ.cells 7 _ rfl
                have g8 : wr.cell? ⟨b, off + j * 11 + 8, none⟩ = some (.slice af o.plan.fail.length kf) := OJ.cells 8 _ rfl
                have g9 : wr.cell? ⟨b, off + j * 11 + 9, none⟩ = some (.slice au o.plan.full.length ku) := OJ.cells 9 _ rfl
                have g10 : wr.cell? ⟨b, off + j * 11 + 10, none⟩ = some (.int .i64 o.plan.room) := OJ.cells 10 _ rfl
                have HO := Lib.hid O; clear O hop hn hm OJ
                have HOJ := Lib.hid ho; clear ho
                have htk : l2.take (j + 1) = l2.take j ++ [o] := by rw [List.take_add_one, HOJ.out]; rfl
                have HTK := Lib.hid htk; clear htk
                have hj60 : j < 60 := by have := HL2.out; omega
                have HJ60 := Lib.hid hj60; clear hj60
                go_wp2_with (first
                  | (go_at_call 12; refine (tw_do2 (HTJ.out.alloc HKS.out _) HKS.out HRJ.out (by have := HL.out; have := HJ60.out; omega) (op_fn HKS.out HO.out)).mono ?_; rintro e w9 ⟨rfl, h9⟩; have HT9 := Lib.hid h9; clear h9)
                  | (at_builtin; refine wpList_append3 rfl _ _ _ rfl 3 i0 (.int .i64 0) 1 8 Try.underlying27 H6.out H7.out H8.out H9.out rfl (by decide) _ j ((saidL mi (l2.take j)).map iv) rfl (by have h := tw_own (HT9.out.alloc HKS.out (.cells #[.int .i64 (doOp (runD mi (l2.take j)) o).1] 3)); rw [HSL.out] at h; exact h) ⟨_, 0, none⟩ 1 1 [iv (doOp (runD mi (l2.take j)) o).1] rfl rfl (one_new _ _ _) (by simp [Value.oneCell', iv]) (by have := HJ60.out; unfold maxLen; omega) (by have := HJ60.out; omega) ?_; intro v' w10 hown' hgrow hnew; have hT10 := tw_append (HT9.out.alloc HKS.out _) HKS.out (x := (doOp (runD mi (l2.take j)) o).1) (by rw [HSL.out]; exact hown') hgrow hnew; (obtain ⟨a10, c10, rfl⟩ := tw_shape hT10); have HT10 := Lib.hid hT10; clear hT10 hown' hgrow hnew; rw [List.length_append, HSL.out] at HT10 ⊢))
                clear g0 g1 g2 g3 g4 g5 g6 g7 g8 g9 g10
                go_roundw
                case rel => exact ⟨j + 1, by omega, by go_num, ⟨a10, c10, rfl⟩, by rw [HTK.out, runD_snoc, saidL_snoc]; exact HT10.out, by rw [HTK.out, runD_snoc]; exact doOp_inv HRJ.out o⟩
                case measure => simp [intOf]; omega
            · obtain rfl : j = l2.length := by omega
              rw [List.take_length] at HTJ HRJ HSL
              go_wp2_with (first
                | (go_at_call 13; refine (tw_files1 HTJ.out).mono ?_; rintro e w11 ⟨a11, k11, rfl, h⟩; clear HTJ; have HT11 := Lib.hid h; clear h)
                | (go_at_call 16; refine (tw_same HT11.out (f1 := files mi) (f2 := files mi) (.head _) (.tail _ (.head _)) (files_len (tw_ok1 HT11.out)) rfl).mono ?_; rintro e w12 ⟨rfl, h⟩; clear HT11; have HT12 := Lib.hid h; clear h)
                | (go_at_call 13; refine (tw_files2 HT12.out).mono ?_; rintro e w13 ⟨a13, k13, rfl, h⟩; clear HT12; have HT13 := Lib.hid h; clear h)
                | (go_at_call 14; refine (tw_safe2 HT13.out).mono ?_; rintro e w14 ⟨a14, k14, rfl, h⟩; clear HT13; have HT14 := Lib.hid h; clear h)
                | (go_at_call 17; refine (tw_ops2 HT14.out).mono ?_; rintro e w' ⟨rfl, rfl⟩))
              clear hlt
              go_loopw [77] (fun s wq => ∃ j : Nat, j ≤ l2.length ∧ s = .int .i64 j ∧ TW w c k d (runD mi (l2.take j)) k2 d2 (runD mi l2) k3 [(.slice a14 (safe (runD mi l2)).length k14, safe (runD mi l2)), (.slice a13 (files (runD mi l2)).length k13, files (runD mi l2)), (.slice a11 (files mi).length k11, files mi), (.slice aw (files mi).length capw, files mi)] (.slice av l2.length kv) (saidL mi l2) wq ∧ OpsInv (runD mi (l2.take j)) (l.length + j)) (fun s _ => l2.length - (intOf s).toNat)
              case atStart => exact ⟨0, Nat.zero_le _, rfl, HT14.out, HRI.out⟩
              case round =>
                obtain ⟨j, hj, rfl, hT, hR⟩ := hrel
                have HTQ := Lib.hid hT; clear hT
                have HRQ := Lib.hid hR; clear hR
                by_cases hlt : j < l2.length
                · obtain ⟨o, ho⟩ : ∃ o, l2[j]? = some o := ⟨l2[j], List.getElem?_eq_getElem hlt⟩
                  obtain ⟨a', cap', he, hm, hn, hop⟩ := HOM.out
                  injection he with he1 he2 he3
                  subst he1
                  subst he3
                  clear he2
                  cases am with
                  | none => rw [hn rfl] at hlt; cases hlt
                  | some ad =>
                    obtain ⟨b, off, sp⟩ := ad
                    have hop := hop _ rfl
                    obtain ⟨hsp, vd, vk, vf, vu, O⟩ := hop j o ho
                    cases hsp
                    obtain ⟨ad, kd, rfl, -⟩ := O.data
                    obtain ⟨ak, kk, rfl, -⟩ := O.plan.keep
                    obtain ⟨af, kf, rfl, -⟩ := O.plan.fail
                    obtain ⟨au, ku, rfl, -⟩ := O.plan.full
                    simp only [List.length_map] at O
                    obtain ⟨cj, OJ⟩ := tw_op HTQ.out HKS.out O
                    have g0 : wr.cell? ⟨b, off + j * 11, none⟩ = some (.int .i64 o.kind) := OJ.cells 0 _ rfl
                    have g1 : wr.cell? ⟨b, off + j * 11 + 1, none⟩ = some (.string ⟨o.name.toArray⟩) := OJ.cells 1 _ rfl
                    have g2 : wr.cell? ⟨b, off + j * 11 + 2, none⟩ = some (.string ⟨o.to.toArray⟩) := OJ.cells 2 _ rfl
                    have g3 : wr.cell? ⟨b, off + j * 11 + 3, none⟩ = some (.int .i64 o.at_) := OJ.cells 3 _ rfl
                    have g4 : wr.cell? ⟨b, off + j * 11 + 4, none⟩ = some (.int .i64 o.long) := OJ.cells 4 _ rfl
                    have g5 : wr.cell? ⟨b, off + j * 11 + 5, none⟩ = some (.slice ad o.data.length kd) := OJ.cells 5 _ rfl
                    have g6 : wr.cell? ⟨b, off + j * 11 + 6, none⟩ = some (.int .i64 o.plan.crash) := OJ.cells 6 _ rfl
                    have g7 : wr.cell? ⟨b, off + j * 11 + 7, none⟩ = some (.slice ak o.plan.keep.length kk) := OJ.cells 7 _ rfl
                    have g8 : wr.cell? ⟨b, off + j * 11 + 8, none⟩ = some (.slice af o.plan.fail.length kf) := OJ.cells 8 _ rfl
                    have g9 : wr.cell? ⟨b, off + j * 11 + 9, none⟩ = some (.slice au o.plan.full.length ku) := OJ.cells 9 _ rfl
                    have g10 : wr.cell? ⟨b, off + j * 11 + 10, none⟩ = some (.int .i64 o.plan.room) := OJ.cells 10 _ rfl
                    have HO := Lib.hid O; clear O hop hn hm OJ
                    have HOJ := Lib.hid ho; clear ho
                    have htk : l2.take (j + 1) = l2.take j ++ [o] := by rw [List.take_add_one, HOJ.out]; rfl
                    have HTK := Lib.hid htk; clear htk
                    have HJ60 := Lib.hid hlt
                    obtain ⟨x, hx⟩ : ∃ x, x = (doOp (runD mi (l2.take j)) o).1 := ⟨_, rfl⟩
                    have HX := Lib.hid hx; clear hx
                    obtain ⟨g, kg, hge, hsd⟩ := tw_said (HTQ.out.alloc HKS.out (.cells #[.int .i64 o.kind, .string ⟨o.name.toArray⟩, .string ⟨o.to.toArray⟩, .int .i64 o.at_, .int .i64 o.long, .slice ad o.data.length kd, .int .i64 o.plan.crash, .slice ak o.plan.keep.length kk, .slice af o.plan.fail.length kf, .slice au o.plan.full.length ku, .int .i64 o.plan.room] 32)) (x := x) (j := j) (by rw [saidL_at l2 mi j o HOJ.out, HX.out])
                    injection hge with hg1 hg2 hg3
                    subst hg1
                    clear hg2 hg3
                    go_wp2
                    go_region_with (go_at_call 12; refine (tw_do1 ((HTQ.out.alloc HKS.out _).drew HKS.out) HKS.out HRQ.out (by have := HL.out; have := HL2.out; have := HJ60.out; omega) (op_fn HKS.out HO.out)).mono ?_; rintro e w15 ⟨he, h⟩; rw [← HX.out] at he; subst he; obtain ⟨g', kg', hge', hsd'⟩ := tw_said h (x := x) (j := j) (by rw [saidL_at l2 mi j o HOJ.out, HX.out]); (injection hge' with hg1 hg2 hg3); (injection hg1 with hg1); (injection hg1 with hg1 hg4 hg5); subst hg1; clear hg2 hg3 hg4 hg5; have HT15 := Lib.hid h; clear h)
                    all_goals
                      clear g0 g1 g2 g3 g4 g5 g6 g7 g8 g9 g10 hsd hsd'
                      go_wp2
                      go_roundw
                      case rel => exact ⟨j + 1, by have := HJ60.out; omega, by go_num, by rw [HTK.out, runD_snoc]; exact HT15.out, by rw [HTK.out, runD_snoc]; exact doOp_inv HRQ.out o⟩
                      case measure => simp [intOf]; have := HJ60.out; omega
                · obtain rfl : j = l2.length := by omega
                  rw [List.take_length] at HTQ HRQ
                  go_wp2_with (first
                    | (go_at_call 13; refine (tw_files1 HTQ.out).mono ?_; rintro e w21 ⟨a21, k21, rfl, h⟩; clear HTQ; have HT21 := Lib.hid h; clear h)
                    | (go_at_call 16; refine (tw_same HT21.out (f1 := files (runD mi l2)) (f2 := files (runD mi l2)) (.head _) (.tail _ (.tail _ (.head _))) (files_len (tw_ok1 HT21.out)) rfl).mono ?_; rintro e w22 ⟨rfl, h⟩; clear HT21; have HT22 := Lib.hid h; clear h)
                    | (go_at_call 14; refine (tw_safe1 HT22.out).mono ?_; rintro e w23 ⟨a23, k23, rfl, h⟩; clear HT22; have HT23 := Lib.hid h; clear h)
                    | (go_at_call 16; refine (tw_same HT23.out (f1 := safe (runD mi l2)) (f2 := safe (runD mi l2)) (.head _) (.tail _ (.tail _ (.head _))) (safe_len (tw_ok1 HT23.out)) rfl).mono ?_; rintro e w24 ⟨rfl, h⟩; clear HT23; have HT24 := Lib.hid h; clear h)
                    | (go_at_call 17; refine (tw_ops1 HT24.out).mono ?_; rintro e w' ⟨rfl, rfl⟩)
                    | (go_at_call 13; refine (tw_files2 HT24.out).mono ?_; rintro e w25 ⟨a25, k25, rfl, h⟩; clear HT24; have HT25 := Lib.hid h; clear h)
                    | (go_at_call 16; refine (tw_same HT25.out (f1 := files (runD mi l2)) (f2 := files (runD mi l2)) (.head _) (.tail _ (.tail _ (.tail _ (.tail _ (.head _))))) (files_len (tw_ok2 HT25.out)) rfl).mono ?_; rintro e w26 ⟨rfl, h⟩; clear HT25; have HT26 := Lib.hid h; clear h))
                  go_ret
                  exact ⟨rfl, fun S => HT26.out.end HKF.out S⟩
end Go.Proofs.Ytepphepcaphlkaa
