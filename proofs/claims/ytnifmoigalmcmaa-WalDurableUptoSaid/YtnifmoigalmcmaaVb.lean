/- wal.Append on a log whose last call went well, where the disk's Append or its Sync goes ill. -/
import Derived.Test.YtnifmoigalmcmaaYk
namespace Go.Proofs.Ytnifmoigalmcmaa
open Go Go.RowKit Dk
open Wl
variable {c c' : Col} {w w' : World} {S : Nat × Nat → Prop} {q : Nat × Nat}
variable {kl lb d : Nat} {nm : Nm} {vl : Value} {ls : List (List Bs)} {size : Nat} {dirty : Bool}
set_option maxRecDepth 20000 in
set_option maxHeartbeats 2000000 in
theorem append_ill1 (k : Nat) (m : ADisk) (w : World) (vb : Value) (batch : List Bs) (L : LogAt w c kl lb d nm vl ls size false) (DD : DiskAt w c k d m) (hk0 : k ≠ 0) (hkl : kl ≠ k) (hkl0 : kl ≠ 0) (hops : m.ops < 899990) (hn : nm.length ≤ maxLen)
    (_hsz : size ≤ 1000000000) (hls : ls.length ≤ 1000000) (HBT : Bat w c (0, 0) (0, 0) vb batch) (hl : batch.length ≤ 1000000000) (hb : ∀ r ∈ batch, r.length ≤ 1000000000) (hg : good batch = true)
    (er : Int) (m4 : ADisk) (ha : append m nm (enc kec ls.length batch) = (er, m4)) (hne0 : ¬ er = 0) :
    Calls Try.prog 19 #[ptr lb, vb] w fun e w' => e = .returned (.int .i64 er) ∧ ∃ c', Cx w c c' ∧ Kp c (fun q => q.1 = k ∨ q.1 = kl) w w' ∧ DiskAt w' c' k d m4 ∧
      LogAt w' c' kl lb d nm vl ls size true := by
  have e0 := L.c0; have e1 := L.c1; have e2 := L.c2; have e3 := L.c3; have e5 := L.c5
  obtain ⟨xs, hxs⟩ := L.own
  obtain ⟨ao, ko, rfl⟩ := own_shape1 hxs.1
  clear hxs
  have HIS := Lib.hid (wis_one w lb e0)
  have HEN := Lib.hid (encode_good (c := c) (0, 0) (0, 0) vb batch ls.length HBT hl hb (by omega) hg)
  have hel := enc_length kec_length ls.length batch
  have hsum := (good_length hg).2.2.2
  obtain ⟨E, hE⟩ : ∃ E, E = enc kec ls.length batch := ⟨_, rfl⟩
  rw [← hE] at HEN ha hel
  have hEl : E.length ≤ 16777300 := by omega
  have hE0 : 0 < E.length := by omega
  have HLB := Lib.hid hl; have HBL := Lib.hid (show ∀ r ∈ batch, r.length ≤ lim from fun r hr => by have := hb r hr; unfold lim; omega)
  obtain ⟨i0, hi0, hz0, hz1, hz2⟩ := info_batch
  have H6 := Lib.hid hi0; have H7 := Lib.hid hz0; have H8 := Lib.hid hz1; have H9 := Lib.hid hz2; clear hi0 hz0 hz1 hz2
  have HE := Lib.hid hE; have HL := Lib.hid L; have HD := Lib.hid DD; have HB := Lib.hid HBT
  clear hE L DD HBT hel hsum hb hl hg
  unfold ptr at HIS e1 ⊢
  unfold str at e2
  simp only [nth] at e5
  go_enter Try.func19, Try.ntmps19
  go_wp2_with (first
    | (go_at_call 39; refine HIS.out.mono ?_; rintro _ w1 ⟨rfl, rfl⟩)
    | (go_at_call 9; refine HEN.out.mono ?_; rintro _ w2 ⟨vE, rfl, ho2, hf2, hk2⟩; obtain ⟨gE, cE, rfl, _, _⟩ := own_pos1 (by simpa using ho2) (show 0 < E.length from hE0); have HO2 := Lib.hid ho2; have HF2 := Lib.hid hf2; have HK2 := Lib.hid hk2; have L2 := HL.out.kp (hk2 c (fun _ => False)) (fun h => h) (fun h => h) (fun h => h) (Cx.refl _ _); have g1 := L2.c1; have g2 := L2.c2; have g5 := L2.c5; have gf := L2.fz; have HL2 := Lib.hid L2; unfold ptr at g1; unfold str at g2; simp only [nth] at g5; clear ho2 hf2 hk2 L2))
  have hca := newCol_cx w c (0, 0)
  obtain ⟨ca, hcae⟩ : ∃ ca, ca = newCol w c (0, 0) := ⟨_, rfl⟩
  rw [← hcae] at hca
  have hEc : ∀ g, (Value.slice (some ⟨gE, 0, none⟩) E.length cE).ownBlock = some g → ca g = (0, 0) := fun g hg => by rw [hcae]; exact if_neg (Nat.not_lt.2 (HF2.out g hg))
  have L2 := HL.out.kp (HK2.out c (fun _ => False)) (fun h => h) (fun h => h) (fun h => h) hca
  have L3 := L2.mark hkl0 true
  have kM : Kp ca (· = (kl, 0)) w2 (w2.setCell ⟨lb, 5, none⟩ (.int .i64 (nth true))) := (Kp.refl ca _ w2).setCell (fun _ => L2.col) _
  have D3 := (HD.out.kp (HK2.out c (fun _ => False)) (fun _ h => h.elim) hca).kp kM (fun q hq => by rw [hq]; exact ⟨hkl, by simp; exact hkl0⟩) (Cx.refl _ _)
  have S3 := (Sc.of_owns HO2.out hEc).kp kM (by simp; exact fun h => hkl0 h.symm) (Cx.refl _ _)
  have B3 := (HB.out.kp (HK2.out c (fun _ => False)) (fun h => h) (fun h => h) hca).kp kM (by simp; exact fun h => hkl0 h.symm) (by simp; exact fun h => hkl0 h.symm) (Cx.refl _ _)
  have K3 : Kp c (fun q => q.1 = k ∨ q.1 = kl) w (w2.setCell ⟨lb, 5, none⟩ (.int .i64 (nth true))) := (HK2.out c _).setCell (fun _ => by right; rw [HL.out.col]) _
  obtain ⟨w3, hw3⟩ : ∃ w3, w3 = w2.setCell ⟨lb, 5, none⟩ (.int .i64 (nth true)) := ⟨_, rfl⟩
  rw [← hw3] at L3 D3 S3 B3 K3
  rw [show w2.setCell ⟨lb, 5, none⟩ (.int .i64 1) = w3 from hw3.symm]
  have hap := append_c k d m nm _ E w3.drew (D3.kp ((Kp.refl ca (fun _ => False) w3).drew) (fun _ h => h.elim) (Cx.refl _ _)) hk0 (by omega) hn (S3.kp ((Kp.refl ca (fun _ => False) w3).drew) (fun h => h) (Cx.refl _ _)) (by simpa using fun h => hk0 h.symm) (by unfold lim; omega)
  rw [ha] at hap
  have hne : (er == 0) = false := by simpa using hne0
  have HAP := Lib.hid hap
  have f1 := L3.c1; have f2 := L3.c2; have ff := L3.fz
  have HL3 := Lib.hid L3; have HB3 := Lib.hid B3; have HK3 := Lib.hid K3; have HCA := Lib.hid hca
  clear hap ha hne0 hw3 L2 L3 kM D3 S3 B3 K3 hEc hcae hca g1 g2 g5 gf e0 e1 e2 e3 e5
  unfold ptr at f1 HAP
  unfold str at f2 HAP
  go_still_tail 9, (by kernel_rfl)
  change wpList _ _ _ _ _ w3.drew
  go_wp2_with (first
    | (go_at_call 40; refine HAP.out.mono ?_; rintro _ w4 ⟨rfl, c4, hc4, hk4, hd4⟩; have HC4 := Lib.hid hc4; have HK4 := Lib.hid hk4; have HD4 := Lib.hid hd4; have L4 := HL3.out.drew.kp hk4 (by simp; exact hkl) (by simp; exact hkl) (by simp; exact fun h => hk0 h.symm) hc4; have h1 := L4.c1; have h2 := L4.c2; have hf := L4.fz; have HL4 := Lib.hid L4; unfold ptr at h1; unfold str at h2; clear hc4 hk4 hd4 L4))
  go_ret
  have s3 := HK3.out.size
  refine ⟨rfl, c4, HCA.out.trans HC4.out s3, HK3.out.drew.trans (HK4.out.mono (fun q h => Or.inl h)) HCA.out, HD4.out, HL4.out⟩
set_option maxRecDepth 20000 in
set_option maxHeartbeats 2000000 in
theorem append_ill2 (k : Nat) (m : ADisk) (w : World) (vb : Value) (batch : List Bs) (L : LogAt w c kl lb d nm vl ls size false) (DD : DiskAt w c k d m) (hk0 : k ≠ 0) (hkl : kl ≠ k) (hkl0 : kl ≠ 0) (hops : m.ops < 899990) (hn : nm.length ≤ maxLen)
    (_hsz : size ≤ 1000000000) (hls : ls.length ≤ 1000000) (HBT : Bat w c (0, 0) (0, 0) vb batch) (hl : batch.length ≤ 1000000000) (hb : ∀ r ∈ batch, r.length ≤ 1000000000) (hg : good batch = true)
    (er : Int) (m4 m5 : ADisk) (ha : append m nm (enc kec ls.length batch) = (0, m4)) (hs : sync m4 nm = (er, m5)) (hne0 : ¬ er = 0) :
    Calls Try.prog 19 #[ptr lb, vb] w fun e w' => e = .returned (.int .i64 er) ∧ ∃ c', Cx w c c' ∧ Kp c (fun q => q.1 = k ∨ q.1 = kl) w w' ∧ DiskAt w' c' k d m5 ∧
      LogAt w' c' kl lb d nm vl ls size true := by
  have e0 := L.c0; have e1 := L.c1; have e2 := L.c2; have e3 := L.c3; have e5 := L.c5
  obtain ⟨xs, hxs⟩ := L.own
  obtain ⟨ao, ko, rfl⟩ := own_shape1 hxs.1
  clear hxs
  have HIS := Lib.hid (wis_one w lb e0)
  have HEN := Lib.hid (encode_good (c := c) (0, 0) (0, 0) vb batch ls.length HBT hl hb (by omega) hg)
  have hel := enc_length kec_length ls.length batch
  have hsum := (good_length hg).2.2.2
  obtain ⟨E, hE⟩ : ∃ E, E = enc kec ls.length batch := ⟨_, rfl⟩
  rw [← hE] at HEN ha hel
  have hEl : E.length ≤ 16777300 := by omega
  have hE0 : 0 < E.length := by omega
  have HLB := Lib.hid hl; have HBL := Lib.hid (show ∀ r ∈ batch, r.length ≤ lim from fun r hr => by have := hb r hr; unfold lim; omega)
  obtain ⟨i0, hi0, hz0, hz1, hz2⟩ := info_batch
  have H6 := Lib.hid hi0; have H7 := Lib.hid hz0; have H8 := Lib.hid hz1; have H9 := Lib.hid hz2; clear hi0 hz0 hz1 hz2
  have HE := Lib.hid hE; have HL := Lib.hid L; have HD := Lib.hid DD; have HB := Lib.hid HBT
  clear hE L DD HBT hel hsum hb hl hg
  unfold ptr at HIS e1 ⊢
  unfold str at e2
  simp only [nth] at e5
  go_enter Try.func19, Try.ntmps19
  go_wp2_with (first
    | (go_at_call 39; refine HIS.out.mono ?_; rintro _ w1 ⟨rfl, rfl⟩)
    | (go_at_call 9; refine HEN.out.mono ?_; rintro _ w2 ⟨vE, rfl, ho2, hf2, hk2⟩; obtain ⟨gE, cE, rfl, _, _⟩ := own_pos1 (by simpa using ho2) (show 0 < E.length from hE0); have HO2 := Lib.hid ho2; have HF2 := Lib.hid hf2; have HK2 := Lib.hid hk2; have L2 := HL.out.kp (hk2 c (fun _ => False)) (fun h => h) (fun h => h) (fun h => h) (Cx.refl _ _); have g1 := L2.c1; have g2 := L2.c2; have g5 := L2.c5; have gf := L2.fz; have HL2 := Lib.hid L2; unfold ptr at g1; unfold str at g2; simp only [nth] at g5; clear ho2 hf2 hk2 L2))
  have hca := newCol_cx w c (0, 0)
  obtain ⟨ca, hcae⟩ : ∃ ca, ca = newCol w c (0, 0) := ⟨_, rfl⟩
  rw [← hcae] at hca
  have hEc : ∀ g, (Value.slice (some ⟨gE, 0, none⟩) E.length cE).ownBlock = some g → ca g = (0, 0) := fun g hg => by rw [hcae]; exact if_neg (Nat.not_lt.2 (HF2.out g hg))
  have L2 := HL.out.kp (HK2.out c (fun _ => False)) (fun h => h) (fun h => h) (fun h => h) hca
  have L3 := L2.mark hkl0 true
  have kM : Kp ca (· = (kl, 0)) w2 (w2.setCell ⟨lb, 5, none⟩ (.int .i64 (nth true))) := (Kp.refl ca _ w2).setCell (fun _ => L2.col) _
  have D3 := (HD.out.kp (HK2.out c (fun _ => False)) (fun _ h => h.elim) hca).kp kM (fun q hq => by rw [hq]; exact ⟨hkl, by simp; exact hkl0⟩) (Cx.refl _ _)
  have S3 := (Sc.of_owns HO2.out hEc).kp kM (by simp; exact fun h => hkl0 h.symm) (Cx.refl _ _)
  have B3 := (HB.out.kp (HK2.out c (fun _ => False)) (fun h => h) (fun h => h) hca).kp kM (by simp; exact fun h => hkl0 h.symm) (by simp; exact fun h => hkl0 h.symm) (Cx.refl _ _)
  have K3 : Kp c (fun q => q.1 = k ∨ q.1 = kl) w (w2.setCell ⟨lb, 5, none⟩ (.int .i64 (nth true))) := (HK2.out c _).setCell (fun _ => by right; rw [HL.out.col]) _
  obtain ⟨w3, hw3⟩ : ∃ w3, w3 = w2.setCell ⟨lb, 5, none⟩ (.int .i64 (nth true)) := ⟨_, rfl⟩
  rw [← hw3] at L3 D3 S3 B3 K3
  rw [show w2.setCell ⟨lb, 5, none⟩ (.int .i64 1) = w3 from hw3.symm]
  have hap := append_c k d m nm _ E w3.drew (D3.kp ((Kp.refl ca (fun _ => False) w3).drew) (fun _ h => h.elim) (Cx.refl _ _)) hk0 (by omega) hn (S3.kp ((Kp.refl ca (fun _ => False) w3).drew) (fun h => h) (Cx.refl _ _)) (by simpa using fun h => hk0 h.symm) (by unfold lim; omega)
  rw [ha] at hap
  have HAP := Lib.hid hap
  have f1 := L3.c1; have f2 := L3.c2; have ff := L3.fz
  have HL3 := Lib.hid L3; have HB3 := Lib.hid B3; have HK3 := Lib.hid K3; have HCA := Lib.hid hca
  clear hap hw3 L2 L3 kM D3 S3 B3 K3 hEc hcae hca g1 g2 g5 gf e0 e1 e2 e3 e5
  unfold ptr at f1 HAP
  unfold str at f2 HAP
  go_still_tail 9, (by kernel_rfl)
  change wpList _ _ _ _ _ w3.drew
  go_wp2_with (first
    | (go_at_call 40; refine HAP.out.mono ?_; rintro _ w4 ⟨rfl, c4, hc4, hk4, hd4⟩; have HC4 := Lib.hid hc4; have HK4 := Lib.hid hk4; have HD4 := Lib.hid hd4; have L4 := HL3.out.drew.kp hk4 (by simp; exact hkl) (by simp; exact hkl) (by simp; exact fun h => hk0 h.symm) hc4; have h1 := L4.c1; have h2 := L4.c2; have hf := L4.fz; have HL4 := Lib.hid L4; unfold ptr at h1; unfold str at h2; clear hc4 hk4 hd4 L4))
  have hao := append_ops m nm E
  rw [ha] at hao
  have hao : m4.ops ≤ m.ops + 1 := hao
  have hsy := sync_c k d m4 nm w4.drew (HD4.out.kp ((Kp.refl c4 (fun _ => False) w4).drew) (fun _ h => h.elim) (Cx.refl _ _)) hk0 (by omega) hn
  rw [hs] at hsy
  have hne : (er == 0) = false := by simpa using hne0
  have HSY := Lib.hid hsy
  clear hsy ha hs hne0 hao f1 f2 ff
  unfold ptr str at HSY
  go_still_tail 8, (by kernel_rfl)
  change wpList _ _ _ _ _ w4.drew
  go_wp2_with (first
    | (go_at_call 41; refine HSY.out.mono ?_; rintro _ w5 ⟨rfl, c5, hc5, hk5, hd5⟩; have HC5 := Lib.hid hc5; have HK5 := Lib.hid hk5; have HD5 := Lib.hid hd5; have HL5 := Lib.hid (HL4.out.drew.kp hk5 (by simp; exact hkl) (by simp; exact hkl) (by simp; exact fun h => hk0 h.symm) hc5); clear hc5 hk5 hd5))
  go_ret
  have s3 := HK3.out.size; have s4 := HK4.out.size
  have cx5 : Cx w c c5 := (HCA.out.trans HC4.out s3).trans HC5.out (Nat.le_trans s3 s4)
  have kp5 : Kp c (fun q => q.1 = k ∨ q.1 = kl) w w5 :=
    (HK3.out.drew.trans (HK4.out.mono (fun q h => Or.inl h)) HCA.out).drew.trans (HK5.out.mono (fun q h => Or.inl h)) (HCA.out.trans HC4.out s3)
  exact ⟨rfl, c5, cx5, kp5, HD5.out, HL5.out⟩
end Go.Proofs.Ytnifmoigalmcmaa
