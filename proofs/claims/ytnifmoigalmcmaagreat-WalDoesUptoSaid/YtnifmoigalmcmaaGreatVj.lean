/- wal.Append on a log whose last call went ill, where the trim goes well. -/
import Derived.Test.YtnifmoigalmcmaaGreatVb
namespace Go.Proofs.YtnifmoigalmcmaaGreat
open Go Go.RowKit Dk
open Wl
variable {c c' : Col} {w w' : World} {S : Nat × Nat → Prop} {q : Nat × Nat}
variable {kl lb d : Nat} {nm : Nm} {vl : Value} {ls : List (List Bs)} {size : Nat} {dirty : Bool}
set_option maxRecDepth 20000 in
set_option maxHeartbeats 2000000 in
theorem append_clean_d (k : Nat) (m0 m : ADisk) (ht : trimD m0 nm size = (0, m)) (w : World) (vb : Value) (batch : List Bs) (L : LogAt w c kl lb d nm vl ls size true) (DD : DiskAt w c k d m0) (hk0 : k ≠ 0) (hkl : kl ≠ k) (hkl0 : kl ≠ 0) (hops0 : m0.ops < 899990) (hops : m.ops < 899990) (hn : nm.length ≤ maxLen)
    (hsz : size ≤ 1000000000) (hls : ls.length ≤ 100000000) {qa qb : Nat × Nat} (HBT : Bat w c qa qb vb batch) (hqq : Apart k kl qa qb) (hl : batch.length ≤ 1000000000) (hb : ∀ r ∈ batch, r.length ≤ 1000000000) (hg : good batch = true)
    (ha : (append m nm (enc kec ls.length batch)).1 = 0) (hs : (sync (append m nm (enc kec ls.length batch)).2 nm).1 = 0) :
    Calls Tryz.prog 17 #[ptr lb, vb] w fun e w' => e = .returned (.int .i64 0) ∧ ∃ c', Cx w c c' ∧ Kp c (fun q => q.1 = k ∨ q.1 = kl) w w' ∧ DiskAt w' c' k d (sync (append m nm (enc kec ls.length batch)).2 nm).2 ∧
      ∃ vl', LogAt w' c' kl lb d nm vl' (ls ++ [batch]) (size + (enc kec ls.length batch).length) false := by
  have e0 := L.c0; have e1 := L.c1; have e2 := L.c2; have e3 := L.c3; have e5 := L.c5
  obtain ⟨xs, hxs⟩ := L.own
  obtain ⟨ao, ko, rfl⟩ := own_shape1 hxs.1
  clear hxs
  have HIS := Lib.hid (wis_one w lb e0)
  have HEN := Lib.hid (encode_good (c := c) qa qb vb batch ls.length HBT hl hb (by omega) hg)
  have hel := enc_length kec_length ls.length batch
  have hsum := (good_length hg).2.2.2
  obtain ⟨E, hE⟩ : ∃ E, E = enc kec ls.length batch := ⟨_, rfl⟩
  rw [← hE] at HEN ha hs hel ⊢
  have hEl : E.length ≤ 16777300 := by omega
  have hE0 : 0 < E.length := by omega
  have HLB := Lib.hid hl; have HBL := Lib.hid (show ∀ r ∈ batch, r.length ≤ lim from fun r hr => by have := hb r hr; unfold lim; omega)
  obtain ⟨i0, hi0, hz0, hz1, hz2⟩ := info_batch
  have H6 := Lib.hid hi0; have H7 := Lib.hid hz0; have H8 := Lib.hid hz1; have H9 := Lib.hid hz2; clear hi0 hz0 hz1 hz2
  have HT := Lib.hid ht; clear ht
  have HE := Lib.hid hE; have HL := Lib.hid L; have HD := Lib.hid DD; have HB := Lib.hid HBT; have HQQ := Lib.hid hqq; have HA := Lib.hid ha; have HS := Lib.hid hs
  clear hE L DD HBT hqq ha hs hel hsum hb hl hg
  unfold ptr at HIS e1 ⊢
  unfold str at e2
  simp only [nth] at e5
  go_enter Tryz.func17, Tryz.ntmps17
  go_wp2_with (first
    | (go_at_call 67; refine HIS.out.mono ?_; rintro _ w1 ⟨rfl, rfl⟩)
    | (go_at_call 53; refine HEN.out.mono ?_; rintro _ w2 ⟨vE, rfl, ho2, hf2, hk2⟩; obtain ⟨gE, cE, rfl, _, _⟩ := own_pos1 (by simpa using ho2) (show 0 < E.length from hE0); have HO2 := Lib.hid ho2; have HF2 := Lib.hid hf2; have HK2 := Lib.hid hk2; have L2 := HL.out.kp (hk2 c (fun _ => False)) (fun h => h) (fun h => h) (fun h => h) (Cx.refl _ _); have g1 := L2.c1; have g2 := L2.c2; have g5 := L2.c5; have gf := L2.fz; have HL2 := Lib.hid L2; unfold ptr at g1; unfold str at g2; simp only [nth] at g5; clear ho2 hf2 hk2 L2)
    | (go_at_call 60; have hca := newCol_cx w c (0, 0); obtain ⟨ca0, hcae⟩ : ∃ ca, ca = newCol w c (0, 0) := ⟨_, rfl⟩; rw [← hcae] at hca; have hEc : ∀ g, (Value.slice (some ⟨gE, 0, none⟩) E.length cE).ownBlock = some g → ca0 g = (0, 0) := (fun g hg => by rw [hcae]; exact if_neg (Nat.not_lt.2 (HF2.out g hg))); have htr := trim_c k m0 w2 (HL.out.kp (HK2.out c (fun _ => False)) (fun h => h) (fun h => h) (fun h => h) hca) (HD.out.kp (HK2.out c (fun _ => False)) (fun _ h => h.elim) hca) hk0 hkl (by omega) hn; rw [HT.out] at htr; unfold ptr at htr; refine htr.mono ?_; rintro _ wt ⟨rfl, ca, hct, hkt, hdt, hlt⟩; have HCA0 := Lib.hid hca; have HCT := Lib.hid hct; have HKT := Lib.hid hkt; have HDT := Lib.hid hdt; have HLT := Lib.hid hlt; have HEC := Lib.hid hEc; have t1 := hlt.c1; have t2 := hlt.c2; have t5 := hlt.c5; have tf := hlt.fz; unfold ptr at t1; unfold str at t2; simp only [nth] at t5; clear hct hkt hdt hlt hEc hca hcae htr g1 g2 g5 gf))
  have L3 := HLT.out.mark hkl0 true
  have kM : Kp ca (· = (kl, 0)) wt (wt.setCell ⟨lb, 5, none⟩ (.int .i64 (nth true))) := (Kp.refl ca _ wt).setCell (fun _ => HLT.out.col) _
  have D3 := HDT.out.kp kM (fun q hq => by rw [hq]; exact ⟨hkl, by simp; exact hkl0⟩) (Cx.refl _ _)
  have S3 := ((Sc.of_owns HO2.out HEC.out).kp HKT.out (by simp; exact fun h => hk0 h.symm) HCT.out).kp kM (by simp; exact fun h => hkl0 h.symm) (Cx.refl _ _)
  have B3 := ((HB.out.kp (HK2.out c (fun _ => False)) (fun h => h) (fun h => h) HCA0.out).kp HKT.out HQQ.out.n1 HQQ.out.n2 HCT.out).kp kM HQQ.out.m1 HQQ.out.m2 (Cx.refl _ _)
  have K3 : Kp c (fun q => q.1 = k ∨ q.1 = kl) w (wt.setCell ⟨lb, 5, none⟩ (.int .i64 (nth true))) := ((HK2.out c _).trans (HKT.out.mono (fun q h => Or.inl h)) HCA0.out).setCell (fun _ => by right; rw [HL.out.col]) _
  have hca := HCA0.out.trans HCT.out (HK2.out c (fun _ => False)).size
  obtain ⟨w3, hw3⟩ : ∃ w3, w3 = wt.setCell ⟨lb, 5, none⟩ (.int .i64 (nth true)) := ⟨_, rfl⟩
  rw [← hw3] at L3 D3 S3 B3 K3
  rw [show wt.setCell ⟨lb, 5, none⟩ (.int .i64 1) = w3 from hw3.symm]
  have hap := append_c k d m nm _ E w3.drew (D3.kp ((Kp.refl ca (fun _ => False) w3).drew) (fun _ h => h.elim) (Cx.refl _ _)) hk0 (by omega) hn (S3.kp ((Kp.refl ca (fun _ => False) w3).drew) (fun h => h) (Cx.refl _ _)) (by simpa using fun h => hk0 h.symm) (by unfold lim; omega)
  have HAP := Lib.hid hap
  have f1 := L3.c1; have f2 := L3.c2; have ff := L3.fz
  have HL3 := Lib.hid L3; have HB3 := Lib.hid B3; have HK3 := Lib.hid K3; have HCA := Lib.hid hca
  clear hap hw3 L3 kM D3 S3 B3 K3 hca t1 t2 t5 tf e0 e1 e2 e3 e5
  unfold ptr at f1 HAP
  unfold str at f2 HAP
  go_still_tail 9, (by kernel_rfl)
  change wpList _ _ _ _ _ w3.drew
  go_wp2_with (first
    | (go_at_call 21; refine HAP.out.mono ?_; rintro _ w4 ⟨rfl, c4, hc4, hk4, hd4⟩; rw [HA.out]; have HC4 := Lib.hid hc4; have HK4 := Lib.hid hk4; have HD4 := Lib.hid hd4; have L4 := HL3.out.drew.kp hk4 (by simp; exact hkl) (by simp; exact hkl) (by simp; exact fun h => hk0 h.symm) hc4; have h1 := L4.c1; have h2 := L4.c2; have hf := L4.fz; have HL4 := Lib.hid L4; unfold ptr at h1; unfold str at h2; clear hc4 hk4 hd4 L4))
  have hao := append_ops m nm E
  obtain ⟨m4, hm4⟩ : ∃ m4, m4 = (append m nm E).2 := ⟨_, rfl⟩
  rw [← hm4] at hao HD4 HS
  have hsy := sync_c k d m4 nm w4.drew (HD4.out.kp ((Kp.refl c4 (fun _ => False) w4).drew) (fun _ h => h.elim) (Cx.refl _ _)) hk0 (by omega) hn
  have HSY := Lib.hid hsy; have HM4 := Lib.hid hm4
  clear hsy hm4 hao f1 f2 ff
  unfold ptr str at HSY
  go_still_tail 8, (by kernel_rfl)
  change wpList _ _ _ _ _ w4.drew
  go_wp2_with (first
    | (go_at_call 68; refine HSY.out.mono ?_; rintro _ w5 ⟨rfl, c5, hc5, hk5, hd5⟩; rw [HS.out]; have HC5 := Lib.hid hc5; have HK5 := Lib.hid hk5; have HD5 := Lib.hid hd5; have L5 := HL4.out.drew.kp hk5 (by simp; exact hkl) (by simp; exact hkl) (by simp; exact fun h => hk0 h.symm) hc5; have k5 := L5.c5; have kf := L5.fz; have HL5 := Lib.hid L5; simp only [nth] at k5; clear hc5 hk5 hd5 L5))
  have L6 := HL5.out.mark hkl0 false
  obtain ⟨w6, hw6⟩ : ∃ w6, w6 = w5.setCell ⟨lb, 5, none⟩ (.int .i64 (nth false)) := ⟨_, rfl⟩
  rw [← hw6] at L6
  rw [show w5.setCell ⟨lb, 5, none⟩ (.int .i64 0) = w6 from hw6.symm]
  have L7 := L6.drew
  have hS0 := Lib.hid (show (fun X : World => X.cell? ⟨lb, 3, none⟩ = some (.slice ao ls.length ko) ∧ X.cell? ⟨lb, 4, none⟩ = some (.int .i64 size)) w6.drew from ⟨L7.c3, L7.c4⟩)
  have HL7 := Lib.hid L7; have HW6 := Lib.hid hw6
  clear L6 L7 hw6 h1 h2 hf k5 kf
  refine wp_region_G (fun X : World => X.cell? ⟨lb, 3, none⟩ = some (.slice ao ls.length ko) ∧ X.cell? ⟨lb, 4, none⟩ = some (.int .i64 size)) 19 rfl ?_
  refine wpAnyG_takeX [1, 14, 15, 16] (i := 0) (oi := _) (v := .pointer (some ⟨lb, 0, none⟩)) rfl (by kernel_rfl) (by kernel_rfl) (by kernel_rfl) (by kernel_rfl) (by kernel_rfl) (by kernel_rfl) (fun _ _ _ h => h) (Or.inl ⟨by rfl, fun X hX => ?_⟩) hS0.out ?_
  · obtain ⟨x1, x2⟩ := hX
    go_simp
  simp only [Act.put, List.setIfInBounds_toArray]
  refine wpAnyG_takeX [1, 14, 15, 16] (i := 2) (oi := _) (v := .pointer (some ⟨lb, 0, none⟩)) rfl (by kernel_rfl) (by kernel_rfl) (by kernel_rfl) (by kernel_rfl) (by kernel_rfl) (by kernel_rfl) (fun _ _ _ h => h) (Or.inl ⟨by rfl, fun X hX => ?_⟩) hS0.out ?_
  · obtain ⟨x1, x2⟩ := hX
    go_simp
  simp only [Act.put]
  refine wpAnyG_takeX [1, 14, 15, 16] (i := 3) (oi := _) (v := .pointer (some ⟨lb, 0, none⟩)) rfl (by kernel_rfl) (by kernel_rfl) (by kernel_rfl) (by kernel_rfl) (by kernel_rfl) (by kernel_rfl) (fun _ _ _ h => h) (Or.inl ⟨by rfl, fun X hX => ?_⟩) hS0.out ?_
  · obtain ⟨x1, x2⟩ := hX
    go_simp
  simp only [Act.put]
  refine wpAnyG_takeX [1, 14, 15, 16] (i := 4) (oi := _) (v := .pointer (some ⟨lb, 3, none⟩)) rfl (by kernel_rfl) (by kernel_rfl) (by kernel_rfl) (by kernel_rfl) (by kernel_rfl) (by kernel_rfl) (fun _ _ _ h => h) (Or.inl ⟨by rfl, fun X hX => ?_⟩) hS0.out ?_
  · obtain ⟨x1, x2⟩ := hX
    go_simp
  simp only [Act.put]
  refine wpAnyG_takeX [1, 14, 15, 16] (i := 5) (oi := _) (v := .slice ao ls.length ko) rfl (by kernel_rfl) (by kernel_rfl) (by kernel_rfl) (by kernel_rfl) (by kernel_rfl) (by kernel_rfl) (fun _ _ _ h => h) (Or.inl ⟨by rfl, fun X hX => ?_⟩) hS0.out ?_
  · obtain ⟨x1, x2⟩ := hX
    go_simp
  simp only [Act.put]
  refine wpAnyG_takeX [1, 14, 15, 16] (i := 6) (oi := _) (v := vb) rfl (by kernel_rfl) (by kernel_rfl) (by kernel_rfl) (by kernel_rfl) (by kernel_rfl) (by kernel_rfl) (fun _ _ _ h => h) (Or.inl ⟨by rfl, fun X hX => ?_⟩) hS0.out ?_
  · obtain ⟨x1, x2⟩ := hX
    go_simp
  simp only [Act.put]
  refine wpAnyG_takeX [1, 14, 15, 16] (i := 10) (oi := _) (v := .pointer (some ⟨lb, 0, none⟩)) rfl (by kernel_rfl) (by kernel_rfl) (by kernel_rfl) (by kernel_rfl) (by kernel_rfl) (by kernel_rfl) (fun _ _ _ h => h) (Or.inl ⟨by rfl, fun X hX => ?_⟩) hS0.out ?_
  · obtain ⟨x1, x2⟩ := hX
    go_simp
  simp only [Act.put]
  refine wpAnyG_takeX [1, 14, 15, 16] (i := 11) (oi := _) (v := .pointer (some ⟨lb, 0, none⟩)) rfl (by kernel_rfl) (by kernel_rfl) (by kernel_rfl) (by kernel_rfl) (by kernel_rfl) (by kernel_rfl) (fun _ _ _ h => h) (Or.inl ⟨by rfl, fun X hX => ?_⟩) hS0.out ?_
  · obtain ⟨x1, x2⟩ := hX
    go_simp
  simp only [Act.put]
  refine wpAnyG_takeX [1, 14, 15, 16] (i := 12) (oi := _) (v := .pointer (some ⟨lb, 4, none⟩)) rfl (by kernel_rfl) (by kernel_rfl) (by kernel_rfl) (by kernel_rfl) (by kernel_rfl) (by kernel_rfl) (fun _ _ _ h => h) (Or.inl ⟨by rfl, fun X hX => ?_⟩) hS0.out ?_
  · obtain ⟨x1, x2⟩ := hX
    go_simp
  simp only [Act.put]
  refine wpAnyG_takeX [1, 14, 15, 16] (i := 13) (oi := _) (v := .int .i64 size) rfl (by kernel_rfl) (by kernel_rfl) (by kernel_rfl) (by kernel_rfl) (by kernel_rfl) (by kernel_rfl) (fun _ _ _ h => h) (Or.inl ⟨by rfl, fun X hX => ?_⟩) hS0.out ?_
  · obtain ⟨x1, x2⟩ := hX
    go_simp
  simp only [Act.put]
  refine wpAnyG_takeY (i := 1) (oi := _) (v := .pointer (some ⟨lb, 0, none⟩)) rfl (by kernel_rfl) (by kernel_rfl) (by kernel_rfl) (by kernel_rfl) (fun _ _ _ h => h) (Or.inl ⟨by rfl, fun X _ => ?_⟩) (fun _ => hS0.out) ?_
  · go_simp
  simp only [Act.put]
  refine wpAnyG_takeY (i := 14) (oi := _) (v := .slice (some ⟨gE, 0, none⟩) E.length cE) rfl (by kernel_rfl) (by kernel_rfl) (by kernel_rfl) (by kernel_rfl) (fun _ _ _ h => h) (Or.inl ⟨by rfl, fun X _ => ?_⟩) (fun _ => hS0.out) ?_
  · go_simp
  simp only [Act.put]
  refine wpAnyG_takeY (i := 15) (oi := _) (v := .int .i64 E.length) rfl (by kernel_rfl) (by kernel_rfl) (by kernel_rfl) (by kernel_rfl) (fun _ _ _ h => h) (Or.inl ⟨by rfl, fun X _ => ?_⟩) (fun _ => hS0.out) ?_
  · go_simp
  simp only [Act.put]
  refine wpAnyG_takeY (i := 16) (oi := _) (v := .int .i64 ((size : Int) + E.length)) rfl (by kernel_rfl) (by kernel_rfl) (by kernel_rfl) (by kernel_rfl) (fun _ _ _ h => h) (Or.inl ⟨by rfl, fun X _ => ?_⟩) (fun _ => hS0.out) ?_
  · (go_simp; exact IntWalk.i64_in _ (by omega))
  simp only [Act.put]
  have B4 := (HB3.out.kp ((Kp.refl ca (fun _ => False) w3).drew) (fun h => h) (fun h => h) (Cx.refl _ _)).kp HK4.out HQQ.out.n1 HQQ.out.n2 HC4.out
  have B5 := (B4.kp ((Kp.refl c4 (fun _ => False) w4).drew) (fun h => h) (fun h => h) (Cx.refl _ _)).kp HK5.out HQQ.out.n1 HQQ.out.n2 HC5.out
  have kM6 : Kp c5 (· = (kl, 0)) w5 w6 := by rw [HW6.out]; exact (Kp.refl c5 _ w5).setCell (fun _ => HL5.out.col) _
  have B7 := (B5.kp kM6 HQQ.out.m1 HQQ.out.m2 (Cx.refl _ _)).kp ((Kp.refl c5 (fun _ => False) w6).drew) (fun h => h) (fun h => h) (Cx.refl _ _)
  have HTW := Lib.hid (twin_b qa qb vb batch B7 HLB.out HBL.out)
  have HKM := Lib.hid kM6
  clear B4 B5 kM6 B7
  refine wpAnyG_one (i := 7) (by kernel_rfl) rfl (fun K' hK' => ?_)
  go_simp
  refine HTW.out.mono ?_
  rintro _ w7 ⟨v7, cb, rfl, hgb, hk7⟩
  obtain ⟨xb, hxb, _⟩ := hgb.own
  obtain ⟨a7, m7, k7, rfl⟩ := own_slice hxb
  have hS7 := Lib.hid (show (fun X : World => X.cell? ⟨lb, 3, none⟩ = some (.slice ao ls.length ko) ∧ X.cell? ⟨lb, 4, none⟩ = some (.int .i64 size)) w7 from ⟨(hk7 c5 (fun _ => False)).cell hS0.out.1 (fun h => h), (hk7 c5 (fun _ => False)).cell hS0.out.2 (fun h => h)⟩)
  have HGB := Lib.hid hgb; have HK7 := Lib.hid hk7
  clear hgb hk7 hxb
  refine hK'.out _ _ (fun _ => hS7.out) ?_
  (try simp only [Act.put])
  have hk8 : Kp c5 (fun _ => False) w7 (w7.alloc (.cells #[.slice a7 m7 k7] 40)) := (Kp.refl _ _ _).alloc _
  have hS8 := Lib.hid (show (fun X : World => X.cell? ⟨lb, 3, none⟩ = some (.slice ao ls.length ko) ∧ X.cell? ⟨lb, 4, none⟩ = some (.int .i64 size)) (w7.alloc (.cells #[.slice a7 m7 k7] 40)) from ⟨hk8.cell hS7.out.1 (fun h => h), hk8.cell hS7.out.2 (fun h => h)⟩)
  refine wpAnyG_one (i := 8) (by kernel_rfl) rfl (fun K' hK' => ?_)
  go_simp
  refine hK'.out _ _ (fun _ => hS8.out) ?_
  (try simp only [Act.put])
  have L8 := (HL7.out.kp (HK7.out c5 (fun _ => False)) (fun h => h) (fun h => h) (fun h => h) (Cx.refl _ _)).kp hk8 (fun h => h) (fun h => h) (fun h => h) (Cx.refl _ _)
  obtain ⟨xs8, hown8, _⟩ := L8.own
  obtain ⟨xb', hxb', hqb'⟩ := HGB.out.own
  have hone : ∀ u ∈ [Value.slice a7 m7 k7], u.oneCell' = true := fun u hu => by rw [List.mem_singleton.1 hu]; rfl
  have HOW8 := Lib.hid hown8; have HON := Lib.hid hone
  clear L8 hown8 hxb' hqb' hone hk8
  refine wpAnyG_one (i := 9) (by kernel_rfl) rfl (fun K' hK' => ?_)
  refine step_append4 rfl (.tmp 72) (.tmp 75) 114 rfl 40 i0 (.slice none 0 0) 24 Tryz.underlying114 H6.out H7.out H8.out H9.out rfl (.slice ao ls.length ko) ls.length xs8 (by simp [Act.eval]) HOW8.out ⟨w7.heap.size, 0, none⟩ 1 1 [.slice a7 m7 k7] (by simp [Act.eval]) rfl (one_new _ _ _) HON.out (by unfold maxLen; omega) (by omega) ?_
  intro a9 k9 w9 ho9 hg9 hf9
  have hh9 := log_heap HL7.out HK7.out hg9
  rw [HL7.out.heap] at hh9
  have c3 := cell_of_heap hh9 3
  have c4' := cell_of_heap hh9 4
  have f9 := unfrozen_of_heap hh9
  have g3 : w9.cell? ⟨lb, 3, none⟩ = some (.slice ao ls.length ko) := c3
  have g4 : w9.cell? ⟨lb, 4, none⟩ = some (.int .i64 size) := c4'
  have hS9 := Lib.hid (show (fun X : World => X.cell? ⟨lb, 3, none⟩ = some (.slice ao ls.length ko) ∧ X.cell? ⟨lb, 4, none⟩ = some (.int .i64 size)) w9 from ⟨g3, g4⟩)
  have HP := Lib.hid (log_push (n := E.length) HL7.out hkl0 HGB.out HK7.out HOW8.out ho9 hg9 hf9)
  clear hh9 c3 c4' ho9 hg9 hf9
  refine hK'.out _ _ (fun _ => hS9.out) ?_
  (try simp only [Act.put])
  refine wpAnyG_one (i := 17) (by kernel_rfl) rfl (fun K' hK' => ?_)
  go_simp
  refine hK'.out _ _ (fun _ => hS9.out) ?_
  (try simp only [Act.put])
  refine wpAnyG_one (i := 18) (by kernel_rfl) rfl (fun K' hK' => ?_)
  go_simp
  refine hK'.out _ _ (fun _ => hS9.out) ?_
  (try simp only [Act.put])
  refine wpAnyG_one (i := 19) (by kernel_rfl) rfl (fun K' hK' => ?_)
  go_simp
  refine hK'.out _ _ (fun h => absurd h (by decide)) ?_
  (try simp only [Act.put])
  refine wpAnyG_one (i := 20) (by kernel_rfl) rfl (fun K' hK' => ?_)
  go_simp
  refine hK'.out _ _ (fun h => absurd h (by decide)) ?_
  (try simp only [Act.put])
  refine wpAnyG_one (i := 21) (by kernel_rfl) rfl (fun K' hK' => ?_)
  go_simp
  refine hK'.out _ _ (fun h => absurd h (by decide)) ?_
  (try simp only [Act.put])
  refine wpAnyG_one (i := 22) (by kernel_rfl) rfl (fun K' hK' => ?_)
  go_simp
  refine hK'.out _ _ (fun h => absurd h (by decide)) ?_
  (try simp only [Act.put])
  refine wpAnyG_done (by kernel_rfl) ?_
  go_wp2
  go_ret
  have s3 := HK3.out.size; have s4 := HK4.out.size; have s5 := HK5.out.size; have s6 := HKM.out.size
  have cx5 : Cx w c c5 := (HCA.out.trans HC4.out s3).trans HC5.out (Nat.le_trans s3 s4)
  have kp5 : Kp c (fun q => q.1 = k ∨ q.1 = kl) w w6.drew :=
    (((HK3.out.drew.trans (HK4.out.mono (fun q h => Or.inl h)) HCA.out).drew.trans (HK5.out.mono (fun q h => Or.inl h)) (HCA.out.trans HC4.out s3)).trans (HKM.out.mono (fun q h => Or.inr (by rw [h]))) cx5).drew
  have hq : ∀ q : Nat × Nat, q.1 = kl → q.1 ≠ k ∧ q ≠ (0, 0) := fun q h => ⟨by rw [h]; exact hkl, fun e => hkl0 (by rw [← h, e])⟩
  refine ⟨rfl, _, cx5.trans HP.out.1 kp5.size, kp5.trans (HP.out.2.1.mono (fun q h => Or.inr h)) cx5, ?_, _, HP.out.2.2⟩
  rw [← HM4.out]
  exact ((HD5.out.kp HKM.out (fun q h => by rw [h]; exact hq _ rfl) (Cx.refl _ _)).kp ((Kp.refl c5 (fun _ => False) w6).drew) (fun _ h => h.elim) (Cx.refl _ _)).kp HP.out.2.1 hq HP.out.1
set_option maxRecDepth 20000 in
set_option maxHeartbeats 2000000 in
theorem append_ill1_d (k : Nat) (m0 m : ADisk) (ht : trimD m0 nm size = (0, m)) (w : World) (vb : Value) (batch : List Bs) (L : LogAt w c kl lb d nm vl ls size true) (DD : DiskAt w c k d m0) (hk0 : k ≠ 0) (hkl : kl ≠ k) (hkl0 : kl ≠ 0) (hops0 : m0.ops < 899990) (hops : m.ops < 899990) (hn : nm.length ≤ maxLen)
    (_hsz : size ≤ 1000000000) (hls : ls.length ≤ 100000000) {qa qb : Nat × Nat} (HBT : Bat w c qa qb vb batch) (hqq : Apart k kl qa qb) (hl : batch.length ≤ 1000000000) (hb : ∀ r ∈ batch, r.length ≤ 1000000000) (hg : good batch = true)
    (er : Int) (m4 : ADisk) (ha : append m nm (enc kec ls.length batch) = (er, m4)) (hne0 : ¬ er = 0) :
    Calls Tryz.prog 17 #[ptr lb, vb] w fun e w' => e = .returned (.int .i64 er) ∧ ∃ c', Cx w c c' ∧ Kp c (fun q => q.1 = k ∨ q.1 = kl) w w' ∧ DiskAt w' c' k d m4 ∧
      LogAt w' c' kl lb d nm vl ls size true := by
  have e0 := L.c0; have e1 := L.c1; have e2 := L.c2; have e3 := L.c3; have e5 := L.c5
  obtain ⟨xs, hxs⟩ := L.own
  obtain ⟨ao, ko, rfl⟩ := own_shape1 hxs.1
  clear hxs
  have HIS := Lib.hid (wis_one w lb e0)
  have HEN := Lib.hid (encode_good (c := c) qa qb vb batch ls.length HBT hl hb (by omega) hg)
  have hel := enc_length kec_length ls.length batch
  have hsum := (good_length hg).2.2.2
  obtain ⟨E, hE⟩ : ∃ E, E = enc kec ls.length batch := ⟨_, rfl⟩
  rw [← hE] at HEN ha hel
  have hEl : E.length ≤ 16777300 := by omega
  have hE0 : 0 < E.length := by omega
  have HLB := Lib.hid hl; have HBL := Lib.hid (show ∀ r ∈ batch, r.length ≤ lim from fun r hr => by have := hb r hr; unfold lim; omega)
  obtain ⟨i0, hi0, hz0, hz1, hz2⟩ := info_batch
  have H6 := Lib.hid hi0; have H7 := Lib.hid hz0; have H8 := Lib.hid hz1; have H9 := Lib.hid hz2; clear hi0 hz0 hz1 hz2
  have HT := Lib.hid ht; clear ht
  have HE := Lib.hid hE; have HL := Lib.hid L; have HD := Lib.hid DD; have HB := Lib.hid HBT; have HQQ := Lib.hid hqq
  clear hE L DD HBT hqq hel hsum hb hl hg
  unfold ptr at HIS e1 ⊢
  unfold str at e2
  simp only [nth] at e5
  go_enter Tryz.func17, Tryz.ntmps17
  go_wp2_with (first
    | (go_at_call 67; refine HIS.out.mono ?_; rintro _ w1 ⟨rfl, rfl⟩)
    | (go_at_call 53; refine HEN.out.mono ?_; rintro _ w2 ⟨vE, rfl, ho2, hf2, hk2⟩; obtain ⟨gE, cE, rfl, _, _⟩ := own_pos1 (by simpa using ho2) (show 0 < E.length from hE0); have HO2 := Lib.hid ho2; have HF2 := Lib.hid hf2; have HK2 := Lib.hid hk2; have L2 := HL.out.kp (hk2 c (fun _ => False)) (fun h => h) (fun h => h) (fun h => h) (Cx.refl _ _); have g1 := L2.c1; have g2 := L2.c2; have g5 := L2.c5; have gf := L2.fz; have HL2 := Lib.hid L2; unfold ptr at g1; unfold str at g2; simp only [nth] at g5; clear ho2 hf2 hk2 L2)
    | (go_at_call 60; have hca := newCol_cx w c (0, 0); obtain ⟨ca0, hcae⟩ : ∃ ca, ca = newCol w c (0, 0) := ⟨_, rfl⟩; rw [← hcae] at hca; have hEc : ∀ g, (Value.slice (some ⟨gE, 0, none⟩) E.length cE).ownBlock = some g → ca0 g = (0, 0) := (fun g hg => by rw [hcae]; exact if_neg (Nat.not_lt.2 (HF2.out g hg))); have htr := trim_c k m0 w2 (HL.out.kp (HK2.out c (fun _ => False)) (fun h => h) (fun h => h) (fun h => h) hca) (HD.out.kp (HK2.out c (fun _ => False)) (fun _ h => h.elim) hca) hk0 hkl (by omega) hn; rw [HT.out] at htr; unfold ptr at htr; refine htr.mono ?_; rintro _ wt ⟨rfl, ca, hct, hkt, hdt, hlt⟩; have HCA0 := Lib.hid hca; have HCT := Lib.hid hct; have HKT := Lib.hid hkt; have HDT := Lib.hid hdt; have HLT := Lib.hid hlt; have HEC := Lib.hid hEc; have t1 := hlt.c1; have t2 := hlt.c2; have t5 := hlt.c5; have tf := hlt.fz; unfold ptr at t1; unfold str at t2; simp only [nth] at t5; clear hct hkt hdt hlt hEc hca hcae htr g1 g2 g5 gf))
  have L3 := HLT.out.mark hkl0 true
  have kM : Kp ca (· = (kl, 0)) wt (wt.setCell ⟨lb, 5, none⟩ (.int .i64 (nth true))) := (Kp.refl ca _ wt).setCell (fun _ => HLT.out.col) _
  have D3 := HDT.out.kp kM (fun q hq => by rw [hq]; exact ⟨hkl, by simp; exact hkl0⟩) (Cx.refl _ _)
  have S3 := ((Sc.of_owns HO2.out HEC.out).kp HKT.out (by simp; exact fun h => hk0 h.symm) HCT.out).kp kM (by simp; exact fun h => hkl0 h.symm) (Cx.refl _ _)
  have B3 := ((HB.out.kp (HK2.out c (fun _ => False)) (fun h => h) (fun h => h) HCA0.out).kp HKT.out HQQ.out.n1 HQQ.out.n2 HCT.out).kp kM HQQ.out.m1 HQQ.out.m2 (Cx.refl _ _)
  have K3 : Kp c (fun q => q.1 = k ∨ q.1 = kl) w (wt.setCell ⟨lb, 5, none⟩ (.int .i64 (nth true))) := ((HK2.out c _).trans (HKT.out.mono (fun q h => Or.inl h)) HCA0.out).setCell (fun _ => by right; rw [HL.out.col]) _
  have hca := HCA0.out.trans HCT.out (HK2.out c (fun _ => False)).size
  obtain ⟨w3, hw3⟩ : ∃ w3, w3 = wt.setCell ⟨lb, 5, none⟩ (.int .i64 (nth true)) := ⟨_, rfl⟩
  rw [← hw3] at L3 D3 S3 B3 K3
  rw [show wt.setCell ⟨lb, 5, none⟩ (.int .i64 1) = w3 from hw3.symm]
  have hap := append_c k d m nm _ E w3.drew (D3.kp ((Kp.refl ca (fun _ => False) w3).drew) (fun _ h => h.elim) (Cx.refl _ _)) hk0 (by omega) hn (S3.kp ((Kp.refl ca (fun _ => False) w3).drew) (fun h => h) (Cx.refl _ _)) (by simpa using fun h => hk0 h.symm) (by unfold lim; omega)
  rw [ha] at hap
  have hne : (er == 0) = false := by simpa using hne0
  have HAP := Lib.hid hap
  have f1 := L3.c1; have f2 := L3.c2; have ff := L3.fz
  have HL3 := Lib.hid L3; have HB3 := Lib.hid B3; have HK3 := Lib.hid K3; have HCA := Lib.hid hca
  clear hap ha hne0 hw3 L3 kM D3 S3 B3 K3 hca t1 t2 t5 tf e0 e1 e2 e3 e5
  unfold ptr at f1 HAP
  unfold str at f2 HAP
  go_still_tail 9, (by kernel_rfl)
  change wpList _ _ _ _ _ w3.drew
  go_wp2_with (first
    | (go_at_call 21; refine HAP.out.mono ?_; rintro _ w4 ⟨rfl, c4, hc4, hk4, hd4⟩; have HC4 := Lib.hid hc4; have HK4 := Lib.hid hk4; have HD4 := Lib.hid hd4; have L4 := HL3.out.drew.kp hk4 (by simp; exact hkl) (by simp; exact hkl) (by simp; exact fun h => hk0 h.symm) hc4; have h1 := L4.c1; have h2 := L4.c2; have hf := L4.fz; have HL4 := Lib.hid L4; unfold ptr at h1; unfold str at h2; clear hc4 hk4 hd4 L4))
  go_ret
  have s3 := HK3.out.size
  refine ⟨rfl, c4, HCA.out.trans HC4.out s3, HK3.out.drew.trans (HK4.out.mono (fun q h => Or.inl h)) HCA.out, HD4.out, HL4.out⟩
set_option maxRecDepth 20000 in
set_option maxHeartbeats 2000000 in
theorem append_ill2_d (k : Nat) (m0 m : ADisk) (ht : trimD m0 nm size = (0, m)) (w : World) (vb : Value) (batch : List Bs) (L : LogAt w c kl lb d nm vl ls size true) (DD : DiskAt w c k d m0) (hk0 : k ≠ 0) (hkl : kl ≠ k) (hkl0 : kl ≠ 0) (hops0 : m0.ops < 899990) (hops : m.ops < 899990) (hn : nm.length ≤ maxLen)
    (_hsz : size ≤ 1000000000) (hls : ls.length ≤ 100000000) {qa qb : Nat × Nat} (HBT : Bat w c qa qb vb batch) (hqq : Apart k kl qa qb) (hl : batch.length ≤ 1000000000) (hb : ∀ r ∈ batch, r.length ≤ 1000000000) (hg : good batch = true)
    (er : Int) (m4 m5 : ADisk) (ha : append m nm (enc kec ls.length batch) = (0, m4)) (hs : sync m4 nm = (er, m5)) (hne0 : ¬ er = 0) :
    Calls Tryz.prog 17 #[ptr lb, vb] w fun e w' => e = .returned (.int .i64 er) ∧ ∃ c', Cx w c c' ∧ Kp c (fun q => q.1 = k ∨ q.1 = kl) w w' ∧ DiskAt w' c' k d m5 ∧
      LogAt w' c' kl lb d nm vl ls size true := by
  have e0 := L.c0; have e1 := L.c1; have e2 := L.c2; have e3 := L.c3; have e5 := L.c5
  obtain ⟨xs, hxs⟩ := L.own
  obtain ⟨ao, ko, rfl⟩ := own_shape1 hxs.1
  clear hxs
  have HIS := Lib.hid (wis_one w lb e0)
  have HEN := Lib.hid (encode_good (c := c) qa qb vb batch ls.length HBT hl hb (by omega) hg)
  have hel := enc_length kec_length ls.length batch
  have hsum := (good_length hg).2.2.2
  obtain ⟨E, hE⟩ : ∃ E, E = enc kec ls.length batch := ⟨_, rfl⟩
  rw [← hE] at HEN ha hel
  have hEl : E.length ≤ 16777300 := by omega
  have hE0 : 0 < E.length := by omega
  have HLB := Lib.hid hl; have HBL := Lib.hid (show ∀ r ∈ batch, r.length ≤ lim from fun r hr => by have := hb r hr; unfold lim; omega)
  obtain ⟨i0, hi0, hz0, hz1, hz2⟩ := info_batch
  have H6 := Lib.hid hi0; have H7 := Lib.hid hz0; have H8 := Lib.hid hz1; have H9 := Lib.hid hz2; clear hi0 hz0 hz1 hz2
  have HT := Lib.hid ht; clear ht
  have HE := Lib.hid hE; have HL := Lib.hid L; have HD := Lib.hid DD; have HB := Lib.hid HBT; have HQQ := Lib.hid hqq
  clear hE L DD HBT hqq hel hsum hb hl hg
  unfold ptr at HIS e1 ⊢
  unfold str at e2
  simp only [nth] at e5
  go_enter Tryz.func17, Tryz.ntmps17
  go_wp2_with (first
    | (go_at_call 67; refine HIS.out.mono ?_; rintro _ w1 ⟨rfl, rfl⟩)
    | (go_at_call 53; refine HEN.out.mono ?_; rintro _ w2 ⟨vE, rfl, ho2, hf2, hk2⟩; obtain ⟨gE, cE, rfl, _, _⟩ := own_pos1 (by simpa using ho2) (show 0 < E.length from hE0); have HO2 := Lib.hid ho2; have HF2 := Lib.hid hf2; have HK2 := Lib.hid hk2; have L2 := HL.out.kp (hk2 c (fun _ => False)) (fun h => h) (fun h => h) (fun h => h) (Cx.refl _ _); have g1 := L2.c1; have g2 := L2.c2; have g5 := L2.c5; have gf := L2.fz; have HL2 := Lib.hid L2; unfold ptr at g1; unfold str at g2; simp only [nth] at g5; clear ho2 hf2 hk2 L2)
    | (go_at_call 60; have hca := newCol_cx w c (0, 0); obtain ⟨ca0, hcae⟩ : ∃ ca, ca = newCol w c (0, 0) := ⟨_, rfl⟩; rw [← hcae] at hca; have hEc : ∀ g, (Value.slice (some ⟨gE, 0, none⟩) E.length cE).ownBlock = some g → ca0 g = (0, 0) := (fun g hg => by rw [hcae]; exact if_neg (Nat.not_lt.2 (HF2.out g hg))); have htr := trim_c k m0 w2 (HL.out.kp (HK2.out c (fun _ => False)) (fun h => h) (fun h => h) (fun h => h) hca) (HD.out.kp (HK2.out c (fun _ => False)) (fun _ h => h.elim) hca) hk0 hkl (by omega) hn; rw [HT.out] at htr; unfold ptr at htr; refine htr.mono ?_; rintro _ wt ⟨rfl, ca, hct, hkt, hdt, hlt⟩; have HCA0 := Lib.hid hca; have HCT := Lib.hid hct; have HKT := Lib.hid hkt; have HDT := Lib.hid hdt; have HLT := Lib.hid hlt; have HEC := Lib.hid hEc; have t1 := hlt.c1; have t2 := hlt.c2; have t5 := hlt.c5; have tf := hlt.fz; unfold ptr at t1; unfold str at t2; simp only [nth] at t5; clear hct hkt hdt hlt hEc hca hcae htr g1 g2 g5 gf))
  have L3 := HLT.out.mark hkl0 true
  have kM : Kp ca (· = (kl, 0)) wt (wt.setCell ⟨lb, 5, none⟩ (.int .i64 (nth true))) := (Kp.refl ca _ wt).setCell (fun _ => HLT.out.col) _
  have D3 := HDT.out.kp kM (fun q hq => by rw [hq]; exact ⟨hkl, by simp; exact hkl0⟩) (Cx.refl _ _)
  have S3 := ((Sc.of_owns HO2.out HEC.out).kp HKT.out (by simp; exact fun h => hk0 h.symm) HCT.out).kp kM (by simp; exact fun h => hkl0 h.symm) (Cx.refl _ _)
  have B3 := ((HB.out.kp (HK2.out c (fun _ => False)) (fun h => h) (fun h => h) HCA0.out).kp HKT.out HQQ.out.n1 HQQ.out.n2 HCT.out).kp kM HQQ.out.m1 HQQ.out.m2 (Cx.refl _ _)
  have K3 : Kp c (fun q => q.1 = k ∨ q.1 = kl) w (wt.setCell ⟨lb, 5, none⟩ (.int .i64 (nth true))) := ((HK2.out c _).trans (HKT.out.mono (fun q h => Or.inl h)) HCA0.out).setCell (fun _ => by right; rw [HL.out.col]) _
  have hca := HCA0.out.trans HCT.out (HK2.out c (fun _ => False)).size
  obtain ⟨w3, hw3⟩ : ∃ w3, w3 = wt.setCell ⟨lb, 5, none⟩ (.int .i64 (nth true)) := ⟨_, rfl⟩
  rw [← hw3] at L3 D3 S3 B3 K3
  rw [show wt.setCell ⟨lb, 5, none⟩ (.int .i64 1) = w3 from hw3.symm]
  have hap := append_c k d m nm _ E w3.drew (D3.kp ((Kp.refl ca (fun _ => False) w3).drew) (fun _ h => h.elim) (Cx.refl _ _)) hk0 (by omega) hn (S3.kp ((Kp.refl ca (fun _ => False) w3).drew) (fun h => h) (Cx.refl _ _)) (by simpa using fun h => hk0 h.symm) (by unfold lim; omega)
  rw [ha] at hap
  have HAP := Lib.hid hap
  have f1 := L3.c1; have f2 := L3.c2; have ff := L3.fz
  have HL3 := Lib.hid L3; have HB3 := Lib.hid B3; have HK3 := Lib.hid K3; have HCA := Lib.hid hca
  clear hap hw3 L3 kM D3 S3 B3 K3 hca t1 t2 t5 tf e0 e1 e2 e3 e5
  unfold ptr at f1 HAP
  unfold str at f2 HAP
  go_still_tail 9, (by kernel_rfl)
  change wpList _ _ _ _ _ w3.drew
  go_wp2_with (first
    | (go_at_call 21; refine HAP.out.mono ?_; rintro _ w4 ⟨rfl, c4, hc4, hk4, hd4⟩; have HC4 := Lib.hid hc4; have HK4 := Lib.hid hk4; have HD4 := Lib.hid hd4; have L4 := HL3.out.drew.kp hk4 (by simp; exact hkl) (by simp; exact hkl) (by simp; exact fun h => hk0 h.symm) hc4; have h1 := L4.c1; have h2 := L4.c2; have hf := L4.fz; have HL4 := Lib.hid L4; unfold ptr at h1; unfold str at h2; clear hc4 hk4 hd4 L4))
  have hao := append_ops m nm E
  rw [ha] at hao
  have hao : m4.ops ≤ m.ops + 1 := hao
  have hsy := sync_c k d m4 nm w4.drew (HD4.out.kp ((Kp.refl c4 (fun _ => False) w4).drew) (fun _ h => h.elim) (Cx.refl _ _)) hk0 (by omega) hn
  rw [hs] at hsy
  have hne : (er == 0) = false := by simpa using hne0
  have HSY := Lib.hid hsy
  clear hsy ha hs hne0 hao f1 f2 ff
  unfold ptr str at HSY
  go_still_tail 8, (by kernel_rfl)
  change wpList _ _ _ _ _ w4.drew
  go_wp2_with (first
    | (go_at_call 68; refine HSY.out.mono ?_; rintro _ w5 ⟨rfl, c5, hc5, hk5, hd5⟩; have HC5 := Lib.hid hc5; have HK5 := Lib.hid hk5; have HD5 := Lib.hid hd5; have HL5 := Lib.hid (HL4.out.drew.kp hk5 (by simp; exact hkl) (by simp; exact hkl) (by simp; exact fun h => hk0 h.symm) hc5); clear hc5 hk5 hd5))
  go_ret
  have s3 := HK3.out.size; have s4 := HK4.out.size
  have cx5 : Cx w c c5 := (HCA.out.trans HC4.out s3).trans HC5.out (Nat.le_trans s3 s4)
  have kp5 : Kp c (fun q => q.1 = k ∨ q.1 = kl) w w5 :=
    (HK3.out.drew.trans (HK4.out.mono (fun q h => Or.inl h)) HCA.out).drew.trans (HK5.out.mono (fun q h => Or.inl h)) (HCA.out.trans HC4.out s3)
  exact ⟨rfl, c5, cx5, kp5, HD5.out, HL5.out⟩
end Go.Proofs.YtnifmoigalmcmaaGreat
