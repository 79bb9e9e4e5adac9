/- wal.Append on a log whose last call went ill, where the trim goes ill; no batch. -/
import Derived.Test.YtnifmoigalmcmaaGreatVb
import Derived.Test.YtnifmoigalmcmaaGreatWl
namespace Go.Proofs.YtnifmoigalmcmaaGreat
open Go Go.RowKit Dk
open Wl
variable {c c' : Col} {w w' : World} {S : Nat × Nat → Prop} {q : Nat × Nat}
variable {kl lb d : Nat} {nm : Nm} {vl : Value} {ls : List (List Bs)} {size : Nat} {dirty : Bool}
set_option maxRecDepth 20000 in
set_option maxHeartbeats 2000000 in
theorem append_illt (k : Nat) (m : ADisk) (w : World) (vb : Value) (batch : List Bs) (L : LogAt w c kl lb d nm vl ls size true) (DD : DiskAt w c k d m) (hk0 : k ≠ 0) (hkl : kl ≠ k) (_hkl0 : kl ≠ 0) (hops : m.ops < 899990) (hn : nm.length ≤ maxLen)
    (_hsz : size ≤ 1000000000) (hls : ls.length ≤ 100000000) {qa qb : Nat × Nat} (HBT : Bat w c qa qb vb batch) (hqq : Apart k kl qa qb) (hl : batch.length ≤ 1000000000) (hb : ∀ r ∈ batch, r.length ≤ 1000000000) (hg : good batch = true)
    (er : Int) (m1 : ADisk) (ht : trimD m nm size = (er, m1)) (hne0 : ¬ er = 0) :
    Calls Tryz.prog 17 #[ptr lb, vb] w fun e w' => e = .returned (.int .i64 er) ∧ ∃ c', Cx w c c' ∧ Kp c (fun q => q.1 = k ∨ q.1 = kl) w w' ∧ DiskAt w' c' k d m1 ∧
      LogAt w' c' kl lb d nm vl ls size true := by
  have e0 := L.c0; have e1 := L.c1; have e2 := L.c2; have e3 := L.c3; have e5 := L.c5
  obtain ⟨xs, hxs⟩ := L.own
  obtain ⟨ao, ko, rfl⟩ := own_shape1 hxs.1
  clear hxs
  have HIS := Lib.hid (wis_one w lb e0)
  have HEN := Lib.hid (encode_good (c := c) qa qb vb batch ls.length HBT hl hb (by omega) hg)
  have hel := enc_length kec_length ls.length batch
  have hsum := (good_length hg).2.2.2
  obtain ⟨E, hE⟩ : ∃ E, E = enc kec ls.length batch := ⟨_, rfl⟩
  rw [← hE] at HEN hel
  have hEl : E.length ≤ 16777300 := by omega
  have hE0 : 0 < E.length := by omega
  have HLB := Lib.hid hl; have HBL := Lib.hid (show ∀ r ∈ batch, r.length ≤ lim from fun r hr => by have := hb r hr; unfold lim; omega)
  obtain ⟨i0, hi0, hz0, hz1, hz2⟩ := info_batch
  have H6 := Lib.hid hi0; have H7 := Lib.hid hz0; have H8 := Lib.hid hz1; have H9 := Lib.hid hz2; clear hi0 hz0 hz1 hz2
  have HT := Lib.hid ht; clear ht
  have hne : (er == 0) = false := by simpa using hne0
  clear hne0
  have HE := Lib.hid hE; have HL := Lib.hid L; have HD := Lib.hid DD; have HB := Lib.hid HBT; have HQQ := Lib.hid hqq
  clear hE L DD HBT hqq hel hsum hb hl hg
  unfold ptr at HIS e1 ⊢
  unfold str at e2
  simp only [nth] at e5
  go_enter Tryz.func17, Tryz.ntmps17
  go_wp2_with (first
    | (go_at_call 67; refine HIS.out.mono ?_; rintro _ w1 ⟨rfl, rfl⟩)
    | (go_at_call 53; refine HEN.out.mono ?_; rintro _ w2 ⟨vE, rfl, ho2, hf2, hk2⟩; obtain ⟨gE, cE, rfl, _, _⟩ := own_pos1 (by simpa using ho2) (show 0 < E.length from hE0); have HO2 := Lib.hid ho2; have HF2 := Lib.hid hf2; have HK2 := Lib.hid hk2; have L2 := HL.out.kp (hk2 c (fun _ => False)) (fun h => h) (fun h => h) (fun h => h) (Cx.refl _ _); have g1 := L2.c1; have g2 := L2.c2; have g5 := L2.c5; have gf := L2.fz; have HL2 := Lib.hid L2; unfold ptr at g1; unfold str at g2; simp only [nth] at g5; clear ho2 hf2 hk2 L2)
    | (go_at_call 60; have htr := trim_c k m w2 (HL.out.kp (HK2.out c (fun _ => False)) (fun h => h) (fun h => h) (fun h => h) (newCol_cx w c (0, 0))) (HD.out.kp (HK2.out c (fun _ => False)) (fun _ h => h.elim) (newCol_cx w c (0, 0))) hk0 hkl (by omega) hn; rw [HT.out] at htr; unfold ptr at htr; refine htr.mono ?_; rintro _ wt ⟨rfl, ct, hct, hkt, hdt, hlt⟩; have HCT := Lib.hid hct; have HKT := Lib.hid hkt; have HDT := Lib.hid hdt; have HLT := Lib.hid hlt; clear hct hkt hdt hlt htr g1 g2 g5 gf))
  go_ret
  exact ⟨rfl, ct, (newCol_cx w c (0, 0)).trans HCT.out (HK2.out c (fun _ => False)).size, (HK2.out c _).trans (HKT.out.mono (fun q h => Or.inl h)) (newCol_cx w c (0, 0)), HDT.out, HLT.out⟩
theorem append_bad_c (w : World) (vb : Value) (batch : List Bs) (L : LogAt w c kl lb d nm vl ls size dirty) {qa qb : Nat × Nat} (HBT : Bat w c qa qb vb batch) (hl : batch.length ≤ 1000000000) (hb : ∀ r ∈ batch, r.length ≤ 1000000000) (hg : good batch = false) :
    Calls Tryz.prog 17 #[ptr lb, vb] w fun e w' => e = .returned (.int .i64 102) ∧ w' = w := by
  have e0 := L.c0; have e3 := L.c3
  obtain ⟨xs, hxs⟩ := L.own
  obtain ⟨ao, ko, rfl⟩ := own_shape1 hxs.1
  have HIS := Lib.hid (wis_one w lb e0)
  have HEN := Lib.hid (encode_bad (c := c) qa qb vb batch ls.length HBT hl hb hg)
  clear hxs L HBT hl hb hg
  unfold ptr at HIS ⊢
  go_enter Tryz.func17, Tryz.ntmps17
  go_wp2_with (first
    | (go_at_call 67; refine HIS.out.mono ?_; rintro _ w1 ⟨rfl, rfl⟩)
    | (go_at_call 53; refine HEN.out.mono ?_; rintro _ w2 ⟨rfl, hw⟩; obtain rfl := hw.symm))
  go_ret
  exact ⟨rfl, rfl⟩
end Go.Proofs.YtnifmoigalmcmaaGreat
/- wal.Reset. -/
namespace Go.Proofs.YtnifmoigalmcmaaGreat
open Go Go.RowKit Dk
open Wl
variable {c c' : Col} {w w' : World} {S : Nat × Nat → Prop} {q : Nat × Nat}
variable {kl lb d : Nat} {nm : Nm} {vl : Value} {ls : List (List Bs)} {size : Nat} {dirty : Bool}
/-- A log is emptied. -/
theorem LogAt.empty (h : LogAt w c kl lb d nm vl ls size dirty) : LogAt ((w.setCell ⟨lb, 3, none⟩ (.slice none 0 0)).setCell ⟨lb, 4, none⟩ (.int .i64 0)) c kl lb d nm (.slice none 0 0) [] 0 dirty := by
  obtain ⟨a, e, _, _⟩ := h
  refine ⟨?_, e, ⟨[], World.ownsRow_nil _ _ _ _, fun i x y hx => by simp at hx⟩, fun g hg => by cases hg⟩
  have := heap_setCell (heap_setCell a 3 (.slice none 0 0)) 4 (.int .i64 0)
  rw [this]
  simp
set_option maxRecDepth 20000 in
set_option maxHeartbeats 2000000 in
theorem reset_ill1 (k : Nat) (m : ADisk) (w : World) (L : LogAt w c kl lb d nm vl ls size dirty) (DD : DiskAt w c k d m) (hk0 : k ≠ 0) (hkl : kl ≠ k) (hkl0 : kl ≠ 0) (hops : m.ops < 899990) (hn : nm.length ≤ maxLen)
    (er : Int) (m1 : ADisk) (h1 : truncate m nm 0 = (er, m1)) (hne0 : ¬ er = 0) :
    Calls Tryz.prog 19 #[ptr lb] w fun e w' => e = .returned (.int .i64 er) ∧ ∃ c', Cx w c c' ∧ Kp c (fun q => q.1 = k ∨ q.1 = kl) w w' ∧ DiskAt w' c' k d m1 ∧ LogAt w' c' kl lb d nm vl ls size true := by
  have e0 := L.c0; have a1 := L.c1; have a2 := L.c2; have a5 := L.c5; have af := L.fz
  have HIS := Lib.hid (wis_one w lb e0)
  have L3 := L.mark hkl0 true
  have kM : Kp c (· = (kl, 0)) w (w.setCell ⟨lb, 5, none⟩ (.int .i64 (nth true))) := (Kp.refl c _ w).setCell (fun _ => L.col) _
  have D3 := DD.kp kM (fun q hq => by rw [hq]; exact ⟨hkl, by simp; exact hkl0⟩) (Cx.refl _ _)
  have K3 : Kp c (fun q => q.1 = k ∨ q.1 = kl) w (w.setCell ⟨lb, 5, none⟩ (.int .i64 (nth true))) := kM.mono (fun q h => Or.inr (by rw [h]))
  obtain ⟨w3, hw3⟩ : ∃ w3, w3 = w.setCell ⟨lb, 5, none⟩ (.int .i64 (nth true)) := ⟨_, rfl⟩
  rw [← hw3] at L3 D3 K3
  have htr := truncate_c k d m nm 0 w3.drew (D3.kp ((Kp.refl c (fun _ => False) w3).drew) (fun _ h => h.elim) (Cx.refl _ _)) hk0 (by omega) hn
  rw [h1] at htr
  have hne : (er == 0) = false := by simpa using hne0
  clear hne0
  have HTR := Lib.hid htr; have HL3 := Lib.hid L3; have HK3 := Lib.hid K3; have HW3 := Lib.hid hw3
  have f1 := L3.c1; have f2 := L3.c2; have f5 := L3.c5; have ff := L3.fz
  clear htr L DD L3 D3 kM K3 h1 hw3
  unfold ptr at HIS HTR a1 f1 ⊢
  unfold str at HTR a2 f2
  simp only [nth] at f5
  go_enter Tryz.func19, Tryz.ntmps19
  go_wp2_with (first
    | (go_at_call 67; refine HIS.out.mono ?_; rintro _ w1 ⟨rfl, rfl⟩))
  rw [show w.setCell ⟨lb, 5, none⟩ (.int .i64 1) = w3 from HW3.out.symm]
  clear a1 a2 a5 af e0
  go_still_tail 8, (by kernel_rfl)
  change wpList _ _ _ _ _ w3.drew
  go_wp2_with (first
    | (go_at_call 72; refine HTR.out.mono ?_; rintro _ w4 ⟨rfl, c4, hc4, hk4, hd4⟩; have HC4 := Lib.hid hc4; have HK4 := Lib.hid hk4; have HD4 := Lib.hid hd4; have L4 := HL3.out.drew.kp hk4 (by simp; exact hkl) (by simp; exact hkl) (by simp; exact fun h => hk0 h.symm) hc4; have HL4 := Lib.hid L4; clear hc4 hk4 hd4 L4))
  go_ret
  exact ⟨rfl, c4, (Cx.refl w c).trans HC4.out HK3.out.size, HK3.out.drew.trans (HK4.out.mono (fun q h => Or.inl h)) (Cx.refl _ _), HD4.out, HL4.out⟩
set_option maxRecDepth 20000 in
set_option maxHeartbeats 2000000 in
theorem reset_ill2 (k : Nat) (m : ADisk) (w : World) (L : LogAt w c kl lb d nm vl ls size dirty) (DD : DiskAt w c k d m) (hk0 : k ≠ 0) (hkl : kl ≠ k) (hkl0 : kl ≠ 0) (hops : m.ops < 899990) (hn : nm.length ≤ maxLen)
    (er : Int) (m1 m2 : ADisk) (h1 : truncate m nm 0 = (0, m1)) (h2 : sync m1 nm = (er, m2)) (hne0 : ¬ er = 0) :
    Calls Tryz.prog 19 #[ptr lb] w fun e w' => e = .returned (.int .i64 er) ∧ ∃ c', Cx w c c' ∧ Kp c (fun q => q.1 = k ∨ q.1 = kl) w w' ∧ DiskAt w' c' k d m2 ∧ LogAt w' c' kl lb d nm (.slice none 0 0) [] 0 true := by
  have e0 := L.c0; have a1 := L.c1; have a2 := L.c2; have a5 := L.c5; have af := L.fz
  have HIS := Lib.hid (wis_one w lb e0)
  have L3 := L.mark hkl0 true
  have kM : Kp c (· = (kl, 0)) w (w.setCell ⟨lb, 5, none⟩ (.int .i64 (nth true))) := (Kp.refl c _ w).setCell (fun _ => L.col) _
  have D3 := DD.kp kM (fun q hq => by rw [hq]; exact ⟨hkl, by simp; exact hkl0⟩) (Cx.refl _ _)
  have K3 : Kp c (fun q => q.1 = k ∨ q.1 = kl) w (w.setCell ⟨lb, 5, none⟩ (.int .i64 (nth true))) := kM.mono (fun q h => Or.inr (by rw [h]))
  obtain ⟨w3, hw3⟩ : ∃ w3, w3 = w.setCell ⟨lb, 5, none⟩ (.int .i64 (nth true)) := ⟨_, rfl⟩
  rw [← hw3] at L3 D3 K3
  have htr := truncate_c k d m nm 0 w3.drew (D3.kp ((Kp.refl c (fun _ => False) w3).drew) (fun _ h => h.elim) (Cx.refl _ _)) hk0 (by omega) hn
  rw [h1] at htr
  have hto := truncate_ops m nm 0
  rw [h1] at hto
  have hto : m1.ops ≤ m.ops + 1 := hto
  have H2 := Lib.hid h2
  clear h2
  have hne : (er == 0) = false := by simpa using hne0
  clear hne0
  have HTR := Lib.hid htr; have HL3 := Lib.hid L3; have HK3 := Lib.hid K3; have HW3 := Lib.hid hw3
  have f1 := L3.c1; have f2 := L3.c2; have f5 := L3.c5; have ff := L3.fz
  clear htr L DD L3 D3 kM K3 h1 hw3
  unfold ptr at HIS HTR a1 f1 ⊢
  unfold str at HTR a2 f2
  simp only [nth] at f5
  go_enter Tryz.func19, Tryz.ntmps19
  go_wp2_with (first
    | (go_at_call 67; refine HIS.out.mono ?_; rintro _ w1 ⟨rfl, rfl⟩))
  rw [show w.setCell ⟨lb, 5, none⟩ (.int .i64 1) = w3 from HW3.out.symm]
  clear a1 a2 a5 af e0
  go_still_tail 8, (by kernel_rfl)
  change wpList _ _ _ _ _ w3.drew
  go_wp2_with (first
    | (go_at_call 72; refine HTR.out.mono ?_; rintro _ w4 ⟨rfl, c4, hc4, hk4, hd4⟩; have HC4 := Lib.hid hc4; have HK4 := Lib.hid hk4; have HD4 := Lib.hid hd4; have L4 := HL3.out.drew.kp hk4 (by simp; exact hkl) (by simp; exact hkl) (by simp; exact fun h => hk0 h.symm) hc4; have HL4 := Lib.hid L4; have j1 := L4.c1; have j2 := L4.c2; have j3 := L4.c3; have j4 := L4.c4; have j5 := L4.c5; have jf := L4.fz; unfold ptr at j1; unfold str at j2; simp only [nth] at j5; obtain ⟨xv, hxv, -⟩ := L4.own; obtain ⟨av, kv, rfl⟩ := own_shape1 hxv; clear hxv; clear hc4 hk4 hd4 L4))
  have L5 := HL4.out.empty
  have kE : Kp c4 (· = (kl, 0)) w4 ((w4.setCell ⟨lb, 3, none⟩ (.slice none 0 0)).setCell ⟨lb, 4, none⟩ (.int .i64 0)) := ((Kp.refl c4 _ w4).setCell (fun _ => HL4.out.col) _).setCell (fun _ => HL4.out.col) _
  have D5 := HD4.out.kp kE (fun q hq => by rw [hq]; exact ⟨hkl, by simp; exact hkl0⟩) (Cx.refl _ _)
  obtain ⟨w5, hw5⟩ : ∃ w5, w5 = (w4.setCell ⟨lb, 3, none⟩ (.slice none 0 0)).setCell ⟨lb, 4, none⟩ (.int .i64 0) := ⟨_, rfl⟩
  rw [← hw5] at L5 kE D5 ⊢
  have hsy := sync_c k d m1 nm w5.drew (D5.kp ((Kp.refl c4 (fun _ => False) w5).drew) (fun _ h => h.elim) (Cx.refl _ _)) hk0 (by omega) hn
  rw [H2.out] at hsy
  have HSY := Lib.hid hsy; have HL5 := Lib.hid L5; have HKE := Lib.hid kE
  have l1 := L5.c1; have l2 := L5.c2; have l5 := L5.c5; have lf := L5.fz
  clear hsy L5 kE D5 hw5 j1 j2 j3 j4 j5 jf f1 f2 f5 ff
  unfold ptr at l1 HSY
  unfold str at l2 HSY
  simp only [nth] at l5
  go_still_tail 8, (by kernel_rfl)
  change wpList _ _ _ _ _ w5.drew
  go_wp2_with (first
    | (go_at_call 68; refine HSY.out.mono ?_; rintro _ w6 ⟨rfl, c6, hc6, hk6, hd6⟩; have HC6 := Lib.hid hc6; have HK6 := Lib.hid hk6; have HD6 := Lib.hid hd6; have L6 := HL5.out.drew.kp hk6 (by simp; exact hkl) (by simp; exact hkl) (by simp; exact fun h => hk0 h.symm) hc6; have HL6 := Lib.hid L6; clear hc6 hk6 hd6 L6))
  go_ret
  have cx4 : Cx w c c4 := (Cx.refl w c).trans HC4.out HK3.out.size
  have k5 : Kp c (fun q => q.1 = k ∨ q.1 = kl) w w5 := (HK3.out.drew.trans (HK4.out.mono (fun q h => Or.inl h)) (Cx.refl _ _)).trans (HKE.out.mono (fun q h => Or.inr (by rw [h]))) cx4
  have cx6 : Cx w c c6 := cx4.trans HC6.out k5.size
  have k6 : Kp c (fun q => q.1 = k ∨ q.1 = kl) w w6 := k5.drew.trans (HK6.out.mono (fun q h => Or.inl h)) cx4
  exact ⟨rfl, c6, cx6, k6, HD6.out, HL6.out⟩
set_option maxRecDepth 20000 in
set_option maxHeartbeats 2000000 in
theorem reset_c (k : Nat) (m : ADisk) (w : World) (L : LogAt w c kl lb d nm vl ls size dirty) (DD : DiskAt w c k d m) (hk0 : k ≠ 0) (hkl : kl ≠ k) (hkl0 : kl ≠ 0) (hops : m.ops < 899990) (hn : nm.length ≤ maxLen)
    (m1 m2 : ADisk) (h1 : truncate m nm 0 = (0, m1)) (h2 : sync m1 nm = (0, m2)) :
    Calls Tryz.prog 19 #[ptr lb] w fun e w' => e = .returned (.int .i64 0) ∧ ∃ c', Cx w c c' ∧ Kp c (fun q => q.1 = k ∨ q.1 = kl) w w' ∧ DiskAt w' c' k d m2 ∧ LogAt w' c' kl lb d nm (.slice none 0 0) [] 0 false := by
  have e0 := L.c0; have a1 := L.c1; have a2 := L.c2; have a5 := L.c5; have af := L.fz
  have HIS := Lib.hid (wis_one w lb e0)
  have L3 := L.mark hkl0 true
  have kM : Kp c (· = (kl, 0)) w (w.setCell ⟨lb, 5, none⟩ (.int .i64 (nth true))) := (Kp.refl c _ w).setCell (fun _ => L.col) _
  have D3 := DD.kp kM (fun q hq => by rw [hq]; exact ⟨hkl, by simp; exact hkl0⟩) (Cx.refl _ _)
  have K3 : Kp c (fun q => q.1 = k ∨ q.1 = kl) w (w.setCell ⟨lb, 5, none⟩ (.int .i64 (nth true))) := kM.mono (fun q h => Or.inr (by rw [h]))
  obtain ⟨w3, hw3⟩ : ∃ w3, w3 = w.setCell ⟨lb, 5, none⟩ (.int .i64 (nth true)) := ⟨_, rfl⟩
  rw [← hw3] at L3 D3 K3
  have htr := truncate_c k d m nm 0 w3.drew (D3.kp ((Kp.refl c (fun _ => False) w3).drew) (fun _ h => h.elim) (Cx.refl _ _)) hk0 (by omega) hn
  rw [h1] at htr
  have hto := truncate_ops m nm 0
  rw [h1] at hto
  have hto : m1.ops ≤ m.ops + 1 := hto
  have H2 := Lib.hid h2
  clear h2
  have HTR := Lib.hid htr; have HL3 := Lib.hid L3; have HK3 := Lib.hid K3; have HW3 := Lib.hid hw3
  have f1 := L3.c1; have f2 := L3.c2; have f5 := L3.c5; have ff := L3.fz
  clear htr L DD L3 D3 kM K3 h1 hw3
  unfold ptr at HIS HTR a1 f1 ⊢
  unfold str at HTR a2 f2
  simp only [nth] at f5
  go_enter Tryz.func19, Tryz.ntmps19
  go_wp2_with (first
    | (go_at_call 67; refine HIS.out.mono ?_; rintro _ w1 ⟨rfl, rfl⟩))
  rw [show w.setCell ⟨lb, 5, none⟩ (.int .i64 1) = w3 from HW3.out.symm]
  clear a1 a2 a5 af e0
  go_still_tail 8, (by kernel_rfl)
  change wpList _ _ _ _ _ w3.drew
  go_wp2_with (first
    | (go_at_call 72; refine HTR.out.mono ?_; rintro _ w4 ⟨rfl, c4, hc4, hk4, hd4⟩; have HC4 := Lib.hid hc4; have HK4 := Lib.hid hk4; have HD4 := Lib.hid hd4; have L4 := HL3.out.drew.kp hk4 (by simp; exact hkl) (by simp; exact hkl) (by simp; exact fun h => hk0 h.symm) hc4; have HL4 := Lib.hid L4; have j1 := L4.c1; have j2 := L4.c2; have j3 := L4.c3; have j4 := L4.c4; have j5 := L4.c5; have jf := L4.fz; unfold ptr at j1; unfold str at j2; simp only [nth] at j5; obtain ⟨xv, hxv, -⟩ := L4.own; obtain ⟨av, kv, rfl⟩ := own_shape1 hxv; clear hxv; clear hc4 hk4 hd4 L4))
  have L5 := HL4.out.empty
  have kE : Kp c4 (· = (kl, 0)) w4 ((w4.setCell ⟨lb, 3, none⟩ (.slice none 0 0)).setCell ⟨lb, 4, none⟩ (.int .i64 0)) := ((Kp.refl c4 _ w4).setCell (fun _ => HL4.out.col) _).setCell (fun _ => HL4.out.col) _
  have D5 := HD4.out.kp kE (fun q hq => by rw [hq]; exact ⟨hkl, by simp; exact hkl0⟩) (Cx.refl _ _)
  obtain ⟨w5, hw5⟩ : ∃ w5, w5 = (w4.setCell ⟨lb, 3, none⟩ (.slice none 0 0)).setCell ⟨lb, 4, none⟩ (.int .i64 0) := ⟨_, rfl⟩
  rw [← hw5] at L5 kE D5 ⊢
  have hsy := sync_c k d m1 nm w5.drew (D5.kp ((Kp.refl c4 (fun _ => False) w5).drew) (fun _ h => h.elim) (Cx.refl _ _)) hk0 (by omega) hn
  rw [H2.out] at hsy
  have HSY := Lib.hid hsy; have HL5 := Lib.hid L5; have HKE := Lib.hid kE
  have l1 := L5.c1; have l2 := L5.c2; have l5 := L5.c5; have lf := L5.fz
  clear hsy L5 kE D5 hw5 j1 j2 j3 j4 j5 jf f1 f2 f5 ff
  unfold ptr at l1 HSY
  unfold str at l2 HSY
  simp only [nth] at l5
  go_still_tail 8, (by kernel_rfl)
  change wpList _ _ _ _ _ w5.drew
  go_wp2_with (first
    | (go_at_call 68; refine HSY.out.mono ?_; rintro _ w6 ⟨rfl, c6, hc6, hk6, hd6⟩; have HC6 := Lib.hid hc6; have HK6 := Lib.hid hk6; have HD6 := Lib.hid hd6; have L6 := HL5.out.drew.kp hk6 (by simp; exact hkl) (by simp; exact hkl) (by simp; exact fun h => hk0 h.symm) hc6; have HL6 := Lib.hid L6; have n5 := L6.c5; have nf := L6.fz; simp only [nth] at n5; clear hc6 hk6 hd6 L6))
  go_ret
  have cx4 : Cx w c c4 := (Cx.refl w c).trans HC4.out HK3.out.size
  have k5 : Kp c (fun q => q.1 = k ∨ q.1 = kl) w w5 := (HK3.out.drew.trans (HK4.out.mono (fun q h => Or.inl h)) (Cx.refl _ _)).trans (HKE.out.mono (fun q h => Or.inr (by rw [h]))) cx4
  have cx6 : Cx w c c6 := cx4.trans HC6.out k5.size
  have k6 : Kp c (fun q => q.1 = k ∨ q.1 = kl) w w6 := k5.drew.trans (HK6.out.mono (fun q h => Or.inl h)) cx4
  have kM : Kp c6 (· = (kl, 0)) w6 (w6.setCell ⟨lb, 5, none⟩ (.int .i64 (nth false))) := (Kp.refl c6 _ w6).setCell (fun _ => HL6.out.col) _
  exact ⟨rfl, c6, cx6, k6.trans (kM.mono (fun q h => Or.inr (by rw [h]))) cx6, HD6.out.kp kM (fun q hq => by rw [hq]; exact ⟨hkl, by simp; exact hkl0⟩) (Cx.refl _ _), HL6.out.mark hkl0 false⟩
end Go.Proofs.YtnifmoigalmcmaaGreat
/- A disk that nobody made: what each function answers. -/
namespace Go.Proofs.YtnifmoigalmcmaaGreat
open Go Go.RowKit Go.MapKept Go.Maps
open Dk
end Go.Proofs.YtnifmoigalmcmaaGreat
