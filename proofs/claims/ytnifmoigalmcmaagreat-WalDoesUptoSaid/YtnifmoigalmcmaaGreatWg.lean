/- The document's Append. -/
import Derived.Test.YtnifmoigalmcmaaGreatWf
import Derived.Test.YtnifmoigalmcmaaGreatWa
import Derived.Test.YtnifmoigalmcmaaGreatYo
namespace Go.Proofs.YtnifmoigalmcmaaGreat
open Go Go.RowKit Dk
open Wl
variable {c c' : Col} {w w' : World} {S : Nat × Nat → Prop} {q : Nat × Nat}
variable {kl lb r k : Nat} {nm : Nm} {vl vb : Value} {m : ADisk} {g : Lg} {ls : List (List Bs)} {size : Nat} {torn : Bool} {batch : List Bs}
theorem RD.drew {k r : Nat} (h : RD w c k r m) : RD w.drew c k r m := h.kp ((Kp.refl c (fun _ => False) w).drew) (fun _ h => h.elim) (Cx.refl _ _)
theorem log_keep {w6 w9 : World} {o : Obj} (L : RLogAt w6 c kl lb r nm vl ls size torn) (hg : (w6.alloc o).grownBy w9 vl.ownBlock) : w9.heap[lb]? = some (.cells #[ptr r, str nm, vl, .int .i64 size, .bool torn] 126 (0, 0)) := by
  have h2 := heap_alloc_old o L.heap
  rw [← h2]
  refine hg.block _ (lt_of_heap h2) (fun e => ?_)
  have := L.ocol lb e.symm
  rw [L.col] at this; cases this
set_option maxRecDepth 20000 in
theorem rapp_bad (w : World) (hq : QL w c vb batch) (hl : batch.length ≤ 1000000000) (hb : ∀ r ∈ batch, r.length ≤ 1000000000) (hg : good batch = false) :
    Calls Tryz.prog 18 #[ptr lb, vb] w fun e w' => e = .returned (.int .i64 102) ∧ w' = w := by
  have HM := Lib.hid (GoodW_c (0, 0) (0, 0) vb batch hq.wide hl hb); rw [hg] at HM
  clear hq hb hg
  unfold ptr
  go_enter Tryz.func18, Tryz.ntmps18
  go_wp2_with (go_at_call 70; refine HM.out.mono ?_; rintro _ w1 ⟨rfl, hw⟩; obtain rfl := hw.symm)
  go_ret
  exact ⟨rfl, rfl⟩
set_option maxRecDepth 20000 in
set_option maxHeartbeats 2000000 in
theorem rapp_a (w : World) (L : RLogAt w c kl lb r nm vl ls size false) (DD : RD w c k r m) (hk0 : k ≠ 0) (hkl : kl ≠ k) (hkl0 : kl ≠ 0) (hops : m.ops < 899980)
    (_hsz : size ≤ 1000000000) (hls : ls.length ≤ 100000000) (hq : QL w c vb batch) (hl : batch.length ≤ 1000000000) (hb : ∀ r ∈ batch, r.length ≤ 1000000000) (hg : good batch = true)
    (er : Int) (m3 : ADisk) (h3 : append m nm (enc kec ls.length batch) = (er, m3)) (hne0 : ¬ er = 0) :
    Calls Tryz.prog 18 #[ptr lb, vb] w (RLPost k kl r lb nm (er, m3, ⟨ls, size, true⟩) c w) := by
  have HM := Lib.hid (GoodW_c (0, 0) (0, 0) vb batch hq.wide hl hb); rw [hg] at HM
  obtain ⟨xs0, hxs0, -⟩ := L.own
  obtain ⟨ao, ko, rfl⟩ := own_shape1 hxs0
  obtain ⟨ab, kb, rfl⟩ := hq.shape
  clear hxs0
  have hen := fun W C (hW : QL W C (.slice ab batch.length kb) batch) => rencode_good (0, 0) (0, 0) (.slice ab batch.length kb) batch ls.length hW.wide hl hb (by omega) hg
  have hel := enc_length kec_length ls.length batch
  have hsum := (good_length hg).2.2.2
  obtain ⟨E, hE⟩ : ∃ E, E = enc kec ls.length batch := ⟨_, rfl⟩
  rw [← hE] at hel h3
  simp only [← hE] at hen
  have hEl : E.length ≤ 16777300 := by omega
  have hE0 : 0 < E.length := by omega
  clear hE hel hsum hb hl hg
  obtain ⟨i0, hi0, hz0, hz1, hz2⟩ := info_batch
  have J6 := Lib.hid hi0; have J7 := Lib.hid hz0; have J8 := Lib.hid hz1; have J9 := Lib.hid hz2; clear hi0 hz0 hz1 hz2
  have HEN := Lib.hid hen; clear hen
  have HLW := Lib.hid L; have HDW := Lib.hid DD; have HQW := Lib.hid hq; have HCW := Lib.hid (Cx.refl w c); have HKW := Lib.hid (Kp.refl c (fun q => q.1 = k ∨ q.1 = kl) w)
  have e4 := L.c4
  clear L DD hq
  unfold ptr
  go_enter Tryz.func18, Tryz.ntmps18
  have g0 := HLW.out.c0; have g1 := HLW.out.c1; have g2 := HLW.out.c2; have g4 := HLW.out.c4
  unfold ptr at g0
  unfold str at g1
  go_wp2_with (first
    | (go_at_call 70; refine HM.out.mono ?_; rintro _ w1 ⟨rfl, hw⟩; obtain rfl := hw.symm)
    | (go_at_call 71; refine (HEN.out _ _ HQW.out).mono ?_; rintro _ w4 ⟨vE, rfl, ho4, hf4, hk4⟩; obtain ⟨gE, cE, rfl, _, _⟩ := own_pos1 (by simpa using ho4) (show 0 < E.length from hE0); have HO4 := Lib.hid ho4; have HF4 := Lib.hid hf4; have HK4 := Lib.hid hk4; have L4 := HLW.out.kp (hk4 c (fun _ => False)) (fun h => h) (fun h => h) (fun h => h) (newCol_cx w c (0, 0)); have HL4 := Lib.hid L4; have j0 := L4.c0; have j1 := L4.c1; unfold ptr at j0; unfold str at j1; clear ho4 hf4 hk4 L4 g0 g1 g2 g4))
  obtain ⟨ca, hca⟩ : ∃ ca, ca = newCol w c (0, 0) := ⟨_, rfl⟩
  have hcx : Cx w c ca := by rw [hca]; exact newCol_cx _ _ _
  rw [← hca] at HL4
  have D4 := HDW.out.kp (HK4.out c (fun _ => False)) (fun _ h => h.elim) hcx
  have S4 := ((Sc.of_owns HO4.out (fun g hg => by rw [hca]; exact if_neg (Nat.not_lt.2 (HF4.out g hg))) : Sc w4 ca (0, 0) _ _).kp ((Kp.refl ca (fun _ => False) w4).drew) (fun h => h) (Cx.refl _ _)).wide
  have Q4 := QL.stays.stay HQW.out (HK4.out c (fun _ => False)) (fun h => h) hcx
  have c4 : Cx w c ca := HCW.out.trans hcx HKW.out.size
  have K4 := HKW.out.trans (HK4.out c _) HCW.out
  have hap := rappend_c k r m nm _ E w4.drew D4.drew hk0 (by omega) S4 (by simpa using fun h => hk0 h.symm) (by unfold lim; omega)
  rw [h3] at hap
  have hne : (er == 0) = false := by simpa using hne0
  unfold RPost at hap
  have HAP := Lib.hid hap; have HQ4 := Lib.hid Q4; have HC4 := Lib.hid c4; have HKK4 := Lib.hid K4
  clear hap hca hcx D4 S4 Q4 c4 K4 HO4 HF4 HK4 HLW HDW HQW HCW HKW HEN h3
  unfold ptr at HAP
  go_still_tail 9, (by kernel_rfl)
  change wpList _ _ _ _ _ w4.drew
  go_wp2_with (go_at_call 22; refine HAP.out.mono ?_; rintro _ w5 ⟨rfl, c5, hc5, hk5, hd5⟩; have HC5 := Lib.hid hc5; have HK5 := Lib.hid hk5; have HD5 := Lib.hid hd5; have L5 := HL4.out.drew.kp hk5 (by simp; exact hkl) (by simp; exact hkl) (by simp; exact fun h => hk0 h.symm) hc5; have HL5 := Lib.hid L5; have f4 := L5.c4; have ff := L5.fz; clear hc5 hk5 hd5 L5 j0 j1)
  go_ret
  have LM := HL5.out.mark hkl0 true
  have kM : Kp c5 (· = (kl, 0)) w5 (w5.setCell ⟨lb, 4, none⟩ (.bool true)) := (Kp.refl c5 _ w5).setCell (fun _ => HL5.out.col) _
  have cM : Cx w c c5 := HC4.out.trans HC5.out HKK4.out.drew.size
  exact ⟨rfl, c5, cM, ((HKK4.out.drew.trans (HK5.out.mono (fun q h => Or.inl h)) HC4.out) : Kp c (fun q => q.1 = k ∨ q.1 = kl) w w5).trans (kM.mono (fun q h => Or.inr (by rw [h]))) cM, HD5.out.kp kM (fun q hq => by rw [hq]; exact ⟨hkl, by simp; exact hkl0⟩) (Cx.refl _ _), _, LM⟩
set_option maxRecDepth 20000 in
set_option maxHeartbeats 2000000 in
theorem rapp_s (w : World) (L : RLogAt w c kl lb r nm vl ls size false) (DD : RD w c k r m) (hk0 : k ≠ 0) (hkl : kl ≠ k) (hkl0 : kl ≠ 0) (hops : m.ops < 899980)
    (_hsz : size ≤ 1000000000) (hls : ls.length ≤ 100000000) (hq : QL w c vb batch) (hl : batch.length ≤ 1000000000) (hb : ∀ r ∈ batch, r.length ≤ 1000000000) (hg : good batch = true)
    (er : Int) (m3 m4 : ADisk) (h3 : append m nm (enc kec ls.length batch) = (0, m3)) (h4 : sync m3 nm = (er, m4)) (hne0 : ¬ er = 0) :
    Calls Tryz.prog 18 #[ptr lb, vb] w (RLPost k kl r lb nm (er, m4, ⟨ls, size, true⟩) c w) := by
  have HM := Lib.hid (GoodW_c (0, 0) (0, 0) vb batch hq.wide hl hb); rw [hg] at HM
  obtain ⟨xs0, hxs0, -⟩ := L.own
  obtain ⟨ao, ko, rfl⟩ := own_shape1 hxs0
  obtain ⟨ab, kb, rfl⟩ := hq.shape
  clear hxs0
  have hen := fun W C (hW : QL W C (.slice ab batch.length kb) batch) => rencode_good (0, 0) (0, 0) (.slice ab batch.length kb) batch ls.length hW.wide hl hb (by omega) hg
  have hel := enc_length kec_length ls.length batch
  have hsum := (good_length hg).2.2.2
  obtain ⟨E, hE⟩ : ∃ E, E = enc kec ls.length batch := ⟨_, rfl⟩
  rw [← hE] at hel h3
  simp only [← hE] at hen
  have hEl : E.length ≤ 16777300 := by omega
  have hE0 : 0 < E.length := by omega
  clear hE hel hsum hb hl hg
  obtain ⟨i0, hi0, hz0, hz1, hz2⟩ := info_batch
  have J6 := Lib.hid hi0; have J7 := Lib.hid hz0; have J8 := Lib.hid hz1; have J9 := Lib.hid hz2; clear hi0 hz0 hz1 hz2
  have HEN := Lib.hid hen; clear hen
  have HLW := Lib.hid L; have HDW := Lib.hid DD; have HQW := Lib.hid hq; have HCW := Lib.hid (Cx.refl w c); have HKW := Lib.hid (Kp.refl c (fun q => q.1 = k ∨ q.1 = kl) w)
  have e4 := L.c4
  clear L DD hq
  unfold ptr
  go_enter Tryz.func18, Tryz.ntmps18
  have g0 := HLW.out.c0; have g1 := HLW.out.c1; have g2 := HLW.out.c2; have g4 := HLW.out.c4
  unfold ptr at g0
  unfold str at g1
  go_wp2_with (first
    | (go_at_call 70; refine HM.out.mono ?_; rintro _ w1 ⟨rfl, hw⟩; obtain rfl := hw.symm)
    | (go_at_call 71; refine (HEN.out _ _ HQW.out).mono ?_; rintro _ w4 ⟨vE, rfl, ho4, hf4, hk4⟩; obtain ⟨gE, cE, rfl, _, _⟩ := own_pos1 (by simpa using ho4) (show 0 < E.length from hE0); have HO4 := Lib.hid ho4; have HF4 := Lib.hid hf4; have HK4 := Lib.hid hk4; have L4 := HLW.out.kp (hk4 c (fun _ => False)) (fun h => h) (fun h => h) (fun h => h) (newCol_cx w c (0, 0)); have HL4 := Lib.hid L4; have j0 := L4.c0; have j1 := L4.c1; unfold ptr at j0; unfold str at j1; clear ho4 hf4 hk4 L4 g0 g1 g2 g4))
  obtain ⟨ca, hca⟩ : ∃ ca, ca = newCol w c (0, 0) := ⟨_, rfl⟩
  have hcx : Cx w c ca := by rw [hca]; exact newCol_cx _ _ _
  rw [← hca] at HL4
  have D4 := HDW.out.kp (HK4.out c (fun _ => False)) (fun _ h => h.elim) hcx
  have S4 := ((Sc.of_owns HO4.out (fun g hg => by rw [hca]; exact if_neg (Nat.not_lt.2 (HF4.out g hg))) : Sc w4 ca (0, 0) _ _).kp ((Kp.refl ca (fun _ => False) w4).drew) (fun h => h) (Cx.refl _ _)).wide
  have Q4 := QL.stays.stay HQW.out (HK4.out c (fun _ => False)) (fun h => h) hcx
  have c4 : Cx w c ca := HCW.out.trans hcx HKW.out.size
  have K4 := HKW.out.trans (HK4.out c _) HCW.out
  have hap := rappend_c k r m nm _ E w4.drew D4.drew hk0 (by omega) S4 (by simpa using fun h => hk0 h.symm) (by unfold lim; omega)
  rw [h3] at hap
  have hao := append_ops m nm E
  rw [h3] at hao
  have hao : m3.ops ≤ m.ops + 1 := hao
  have hsz2 := fun W C (hW : RD W C k r m3) => rsync_c k r m3 nm W hW hk0 (by omega)
  simp only [h4] at hsz2
  have HSZ := Lib.hid hsz2; clear hsz2
  unfold RPost at HSZ
  have hne : (er == 0) = false := by simpa using hne0
  unfold RPost at hap
  have HAP := Lib.hid hap; have HQ4 := Lib.hid Q4; have HC4 := Lib.hid c4; have HKK4 := Lib.hid K4
  clear hap hca hcx D4 S4 Q4 c4 K4 HO4 HF4 HK4 HLW HDW HQW HCW HKW HEN h3 h4
  unfold ptr at HAP
  go_still_tail 9, (by kernel_rfl)
  change wpList _ _ _ _ _ w4.drew
  go_wp2_with (go_at_call 22; refine HAP.out.mono ?_; rintro _ w5 ⟨rfl, c5, hc5, hk5, hd5⟩; have HC5 := Lib.hid hc5; have HK5 := Lib.hid hk5; have HD5 := Lib.hid hd5; have L5 := HL4.out.drew.kp hk5 (by simp; exact hkl) (by simp; exact hkl) (by simp; exact fun h => hk0 h.symm) hc5; have HL5 := Lib.hid L5; have f0 := L5.c0; have f1 := L5.c1; unfold ptr at f0; unfold str at f1; clear hc5 hk5 hd5 L5 j0 j1)
  go_still_tail 8, (by kernel_rfl)
  change wpList _ _ _ _ _ w5.drew
  go_wp2_with (go_at_call 66; refine (HSZ.out _ _ HD5.out.drew).mono ?_; rintro _ w6 ⟨rfl, c6, hc6, hk6, hd6⟩; have HC6 := Lib.hid hc6; have HK6 := Lib.hid hk6; have HD6 := Lib.hid hd6; have L6 := HL5.out.drew.kp hk6 (by simp; exact hkl) (by simp; exact hkl) (by simp; exact fun h => hk0 h.symm) hc6; have HL6 := Lib.hid L6; have f4 := L6.c4; have ff := L6.fz; clear hc6 hk6 hd6 L6 f0 f1)
  go_ret
  have LM := HL6.out.mark hkl0 true
  have kM : Kp c6 (· = (kl, 0)) w6 (w6.setCell ⟨lb, 4, none⟩ (.bool true)) := (Kp.refl c6 _ w6).setCell (fun _ => HL6.out.col) _
  have cM : Cx w c c6 := (HC4.out.trans HC5.out HKK4.out.drew.size).trans HC6.out ((HKK4.out.drew.trans (HK5.out.mono (fun q h => Or.inl h)) HC4.out) : Kp c (fun q => q.1 = k ∨ q.1 = kl) w w5).size
  exact ⟨rfl, c6, cM, (((HKK4.out.drew.trans (HK5.out.mono (fun q h => Or.inl h)) HC4.out).drew.trans (HK6.out.mono (fun q h => Or.inl h)) (HC4.out.trans HC5.out HKK4.out.drew.size)) : Kp c (fun q => q.1 = k ∨ q.1 = kl) w w6).trans (kM.mono (fun q h => Or.inr (by rw [h]))) cM, HD6.out.kp kM (fun q hq => by rw [hq]; exact ⟨hkl, by simp; exact hkl0⟩) (Cx.refl _ _), _, LM⟩
set_option maxRecDepth 20000 in
set_option maxHeartbeats 2000000 in
theorem rapp_ok (w : World) (L : RLogAt w c kl lb r nm vl ls size false) (DD : RD w c k r m) (hk0 : k ≠ 0) (hkl : kl ≠ k) (hkl0 : kl ≠ 0) (hops : m.ops < 899980)
    (_hsz : size ≤ 1000000000) (hls : ls.length ≤ 100000000) (hq : QL w c vb batch) (hl : batch.length ≤ 1000000000) (hb : ∀ r ∈ batch, r.length ≤ 1000000000) (hg : good batch = true)
    (m3 m4 : ADisk) (h3 : append m nm (enc kec ls.length batch) = (0, m3)) (h4 : sync m3 nm = (0, m4)) :
    Calls Tryz.prog 18 #[ptr lb, vb] w (RLPost k kl r lb nm (0, m4, ⟨ls ++ [batch], size + (enc kec ls.length batch).length, false⟩) c w) := by
  have HM := Lib.hid (GoodW_c (0, 0) (0, 0) vb batch hq.wide hl hb); rw [hg] at HM
  obtain ⟨xs0, hxs0, -⟩ := L.own
  obtain ⟨ao, ko, rfl⟩ := own_shape1 hxs0
  obtain ⟨ab, kb, rfl⟩ := hq.shape
  clear hxs0
  have hen := fun W C (hW : QL W C (.slice ab batch.length kb) batch) => rencode_good (0, 0) (0, 0) (.slice ab batch.length kb) batch ls.length hW.wide hl hb (by omega) hg
  have hel := enc_length kec_length ls.length batch
  have hsum := (good_length hg).2.2.2
  obtain ⟨E, hE⟩ : ∃ E, E = enc kec ls.length batch := ⟨_, rfl⟩
  rw [← hE] at hel ⊢ h3
  simp only [← hE] at hen
  have hEl : E.length ≤ 16777300 := by omega
  have hE0 : 0 < E.length := by omega
  clear hE hel hsum hb hl hg
  obtain ⟨i0, hi0, hz0, hz1, hz2⟩ := info_batch
  have J6 := Lib.hid hi0; have J7 := Lib.hid hz0; have J8 := Lib.hid hz1; have J9 := Lib.hid hz2; clear hi0 hz0 hz1 hz2
  have HEN := Lib.hid hen; clear hen
  have HLW := Lib.hid L; have HDW := Lib.hid DD; have HQW := Lib.hid hq; have HCW := Lib.hid (Cx.refl w c); have HKW := Lib.hid (Kp.refl c (fun q => q.1 = k ∨ q.1 = kl) w)
  have e4 := L.c4
  clear L DD hq
  unfold ptr
  go_enter Tryz.func18, Tryz.ntmps18
  have g0 := HLW.out.c0; have g1 := HLW.out.c1; have g2 := HLW.out.c2; have g4 := HLW.out.c4
  unfold ptr at g0
  unfold str at g1
  go_wp2_with (first
    | (go_at_call 70; refine HM.out.mono ?_; rintro _ w1 ⟨rfl, hw⟩; obtain rfl := hw.symm)
    | (go_at_call 71; refine (HEN.out _ _ HQW.out).mono ?_; rintro _ w4 ⟨vE, rfl, ho4, hf4, hk4⟩; obtain ⟨gE, cE, rfl, _, _⟩ := own_pos1 (by simpa using ho4) (show 0 < E.length from hE0); have HO4 := Lib.hid ho4; have HF4 := Lib.hid hf4; have HK4 := Lib.hid hk4; have L4 := HLW.out.kp (hk4 c (fun _ => False)) (fun h => h) (fun h => h) (fun h => h) (newCol_cx w c (0, 0)); have HL4 := Lib.hid L4; have j0 := L4.c0; have j1 := L4.c1; unfold ptr at j0; unfold str at j1; clear ho4 hf4 hk4 L4 g0 g1 g2 g4))
  obtain ⟨ca, hca⟩ : ∃ ca, ca = newCol w c (0, 0) := ⟨_, rfl⟩
  have hcx : Cx w c ca := by rw [hca]; exact newCol_cx _ _ _
  rw [← hca] at HL4
  have D4 := HDW.out.kp (HK4.out c (fun _ => False)) (fun _ h => h.elim) hcx
  have S4 := ((Sc.of_owns HO4.out (fun g hg => by rw [hca]; exact if_neg (Nat.not_lt.2 (HF4.out g hg))) : Sc w4 ca (0, 0) _ _).kp ((Kp.refl ca (fun _ => False) w4).drew) (fun h => h) (Cx.refl _ _)).wide
  have Q4 := QL.stays.stay HQW.out (HK4.out c (fun _ => False)) (fun h => h) hcx
  have c4 : Cx w c ca := HCW.out.trans hcx HKW.out.size
  have K4 := HKW.out.trans (HK4.out c _) HCW.out
  have hap := rappend_c k r m nm _ E w4.drew D4.drew hk0 (by omega) S4 (by simpa using fun h => hk0 h.symm) (by unfold lim; omega)
  rw [h3] at hap
  have hao := append_ops m nm E
  rw [h3] at hao
  have hao : m3.ops ≤ m.ops + 1 := hao
  have hsz2 := fun W C (hW : RD W C k r m3) => rsync_c k r m3 nm W hW hk0 (by omega)
  simp only [h4] at hsz2
  have HSZ := Lib.hid hsz2; clear hsz2
  unfold RPost at HSZ
  unfold RPost at hap
  have HAP := Lib.hid hap; have HQ4 := Lib.hid Q4; have HC4 := Lib.hid c4; have HKK4 := Lib.hid K4
  clear hap hca hcx D4 S4 Q4 c4 K4 HO4 HF4 HK4 HLW HDW HQW HCW HKW HEN h3 h4
  unfold ptr at HAP
  go_still_tail 9, (by kernel_rfl)
  change wpList _ _ _ _ _ w4.drew
  go_wp2_with (go_at_call 22; refine HAP.out.mono ?_; rintro _ w5 ⟨rfl, c5, hc5, hk5, hd5⟩; have HC5 := Lib.hid hc5; have HK5 := Lib.hid hk5; have HD5 := Lib.hid hd5; have L5 := HL4.out.drew.kp hk5 (by simp; exact hkl) (by simp; exact hkl) (by simp; exact fun h => hk0 h.symm) hc5; have HL5 := Lib.hid L5; have f0 := L5.c0; have f1 := L5.c1; unfold ptr at f0; unfold str at f1; clear hc5 hk5 hd5 L5 j0 j1)
  go_still_tail 8, (by kernel_rfl)
  change wpList _ _ _ _ _ w5.drew
  go_wp2_with (first
    | (at_builtin; refine wpList_append2 rfl _ _ _ rfl 40 i0 (.slice none 0 0) 24 Tryz.underlying114 J6.out J7.out J8.out J9.out rfl (.slice ao ls.length ko) ls.length xs8 rfl HX8.out ⟨w6.heap.size, 0, none⟩ 1 1 [.slice ab batch.length kb] rfl rfl (one_new _ _ _) (fun u hu => by rw [List.mem_singleton.1 hu]; rfl) (by unfold maxLen; omega) (by omega) ?_; intro v9 w9 hown9 hg9 hf9; obtain ⟨a9, k9, rfl⟩ := own_shape1 hown9; have HO9 := Lib.hid hown9; have HG9 := Lib.hid hg9; have HF9 := Lib.hid hf9; have hh9 := (log_keep HL6.out hg9); have n2 := cell_of_heap hh9 2; have n3 := cell_of_heap hh9 3; have nf := unfrozen_of_heap hh9; have HX9 := Lib.hid HX8.out; clear HX8 hown9 hg9 hf9 hh9 f2 f3 ff)
    | (go_at_call 66; refine (HSZ.out _ _ HD5.out.drew).mono ?_; rintro _ w6 ⟨rfl, c6, hc6, hk6, hd6⟩; have HC6 := Lib.hid hc6; have HK6 := Lib.hid hk6; have HD6 := Lib.hid hd6; have L6 := HL5.out.drew.kp hk6 (by simp; exact hkl) (by simp; exact hkl) (by simp; exact fun h => hk0 h.symm) hc6; have HL6 := Lib.hid L6; have f2 := L6.c2; have f3 := L6.c3; have ff := L6.fz; obtain ⟨xs8, hx8, -⟩ := (L6.kp (S := fun _ => False) ((Kp.refl c6 _ w6).alloc (.cells #[.slice ab batch.length kb] 40)) (fun h => h) (fun h => h) (fun h => h) (Cx.refl _ _)).own; have HX8 := Lib.hid hx8; clear hx8; clear hc6 hk6 hd6 L6 f0 f1))
  have KW := (((HKK4.out.drew.trans (HK5.out.mono (fun q h => Or.inl h)) HC4.out).drew.trans (HK6.out.mono (fun q h => Or.inl h)) (HC4.out.trans HC5.out HKK4.out.drew.size)) : Kp c (fun q => q.1 = k ∨ q.1 = kl) w w6)
  have cW : Cx w c c6 := (HC4.out.trans HC5.out HKK4.out.drew.size).trans HC6.out ((HKK4.out.drew.trans (HK5.out.mono (fun q h => Or.inl h)) HC4.out) : Kp c (fun q => q.1 = k ∨ q.1 = kl) w w5).size
  have QW := QL.stays.stay (QL.stays.stay (QL.stays.stay (QL.stays.stay HQ4.out ((Kp.refl ca (fun _ => False) w4).drew) (fun h => h) (Cx.refl _ _)) HK5.out (by simp; exact fun h => hk0 h.symm) HC5.out) ((Kp.refl c5 (fun _ => False) w5).drew) (fun h => h) (Cx.refl _ _)) HK6.out (by simp; exact fun h => hk0 h.symm) HC6.out
  have HKW := Lib.hid KW; have HCW := Lib.hid cW; have HQW := Lib.hid QW
  clear KW cW QW HQ4 HC4 HKK4 HAP HSZ HC5 HK5 HD5 HL5 HC6 HK6 HL4
  go_ret
  obtain ⟨R1, R2, R3⟩ := rlog_push (n := E.length) HL6.out hkl0 HQW.out (fun c S => (Kp.refl c S w6).alloc _) HX9.out HO9.out HG9.out HF9.out
  exact ⟨rfl, _, HCW.out.trans R1 HKW.out.size, HKW.out.trans (R2.mono (fun q h => Or.inr h)) HCW.out, HD6.out.kp (R2.mono (S' := fun q => q.1 = kl) (fun q h => h)) (fun q hq => ⟨fun e => hkl (hq.symm.trans e), fun e => hkl0 (by rw [e] at hq; exact hq.symm)⟩) R1, _, R3⟩
set_option maxRecDepth 20000 in
set_option maxHeartbeats 2000000 in
theorem rapp_t1 (w : World) (L : RLogAt w c kl lb r nm vl ls size true) (DD : RD w c k r m) (hk0 : k ≠ 0) (hkl : kl ≠ k) (_hkl0 : kl ≠ 0) (hops : m.ops < 899980)
    (_hsz : size ≤ 1000000000) (_hls : ls.length ≤ 100000000) (hq : QL w c vb batch) (hl : batch.length ≤ 1000000000) (hb : ∀ r ∈ batch, r.length ≤ 1000000000) (hg : good batch = true)
    (er : Int) (m1 : ADisk) (h1 : truncate m nm size = (er, m1)) (hne0 : ¬ er = 0) :
    Calls Tryz.prog 18 #[ptr lb, vb] w (RLPost k kl r lb nm (er, m1, ⟨ls, size, true⟩) c w) := by
  have HM := Lib.hid (GoodW_c (0, 0) (0, 0) vb batch hq.wide hl hb); rw [hg] at HM
  obtain ⟨xs0, hxs0, -⟩ := L.own
  obtain ⟨ao, ko, rfl⟩ := own_shape1 hxs0
  obtain ⟨ab, kb, rfl⟩ := hq.shape
  clear hxs0
  clear hb hl hg
  have htr := rtruncate_c k r m nm size w.drew DD.drew hk0 (by omega)
  have hto := truncate_ops m nm size
  rw [h1] at htr hto
  have hto : m1.ops ≤ m.ops + 1 := hto
  have HTR := Lib.hid htr; have HL := Lib.hid L; have HD := Lib.hid DD; have HQ := Lib.hid hq
  have e0 := L.c0; have e1 := L.c1; have e3 := L.c3; have e4 := L.c4
  clear htr L DD hq
  clear h1
  have hne : (er == 0) = false := by simpa using hne0
  unfold ptr at HTR e0 ⊢
  unfold str at e1
  unfold RPost at HTR
  go_enter Tryz.func18, Tryz.ntmps18
  go_wp2_with (go_at_call 70; refine HM.out.mono ?_; rintro _ w1 ⟨rfl, hw⟩; obtain rfl := hw.symm)
  go_still_tail 12, (by kernel_rfl)
  change wpList _ _ _ _ _ w.drew
  go_wp2_with (go_at_call 65; refine HTR.out.mono ?_; rintro _ w2 ⟨rfl, c2, hc2, hk2, hd2⟩; have HC2 := Lib.hid hc2; have HK2 := Lib.hid hk2; have HD2 := Lib.hid hd2; have L2 := HL.out.drew.kp hk2 (by simp; exact hkl) (by simp; exact hkl) (by simp; exact fun h => hk0 h.symm) hc2; have HL2 := Lib.hid L2; clear hc2 hk2 hd2 L2)
  go_ret
  exact ⟨rfl, c2, HC2.out, (Kp.refl c _ w).drew.trans (HK2.out.mono (fun q h => Or.inl h)) (Cx.refl _ _), HD2.out, _, HL2.out⟩
set_option maxRecDepth 20000 in
set_option maxHeartbeats 2000000 in
theorem rapp_t2 (w : World) (L : RLogAt w c kl lb r nm vl ls size true) (DD : RD w c k r m) (hk0 : k ≠ 0) (hkl : kl ≠ k) (_hkl0 : kl ≠ 0) (hops : m.ops < 899980)
    (_hsz : size ≤ 1000000000) (_hls : ls.length ≤ 100000000) (hq : QL w c vb batch) (hl : batch.length ≤ 1000000000) (hb : ∀ r ∈ batch, r.length ≤ 1000000000) (hg : good batch = true)
    (er : Int) (m1 m2 : ADisk) (h1 : truncate m nm size = (0, m1)) (h2 : sync m1 nm = (er, m2)) (hne0 : ¬ er = 0) :
    Calls Tryz.prog 18 #[ptr lb, vb] w (RLPost k kl r lb nm (er, m2, ⟨ls, size, true⟩) c w) := by
  have HM := Lib.hid (GoodW_c (0, 0) (0, 0) vb batch hq.wide hl hb); rw [hg] at HM
  obtain ⟨xs0, hxs0, -⟩ := L.own
  obtain ⟨ao, ko, rfl⟩ := own_shape1 hxs0
  obtain ⟨ab, kb, rfl⟩ := hq.shape
  clear hxs0
  clear hb hl hg
  have htr := rtruncate_c k r m nm size w.drew DD.drew hk0 (by omega)
  have hto := truncate_ops m nm size
  rw [h1] at htr hto
  have hto : m1.ops ≤ m.ops + 1 := hto
  have hsy := fun W C (hW : RD W C k r m1) => rsync_c k r m1 nm W hW hk0 (by omega)
  have hso := sync_ops m1 nm
  simp only [h2] at hsy
  rw [h2] at hso
  have hso : m2.ops ≤ m1.ops + 1 := hso
  have HSY := Lib.hid hsy; clear hsy
  have HTR := Lib.hid htr; have HL := Lib.hid L; have HD := Lib.hid DD; have HQ := Lib.hid hq
  have e0 := L.c0; have e1 := L.c1; have e3 := L.c3; have e4 := L.c4
  clear htr L DD hq
  clear h1 h2
  have hne : (er == 0) = false := by simpa using hne0
  unfold ptr at HTR e0 ⊢
  unfold str at e1
  unfold RPost at HSY
  unfold RPost at HTR
  go_enter Tryz.func18, Tryz.ntmps18
  go_wp2_with (go_at_call 70; refine HM.out.mono ?_; rintro _ w1 ⟨rfl, hw⟩; obtain rfl := hw.symm)
  go_still_tail 12, (by kernel_rfl)
  change wpList _ _ _ _ _ w.drew
  go_wp2_with (go_at_call 65; refine HTR.out.mono ?_; rintro _ w2 ⟨rfl, c2, hc2, hk2, hd2⟩; have HC2 := Lib.hid hc2; have HK2 := Lib.hid hk2; have HD2 := Lib.hid hd2; have L2 := HL.out.drew.kp hk2 (by simp; exact hkl) (by simp; exact hkl) (by simp; exact fun h => hk0 h.symm) hc2; have HL2 := Lib.hid L2; have f0 := L2.c0; have f1 := L2.c1; unfold ptr at f0; unfold str at f1; clear hc2 hk2 hd2 L2)
  clear e0 e1 e3 e4
  go_still_tail 8, (by kernel_rfl)
  change wpList _ _ _ _ _ w2.drew
  go_wp2_with (go_at_call 66; refine (HSY.out _ _ HD2.out.drew).mono ?_; rintro _ w3 ⟨rfl, c3, hc3, hk3, hd3⟩; have HC3 := Lib.hid hc3; have HK3 := Lib.hid hk3; have HD3 := Lib.hid hd3; have L3 := HL2.out.drew.kp hk3 (by simp; exact hkl) (by simp; exact hkl) (by simp; exact fun h => hk0 h.symm) hc3; have HL3 := Lib.hid L3; clear hc3 hk3 hd3 L3)
  go_ret
  exact ⟨rfl, c3, HC2.out.trans HC3.out HK2.out.size, (((Kp.refl c _ w).drew.trans (HK2.out.mono (fun q h => Or.inl h)) (Cx.refl _ _)).drew.trans (HK3.out.mono (fun q h => Or.inl h)) HC2.out : Kp c (fun q => q.1 = k ∨ q.1 = kl) w w3), HD3.out, _, HL3.out⟩
set_option maxRecDepth 20000 in
set_option maxHeartbeats 2000000 in
theorem rapp_ta (w : World) (L : RLogAt w c kl lb r nm vl ls size true) (DD : RD w c k r m) (hk0 : k ≠ 0) (hkl : kl ≠ k) (hkl0 : kl ≠ 0) (hops : m.ops < 899980)
    (_hsz : size ≤ 1000000000) (hls : ls.length ≤ 100000000) (hq : QL w c vb batch) (hl : batch.length ≤ 1000000000) (hb : ∀ r ∈ batch, r.length ≤ 1000000000) (hg : good batch = true)
    (er : Int) (m1 m2 m3 : ADisk) (h1 : truncate m nm size = (0, m1)) (h2 : sync m1 nm = (0, m2)) (h3 : append m2 nm (enc kec ls.length batch) = (er, m3)) (hne0 : ¬ er = 0) :
    Calls Tryz.prog 18 #[ptr lb, vb] w (RLPost k kl r lb nm (er, m3, ⟨ls, size, true⟩) c w) := by
  have HM := Lib.hid (GoodW_c (0, 0) (0, 0) vb batch hq.wide hl hb); rw [hg] at HM
  obtain ⟨xs0, hxs0, -⟩ := L.own
  obtain ⟨ao, ko, rfl⟩ := own_shape1 hxs0
  obtain ⟨ab, kb, rfl⟩ := hq.shape
  clear hxs0
  have hen := fun W C (hW : QL W C (.slice ab batch.length kb) batch) => rencode_good (0, 0) (0, 0) (.slice ab batch.length kb) batch ls.length hW.wide hl hb (by omega) hg
  have hel := enc_length kec_length ls.length batch
  have hsum := (good_length hg).2.2.2
  obtain ⟨E, hE⟩ : ∃ E, E = enc kec ls.length batch := ⟨_, rfl⟩
  rw [← hE] at hel h3
  simp only [← hE] at hen
  have hEl : E.length ≤ 16777300 := by omega
  have hE0 : 0 < E.length := by omega
  clear hE hel hsum hb hl hg
  obtain ⟨i0, hi0, hz0, hz1, hz2⟩ := info_batch
  have J6 := Lib.hid hi0; have J7 := Lib.hid hz0; have J8 := Lib.hid hz1; have J9 := Lib.hid hz2; clear hi0 hz0 hz1 hz2
  have HEN := Lib.hid hen; clear hen
  have htr := rtruncate_c k r m nm size w.drew DD.drew hk0 (by omega)
  have hto := truncate_ops m nm size
  rw [h1] at htr hto
  have hto : m1.ops ≤ m.ops + 1 := hto
  have hsy := fun W C (hW : RD W C k r m1) => rsync_c k r m1 nm W hW hk0 (by omega)
  have hso := sync_ops m1 nm
  simp only [h2] at hsy
  rw [h2] at hso
  have hso : m2.ops ≤ m1.ops + 1 := hso
  have HSY := Lib.hid hsy; clear hsy
  have HTR := Lib.hid htr; have HL := Lib.hid L; have HD := Lib.hid DD; have HQ := Lib.hid hq
  have e0 := L.c0; have e1 := L.c1; have e3 := L.c3; have e4 := L.c4
  clear htr L DD hq
  clear h1 h2
  unfold ptr at HTR e0 ⊢
  unfold str at e1
  unfold RPost at HSY
  unfold RPost at HTR
  go_enter Tryz.func18, Tryz.ntmps18
  go_wp2_with (go_at_call 70; refine HM.out.mono ?_; rintro _ w1 ⟨rfl, hw⟩; obtain rfl := hw.symm)
  go_still_tail 12, (by kernel_rfl)
  change wpList _ _ _ _ _ w.drew
  go_wp2_with (go_at_call 65; refine HTR.out.mono ?_; rintro _ w2 ⟨rfl, c2, hc2, hk2, hd2⟩; have HC2 := Lib.hid hc2; have HK2 := Lib.hid hk2; have HD2 := Lib.hid hd2; have L2 := HL.out.drew.kp hk2 (by simp; exact hkl) (by simp; exact hkl) (by simp; exact fun h => hk0 h.symm) hc2; have HL2 := Lib.hid L2; have f0 := L2.c0; have f1 := L2.c1; unfold ptr at f0; unfold str at f1; clear hc2 hk2 hd2 L2)
  clear e0 e1 e3 e4
  go_still_tail 8, (by kernel_rfl)
  change wpList _ _ _ _ _ w2.drew
  go_wp2_with (go_at_call 66; refine (HSY.out _ _ HD2.out.drew).mono ?_; rintro _ w3 ⟨rfl, c3, hc3, hk3, hd3⟩; have HC3 := Lib.hid hc3; have HK3 := Lib.hid hk3; have HD3 := Lib.hid hd3; have L3 := HL2.out.drew.kp hk3 (by simp; exact hkl) (by simp; exact hkl) (by simp; exact fun h => hk0 h.symm) hc3; have HL3 := Lib.hid L3; have f2 := L3.c2; have f4 := L3.c4; have ff := L3.fz; clear f0 f1; clear hc3 hk3 hd3 L3)
  have LW := HL3.out.mark hkl0 false
  have kM : Kp c3 (· = (kl, 0)) w3 (w3.setCell ⟨lb, 4, none⟩ (.bool false)) := (Kp.refl c3 _ w3).setCell (fun _ => HL3.out.col) _
  have DW := HD3.out.kp kM (fun q hq => by rw [hq]; exact ⟨hkl, by simp; exact hkl0⟩) (Cx.refl _ _)
  have QW := QL.stays.stay (QL.stays.stay (QL.stays.stay (QL.stays.stay (QL.stays.stay HQ.out ((Kp.refl c (fun _ => False) w).drew) (fun h => h) (Cx.refl _ _)) HK2.out (by simp; exact fun h => hk0 h.symm) HC2.out) ((Kp.refl c2 (fun _ => False) w2).drew) (fun h => h) (Cx.refl _ _)) HK3.out (by simp; exact fun h => hk0 h.symm) HC3.out) kM (by simp; exact fun h => hkl0 h.symm) (Cx.refl _ _)
  have cW : Cx w c c3 := HC2.out.trans HC3.out HK2.out.size
  have KW := (((Kp.refl c _ w).drew.trans (HK2.out.mono (fun q h => Or.inl h)) (Cx.refl _ _)).drew.trans (HK3.out.mono (fun q h => Or.inl h)) HC2.out : Kp c (fun q => q.1 = k ∨ q.1 = kl) w w3).trans (kM.mono (S' := fun q => q.1 = k ∨ q.1 = kl) (fun q h => Or.inr (by rw [h]))) cW
  obtain ⟨W, hW⟩ : ∃ W, W = w3.setCell ⟨lb, 4, none⟩ (.bool false) := ⟨_, rfl⟩
  rw [← hW] at LW DW QW KW ⊢
  clear kM hW f2 f4 ff
  have HLW := Lib.hid LW; have HDW := Lib.hid DW; have HQW := Lib.hid QW; have HCW := Lib.hid cW; have HKW := Lib.hid KW
  clear HL3 HD3 HC3 HK3 HL2 HD2 HC2 HK2 HTR HSY HL HD HQ LW DW QW cW KW
  have g0 := HLW.out.c0; have g1 := HLW.out.c1; have g2 := HLW.out.c2; have g4 := HLW.out.c4
  unfold ptr at g0
  unfold str at g1
  go_wp2_with (go_at_call 71; refine (HEN.out _ _ HQW.out).mono ?_; rintro _ w4 ⟨vE, rfl, ho4, hf4, hk4⟩; obtain ⟨gE, cE, rfl, _, _⟩ := own_pos1 (by simpa using ho4) (show 0 < E.length from hE0); have HO4 := Lib.hid ho4; have HF4 := Lib.hid hf4; have HK4 := Lib.hid hk4; have L4 := HLW.out.kp (hk4 c3 (fun _ => False)) (fun h => h) (fun h => h) (fun h => h) (newCol_cx W c3 (0, 0)); have HL4 := Lib.hid L4; have j0 := L4.c0; have j1 := L4.c1; unfold ptr at j0; unfold str at j1; clear ho4 hf4 hk4 L4 g0 g1 g2 g4)
  obtain ⟨ca, hca⟩ : ∃ ca, ca = newCol W c3 (0, 0) := ⟨_, rfl⟩
  have hcx : Cx W c3 ca := by rw [hca]; exact newCol_cx _ _ _
  rw [← hca] at HL4
  have D4 := HDW.out.kp (HK4.out c3 (fun _ => False)) (fun _ h => h.elim) hcx
  have S4 := ((Sc.of_owns HO4.out (fun g hg => by rw [hca]; exact if_neg (Nat.not_lt.2 (HF4.out g hg))) : Sc w4 ca (0, 0) _ _).kp ((Kp.refl ca (fun _ => False) w4).drew) (fun h => h) (Cx.refl _ _)).wide
  have Q4 := QL.stays.stay HQW.out (HK4.out c3 (fun _ => False)) (fun h => h) hcx
  have c4 : Cx w c ca := HCW.out.trans hcx HKW.out.size
  have K4 := HKW.out.trans (HK4.out c3 _) HCW.out
  have hap := rappend_c k r m2 nm _ E w4.drew D4.drew hk0 (by omega) S4 (by simpa using fun h => hk0 h.symm) (by unfold lim; omega)
  rw [h3] at hap
  have hne : (er == 0) = false := by simpa using hne0
  unfold RPost at hap
  have HAP := Lib.hid hap; have HQ4 := Lib.hid Q4; have HC4 := Lib.hid c4; have HKK4 := Lib.hid K4
  clear hap hca hcx D4 S4 Q4 c4 K4 HO4 HF4 HK4 HLW HDW HQW HCW HKW HEN h3
  unfold ptr at HAP
  go_still_tail 9, (by kernel_rfl)
  change wpList _ _ _ _ _ w4.drew
  go_wp2_with (go_at_call 22; refine HAP.out.mono ?_; rintro _ w5 ⟨rfl, c5, hc5, hk5, hd5⟩; have HC5 := Lib.hid hc5; have HK5 := Lib.hid hk5; have HD5 := Lib.hid hd5; have L5 := HL4.out.drew.kp hk5 (by simp; exact hkl) (by simp; exact hkl) (by simp; exact fun h => hk0 h.symm) hc5; have HL5 := Lib.hid L5; have f4 := L5.c4; have ff := L5.fz; clear hc5 hk5 hd5 L5 j0 j1)
  go_ret
  have LM := HL5.out.mark hkl0 true
  have kM : Kp c5 (· = (kl, 0)) w5 (w5.setCell ⟨lb, 4, none⟩ (.bool true)) := (Kp.refl c5 _ w5).setCell (fun _ => HL5.out.col) _
  have cM : Cx w c c5 := HC4.out.trans HC5.out HKK4.out.drew.size
  exact ⟨rfl, c5, cM, ((HKK4.out.drew.trans (HK5.out.mono (fun q h => Or.inl h)) HC4.out) : Kp c (fun q => q.1 = k ∨ q.1 = kl) w w5).trans (kM.mono (fun q h => Or.inr (by rw [h]))) cM, HD5.out.kp kM (fun q hq => by rw [hq]; exact ⟨hkl, by simp; exact hkl0⟩) (Cx.refl _ _), _, LM⟩
set_option maxRecDepth 20000 in
set_option maxHeartbeats 2000000 in
theorem rapp_ts (w : World) (L : RLogAt w c kl lb r nm vl ls size true) (DD : RD w c k r m) (hk0 : k ≠ 0) (hkl : kl ≠ k) (hkl0 : kl ≠ 0) (hops : m.ops < 899980)
    (_hsz : size ≤ 1000000000) (hls : ls.length ≤ 100000000) (hq : QL w c vb batch) (hl : batch.length ≤ 1000000000) (hb : ∀ r ∈ batch, r.length ≤ 1000000000) (hg : good batch = true)
    (er : Int) (m1 m2 m3 m4 : ADisk) (h1 : truncate m nm size = (0, m1)) (h2 : sync m1 nm = (0, m2)) (h3 : append m2 nm (enc kec ls.length batch) = (0, m3)) (h4 : sync m3 nm = (er, m4)) (hne0 : ¬ er = 0) :
    Calls Tryz.prog 18 #[ptr lb, vb] w (RLPost k kl r lb nm (er, m4, ⟨ls, size, true⟩) c w) := by
  have HM := Lib.hid (GoodW_c (0, 0) (0, 0) vb batch hq.wide hl hb); rw [hg] at HM
  obtain ⟨xs0, hxs0, -⟩ := L.own
  obtain ⟨ao, ko, rfl⟩ := own_shape1 hxs0
  obtain ⟨ab, kb, rfl⟩ := hq.shape
  clear hxs0
  have hen := fun W C (hW : QL W C (.slice ab batch.length kb) batch) => rencode_good (0, 0) (0, 0) (.slice ab batch.length kb) batch ls.length hW.wide hl hb (by omega) hg
  have hel := enc_length kec_length ls.length batch
  have hsum := (good_length hg).2.2.2
  obtain ⟨E, hE⟩ : ∃ E, E = enc kec ls.length batch := ⟨_, rfl⟩
  rw [← hE] at hel h3
  simp only [← hE] at hen
  have hEl : E.length ≤ 16777300 := by omega
  have hE0 : 0 < E.length := by omega
  clear hE hel hsum hb hl hg
  obtain ⟨i0, hi0, hz0, hz1, hz2⟩ := info_batch
  have J6 := Lib.hid hi0; have J7 := Lib.hid hz0; have J8 := Lib.hid hz1; have J9 := Lib.hid hz2; clear hi0 hz0 hz1 hz2
  have HEN := Lib.hid hen; clear hen
  have htr := rtruncate_c k r m nm size w.drew DD.drew hk0 (by omega)
  have hto := truncate_ops m nm size
  rw [h1] at htr hto
  have hto : m1.ops ≤ m.ops + 1 := hto
  have hsy := fun W C (hW : RD W C k r m1) => rsync_c k r m1 nm W hW hk0 (by omega)
  have hso := sync_ops m1 nm
  simp only [h2] at hsy
  rw [h2] at hso
  have hso : m2.ops ≤ m1.ops + 1 := hso
  have HSY := Lib.hid hsy; clear hsy
  have HTR := Lib.hid htr; have HL := Lib.hid L; have HD := Lib.hid DD; have HQ := Lib.hid hq
  have e0 := L.c0; have e1 := L.c1; have e3 := L.c3; have e4 := L.c4
  clear htr L DD hq
  clear h1 h2
  unfold ptr at HTR e0 ⊢
  unfold str at e1
  unfold RPost at HSY
  unfold RPost at HTR
  go_enter Tryz.func18, Tryz.ntmps18
  go_wp2_with (go_at_call 70; refine HM.out.mono ?_; rintro _ w1 ⟨rfl, hw⟩; obtain rfl := hw.symm)
  go_still_tail 12, (by kernel_rfl)
  change wpList _ _ _ _ _ w.drew
  go_wp2_with (go_at_call 65; refine HTR.out.mono ?_; rintro _ w2 ⟨rfl, c2, hc2, hk2, hd2⟩; have HC2 := Lib.hid hc2; have HK2 := Lib.hid hk2; have HD2 := Lib.hid hd2; have L2 := HL.out.drew.kp hk2 (by simp; exact hkl) (by simp; exact hkl) (by simp; exact fun h => hk0 h.symm) hc2; have HL2 := Lib.hid L2; have f0 := L2.c0; have f1 := L2.c1; unfold ptr at f0; unfold str at f1; clear hc2 hk2 hd2 L2)
  clear e0 e1 e3 e4
  go_still_tail 8, (by kernel_rfl)
  change wpList _ _ _ _ _ w2.drew
  go_wp2_with (go_at_call 66; refine (HSY.out _ _ HD2.out.drew).mono ?_; rintro _ w3 ⟨rfl, c3, hc3, hk3, hd3⟩; have HC3 := Lib.hid hc3; have HK3 := Lib.hid hk3; have HD3 := Lib.hid hd3; have L3 := HL2.out.drew.kp hk3 (by simp; exact hkl) (by simp; exact hkl) (by simp; exact fun h => hk0 h.symm) hc3; have HL3 := Lib.hid L3; have f2 := L3.c2; have f4 := L3.c4; have ff := L3.fz; clear f0 f1; clear hc3 hk3 hd3 L3)
  have LW := HL3.out.mark hkl0 false
  have kM : Kp c3 (· = (kl, 0)) w3 (w3.setCell ⟨lb, 4, none⟩ (.bool false)) := (Kp.refl c3 _ w3).setCell (fun _ => HL3.out.col) _
  have DW := HD3.out.kp kM (fun q hq => by rw [hq]; exact ⟨hkl, by simp; exact hkl0⟩) (Cx.refl _ _)
  have QW := QL.stays.stay (QL.stays.stay (QL.stays.stay (QL.stays.stay (QL.stays.stay HQ.out ((Kp.refl c (fun _ => False) w).drew) (fun h => h) (Cx.refl _ _)) HK2.out (by simp; exact fun h => hk0 h.symm) HC2.out) ((Kp.refl c2 (fun _ => False) w2).drew) (fun h => h) (Cx.refl _ _)) HK3.out (by simp; exact fun h => hk0 h.symm) HC3.out) kM (by simp; exact fun h => hkl0 h.symm) (Cx.refl _ _)
  have cW : Cx w c c3 := HC2.out.trans HC3.out HK2.out.size
  have KW := (((Kp.refl c _ w).drew.trans (HK2.out.mono (fun q h => Or.inl h)) (Cx.refl _ _)).drew.trans (HK3.out.mono (fun q h => Or.inl h)) HC2.out : Kp c (fun q => q.1 = k ∨ q.1 = kl) w w3).trans (kM.mono (S' := fun q => q.1 = k ∨ q.1 = kl) (fun q h => Or.inr (by rw [h]))) cW
  obtain ⟨W, hW⟩ : ∃ W, W = w3.setCell ⟨lb, 4, none⟩ (.bool false) := ⟨_, rfl⟩
  rw [← hW] at LW DW QW KW ⊢
  clear kM hW f2 f4 ff
  have HLW := Lib.hid LW; have HDW := Lib.hid DW; have HQW := Lib.hid QW; have HCW := Lib.hid cW; have HKW := Lib.hid KW
  clear HL3 HD3 HC3 HK3 HL2 HD2 HC2 HK2 HTR HSY HL HD HQ LW DW QW cW KW
  have g0 := HLW.out.c0; have g1 := HLW.out.c1; have g2 := HLW.out.c2; have g4 := HLW.out.c4
  unfold ptr at g0
  unfold str at g1
  go_wp2_with (go_at_call 71; refine (HEN.out _ _ HQW.out).mono ?_; rintro _ w4 ⟨vE, rfl, ho4, hf4, hk4⟩; obtain ⟨gE, cE, rfl, _, _⟩ := own_pos1 (by simpa using ho4) (show 0 < E.length from hE0); have HO4 := Lib.hid ho4; have HF4 := Lib.hid hf4; have HK4 := Lib.hid hk4; have L4 := HLW.out.kp (hk4 c3 (fun _ => False)) (fun h => h) (fun h => h) (fun h => h) (newCol_cx W c3 (0, 0)); have HL4 := Lib.hid L4; have j0 := L4.c0; have j1 := L4.c1; unfold ptr at j0; unfold str at j1; clear ho4 hf4 hk4 L4 g0 g1 g2 g4)
  obtain ⟨ca, hca⟩ : ∃ ca, ca = newCol W c3 (0, 0) := ⟨_, rfl⟩
  have hcx : Cx W c3 ca := by rw [hca]; exact newCol_cx _ _ _
  rw [← hca] at HL4
  have D4 := HDW.out.kp (HK4.out c3 (fun _ => False)) (fun _ h => h.elim) hcx
  have S4 := ((Sc.of_owns HO4.out (fun g hg => by rw [hca]; exact if_neg (Nat.not_lt.2 (HF4.out g hg))) : Sc w4 ca (0, 0) _ _).kp ((Kp.refl ca (fun _ => False) w4).drew) (fun h => h) (Cx.refl _ _)).wide
  have Q4 := QL.stays.stay HQW.out (HK4.out c3 (fun _ => False)) (fun h => h) hcx
  have c4 : Cx w c ca := HCW.out.trans hcx HKW.out.size
  have K4 := HKW.out.trans (HK4.out c3 _) HCW.out
  have hap := rappend_c k r m2 nm _ E w4.drew D4.drew hk0 (by omega) S4 (by simpa using fun h => hk0 h.symm) (by unfold lim; omega)
  rw [h3] at hap
  have hao := append_ops m2 nm E
  rw [h3] at hao
  have hao : m3.ops ≤ m2.ops + 1 := hao
  have hsz2 := fun W C (hW : RD W C k r m3) => rsync_c k r m3 nm W hW hk0 (by omega)
  simp only [h4] at hsz2
  have HSZ := Lib.hid hsz2; clear hsz2
  unfold RPost at HSZ
  have hne : (er == 0) = false := by simpa using hne0
  unfold RPost at hap
  have HAP := Lib.hid hap; have HQ4 := Lib.hid Q4; have HC4 := Lib.hid c4; have HKK4 := Lib.hid K4
  clear hap hca hcx D4 S4 Q4 c4 K4 HO4 HF4 HK4 HLW HDW HQW HCW HKW HEN h3 h4
  unfold ptr at HAP
  go_still_tail 9, (by kernel_rfl)
  change wpList _ _ _ _ _ w4.drew
  go_wp2_with (go_at_call 22; refine HAP.out.mono ?_; rintro _ w5 ⟨rfl, c5, hc5, hk5, hd5⟩; have HC5 := Lib.hid hc5; have HK5 := Lib.hid hk5; have HD5 := Lib.hid hd5; have L5 := HL4.out.drew.kp hk5 (by simp; exact hkl) (by simp; exact hkl) (by simp; exact fun h => hk0 h.symm) hc5; have HL5 := Lib.hid L5; have f0 := L5.c0; have f1 := L5.c1; unfold ptr at f0; unfold str at f1; clear hc5 hk5 hd5 L5 j0 j1)
  go_still_tail 8, (by kernel_rfl)
  change wpList _ _ _ _ _ w5.drew
  go_wp2_with (go_at_call 66; refine (HSZ.out _ _ HD5.out.drew).mono ?_; rintro _ w6 ⟨rfl, c6, hc6, hk6, hd6⟩; have HC6 := Lib.hid hc6; have HK6 := Lib.hid hk6; have HD6 := Lib.hid hd6; have L6 := HL5.out.drew.kp hk6 (by simp; exact hkl) (by simp; exact hkl) (by simp; exact fun h => hk0 h.symm) hc6; have HL6 := Lib.hid L6; have f4 := L6.c4; have ff := L6.fz; clear hc6 hk6 hd6 L6 f0 f1)
  go_ret
  have LM := HL6.out.mark hkl0 true
  have kM : Kp c6 (· = (kl, 0)) w6 (w6.setCell ⟨lb, 4, none⟩ (.bool true)) := (Kp.refl c6 _ w6).setCell (fun _ => HL6.out.col) _
  have cM : Cx w c c6 := (HC4.out.trans HC5.out HKK4.out.drew.size).trans HC6.out ((HKK4.out.drew.trans (HK5.out.mono (fun q h => Or.inl h)) HC4.out) : Kp c (fun q => q.1 = k ∨ q.1 = kl) w w5).size
  exact ⟨rfl, c6, cM, (((HKK4.out.drew.trans (HK5.out.mono (fun q h => Or.inl h)) HC4.out).drew.trans (HK6.out.mono (fun q h => Or.inl h)) (HC4.out.trans HC5.out HKK4.out.drew.size)) : Kp c (fun q => q.1 = k ∨ q.1 = kl) w w6).trans (kM.mono (fun q h => Or.inr (by rw [h]))) cM, HD6.out.kp kM (fun q hq => by rw [hq]; exact ⟨hkl, by simp; exact hkl0⟩) (Cx.refl _ _), _, LM⟩
set_option maxRecDepth 20000 in
set_option maxHeartbeats 2000000 in
theorem rapp_tok (w : World) (L : RLogAt w c kl lb r nm vl ls size true) (DD : RD w c k r m) (hk0 : k ≠ 0) (hkl : kl ≠ k) (hkl0 : kl ≠ 0) (hops : m.ops < 899980)
    (_hsz : size ≤ 1000000000) (hls : ls.length ≤ 100000000) (hq : QL w c vb batch) (hl : batch.length ≤ 1000000000) (hb : ∀ r ∈ batch, r.length ≤ 1000000000) (hg : good batch = true)
    (m1 m2 m3 m4 : ADisk) (h1 : truncate m nm size = (0, m1)) (h2 : sync m1 nm = (0, m2)) (h3 : append m2 nm (enc kec ls.length batch) = (0, m3)) (h4 : sync m3 nm = (0, m4)) :
    Calls Tryz.prog 18 #[ptr lb, vb] w (RLPost k kl r lb nm (0, m4, ⟨ls ++ [batch], size + (enc kec ls.length batch).length, false⟩) c w) := by
  have HM := Lib.hid (GoodW_c (0, 0) (0, 0) vb batch hq.wide hl hb); rw [hg] at HM
  obtain ⟨xs0, hxs0, -⟩ := L.own
  obtain ⟨ao, ko, rfl⟩ := own_shape1 hxs0
  obtain ⟨ab, kb, rfl⟩ := hq.shape
  clear hxs0
  have hen := fun W C (hW : QL W C (.slice ab batch.length kb) batch) => rencode_good (0, 0) (0, 0) (.slice ab batch.length kb) batch ls.length hW.wide hl hb (by omega) hg
  have hel := enc_length kec_length ls.length batch
  have hsum := (good_length hg).2.2.2
  obtain ⟨E, hE⟩ : ∃ E, E = enc kec ls.length batch := ⟨_, rfl⟩
  rw [← hE] at hel ⊢ h3
  simp only [← hE] at hen
  have hEl : E.length ≤ 16777300 := by omega
  have hE0 : 0 < E.length := by omega
  clear hE hel hsum hb hl hg
  obtain ⟨i0, hi0, hz0, hz1, hz2⟩ := info_batch
  have J6 := Lib.hid hi0; have J7 := Lib.hid hz0; have J8 := Lib.hid hz1; have J9 := Lib.hid hz2; clear hi0 hz0 hz1 hz2
  have HEN := Lib.hid hen; clear hen
  have htr := rtruncate_c k r m nm size w.drew DD.drew hk0 (by omega)
  have hto := truncate_ops m nm size
  rw [h1] at htr hto
  have hto : m1.ops ≤ m.ops + 1 := hto
  have hsy := fun W C (hW : RD W C k r m1) => rsync_c k r m1 nm W hW hk0 (by omega)
  have hso := sync_ops m1 nm
  simp only [h2] at hsy
  rw [h2] at hso
  have hso : m2.ops ≤ m1.ops + 1 := hso
  have HSY := Lib.hid hsy; clear hsy
  have HTR := Lib.hid htr; have HL := Lib.hid L; have HD := Lib.hid DD; have HQ := Lib.hid hq
  have e0 := L.c0; have e1 := L.c1; have e3 := L.c3; have e4 := L.c4
  clear htr L DD hq
  clear h1 h2
  unfold ptr at HTR e0 ⊢
  unfold str at e1
  unfold RPost at HSY
  unfold RPost at HTR
  go_enter Tryz.func18, Tryz.ntmps18
  go_wp2_with (go_at_call 70; refine HM.out.mono ?_; rintro _ w1 ⟨rfl, hw⟩; obtain rfl := hw.symm)
  go_still_tail 12, (by kernel_rfl)
  change wpList _ _ _ _ _ w.drew
  go_wp2_with (go_at_call 65; refine HTR.out.mono ?_; rintro _ w2 ⟨rfl, c2, hc2, hk2, hd2⟩; have HC2 := Lib.hid hc2; have HK2 := Lib.hid hk2; have HD2 := Lib.hid hd2; have L2 := HL.out.drew.kp hk2 (by simp; exact hkl) (by simp; exact hkl) (by simp; exact fun h => hk0 h.symm) hc2; have HL2 := Lib.hid L2; have f0 := L2.c0; have f1 := L2.c1; unfold ptr at f0; unfold str at f1; clear hc2 hk2 hd2 L2)
  clear e0 e1 e3 e4
  go_still_tail 8, (by kernel_rfl)
  change wpList _ _ _ _ _ w2.drew
  go_wp2_with (go_at_call 66; refine (HSY.out _ _ HD2.out.drew).mono ?_; rintro _ w3 ⟨rfl, c3, hc3, hk3, hd3⟩; have HC3 := Lib.hid hc3; have HK3 := Lib.hid hk3; have HD3 := Lib.hid hd3; have L3 := HL2.out.drew.kp hk3 (by simp; exact hkl) (by simp; exact hkl) (by simp; exact fun h => hk0 h.symm) hc3; have HL3 := Lib.hid L3; have f2 := L3.c2; have f4 := L3.c4; have ff := L3.fz; clear f0 f1; clear hc3 hk3 hd3 L3)
  have LW := HL3.out.mark hkl0 false
  have kM : Kp c3 (· = (kl, 0)) w3 (w3.setCell ⟨lb, 4, none⟩ (.bool false)) := (Kp.refl c3 _ w3).setCell (fun _ => HL3.out.col) _
  have DW := HD3.out.kp kM (fun q hq => by rw [hq]; exact ⟨hkl, by simp; exact hkl0⟩) (Cx.refl _ _)
  have QW := QL.stays.stay (QL.stays.stay (QL.stays.stay (QL.stays.stay (QL.stays.stay HQ.out ((Kp.refl c (fun _ => False) w).drew) (fun h => h) (Cx.refl _ _)) HK2.out (by simp; exact fun h => hk0 h.symm) HC2.out) ((Kp.refl c2 (fun _ => False) w2).drew) (fun h => h) (Cx.refl _ _)) HK3.out (by simp; exact fun h => hk0 h.symm) HC3.out) kM (by simp; exact fun h => hkl0 h.symm) (Cx.refl _ _)
  have cW : Cx w c c3 := HC2.out.trans HC3.out HK2.out.size
  have KW := (((Kp.refl c _ w).drew.trans (HK2.out.mono (fun q h => Or.inl h)) (Cx.refl _ _)).drew.trans (HK3.out.mono (fun q h => Or.inl h)) HC2.out : Kp c (fun q => q.1 = k ∨ q.1 = kl) w w3).trans (kM.mono (S' := fun q => q.1 = k ∨ q.1 = kl) (fun q h => Or.inr (by rw [h]))) cW
  obtain ⟨W, hW⟩ : ∃ W, W = w3.setCell ⟨lb, 4, none⟩ (.bool false) := ⟨_, rfl⟩
  rw [← hW] at LW DW QW KW ⊢
  clear kM hW f2 f4 ff
  have HLW := Lib.hid LW; have HDW := Lib.hid DW; have HQW := Lib.hid QW; have HCW := Lib.hid cW; have HKW := Lib.hid KW
  clear HL3 HD3 HC3 HK3 HL2 HD2 HC2 HK2 HTR HSY HL HD HQ LW DW QW cW KW
  have g0 := HLW.out.c0; have g1 := HLW.out.c1; have g2 := HLW.out.c2; have g4 := HLW.out.c4
  unfold ptr at g0
  unfold str at g1
  go_wp2_with (go_at_call 71; refine (HEN.out _ _ HQW.out).mono ?_; rintro _ w4 ⟨vE, rfl, ho4, hf4, hk4⟩; obtain ⟨gE, cE, rfl, _, _⟩ := own_pos1 (by simpa using ho4) (show 0 < E.length from hE0); have HO4 := Lib.hid ho4; have HF4 := Lib.hid hf4; have HK4 := Lib.hid hk4; have L4 := HLW.out.kp (hk4 c3 (fun _ => False)) (fun h => h) (fun h => h) (fun h => h) (newCol_cx W c3 (0, 0)); have HL4 := Lib.hid L4; have j0 := L4.c0; have j1 := L4.c1; unfold ptr at j0; unfold str at j1; clear ho4 hf4 hk4 L4 g0 g1 g2 g4)
  obtain ⟨ca, hca⟩ : ∃ ca, ca = newCol W c3 (0, 0) := ⟨_, rfl⟩
  have hcx : Cx W c3 ca := by rw [hca]; exact newCol_cx _ _ _
  rw [← hca] at HL4
  have D4 := HDW.out.kp (HK4.out c3 (fun _ => False)) (fun _ h => h.elim) hcx
  have S4 := ((Sc.of_owns HO4.out (fun g hg => by rw [hca]; exact if_neg (Nat.not_lt.2 (HF4.out g hg))) : Sc w4 ca (0, 0) _ _).kp ((Kp.refl ca (fun _ => False) w4).drew) (fun h => h) (Cx.refl _ _)).wide
  have Q4 := QL.stays.stay HQW.out (HK4.out c3 (fun _ => False)) (fun h => h) hcx
  have c4 : Cx w c ca := HCW.out.trans hcx HKW.out.size
  have K4 := HKW.out.trans (HK4.out c3 _) HCW.out
  have hap := rappend_c k r m2 nm _ E w4.drew D4.drew hk0 (by omega) S4 (by simpa using fun h => hk0 h.symm) (by unfold lim; omega)
  rw [h3] at hap
  have hao := append_ops m2 nm E
  rw [h3] at hao
  have hao : m3.ops ≤ m2.ops + 1 := hao
  have hsz2 := fun W C (hW : RD W C k r m3) => rsync_c k r m3 nm W hW hk0 (by omega)
  simp only [h4] at hsz2
  have HSZ := Lib.hid hsz2; clear hsz2
  unfold RPost at HSZ
  unfold RPost at hap
  have HAP := Lib.hid hap; have HQ4 := Lib.hid Q4; have HC4 := Lib.hid c4; have HKK4 := Lib.hid K4
  clear hap hca hcx D4 S4 Q4 c4 K4 HO4 HF4 HK4 HLW HDW HQW HCW HKW HEN h3 h4
  unfold ptr at HAP
  go_still_tail 9, (by kernel_rfl)
  change wpList _ _ _ _ _ w4.drew
  go_wp2_with (go_at_call 22; refine HAP.out.mono ?_; rintro _ w5 ⟨rfl, c5, hc5, hk5, hd5⟩; have HC5 := Lib.hid hc5; have HK5 := Lib.hid hk5; have HD5 := Lib.hid hd5; have L5 := HL4.out.drew.kp hk5 (by simp; exact hkl) (by simp; exact hkl) (by simp; exact fun h => hk0 h.symm) hc5; have HL5 := Lib.hid L5; have f0 := L5.c0; have f1 := L5.c1; unfold ptr at f0; unfold str at f1; clear hc5 hk5 hd5 L5 j0 j1)
  go_still_tail 8, (by kernel_rfl)
  change wpList _ _ _ _ _ w5.drew
  go_wp2_with (first
    | (at_builtin; refine wpList_append2 rfl _ _ _ rfl 40 i0 (.slice none 0 0) 24 Tryz.underlying114 J6.out J7.out J8.out J9.out rfl (.slice ao ls.length ko) ls.length xs8 rfl HX8.out ⟨w6.heap.size, 0, none⟩ 1 1 [.slice ab batch.length kb] rfl rfl (one_new _ _ _) (fun u hu => by rw [List.mem_singleton.1 hu]; rfl) (by unfold maxLen; omega) (by omega) ?_; intro v9 w9 hown9 hg9 hf9; obtain ⟨a9, k9, rfl⟩ := own_shape1 hown9; have HO9 := Lib.hid hown9; have HG9 := Lib.hid hg9; have HF9 := Lib.hid hf9; have hh9 := (log_keep HL6.out hg9); have n2 := cell_of_heap hh9 2; have n3 := cell_of_heap hh9 3; have nf := unfrozen_of_heap hh9; have HX9 := Lib.hid HX8.out; clear HX8 hown9 hg9 hf9 hh9 f2 f3 ff)
    | (go_at_call 66; refine (HSZ.out _ _ HD5.out.drew).mono ?_; rintro _ w6 ⟨rfl, c6, hc6, hk6, hd6⟩; have HC6 := Lib.hid hc6; have HK6 := Lib.hid hk6; have HD6 := Lib.hid hd6; have L6 := HL5.out.drew.kp hk6 (by simp; exact hkl) (by simp; exact hkl) (by simp; exact fun h => hk0 h.symm) hc6; have HL6 := Lib.hid L6; have f2 := L6.c2; have f3 := L6.c3; have ff := L6.fz; obtain ⟨xs8, hx8, -⟩ := (L6.kp (S := fun _ => False) ((Kp.refl c6 _ w6).alloc (.cells #[.slice ab batch.length kb] 40)) (fun h => h) (fun h => h) (fun h => h) (Cx.refl _ _)).own; have HX8 := Lib.hid hx8; clear hx8; clear hc6 hk6 hd6 L6 f0 f1))
  have KW := (((HKK4.out.drew.trans (HK5.out.mono (fun q h => Or.inl h)) HC4.out).drew.trans (HK6.out.mono (fun q h => Or.inl h)) (HC4.out.trans HC5.out HKK4.out.drew.size)) : Kp c (fun q => q.1 = k ∨ q.1 = kl) w w6)
  have cW : Cx w c c6 := (HC4.out.trans HC5.out HKK4.out.drew.size).trans HC6.out ((HKK4.out.drew.trans (HK5.out.mono (fun q h => Or.inl h)) HC4.out) : Kp c (fun q => q.1 = k ∨ q.1 = kl) w w5).size
  have QW := QL.stays.stay (QL.stays.stay (QL.stays.stay (QL.stays.stay HQ4.out ((Kp.refl ca (fun _ => False) w4).drew) (fun h => h) (Cx.refl _ _)) HK5.out (by simp; exact fun h => hk0 h.symm) HC5.out) ((Kp.refl c5 (fun _ => False) w5).drew) (fun h => h) (Cx.refl _ _)) HK6.out (by simp; exact fun h => hk0 h.symm) HC6.out
  have HKW := Lib.hid KW; have HCW := Lib.hid cW; have HQW := Lib.hid QW
  clear KW cW QW HQ4 HC4 HKK4 HAP HSZ HC5 HK5 HD5 HL5 HC6 HK6 HL4
  go_ret
  obtain ⟨R1, R2, R3⟩ := rlog_push (n := E.length) HL6.out hkl0 HQW.out (fun c S => (Kp.refl c S w6).alloc _) HX9.out HO9.out HG9.out HF9.out
  exact ⟨rfl, _, HCW.out.trans R1 HKW.out.size, HKW.out.trans (R2.mono (fun q h => Or.inr h)) HCW.out, HD6.out.kp (R2.mono (S' := fun q => q.1 = kl) (fun q h => h)) (fun q hq => ⟨fun e => hkl (hq.symm.trans e), fun e => hkl0 (by rw [e] at hq; exact hq.symm)⟩) R1, _, R3⟩
end Go.Proofs.YtnifmoigalmcmaaGreat
/- The document's Reset; its Append and its Reset in general. -/
namespace Go.Proofs.YtnifmoigalmcmaaGreat
open Go Go.RowKit Dk
open Wl
variable {c c' : Col} {w w' : World} {S : Nat × Nat → Prop} {q : Nat × Nat}
variable {kl lb r k : Nat} {nm : Nm} {vl vb : Value} {m : ADisk} {g : Lg} {ls : List (List Bs)} {size : Nat} {torn : Bool} {batch : List Bs}
set_option maxRecDepth 20000 in
set_option maxHeartbeats 2000000 in
theorem rreset_t (w : World) (L : RLogAt w c kl lb r nm vl ls size torn) (DD : RD w c k r m) (hk0 : k ≠ 0) (hkl : kl ≠ k) (hkl0 : kl ≠ 0) (hops : m.ops < 899980)
    (er : Int) (m1 : ADisk) (h1 : truncate m nm 0 = (er, m1)) (hne0 : ¬ er = 0) :
    Calls Tryz.prog 20 #[ptr lb] w (RLPost k kl r lb nm (er, m1, ⟨ls, size, true⟩) c w) := by
  obtain ⟨xs0, hxs0, -⟩ := L.own
  obtain ⟨ao, ko, rfl⟩ := own_shape1 hxs0
  clear hxs0
  have htr := rtruncate_c k r m nm 0 w.drew DD.drew hk0 (by omega)
  have hto := truncate_ops m nm 0
  rw [h1] at htr hto
  have hto : m1.ops ≤ m.ops + 1 := hto
  have hne : (er == 0) = false := by simpa using hne0
  clear hne0
  unfold RPost at htr
  have HTR := Lib.hid htr; have HL := Lib.hid L; have HD := Lib.hid DD
  have e0 := L.c0; have e1 := L.c1
  clear htr L DD h1
  unfold ptr at HTR e0 ⊢
  unfold str at e1
  go_enter Tryz.func20, Tryz.ntmps20
  go_wp2
  go_still_tail 8, (by kernel_rfl)
  change wpList _ _ _ _ _ w.drew
  go_wp2_with (go_at_call 65; refine HTR.out.mono ?_; rintro _ w2 ⟨rfl, c2, hc2, hk2, hd2⟩; have HC2 := Lib.hid hc2; have HK2 := Lib.hid hk2; have HD2 := Lib.hid hd2; have L2 := HL.out.drew.kp hk2 (by simp; exact hkl) (by simp; exact hkl) (by simp; exact fun h => hk0 h.symm) hc2; have HL2 := Lib.hid L2; have f4 := L2.c4; have ff := L2.fz; clear hc2 hk2 hd2 L2 e0 e1)
  go_ret
  have kM : Kp c2 (· = (kl, 0)) w2 (w2.setCell ⟨lb, 4, none⟩ (.bool true)) := (Kp.refl c2 _ w2).setCell (fun _ => HL2.out.col) _
  exact ⟨rfl, c2, HC2.out, ((Kp.refl c _ w).drew.trans (HK2.out.mono (fun q h => Or.inl h)) (Cx.refl _ _) : Kp c (fun q => q.1 = k ∨ q.1 = kl) w w2).trans (kM.mono (fun q h => Or.inr (by rw [h]))) HC2.out, HD2.out.kp kM (fun q hq => by rw [hq]; exact ⟨hkl, by simp; exact hkl0⟩) (Cx.refl _ _), _, HL2.out.mark hkl0 true⟩
set_option maxRecDepth 20000 in
set_option maxHeartbeats 2000000 in
theorem rreset_s (w : World) (L : RLogAt w c kl lb r nm vl ls size torn) (DD : RD w c k r m) (hk0 : k ≠ 0) (hkl : kl ≠ k) (hkl0 : kl ≠ 0) (hops : m.ops < 899980)
    (er : Int) (m1 m2 : ADisk) (h1 : truncate m nm 0 = (0, m1)) (h2 : sync m1 nm = (er, m2)) (hne0 : ¬ er = 0) :
    Calls Tryz.prog 20 #[ptr lb] w (RLPost k kl r lb nm (er, m2, ⟨[], 0, true⟩) c w) := by
  obtain ⟨xs0, hxs0, -⟩ := L.own
  obtain ⟨ao, ko, rfl⟩ := own_shape1 hxs0
  clear hxs0
  have htr := rtruncate_c k r m nm 0 w.drew DD.drew hk0 (by omega)
  have hto := truncate_ops m nm 0
  rw [h1] at htr hto
  have hto : m1.ops ≤ m.ops + 1 := hto
  have hsy := fun W C (hW : RD W C k r m1) => rsync_c k r m1 nm W hW hk0 (by omega)
  simp only [h2] at hsy
  unfold RPost at hsy
  have HSY := Lib.hid hsy; clear hsy h2
  have hne : (er == 0) = false := by simpa using hne0
  clear hne0
  unfold RPost at htr
  have HTR := Lib.hid htr; have HL := Lib.hid L; have HD := Lib.hid DD
  have e0 := L.c0; have e1 := L.c1
  clear htr L DD h1
  unfold ptr at HTR e0 ⊢
  unfold str at e1
  go_enter Tryz.func20, Tryz.ntmps20
  go_wp2
  go_still_tail 8, (by kernel_rfl)
  change wpList _ _ _ _ _ w.drew
  go_wp2_with (go_at_call 65; refine HTR.out.mono ?_; rintro _ w2 ⟨rfl, c2, hc2, hk2, hd2⟩; have HC2 := Lib.hid hc2; have HK2 := Lib.hid hk2; have HD2 := Lib.hid hd2; have L2 := HL.out.drew.kp hk2 (by simp; exact hkl) (by simp; exact hkl) (by simp; exact fun h => hk0 h.symm) hc2; have HL2 := Lib.hid L2; have f2 := L2.c2; have f3 := L2.c3; have f0 := L2.c0; have f1 := L2.c1; have ff := L2.fz; unfold ptr at f0; unfold str at f1; clear hc2 hk2 hd2 L2 e0 e1)
  have L3 := HL2.out.empty
  have kE : Kp c2 (· = (kl, 0)) w2 ((w2.setCell ⟨lb, 2, none⟩ (.slice none 0 0)).setCell ⟨lb, 3, none⟩ (.int .i64 0)) := ((Kp.refl c2 _ w2).setCell (fun _ => HL2.out.col) _).setCell (fun _ => HL2.out.col) _
  have D3 := HD2.out.kp kE (fun q hq => by rw [hq]; exact ⟨hkl, by simp; exact hkl0⟩) (Cx.refl _ _)
  obtain ⟨w3, hw3⟩ : ∃ w3, w3 = (w2.setCell ⟨lb, 2, none⟩ (.slice none 0 0)).setCell ⟨lb, 3, none⟩ (.int .i64 0) := ⟨_, rfl⟩
  rw [← hw3] at L3 kE D3 ⊢
  have HL3 := Lib.hid L3; have HD3 := Lib.hid D3
  have HK3 := Lib.hid (((Kp.refl c _ w).drew.trans (HK2.out.mono (fun q h => Or.inl h)) (Cx.refl _ _) : Kp c (fun q => q.1 = k ∨ q.1 = kl) w w2).trans (kE.mono (S' := fun q => q.1 = k ∨ q.1 = kl) (fun q h => Or.inr (by rw [h]))) HC2.out)
  have g0 := L3.c0; have g1 := L3.c1
  unfold ptr at g0
  unfold str at g1
  clear L3 D3 kE hw3 f0 f1 f2 f3 ff
  go_still_tail 8, (by kernel_rfl)
  change wpList _ _ _ _ _ w3.drew
  go_wp2_with (go_at_call 66; refine (HSY.out _ _ HD3.out.drew).mono ?_; rintro _ w4 ⟨rfl, c4, hc4, hk4, hd4⟩; have HC4 := Lib.hid hc4; have HK4 := Lib.hid hk4; have HD4 := Lib.hid hd4; have L4 := HL3.out.drew.kp hk4 (by simp; exact hkl) (by simp; exact hkl) (by simp; exact fun h => hk0 h.symm) hc4; have HL4 := Lib.hid L4; have f4 := L4.c4; have ff := L4.fz; clear hc4 hk4 hd4 L4 g0 g1)
  go_ret
  have cM : Cx w c c4 := HC2.out.trans HC4.out HK3.out.drew.size
  have kM : Kp c4 (· = (kl, 0)) w4 (w4.setCell ⟨lb, 4, none⟩ (.bool true)) := (Kp.refl c4 _ w4).setCell (fun _ => HL4.out.col) _
  exact ⟨rfl, c4, cM, (HK3.out.drew.trans (HK4.out.mono (fun q h => Or.inl h)) HC2.out).trans (kM.mono (fun q h => Or.inr (by rw [h]))) cM, HD4.out.kp kM (fun q hq => by rw [hq]; exact ⟨hkl, by simp; exact hkl0⟩) (Cx.refl _ _), _, HL4.out.mark hkl0 true⟩
set_option maxRecDepth 20000 in
set_option maxHeartbeats 2000000 in
theorem rreset_ok (w : World) (L : RLogAt w c kl lb r nm vl ls size torn) (DD : RD w c k r m) (hk0 : k ≠ 0) (hkl : kl ≠ k) (hkl0 : kl ≠ 0) (hops : m.ops < 899980)
    (m1 m2 : ADisk) (h1 : truncate m nm 0 = (0, m1)) (h2 : sync m1 nm = (0, m2)) :
    Calls Tryz.prog 20 #[ptr lb] w (RLPost k kl r lb nm (0, m2, ⟨[], 0, false⟩) c w) := by
  obtain ⟨xs0, hxs0, -⟩ := L.own
  obtain ⟨ao, ko, rfl⟩ := own_shape1 hxs0
  clear hxs0
  have htr := rtruncate_c k r m nm 0 w.drew DD.drew hk0 (by omega)
  have hto := truncate_ops m nm 0
  rw [h1] at htr hto
  have hto : m1.ops ≤ m.ops + 1 := hto
  have hsy := fun W C (hW : RD W C k r m1) => rsync_c k r m1 nm W hW hk0 (by omega)
  simp only [h2] at hsy
  unfold RPost at hsy
  have HSY := Lib.hid hsy; clear hsy h2
  unfold RPost at htr
  have HTR := Lib.hid htr; have HL := Lib.hid L; have HD := Lib.hid DD
  have e0 := L.c0; have e1 := L.c1
  clear htr L DD h1
  unfold ptr at HTR e0 ⊢
  unfold str at e1
  go_enter Tryz.func20, Tryz.ntmps20
  go_wp2
  go_still_tail 8, (by kernel_rfl)
  change wpList _ _ _ _ _ w.drew
  go_wp2_with (go_at_call 65; refine HTR.out.mono ?_; rintro _ w2 ⟨rfl, c2, hc2, hk2, hd2⟩; have HC2 := Lib.hid hc2; have HK2 := Lib.hid hk2; have HD2 := Lib.hid hd2; have L2 := HL.out.drew.kp hk2 (by simp; exact hkl) (by simp; exact hkl) (by simp; exact fun h => hk0 h.symm) hc2; have HL2 := Lib.hid L2; have f2 := L2.c2; have f3 := L2.c3; have f0 := L2.c0; have f1 := L2.c1; have ff := L2.fz; unfold ptr at f0; unfold str at f1; clear hc2 hk2 hd2 L2 e0 e1)
  have L3 := HL2.out.empty
  have kE : Kp c2 (· = (kl, 0)) w2 ((w2.setCell ⟨lb, 2, none⟩ (.slice none 0 0)).setCell ⟨lb, 3, none⟩ (.int .i64 0)) := ((Kp.refl c2 _ w2).setCell (fun _ => HL2.out.col) _).setCell (fun _ => HL2.out.col) _
  have D3 := HD2.out.kp kE (fun q hq => by rw [hq]; exact ⟨hkl, by simp; exact hkl0⟩) (Cx.refl _ _)
  obtain ⟨w3, hw3⟩ : ∃ w3, w3 = (w2.setCell ⟨lb, 2, none⟩ (.slice none 0 0)).setCell ⟨lb, 3, none⟩ (.int .i64 0) := ⟨_, rfl⟩
  rw [← hw3] at L3 kE D3 ⊢
  have HL3 := Lib.hid L3; have HD3 := Lib.hid D3
  have HK3 := Lib.hid (((Kp.refl c _ w).drew.trans (HK2.out.mono (fun q h => Or.inl h)) (Cx.refl _ _) : Kp c (fun q => q.1 = k ∨ q.1 = kl) w w2).trans (kE.mono (S' := fun q => q.1 = k ∨ q.1 = kl) (fun q h => Or.inr (by rw [h]))) HC2.out)
  have g0 := L3.c0; have g1 := L3.c1
  unfold ptr at g0
  unfold str at g1
  clear L3 D3 kE hw3 f0 f1 f2 f3 ff
  go_still_tail 8, (by kernel_rfl)
  change wpList _ _ _ _ _ w3.drew
  go_wp2_with (go_at_call 66; refine (HSY.out _ _ HD3.out.drew).mono ?_; rintro _ w4 ⟨rfl, c4, hc4, hk4, hd4⟩; have HC4 := Lib.hid hc4; have HK4 := Lib.hid hk4; have HD4 := Lib.hid hd4; have L4 := HL3.out.drew.kp hk4 (by simp; exact hkl) (by simp; exact hkl) (by simp; exact fun h => hk0 h.symm) hc4; have HL4 := Lib.hid L4; have f4 := L4.c4; have ff := L4.fz; clear hc4 hk4 hd4 L4 g0 g1)
  go_ret
  have cM : Cx w c c4 := HC2.out.trans HC4.out HK3.out.drew.size
  have kM : Kp c4 (· = (kl, 0)) w4 (w4.setCell ⟨lb, 4, none⟩ (.bool false)) := (Kp.refl c4 _ w4).setCell (fun _ => HL4.out.col) _
  exact ⟨rfl, c4, cM, (HK3.out.drew.trans (HK4.out.mono (fun q h => Or.inl h)) HC2.out).trans (kM.mono (fun q h => Or.inr (by rw [h]))) cM, HD4.out.kp kM (fun q hq => by rw [hq]; exact ⟨hkl, by simp; exact hkl0⟩) (Cx.refl _ _), _, HL4.out.mark hkl0 false⟩
theorem rreset_c (w : World) (L : RLogAt w c kl lb r nm vl g.ls g.size g.dirty) (DD : RD w c k r m) (hk0 : k ≠ 0) (hkl : kl ≠ k) (hkl0 : kl ≠ 0) (hops : m.ops < 899980) :
    Calls Tryz.prog 20 #[ptr lb] w (RLPost k kl r lb nm (lreset m nm g) c w) := by
  unfold lreset
  by_cases h1 : (truncate m nm 0).1 = 0
  · rw [if_neg (by simpa using h1)]
    by_cases h2 : (sync (truncate m nm 0).2 nm).1 = 0
    · rw [if_neg (by simpa using h2)]
      exact rreset_ok w L DD hk0 hkl hkl0 hops _ _ (Prod.ext h1 rfl) (Prod.ext h2 rfl)
    · rw [if_pos h2]
      exact rreset_s w L DD hk0 hkl hkl0 hops _ _ _ (Prod.ext h1 rfl) rfl h2
  · rw [if_pos h1]
    exact rreset_t w L DD hk0 hkl hkl0 hops _ _ rfl h1
theorem rlapp_c (w : World) (L : RLogAt w c kl lb r nm vl g.ls g.size g.dirty) (DD : RD w c k r m) (hk0 : k ≠ 0) (hkl : kl ≠ k) (hkl0 : kl ≠ 0) (hops : m.ops < 899980)
    (hsz : g.size ≤ 1000000000) (hls : g.ls.length ≤ 100000000) (hq : QL w c vb batch) (hl : batch.length ≤ 1000000000) (hb : ∀ r ∈ batch, r.length ≤ 1000000000) :
    Calls Tryz.prog 18 #[ptr lb, vb] w (RLPost k kl r lb nm (lapp m nm g batch) c w) := by
  obtain ⟨ls, size, dirty⟩ := g
  simp only at L hsz hls
  unfold lapp
  by_cases hg : good batch = false
  · rw [if_pos hg]
    refine (rapp_bad w hq hl hb hg).mono ?_
    rintro e w' ⟨rfl, rfl⟩
    exact ⟨rfl, c, Cx.refl _ _, Kp.refl _ _ _, DD, vl, L⟩
  · rw [if_neg hg]
    have hg : good batch = true := by simpa using hg
    cases dirty with
    | false =>
      simp only [Bool.false_eq_true, if_false]
      unfold lput
      by_cases h1 : (append m nm (enc kec ls.length batch)).1 = 0
      · rw [if_neg (by simpa using h1)]
        by_cases h2 : (sync (append m nm (enc kec ls.length batch)).2 nm).1 = 0
        · rw [if_neg (by simpa using h2)]
          exact rapp_ok w L DD hk0 hkl hkl0 hops hsz hls hq hl hb hg _ _ (Prod.ext h1 rfl) (Prod.ext h2 rfl)
        · rw [if_pos h2]
          exact rapp_s w L DD hk0 hkl hkl0 hops hsz hls hq hl hb hg _ _ _ (Prod.ext h1 rfl) rfl h2
      · rw [if_pos h1]
        exact rapp_a w L DD hk0 hkl hkl0 hops hsz hls hq hl hb hg _ _ rfl h1
    | true =>
      simp only [if_true]
      have htd : trimD m nm size = if (truncate m nm size).1 = 0 then sync (truncate m nm size).2 nm else truncate m nm size := rfl
      by_cases ht : (truncate m nm size).1 = 0
      · rw [if_pos ht] at htd
        by_cases h0 : (sync (truncate m nm size).2 nm).1 = 0
        · rw [htd, if_neg (by simpa using h0)]
          unfold lput
          by_cases h1 : (append (sync (truncate m nm size).2 nm).2 nm (enc kec ls.length batch)).1 = 0
          · rw [if_neg (by simpa using h1)]
            by_cases h2 : (sync (append (sync (truncate m nm size).2 nm).2 nm (enc kec ls.length batch)).2 nm).1 = 0
            · rw [if_neg (by simpa using h2)]
              exact rapp_tok w L DD hk0 hkl hkl0 hops hsz hls hq hl hb hg _ _ _ _ (Prod.ext ht rfl) (Prod.ext h0 rfl) (Prod.ext h1 rfl) (Prod.ext h2 rfl)
            · rw [if_pos h2]
              exact rapp_ts w L DD hk0 hkl hkl0 hops hsz hls hq hl hb hg _ _ _ _ _ (Prod.ext ht rfl) (Prod.ext h0 rfl) (Prod.ext h1 rfl) rfl h2
          · rw [if_pos h1]
            exact rapp_ta w L DD hk0 hkl hkl0 hops hsz hls hq hl hb hg _ _ _ _ (Prod.ext ht rfl) (Prod.ext h0 rfl) rfl h1
        · rw [htd, if_pos h0]
          exact rapp_t2 w L DD hk0 hkl hkl0 hops hsz hls hq hl hb hg _ _ _ (Prod.ext ht rfl) rfl h0
      · rw [if_neg ht] at htd
        rw [htd, if_pos ht]
        exact rapp_t1 w L DD hk0 hkl hkl0 hops hsz hls hq hl hb hg _ _ rfl ht
end Go.Proofs.YtnifmoigalmcmaaGreat
/- The law's twins of a batch that came in: all its rows owned, to be turned later. -/
namespace Go.Proofs.YtnifmoigalmcmaaGreat
open Go Go.RowKit
open Wl
variable {c c' : Col} {w w' : World} {S : Nat × Nat → Prop} {q : Nat × Nat}
/-- Bytes in a row of their own. -/
def QO (w : World) (c : Col) (x : Value) (y : Bs) : Prop := w.ownsRow 0 5 1 x y.length (y.map bv) ∧ ∀ g, x.ownBlock = some g → c g = (0, 0)
theorem QO.stays : Stays QO where
  stay := fun h hk hs hc => ⟨ownsRow_kp h.1 h.2 hk hs, fun g hg => (hc g (ownBlock_lt h.1 g hg)).trans (h.2 g hg)⟩
  one := fun h => by obtain ⟨a, m, k, rfl⟩ := own_slice h.1; rfl
theorem grow_cloneO {B : Nat} {wr w4 : World} {v x : Value} {cf : Col} {l : List Bs} {r : Bs} (G : Grow QO B wr 41 v cf l) (ho : w4.ownsRow 0 5 1 x r.length (r.map bv)) (hf : ∀ g, x.ownBlock = some g → wr.heap.size ≤ g) (hk : ∀ c S, Kp c S wr w4) (o : Obj) :
    ∃ cg xs, Grow QO B (w4.alloc o) 41 v cg l ∧ (w4.alloc o).ownsRow 0 41 1 v l.length xs ∧ QO (w4.alloc o) cg x r := by
  have G1 := G.kp QO.stays (hk cf (fun _ => False)) (fun h => h) (fun h => h)
  have h1 : QO w4 (newCol wr cf (0, 0)) x r := ⟨ho, fun g hg => if_neg (Nat.not_lt.2 (hf g hg))⟩
  have hk : Kp (newCol wr cf (0, 0)) (fun _ => False) w4 (w4.alloc o) := (Kp.refl _ _ _).alloc _
  have G2 := G1.kp QO.stays hk (fun h => h) (fun h => h)
  obtain ⟨xs, hxs, _⟩ := G2.own
  exact ⟨_, xs, G2, hxs, QO.stays.stay h1 hk (fun h => h) (newCol_cx _ _ _)⟩
set_option maxRecDepth 20000 in
set_option maxHeartbeats 1000000 in
theorem twinsO_c (q1 q2 : Nat × Nat) (v : Value) (l : List Bs) (h : BatW w c q1 q2 v l) (hl : l.length ≤ 1000000000) (hb : ∀ r ∈ l, r.length ≤ lim) :
    Calls Tryz.prog 16 #[v] w fun e w' => ∃ v' cf, e = .returned v' ∧ Grow QO w.heap.size w' 41 v' cf l ∧ ∀ c S, Kp c S w w' := by
  obtain ⟨i0, hi, hz0, hz1, hz2⟩ := info_bytes
  have H6 := Lib.hid hi; have H7 := Lib.hid hz0; have H8 := Lib.hid hz1; have H9 := Lib.hid hz2; clear hi hz0 hz1 hz2
  obtain ⟨i1, hi, hz0, hz1, hz2⟩ := info_parts info_u8
  have J6 := Lib.hid hi; have J7 := Lib.hid hz0; have J8 := Lib.hid hz1; have J9 := Lib.hid hz2; clear hi hz0 hz1 hz2
  rcases h.at with ⟨a, cap, rfl, rfl⟩ | ⟨b, o, cap, rfl, hlc, hcm, hx⟩
  · go_enter Tryz.func16, Tryz.ntmps16
    go_wp2
    refine wp_loop_rounds 1 ?_
    rw [rounds_succ]
    go_wp2
    go_ret
    exact ⟨_, _, rfl, Grow.start _ (Nat.le_refl _), fun c S => Kp.refl c S w⟩
  · have HX := Lib.hid hx; have HB := Lib.hid hb; clear hx h hb
    go_enter Tryz.func16, Tryz.ntmps16
    go_wp2
    go_loopw [3, 8] (fun v s wr => ∃ i : Nat, i ≤ l.length ∧ s = .int .i64 i ∧ (∃ cf, Grow QO w.heap.size wr 41 v cf (l.take i)) ∧ ∀ c S, Kp c S w wr) (fun _ s _ => l.length - (intOf s).toNat)
    case atStart => exact ⟨0, by omega, rfl, ⟨_, Grow.start _ (Nat.le_refl _)⟩, fun c S => Kp.refl c S w⟩
    case round =>
      obtain ⟨i, hi, rfl, ⟨cf, G⟩, hK⟩ := hrel
      have HG := Lib.hid G; have HK := Lib.hid hK; clear G hK
      by_cases hlt : i < l.length
      · obtain ⟨a, k, gc, hsc⟩ := HX.out i hlt
        have g0 := (HK.out c (fun _ => False)).cell gc (fun h => h)
        have hbl := HB.out l[i] (List.getElem_mem hlt)
        have htk := List.take_succ_eq_append_getElem hlt
        obtain ⟨r, hr⟩ : ∃ r, r = l[i] := ⟨_, rfl⟩
        rw [← hr] at g0 hsc hbl htk
        have HS := Lib.hid (hsc.kp (HK.out c (fun _ => False)) (fun h => h) (Cx.refl _ _)); have HTK := Lib.hid htk; have HBL := Lib.hid hbl; clear gc hsc hr htk hbl
        obtain ⟨L, hL⟩ : ∃ L, L = l.take i := ⟨_, rfl⟩
        have hLl : L.length = i := by rw [hL, List.length_take]; omega
        rw [← hL] at HG HTK
        have HLL := Lib.hid hLl; clear hL hLl
        go_wp2_with (first
          | (at_builtin; refine wpList_append2 rfl _ _ _ rfl 41 i0 (.slice none 0 0) 24 Tryz.underlying40 H6.out H7.out H8.out H9.out rfl u3 L.length xs5 rfl HO5.out ⟨w4.heap.size, 0, none⟩ 1 1 [.slice a4 m4 k4] rfl rfl (one_new _ _ _) (fun u hu => by rw [List.mem_singleton.1 hu]; exact QO.stays.one HQ5.out) (by rw [HLL.out]; unfold maxLen; omega) (by rw [HLL.out]; omega) ?_; intro v6 w6 hown6 hg6 hf6; have G6 := Lib.hid (HG5.out.push QO.stays HO5.out HQ5.out hown6 hg6 hf6); have HK6 := Lib.hid (fun c S => ((HK4.out c S).alloc _).grown hg6 (fun g hg hlt => absurd (HG5.out.fresh g hg) (by omega))); clear hown6 hg6 hf6)
          | (at_builtin; refine wpList_appendW rfl _ _ _ rfl 5 i1 (.int .u8 0) 1 Tryz.underlying41 J6.out J7.out J8.out J9.out rfl (.slice none 0 0) 0 [] rfl (World.ownsRow_nil _ _ _ _) (.slice a r.length k) (r.map bv) rfl HS.out (one_bv r) (by rw [List.length_map]; have := HBL.out; unfold lim at this; unfold maxLen; omega) (by rw [List.length_map]; have := HBL.out; unfold lim at this; omega) ?_; intro v4 w4 ho4 hg4 hf4; rw [List.length_map, Nat.zero_add, List.nil_append] at ho4; obtain ⟨a4, m4, k4, rfl⟩ := own_slice ho4; have hk4 : ∀ c S, Kp c S wr w4 := (fun c S => Kp.of_grown hg4 (fun g hg => by cases hg)); obtain ⟨cg, xs5, g5, o5, q5⟩ := grow_cloneO HG.out ho4 (fun g hg => (hf4 g hg).elim (fun e => by cases e) id) hk4 (.cells #[.slice a4 m4 k4] 41); have HG5 := Lib.hid g5; have HO5 := Lib.hid o5; have HQ5 := Lib.hid q5; have HK4 := Lib.hid (fun c S => (HK.out c S).alloc_trans (hk4 c S)); clear g5 o5 q5 ho4 hg4 hf4 hk4))
        go_roundw
        case rel => exact ⟨i + 1, by omega, by go_num, ⟨_, by rw [HTK.out]; exact G6.out⟩, HK6.out⟩
        case measure => simp [intOf]; omega
      · obtain rfl : i = l.length := by omega
        go_wp2
        go_ret
        have := HG.out
        rw [List.take_length] at this
        exact ⟨_, _, rfl, this, HK.out⟩
/-- Bytes that may be turned. -/
def XB (w : World) (c : Col) (e : Value) (m : Nat) : Prop :=
  ∃ ad cap, e = .slice ad m cap ∧ (0 < m → ∃ g, ad = some ⟨g, 0, none⟩ ∧ c g = (7, 0) ∧ ∀ j, j < m → (∃ u : UInt8, w.cell? ⟨g, j, none⟩ = some (bv u)) ∧ w.frozen? ⟨g, j, none⟩ = false)
/-- A batch whose bytes may be turned. -/
def XO (w : World) (c : Col) (v : Value) (l : List Nat) : Prop :=
  ∃ a cap, v = .slice a l.length cap ∧ (0 < l.length → ∃ g, a = some ⟨g, 0, none⟩ ∧ c g = (7, 1) ∧ ∀ (i : Nat) m, l[i]? = some m → ∃ e, w.cell? ⟨g, i, none⟩ = some e ∧ XB w c e m)
theorem XB.kp {e : Value} {m : Nat} (h : XB w c e m) (hk : Kp c S w w') (h0 : ¬ S (7, 0)) (hc : Cx w c c') : XB w' c' e m := by
  obtain ⟨ad, cap, rfl, h1⟩ := h
  refine ⟨ad, cap, rfl, fun hm => ?_⟩
  obtain ⟨g, rfl, h2, h3⟩ := h1 hm
  have hlt : g < w.heap.size := World.block_lt_of_cell? _ _ (h3 0 hm).1.choose_spec
  refine ⟨g, rfl, (hc g hlt).trans h2, fun j hj => ?_⟩
  obtain ⟨⟨u, h4⟩, h5⟩ := h3 j hj
  have hb : w'.heap[g]? = w.heap[g]? := hk.block g hlt (by rw [h2]; exact h0)
  exact ⟨⟨u, (World.cell?_of_block hb).trans h4⟩, (World.frozen?_of_block hb).trans h5⟩
theorem XO.kp {v : Value} {l : List Nat} (h : XO w c v l) (hk : Kp c S w w') (h0 : ¬ S (7, 0)) (h1 : ¬ S (7, 1)) (hc : Cx w c c') : XO w' c' v l := by
  obtain ⟨a, cap, rfl, h2⟩ := h
  refine ⟨a, cap, rfl, fun hm => ?_⟩
  obtain ⟨g, rfl, h3, h4⟩ := h2 hm
  obtain ⟨e0, h5, _⟩ := h4 0 l[0] (List.getElem?_eq_getElem hm)
  have hlt : g < w.heap.size := World.block_lt_of_cell? _ _ h5
  refine ⟨g, rfl, (hc g hlt).trans h3, fun i m hi => ?_⟩
  obtain ⟨e, h6, h7⟩ := h4 i m hi
  exact ⟨e, hk.cell h6 (by rw [h3]; exact h1), h7.kp hk h0 hc⟩
theorem XO.turn {v : Value} {l : List Nat} (h : XO w c v l) {g j : Nat} (hg : c g = (7, 0)) (u : UInt8) : XO (w.setCell ⟨g, j, none⟩ (bv u)) c v l := by
  obtain ⟨a, cap, rfl, h2⟩ := h
  refine ⟨a, cap, rfl, fun hm => ?_⟩
  obtain ⟨g0, rfl, h3, h4⟩ := h2 hm
  have hne : g ≠ g0 := fun e => by rw [e, h3] at hg; cases hg
  refine ⟨g0, rfl, h3, fun i m hi => ?_⟩
  obtain ⟨e, h6, ad, cap2, rfl, h7⟩ := h4 i m hi
  refine ⟨_, (World.cell?_setCell_far w ⟨g, j, none⟩ ⟨g0, i, none⟩ _ hne).trans h6, ad, cap2, rfl, fun hm => ?_⟩
  obtain ⟨g1, rfl, h8, h9⟩ := h7 hm
  refine ⟨g1, rfl, h8, fun k hk => ?_⟩
  obtain ⟨⟨x, hx⟩, hf⟩ := h9 k hk
  refine ⟨?_, by rw [World.frozen?_setCell]; exact hf⟩
  by_cases he : (⟨g, j, none⟩ : Addr) = ⟨g1, k, none⟩
  · rw [he]; exact ⟨u, World.cell?_setCell_same _ _ _ hx⟩
  · exact ⟨x, (World.cell?_setCell_other _ _ _ _ he).trans hx⟩
/-- The colours behind a batch of one's own. -/
def mineCol (w : World) (c cf : Col) : Col := fun b => if b < w.heap.size then c b else if cf b = (1, 0) then (7, 1) else (7, 0)
theorem mineCol_cx (w : World) (c cf : Col) : Cx w c (mineCol w c cf) := fun _ hb => if_pos hb
theorem mine_of {v : Value} {cf : Col} {l : List Bs} (G : Grow QO w.heap.size w' 41 v cf l) : Bat w' (mineCol w c cf) (7, 1) (7, 0) v l ∧ XO w' (mineCol w c cf) v (l.map List.length) := by
  obtain ⟨⟨xs, ho, hx⟩, hc, hold, hs⟩ := G
  have hnew : ∀ b, cf b = (0, 0) → mineCol w c cf b = (7, 0) := fun b hb => by
    have h2 : ¬ b < w.heap.size := fun hlt => by rw [hold b hlt] at hb; cases hb
    unfold mineCol
    rw [if_neg h2, if_neg (by rw [hb]; decide)]
  have hout : ∀ g, v.ownBlock = some g → mineCol w c cf g = (7, 1) := fun g hg => by
    have h1 := hc g hg
    have h2 : ¬ g < w.heap.size := fun hlt => by rw [hold g hlt] at h1; cases h1
    unfold mineCol
    rw [if_neg h2, if_pos h1]
  have hlen : xs.length = l.length := by simpa using ho.1
  constructor
  · exact ⟨xs, Sc.of_owns (show w'.ownsRow 0 41 1 v xs.length xs by rw [hlen]; exact ho) hout, hlen, fun i x y hi hj => Sc.of_owns (show w'.ownsRow 0 5 1 x (y.map bv).length (y.map bv) by rw [List.length_map]; exact (hx i x y hi hj).1) (fun g hg => hnew g ((hx i x y hi hj).2 g hg))⟩
  · rcases ho.2 with ⟨rfl, h0⟩ | ⟨g, cap, cur, rfl, hg, hh, hr⟩
    · refine ⟨none, 0, by simp [h0], fun hm => ?_⟩
      simp [h0] at hm
    · refine ⟨_, cap, by simp, fun hm => ⟨g, rfl, hout g rfl, fun i m hi => ?_⟩⟩
      rw [List.getElem?_map] at hi
      obtain ⟨y, hy, rfl⟩ := Option.map_eq_some_iff.1 hi
      have hil : i < xs.length := by rw [hlen]; exact (List.getElem?_eq_some_iff.1 hy).1
      have hxi := List.getElem?_eq_getElem hil
      refine ⟨xs[i], ?_, ?_⟩
      · have := own_cells ho i _ hxi
        rwa [Nat.zero_add] at this
      · obtain ⟨q1, q2⟩ := hx i _ y hxi hy
        rcases q1.2 with ⟨hv, h0⟩ | ⟨g2, cap2, cur2, hv, hg2, hh2, hr2⟩
        · exact ⟨none, 0, by rw [hv, h0], fun hm => by omega⟩
        · refine ⟨_, cap2, hv, fun hm => ⟨g2, rfl, hnew g2 (q2 g2 (by rw [hv]; rfl)), fun j hj => ⟨⟨y[j], ?_⟩, unfrozen_of_heap hh2 j⟩⟩⟩
          rw [hv] at q1
          have := own_cells q1 j (bv y[j]) (by rw [List.getElem?_map, List.getElem?_eq_getElem hj]; rfl)
          rwa [Nat.zero_add] at this
end Go.Proofs.YtnifmoigalmcmaaGreat
