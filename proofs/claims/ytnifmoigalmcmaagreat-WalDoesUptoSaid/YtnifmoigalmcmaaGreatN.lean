import Derived.Test.YtnifmoigalmcmaaGreatQ
namespace Go.Proofs.YtnifmoigalmcmaaGreat
open Go Go.RowKit Go.MapKept Go.Maps
open Dk
variable {c c' : Col} {w w' : World}
theorem file_now {k mb ck : Nat} {es : Array MapEntry} {fb : Nm → Nat} {fs : List (Nm × AFile)} {n : Nm} {f : AFile} (M : MapAt w c k mb es ck fb fs) (hg : get fs n = some f) :
    ∃ an capn, w.cell? ⟨fb n, 2, none⟩ = some (.slice an f.now.length capn) ∧ fb n < w.heap.size := by
  obtain ⟨vs, vc, vn, hh, _, _, _, hnw⟩ := M.files _ (get_mem hg)
  obtain ⟨an, capn, rfl, _⟩ := hnw
  refine ⟨an, capn, ?_, lt_of_heap hh⟩
  have := cell_of_heap hh 2
  rw [List.length_map] at this
  exact this
theorem now_le {m : ADisk} {n : Nm} {f : AFile} (h : m.ok) (hg : get m.files n = some f) : (f.now.length : Int) ≤ 268435456 := by
  have h9 := (h.files _ (get_mem hg)).now
  have h9 : f.now.length ≤ maxFile := h9
  unfold maxFile at h9; omega
theorem OpPost.of {k d : Nat} {p : Int × ADisk} {c1 : Col} {w1 : World} {e : Ending} (hc : Cx w c c1) (hk : Kp c (fun q => q.1 = k) w w1) (h : OpPost k d p c1 w1 e w') : OpPost k d p c w e w' := by
  obtain ⟨he, c2, hc2, hk2, D⟩ := h
  exact ⟨he, c2, hc.trans hc2 hk.size, hk.trans hk2 hc, D⟩
theorem fresh_c2 {w1 w2 : World} {c1 : Col} {e n : Nat} {v : Value} {xs : List Value} (hb : Below w1.heap.size w1 w2) (hown : w2.ownsRow w1.heap.size e 1 v n xs) :
    ∃ c2, Cx w1 c1 c2 ∧ Sc w2 c2 (0, 0) v xs ∧ ∀ S, Kp c1 S w1 w2 := by
  refine ⟨fun b => if b < w1.heap.size then c1 b else (0, 0), fun b hb => if_pos hb, Sc.of_owns hown (fun g hg => ?_), fun S => Kp.of_below hb⟩
  rcases hown.2 with ⟨rfl, _⟩ | ⟨g', _, _, rfl, hle, _⟩
  · cases hg
  · cases hg; exact if_neg (show ¬ g' < w1.heap.size by omega)
theorem truncate_good (k d : Nat) (m : ADisk) (n : Nm) (i : Int) (w : World) (DD : DiskAt w c k d m) (hk0 : k ≠ 0) (hops : m.ops < 900000) (hn : n.length ≤ maxLen) (f : AFile) (h : (begin_ m).1 = 0) (hg : get m.files n = some f) :
    Calls Tryz.prog 72 #[ptr d, str n, .int .i64 i] w (OpPost k d (Dk.truncate m n i) c w) := by
  have e0 : Dk.truncate m n i = _ := good_of h hg (fun f d => if i < 0 then (1, d) else if (maxFile : Int) < i then (2, d) else change d n f (.cut i.toNat) i)
  rw [e0]
  have HB := Lib.hid (open_good k d m n w DD hk0 hops hn f h hg)
  obtain ⟨m1, hm1⟩ : ∃ m1 : ADisk, m1 = { m with ops := m.ops + 1 } := ⟨_, rfl⟩
  have hg1 : get m1.files n = some f := by rw [hm1]; exact hg
  have hmany : f.chs.length + 1 ≤ m1.ops.toNat := by
    obtain ⟨vk, vf, vu, mb, es, ck, fb, D⟩ := DD
    have h1 := (D.ok.files _ (get_mem hg)).many
    have h1 : f.chs.length ≤ m.ops.toNat := h1
    have h2 := D.ok.ops0
    rw [hm1]
    show _ ≤ (m.ops + 1).toNat
    omega
  have hops1 : m1.ops ≤ 900000 := by rw [hm1]; show m.ops + 1 ≤ _; omega
  rw [← hm1] at HB ⊢
  have HG := Lib.hid hg1
  have HM := Lib.hid hmany
  have HO := Lib.hid hops1
  have HK0 := Lib.hid hk0
  have HN := Lib.hid hn
  clear hg1 hmany hops1 hk0 hn e0 hg h hops DD hm1
  unfold ptr at *
  by_cases hi0 : i < 0
  · rw [if_pos hi0]
    go_enter Tryz.func72, Tryz.ntmps72
    go_wp2_with (go_at_call 73; refine HB.out.mono ?_; rintro e w1 ⟨c1, vk, vf, vu, mb, es, ck, fb, rfl, hc1, hk1, D1⟩; have HD := Lib.hid D1; have HC := Lib.hid hc1; have HK := Lib.hid hk1; clear D1 hc1 hk1)
    go_ret
    exact ⟨rfl, c1, HC.out, HK.out, vk, vf, vu, mb, es, ck, fb, HD.out⟩
  · rw [if_neg hi0]
    by_cases hi1 : 268435456 < i
    · rw [if_pos (by unfold maxFile; omega)]
      go_enter Tryz.func72, Tryz.ntmps72
      go_wp2_with (go_at_call 73; refine HB.out.mono ?_; rintro e w1 ⟨c1, vk, vf, vu, mb, es, ck, fb, rfl, hc1, hk1, D1⟩; have HD := Lib.hid D1; have HC := Lib.hid hc1; have HK := Lib.hid hk1; clear D1 hc1 hk1)
      go_ret
      exact ⟨rfl, c1, HC.out, HK.out, vk, vf, vu, mb, es, ck, fb, HD.out⟩
    · rw [if_neg (by unfold maxFile; omega)]
      have hi2 : (i.toNat : Int) = i := by omega
      have HI2 := Lib.hid hi2; clear hi2
      go_enter Tryz.func72, Tryz.ntmps72
      go_wp2_with (first
        | (go_at_call 73; refine HB.out.mono ?_; rintro e w1 ⟨c1, vk, vf, vu, mb, es, ck, fb, rfl, hc1, hk1, D1⟩; have HD := Lib.hid D1; have HC := Lib.hid hc1; have HK := Lib.hid hk1; clear D1 hc1 hk1)
        | (go_at_call 74; refine (put_c k d m1 vk vf vu mb es ck fb n f (.cut i.toNat) _ i _ HD.out HK0.out HG.out (show _ = _ by rw [HI2.out]) (by show _ ≤ maxFile; unfold maxFile; omega) HM.out HO.out (by omega) (by omega)).mono ?_; rintro e w2 ⟨rfl, hp⟩; have HP := Lib.hid hp; clear hp))
      go_ret
      exact OpPost.of HC.out HK.out ⟨rfl, HP.out⟩
theorem sync_good (k d : Nat) (m : ADisk) (n : Nm)  (w : World) (DD : DiskAt w c k d m) (hk0 : k ≠ 0) (hops : m.ops < 900000) (hn : n.length ≤ maxLen) (f : AFile) (h : (begin_ m).1 = 0) (hg : get m.files n = some f) :
    Calls Tryz.prog 68 #[ptr d, str n] w (OpPost k d (Dk.sync m n) c w) := by
  have e0 : Dk.sync m n = _ := good_of h hg (fun f d => (0, { d with files := upd d.files n ⟨f.now, [], f.now⟩ }))
  rw [e0]
  have HB := Lib.hid (open_good k d m n w DD hk0 hops hn f h hg)
  obtain ⟨m1, hm1⟩ : ∃ m1 : ADisk, m1 = { m with ops := m.ops + 1 } := ⟨_, rfl⟩
  have hg1 : get m1.files n = some f := by rw [hm1]; exact hg
  have hmany : f.chs.length + 1 ≤ m1.ops.toNat := by
    obtain ⟨vk, vf, vu, mb, es, ck, fb, D⟩ := DD
    have h1 := (D.ok.files _ (get_mem hg)).many
    have h1 : f.chs.length ≤ m.ops.toNat := h1
    have h2 := D.ok.ops0
    rw [hm1]
    show _ ≤ (m.ops + 1).toNat
    omega
  have hops1 : m1.ops ≤ 900000 := by rw [hm1]; show m.ops + 1 ≤ _; omega
  rw [← hm1] at HB ⊢
  have HG := Lib.hid hg1
  have HM := Lib.hid hmany
  have HO := Lib.hid hops1
  have HK0 := Lib.hid hk0
  have HN := Lib.hid hn
  clear hg1 hmany hops1 hk0 hn e0 hg h hops DD hm1
  unfold ptr at *
  go_enter Tryz.func68, Tryz.ntmps68
  go_wp2_with (go_at_call 73; refine HB.out.mono ?_; rintro e w1 ⟨c1, vk, vf, vu, mb, es, ck, fb, rfl, hc1, hk1, D1⟩; have HD := Lib.hid D1; have HC := Lib.hid hc1; have HK := Lib.hid hk1; obtain ⟨vs, vc, vn, hh, hcf, _, _, hnw⟩ := D1.map.files _ (get_mem HG.out); obtain ⟨an, capn, rfl, _⟩ := id hnw; have hh : w1.heap[fb n]? = _ := hh; rw [List.length_map] at hh; have f0 : w1.cell? ⟨fb n, 0, none⟩ = some vs := cell_of_heap hh 0; have f1 : w1.cell? ⟨fb n, 1, none⟩ = some vc := cell_of_heap hh 1; have f2 : w1.cell? ⟨fb n, 2, none⟩ = some (.slice an f.now.length capn) := cell_of_heap hh 2; have ff : ∀ i, w1.frozen? ⟨fb n, i, none⟩ = false := unfrozen_of_heap hh; have HH := Lib.hid hh; have HNW := Lib.hid hnw; have HCF := Lib.hid hcf; clear hh hnw hcf; clear D1 hc1 hk1)
  go_ret
  have hnw2 := HNW.out
  rw [List.length_map] at hnw2
  have hk2 : Kp c1 (fun q => q = fcol k (fb n) ∨ q = gcol k (fb n)) w1 ((w1.setCell ⟨fb n, 0, none⟩ (.slice an f.now.length capn)).setCell ⟨fb n, 1, none⟩ (.slice none 0 0)) :=
    ((Kp.refl _ _ _).setCell (fun _ => .inl HCF.out) _).setCell (fun _ => .inl HCF.out) _
  have hs2 := hnw2.kp hk2 nS0 (Cx.refl _ _)
  have hfo := HD.out.ok.files _ (get_mem HG.out)
  have hfo : f.ok m1.ops.toNat := hfo
  refine ⟨rfl, c1, HC.out, HK.out.trans (hk2.mono (fun q hq => by rcases hq with rfl | rfl <;> rfl)) HC.out, vk, vf, vu, mb, es, ck, fb, HD.out.upd HG.out hk2 (Cx.refl _ _) ⟨_, .slice none 0 0, _, ?_, HCF.out, hs2, ⟨[], World.ownsRow_nil _ _ _ _, by simp, by simp [Value.ownBlock]⟩, hs2⟩ ⟨hfo.now, hfo.now, (fun c hc => by cases hc), Nat.zero_le _⟩⟩
  have := heap_setCell (heap_setCell HH.out 0 (.slice an f.now.length capn)) 1 (.slice none 0 0)
  simpa using this
set_option maxHeartbeats 4000000 in
theorem append_good (k d : Nat) (m : ADisk) (n : Nm) (v : Value) (b : List UInt8) (w : World) (DD : DiskAt w c k d m) (hk0 : k ≠ 0) (hops : m.ops < 900000) (hn : n.length ≤ maxLen) {q : Nat × Nat} (hv : Sc w c q v (b.map bv)) (hq : q.1 ≠ k) (hb : b.length ≤ lim) (f : AFile) (h : (begin_ m).1 = 0) (hg : get m.files n = some f) :
    Calls Tryz.prog 21 #[ptr d, str n, v] w (OpPost k d (Dk.append m n b) c w) := by
  have e0 : Dk.append m n b = _ := good_of h hg (fun f d => if maxFile < b.length + f.now.length then (2, d) else change d n f (.wr f.now.length b) (f.now.length + b.length))
  rw [e0]
  have HB := Lib.hid (open_good k d m n w DD hk0 hops hn f h hg)
  obtain ⟨m1, hm1⟩ : ∃ m1 : ADisk, m1 = { m with ops := m.ops + 1 } := ⟨_, rfl⟩
  have hg1 : get m1.files n = some f := by rw [hm1]; exact hg
  have hmany : f.chs.length + 1 ≤ m1.ops.toNat := by
    obtain ⟨vk, vf, vu, mb, es, ck, fb, D⟩ := DD
    have h1 := (D.ok.files _ (get_mem hg)).many
    have h1 : f.chs.length ≤ m.ops.toNat := h1
    have h2 := D.ok.ops0
    rw [hm1]
    show _ ≤ (m.ops + 1).toNat
    omega
  have hops1 : m1.ops ≤ 900000 := by rw [hm1]; show m.ops + 1 ≤ _; omega
  rw [← hm1] at HB ⊢
  have HG := Lib.hid hg1
  have HM := Lib.hid hmany
  have HO := Lib.hid hops1
  have HK0 := Lib.hid hk0
  have HN := Lib.hid hn
  obtain ⟨av, capv, rfl, _⟩ := id hv
  rw [List.length_map] at hv ⊢
  have HV := Lib.hid hv
  have HBL := Lib.hid hb
  have HQK := Lib.hid hq
  have hbl : (b.length : Int) ≤ 1099511627776 := by unfold lim at hb; omega
  rename_i hz; clear hz hv hb hq
  clear hg1 hmany hops1 hk0 hn e0 hg h hops DD hm1
  unfold ptr at *
  by_cases hi0 : (268435456 : Int) < b.length + f.now.length
  · rw [if_pos (by unfold maxFile; omega)]
    go_enter Tryz.func21, Tryz.ntmps21
    go_wp2_with (go_at_call 73; refine HB.out.mono ?_; rintro e w1 ⟨c1, vk, vf, vu, mb, es, ck, fb, rfl, hc1, hk1, D1⟩; have HD := Lib.hid D1; have HC := Lib.hid hc1; have HK := Lib.hid hk1; obtain ⟨an, capn, hcn, hlt1⟩ := file_now D1.map HG.out; have hnl := now_le D1.ok HG.out; clear D1 hc1 hk1)
    go_ret
    exact ⟨rfl, c1, HC.out, HK.out, vk, vf, vu, mb, es, ck, fb, HD.out⟩
  · rw [if_neg (by unfold maxFile; omega)]
    go_enter Tryz.func21, Tryz.ntmps21
    go_wp2_with (go_at_call 73; refine HB.out.mono ?_; rintro e w1 ⟨c1, vk, vf, vu, mb, es, ck, fb, rfl, hc1, hk1, D1⟩; have HD := Lib.hid D1; have HC := Lib.hid hc1; have HK := Lib.hid hk1; obtain ⟨an, capn, hcn, hlt1⟩ := file_now D1.map HG.out; have hnl := now_le D1.ok HG.out; have HV1 := Lib.hid (HV.out.kp (hk1.mono (fun q hq => hq)) (by intro h; exact HQK.out h) (Cx.refl _ _)); clear D1 hc1 hk1)
    have hs1 : IntKind.i64.wrap ((f.now.length : Int) + (b.length : Int)) = (f.now.length : Int) + (b.length : Int) := IntWalk.i64_in _ (by omega)
    go_region_with (first
      | (go_at_call 75; refine (cloneB _ _ (show Sc w1.drew c _ _ _ from HV1.out) (one_bv _) (by rw [List.length_map]; exact HBL.out)).mono ?_; rintro e w2 ⟨v2, rfl, hown2, hb2⟩; obtain ⟨c2, hc2, hs2, hk2⟩ := fresh_c2 (c1 := c1) (((Below.refl _ w1).drew).trans hb2) hown2; obtain ⟨a2, cap2, rfl, _⟩ := id hs2; rw [List.length_map] at hs2 ⊢; have HD2 := Lib.hid (HD.out.kp (hk2 (fun _ => False)) (fun _ h => h.elim) hc2); have HV2 := Lib.hid hs2; have HC2 := Lib.hid hc2; have HKK2 := Lib.hid hk2; have cg2 := ((((Below.refl _ w1).drew).trans hb2).cell (p := ⟨fb n, 2, none⟩) hlt1).trans hcn; clear hown2 hb2 hs2 hc2 hk2)
      | (go_at_call 74; refine (put_c k d m1 vk vf vu mb es ck fb n f (.wr f.now.length b) _ (f.now.length + b.length) _ HD2.out HK0.out HG.out ⟨_, rfl, HV2.out⟩ (by show _ ≤ maxFile; unfold maxFile; omega) HM.out HO.out (by omega) (by omega)).mono ?_; rintro e w3 ⟨rfl, hp⟩; have HP := Lib.hid hp; clear hp))
    all_goals
      go_wp2
      go_ret
      exact OpPost.of HC.out HK.out (OpPost.of HC2.out (HKK2.out _) ⟨rfl, HP.out⟩)
end Go.Proofs.YtnifmoigalmcmaaGreat
