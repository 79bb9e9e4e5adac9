/- The document's disk: operations that begin with a name: what they answer where it goes wrong; Create. -/
import Derived.Test.YtnifmoigalmcmaaGreatRp
namespace Go.Proofs.YtnifmoigalmcmaaGreat
open Go Go.RowKit Go.MapKept Go.Maps
open Dk
variable {c c' : Col} {S : Nat × Nat → Prop} {w w' : World} {q : Nat × Nat}
theorem rbegin_ok (k r : Nat) (m : ADisk) (w : World) (DD : RD w c k r m) (hk0 : k ≠ 0) (hops : m.ops < 900000) (h : (begin_ m).1 = 0) :
    Calls Tryz.prog 76 #[ptr r] w fun e w' => e = .returned (.int .i64 0) ∧ ∃ c', Cx w c c' ∧ Kp c (fun q => q.1 = k) w w' ∧ RD w' c' k r { m with ops := m.ops + 1 } := by
  refine (rbegin_c k r m w DD hk0 hops).mono ?_
  rintro e w' ⟨he, hr⟩
  rw [h] at he
  rw [(begin_zero h).1] at hr
  exact ⟨he, hr⟩
theorem rbegin_bad (k r : Nat) (m : ADisk) (w : World) (DD : RD w c k r m) (hk0 : k ≠ 0) (hops : m.ops < 900000) :
    Calls Tryz.prog 76 #[ptr r] w (RPost k r (begin_ m) c w) := rbegin_c k r m w DD hk0 hops
def FindNo (w : World) (e : Ending) (w' : World) : Prop := e = .returned (.int .i64 (-1)) ∧ w = w'
theorem find_no {k r : Nat} {m : ADisk} {vk vf vu vF : Value} {F : List RFl} (D : RD' w c k r m vk vf vu vF F) (n : Nm) (h : get m.files n = none) : Calls Tryz.prog 77 #[ptr r, .string ⟨n.toArray⟩] w (FindNo w) := by
  refine (find_c k r m vk vf vu vF F w D n).mono ?_
  rintro e w' ⟨hw, ⟨he, _⟩ | ⟨i, x, _, _, _, hg⟩⟩
  · exact ⟨he, hw.symm⟩
  · rw [h] at hg; cases hg
def FindYes (i : Nat) (w : World) (e : Ending) (w' : World) : Prop := e = .returned (.int .i64 i) ∧ w = w'
theorem find_yes {k r : Nat} {m : ADisk} {vk vf vu vF : Value} {F : List RFl} (D : RD' w c k r m vk vf vu vF F) (n : Nm) {f : AFile} (h : get m.files n = some f) :
    ∃ i x, F[i]? = some x ∧ x.n = n ∧ x.f = f ∧ ∀ {W : World} {C : Col} {G : Value}, RD' W C k r m vk vf vu G F → Calls Tryz.prog 77 #[ptr r, .string ⟨n.toArray⟩] W (FindYes i W) := by
  have hm := get_mem h
  rw [← D.names] at hm
  obtain ⟨x, hx, e⟩ := List.mem_map.1 hm
  obtain ⟨i, hi⟩ := List.mem_iff_getElem?.1 hx
  simp only [Prod.mk.injEq] at e
  refine ⟨i, x, hi, e.1, e.2, fun {W C G} D2 => ?_⟩
  refine (find_c k r m vk vf vu G F W D2 n).mono ?_
  rintro e' w' ⟨hw, ⟨_, hg⟩ | ⟨j, y, he, hj, hyn, _⟩⟩
  · rw [h] at hg; cases hg
  · have hij : i = j := by
      have hr := D.ok.rising
      rw [← D.names] at hr
      have hp := List.pairwise_iff_getElem.1 (List.pairwise_map.1 hr)
      obtain ⟨a1, b1⟩ := List.getElem?_eq_some_iff.1 hi
      obtain ⟨a2, b2⟩ := List.getElem?_eq_some_iff.1 hj
      rcases Nat.lt_trichotomy i j with h1 | h1 | h1
      · have := hp i j a1 a2 h1; rw [b1, b2] at this; simp only [e.1, hyn] at this; exact absurd this (List.lt_irrefl _)
      · exact h1
      · have := hp j i a2 a1 h1; rw [b1, b2] at this; simp only [e.1, hyn] at this; exact absurd this (List.lt_irrefl _)
    subst hij
    exact ⟨he, hw.symm⟩
theorem rmay_str (n : Nm) (w : World) (hn : n.length ≤ maxLen) : Calls Tryz.prog 125 #[.string ⟨n.toArray⟩] w fun e w' => e = .returned (.bool (named n)) ∧ w = w' :=
  (rmay ⟨n.toArray⟩ w (by simpa [ByteArray.size] using hn)).mono fun e w' h => ⟨by simpa using h.1, h.2.symm⟩
theorem rappend_bad (k r : Nat) (m : ADisk) (n : Nm) (v : Value) (w : World) (DD : RD w c k r m) (hk0 : k ≠ 0) (hops : m.ops < 900000) (h : openErr m n ≠ 0) :
    Calls Tryz.prog 22 #[ptr r, .string ⟨n.toArray⟩, v] w (RPost k r (openErr m n, (begin_ m).2) c w) := by
  by_cases h0 : (begin_ m).1 ≠ 0
  · have e : openErr m n = (begin_ m).1 := by unfold openErr; rw [if_pos h0]
    have HB := Lib.hid (rbegin_bad k r m w DD hk0 hops)
    rw [e]
    clear DD hk0 hops e h
    have h1 : ((begin_ m).1 != 0) = true := by simpa using h0
    obtain ⟨b, hb⟩ : ∃ b, b = (begin_ m).1 := ⟨_, rfl⟩
    unfold RPost at HB
    rw [← hb] at h1 HB ⊢
    clear hb h0
    unfold ptr at *
    go_enter Tryz.func22, Tryz.ntmps22
    go_wp2_with (go_at_call 76; refine HB.out.mono ?_; rintro e w1 ⟨rfl, hr1⟩; have HR := Lib.hid hr1; clear hr1)
    go_ret
    exact ⟨rfl, HR.out⟩
  · have h0 : (begin_ m).1 = 0 := by omega
    have hg : get m.files n = none := by
      unfold openErr at h
      rw [if_neg (by omega), (begin_zero h0).1] at h
      cases hg : get m.files n with
      | none => rfl
      | some f =>
        have hg : get ({ m with ops := m.ops + 1 } : ADisk).files n = some f := hg
        rw [hg] at h; exact absurd rfl h
    have e : openErr m n = 13 := by
      unfold openErr
      rw [if_neg (by omega), (begin_zero h0).1]
      have hg : get ({ m with ops := m.ops + 1 } : ADisk).files n = none := hg
      rw [hg]
    have HB := Lib.hid (rbegin_ok k r m w DD hk0 hops h0)
    rw [e, (begin_zero h0).1]
    have HG := Lib.hid hg
    clear DD hk0 hops e h h0 hg
    unfold ptr at *
    go_enter Tryz.func22, Tryz.ntmps22
    go_wp2_with (first
      | (go_at_call 76; refine HB.out.mono ?_; rintro e w1 ⟨rfl, c1, hc1, hk1, D1⟩; have HC := Lib.hid hc1; have HK := Lib.hid hk1; obtain ⟨vk, vf, vu, vF, F, D⟩ := D1; have HD := Lib.hid D; clear hc1 hk1 D)
      | (go_at_call 77; refine (find_no HD.out n HG.out).mono ?_; rintro e w2 ⟨rfl, rfl⟩))
    go_ret
    exact ⟨rfl, c1, HC.out, HK.out, vk, vf, vu, vF, F, HD.out⟩
theorem rtruncate_bad (k r : Nat) (m : ADisk) (n : Nm) (i : Int) (w : World) (DD : RD w c k r m) (hk0 : k ≠ 0) (hops : m.ops < 900000) (h : openErr m n ≠ 0) :
    Calls Tryz.prog 65 #[ptr r, .string ⟨n.toArray⟩, .int .i64 i] w (RPost k r (openErr m n, (begin_ m).2) c w) := by
  by_cases h0 : (begin_ m).1 ≠ 0
  · have e : openErr m n = (begin_ m).1 := by unfold openErr; rw [if_pos h0]
    have HB := Lib.hid (rbegin_bad k r m w DD hk0 hops)
    rw [e]
    clear DD hk0 hops e h
    have h1 : ((begin_ m).1 != 0) = true := by simpa using h0
    obtain ⟨b, hb⟩ : ∃ b, b = (begin_ m).1 := ⟨_, rfl⟩
    unfold RPost at HB
    rw [← hb] at h1 HB ⊢
    clear hb h0
    unfold ptr at *
    go_enter Tryz.func65, Tryz.ntmps65
    go_wp2_with (go_at_call 76; refine HB.out.mono ?_; rintro e w1 ⟨rfl, hr1⟩; have HR := Lib.hid hr1; clear hr1)
    go_ret
    exact ⟨rfl, HR.out⟩
  · have h0 : (begin_ m).1 = 0 := by omega
    have hg : get m.files n = none := by
      unfold openErr at h
      rw [if_neg (by omega), (begin_zero h0).1] at h
      cases hg : get m.files n with
      | none => rfl
      | some f =>
        have hg : get ({ m with ops := m.ops + 1 } : ADisk).files n = some f := hg
        rw [hg] at h; exact absurd rfl h
    have e : openErr m n = 13 := by
      unfold openErr
      rw [if_neg (by omega), (begin_zero h0).1]
      have hg : get ({ m with ops := m.ops + 1 } : ADisk).files n = none := hg
      rw [hg]
    have HB := Lib.hid (rbegin_ok k r m w DD hk0 hops h0)
    rw [e, (begin_zero h0).1]
    have HG := Lib.hid hg
    clear DD hk0 hops e h h0 hg
    unfold ptr at *
    go_enter Tryz.func65, Tryz.ntmps65
    go_wp2_with (first
      | (go_at_call 76; refine HB.out.mono ?_; rintro e w1 ⟨rfl, c1, hc1, hk1, D1⟩; have HC := Lib.hid hc1; have HK := Lib.hid hk1; obtain ⟨vk, vf, vu, vF, F, D⟩ := D1; have HD := Lib.hid D; clear hc1 hk1 D)
      | (go_at_call 77; refine (find_no HD.out n HG.out).mono ?_; rintro e w2 ⟨rfl, rfl⟩))
    go_ret
    exact ⟨rfl, c1, HC.out, HK.out, vk, vf, vu, vF, F, HD.out⟩
theorem rsync_bad (k r : Nat) (m : ADisk) (n : Nm)  (w : World) (DD : RD w c k r m) (hk0 : k ≠ 0) (hops : m.ops < 900000) (h : openErr m n ≠ 0) :
    Calls Tryz.prog 66 #[ptr r, .string ⟨n.toArray⟩] w (RPost k r (openErr m n, (begin_ m).2) c w) := by
  by_cases h0 : (begin_ m).1 ≠ 0
  · have e : openErr m n = (begin_ m).1 := by unfold openErr; rw [if_pos h0]
    have HB := Lib.hid (rbegin_bad k r m w DD hk0 hops)
    rw [e]
    clear DD hk0 hops e h
    have h1 : ((begin_ m).1 != 0) = true := by simpa using h0
    obtain ⟨b, hb⟩ : ∃ b, b = (begin_ m).1 := ⟨_, rfl⟩
    unfold RPost at HB
    rw [← hb] at h1 HB ⊢
    clear hb h0
    unfold ptr at *
    go_enter Tryz.func66, Tryz.ntmps66
    go_wp2_with (go_at_call 76; refine HB.out.mono ?_; rintro e w1 ⟨rfl, hr1⟩; have HR := Lib.hid hr1; clear hr1)
    go_ret
    exact ⟨rfl, HR.out⟩
  · have h0 : (begin_ m).1 = 0 := by omega
    have hg : get m.files n = none := by
      unfold openErr at h
      rw [if_neg (by omega), (begin_zero h0).1] at h
      cases hg : get m.files n with
      | none => rfl
      | some f =>
        have hg : get ({ m with ops := m.ops + 1 } : ADisk).files n = some f := hg
        rw [hg] at h; exact absurd rfl h
    have e : openErr m n = 13 := by
      unfold openErr
      rw [if_neg (by omega), (begin_zero h0).1]
      have hg : get ({ m with ops := m.ops + 1 } : ADisk).files n = none := hg
      rw [hg]
    have HB := Lib.hid (rbegin_ok k r m w DD hk0 hops h0)
    rw [e, (begin_zero h0).1]
    have HG := Lib.hid hg
    clear DD hk0 hops e h h0 hg
    unfold ptr at *
    go_enter Tryz.func66, Tryz.ntmps66
    go_wp2_with (first
      | (go_at_call 76; refine HB.out.mono ?_; rintro e w1 ⟨rfl, c1, hc1, hk1, D1⟩; have HC := Lib.hid hc1; have HK := Lib.hid hk1; obtain ⟨vk, vf, vu, vF, F, D⟩ := D1; have HD := Lib.hid D; clear hc1 hk1 D)
      | (go_at_call 77; refine (find_no HD.out n HG.out).mono ?_; rintro e w2 ⟨rfl, rfl⟩))
    go_ret
    exact ⟨rfl, c1, HC.out, HK.out, vk, vf, vu, vF, F, HD.out⟩
def crB (n : Nm) (m1 : ADisk) : Int × ADisk := if named n = false then (15, m1) else if (get m1.files n).isSome = true then (14, m1) else if 4096 ≤ m1.files.length then (2, m1) else if rroom m1 0 = true then (0, { m1 with files := ins n ⟨[], [], []⟩ m1.files }) else (12, m1)
theorem create_ok {m : ADisk} {n : Nm} (h0 : (begin_ m).1 = 0) : Dk.create m n = crB n { m with ops := m.ops + 1 } := by
  have hz := (begin_zero h0).1
  unfold Dk.create
  rcases hb : begin_ m with ⟨b, d⟩
  rw [hb] at h0 hz
  simp only at h0 hz
  subst h0 hz
  have hrr := rroom_room { m with ops := m.ops + 1 } 0 0
  rw [Int.sub_self] at hrr
  simp only [hrr, crB]
  split
  · rename_i h; exact absurd rfl h
  · split
    · rfl
    split
    · rfl
    split
    · rfl
    by_cases hr : rroom { m with ops := m.ops + 1 } 0 = true
    · rw [if_pos hr, if_neg (by simp), if_pos hr]
    · rw [if_neg hr, if_pos (by decide), if_neg hr]
set_option maxRecDepth 20000 in
set_option maxHeartbeats 4000000 in
theorem rcreate_c (k r : Nat) (m : ADisk) (n : Nm) (w : World) (DD : RD w c k r m) (hk0 : k ≠ 0) (hops : m.ops < 900000) (hn : n.length ≤ maxLen) :
    Calls Tryz.prog 62 #[ptr r, .string ⟨n.toArray⟩] w (RPost k r (Dk.create m n) c w) := by
  by_cases h0 : (begin_ m).1 ≠ 0
  · have e : Dk.create m n = begin_ m := by
      unfold Dk.create
      rcases hb : begin_ m with ⟨b, d⟩
      rw [hb] at h0
      simp only at h0 ⊢
      rw [if_pos h0]
    have HB := Lib.hid (rbegin_bad k r m w DD hk0 hops)
    rw [e]
    clear DD hk0 hops e
    have h1 : ((begin_ m).1 != 0) = true := by simpa using h0
    unfold RPost at HB ⊢
    obtain ⟨b, hb⟩ : ∃ b, b = (begin_ m).1 := ⟨_, rfl⟩
    rw [← hb] at h1 HB ⊢
    clear hb h0
    unfold ptr at *
    go_enter Tryz.func62, Tryz.ntmps62
    go_wp2_with (go_at_call 76; refine HB.out.mono ?_; rintro e w1 ⟨rfl, hr1⟩; have HR := Lib.hid hr1; clear hr1)
    go_ret
    exact ⟨rfl, HR.out⟩
  · have h0 : (begin_ m).1 = 0 := by omega
    have hz := (begin_zero h0).1
    have HB := rbegin_ok k r m w DD hk0 hops h0
    have HO : ({ m with ops := m.ops + 1 } : ADisk).ops ≤ 1000000 := by show m.ops + 1 ≤ _; omega
    have HK0 := Lib.hid hk0
    have HNM := Lib.hid (fun W => rmay_str n W hn)
    rw [create_ok h0]
    clear DD hk0 h0 hz hops
    generalize ({ m with ops := m.ops + 1 } : ADisk) = m1 at HB HO ⊢
    have HB := Lib.hid HB
    have HO := Lib.hid HO
    unfold crB
    unfold ptr at *
    by_cases hnm : named n = false
    · rw [if_pos hnm]
      rw [hnm] at HNM
      clear hnm
      go_enter Tryz.func62, Tryz.ntmps62
      go_wp2_with (first
        | (go_at_call 76; refine HB.out.mono ?_; rintro e w1 ⟨rfl, hr1⟩; have HR := Lib.hid hr1; clear hr1)
        | (go_at_call 125; refine (HNM.out _).mono ?_; rintro e w2 ⟨rfl, rfl⟩))
      go_ret
      exact ⟨rfl, HR.out⟩
    · rw [if_neg hnm]
      have hnm : named n = true := by simpa using hnm
      have hnl : n.length ≤ 32 := by
        unfold named at hnm
        simp only [Bool.and_eq_true, decide_eq_true_eq] at hnm
        exact hnm.2.2
      rw [hnm] at HNM
      have HNL := Lib.hid hnl
      clear hnm hnl
      by_cases hg : (get m1.files n).isSome = true
      · rw [if_pos hg]
        obtain ⟨f, hf⟩ := Option.isSome_iff_exists.1 hg
        have HG := Lib.hid hf
        clear hf hg
        go_enter Tryz.func62, Tryz.ntmps62
        go_wp2_with (first
          | (go_at_call 76; refine HB.out.mono ?_; rintro e w1 ⟨rfl, c1, hc1, hk1, D1⟩; have HC := Lib.hid hc1; have HK := Lib.hid hk1; obtain ⟨vk, vf, vu, vF, F, D⟩ := D1; have HD := Lib.hid D; obtain ⟨i, x, hix, -, -, hfy⟩ := find_yes D n HG.out; have HFY := Lib.hid (hfy D); have hi0 : (0 : Int) ≤ (i : Int) := Int.natCast_nonneg _; clear hc1 hk1 D hix hfy)
          | (go_at_call 125; refine (HNM.out _).mono ?_; rintro e w2 ⟨rfl, rfl⟩)
          | (go_at_call 77; refine HFY.out.mono ?_; rintro e w2 ⟨rfl, rfl⟩))
        go_ret
        exact ⟨rfl, c1, HC.out, HK.out, vk, vf, vu, vF, F, HD.out⟩
      · rw [if_neg hg]
        have hg : get m1.files n = none := by simpa using hg
        have HG := Lib.hid hg
        clear hg
        by_cases hm : 4096 ≤ m1.files.length
        · rw [if_pos hm]
          go_enter Tryz.func62, Tryz.ntmps62
          go_wp2_with (first
            | (go_at_call 76; refine HB.out.mono ?_; rintro e w1 ⟨rfl, c1, hc1, hk1, D1⟩; have HC := Lib.hid hc1; have HK := Lib.hid hk1; obtain ⟨vk, vf, vu, vF, F, D⟩ := D1; have HD := Lib.hid D; obtain ⟨af, kf, e⟩ := D.files.shape; have hr5 := D.c5; rw [e] at hr5; have HE := Lib.hid e; have hFl : (4096 : Int) ≤ (F.length : Int) := (by have h9 := D.names; rw [← h9, List.length_map] at hm; omega); clear hc1 hk1 D e)
            | (go_at_call 125; refine (HNM.out _).mono ?_; rintro e w2 ⟨rfl, rfl⟩)
            | (go_at_call 77; refine (find_no HD.out n HG.out).mono ?_; rintro e w2 ⟨rfl, rfl⟩))
          go_ret
          exact ⟨rfl, c1, HC.out, HK.out, vk, vf, vu, vF, F, HD.out⟩
        · rw [if_neg hm]
          by_cases hrm : rroom m1 0 = true
          · rw [if_pos hrm]
            go_enter Tryz.func62, Tryz.ntmps62
            go_wp2_with (first
              | (go_at_call 76; refine HB.out.mono ?_; rintro e w1 ⟨rfl, c1, hc1, hk1, D1⟩; have HC := Lib.hid hc1; have HK := Lib.hid hk1; obtain ⟨vk, vf, vu, vF, F, D⟩ := D1; have HD := Lib.hid D; obtain ⟨af, kf, e⟩ := D.files.shape; have hr5 := D.c5; rw [e] at hr5; have HE := Lib.hid e; have hFl : (F.length : Int) < 4096 := (by have h9 := D.names; rw [← h9, List.length_map] at hm; omega); clear hc1 hk1 D e)
              | (go_at_call 125; refine (HNM.out _).mono ?_; rintro e w2 ⟨rfl, rfl⟩)
              | (go_at_call 77; refine (find_no HD.out n HG.out).mono ?_; rintro e w2 ⟨rfl, rfl⟩)
              | (go_at_call 126; refine (rroom_c k r _ vk vf vu _ F _ HD.out HO.out 0 (by omega) (by omega)).mono ?_; rintro e w3 ⟨rfl, hb3⟩; have HB3 := Lib.hid hb3; have HD3 := Lib.hid (HD.out.kp (S := S2F) (Kp.of_below hb3) (fun _ h => h.elim) (Cx.refl _ _)); clear hb3)
              | (go_at_call 127; refine (rput_c k r m1 vk vf vu vF F _ HD3.out HK0.out ⟨n, ⟨[], [], []⟩, .slice none 0 0, .slice none 0 0, []⟩ ⟨Sc.nil _ _ _, rfl, ⟨World.ownsRow_nil _ _ _ _, (fun p hp => by cases hp), (fun g hg => by cases hg)⟩, rfl⟩ (fun y hy g hg => by cases hg) (fun y hy e => get_none HG.out _ (HD3.out.mem hy) e) HNL.out (by omega) ⟨Nat.zero_le _, Nat.zero_le _, (fun c hc => by cases hc), Nat.zero_le _⟩).mono ?_; rintro e w4 ⟨rfl, c4, hc4, hk4, hd4⟩; have HC4 := Lib.hid hc4; have HK4 := Lib.hid hk4; have HD4 := Lib.hid hd4; clear hc4 hk4 hd4))
            go_ret
            exact ⟨rfl, c4, HC.out.trans HC4.out (Nat.le_trans HK.out.size HB3.out.size), (HK.out.trans ((Kp.of_below HB3.out).trans HK4.out (Cx.refl _ _)) HC.out), HD4.out⟩
          · rw [if_neg hrm]
            have hrm : rroom m1 0 = false := by simpa using hrm
            go_enter Tryz.func62, Tryz.ntmps62
            go_wp2_with (first
              | (go_at_call 76; refine HB.out.mono ?_; rintro e w1 ⟨rfl, c1, hc1, hk1, D1⟩; have HC := Lib.hid hc1; have HK := Lib.hid hk1; obtain ⟨vk, vf, vu, vF, F, D⟩ := D1; have HD := Lib.hid D; obtain ⟨af, kf, e⟩ := D.files.shape; have hr5 := D.c5; rw [e] at hr5; have HE := Lib.hid e; have hFl : (F.length : Int) < 4096 := (by have h9 := D.names; rw [← h9, List.length_map] at hm; omega); clear hc1 hk1 D e)
              | (go_at_call 125; refine (HNM.out _).mono ?_; rintro e w2 ⟨rfl, rfl⟩)
              | (go_at_call 77; refine (find_no HD.out n HG.out).mono ?_; rintro e w2 ⟨rfl, rfl⟩)
              | (go_at_call 126; refine (rroom_c k r _ vk vf vu _ F _ HD.out HO.out 0 (by omega) (by omega)).mono ?_; rintro e w3 ⟨rfl, hb3⟩; have HB3 := Lib.hid hb3; have HD3 := Lib.hid (HD.out.kp (S := S2F) (Kp.of_below hb3) (fun _ h => h.elim) (Cx.refl _ _)); clear hb3))
            go_ret
            exact ⟨rfl, c1, HC.out, HK.out.trans (Kp.of_below HB3.out) HC.out, vk, vf, vu, vF, F, HD3.out⟩
end Go.Proofs.YtnifmoigalmcmaaGreat
/- The document's disk: operations on a file that is: Append, WriteAt, Truncate, Remove. -/
namespace Go.Proofs.YtnifmoigalmcmaaGreat
open Go Go.RowKit Go.MapKept Go.Maps
open Dk
variable {c c' : Col} {S : Nat × Nat → Prop} {w w' : World} {q : Nat × Nat}
theorem RPost.of {k r : Nat} {p : Int × ADisk} {c1 : Col} {w1 : World} {e : Ending} (hc : Cx w c c1) (hk : Kp c (fun q => q.1 = k) w w1) (h : RPost k r p c1 w1 e w') : RPost k r p c w e w' := by
  obtain ⟨he, c', hc', hk', hd⟩ := h
  exact ⟨he, c', hc.trans hc' hk.size, hk.trans hk' hc, hd⟩
theorem rmany {m : ADisk} {n : Nm} {f : AFile} (h : m.ok) (hg : get m.files n = some f) : f.chs.length + 1 ≤ ({ m with ops := m.ops + 1 } : ADisk).ops.toNat := by
  have h1 : f.chs.length ≤ m.ops.toNat := (h.files _ (get_mem hg)).many
  have h2 := h.ops0
  show f.chs.length + 1 ≤ (m.ops + 1).toNat
  omega
set_option maxRecDepth 20000 in
set_option maxHeartbeats 4000000 in
theorem rappend_good (k r : Nat) (m : ADisk) (n : Nm) (v : Value) (b : List UInt8) (w : World) (DD : RD w c k r m) (hk0 : k ≠ 0) (hops : m.ops < 900000) (hv : Sw w c q v (b.map bv)) (hq : q.1 ≠ k) (hb : b.length ≤ lim) (f : AFile) (h : (begin_ m).1 = 0) (hg : get m.files n = some f) :
    Calls Tryz.prog 22 #[ptr r, .string ⟨n.toArray⟩, v] w (RPost k r (Dk.append m n b) c w) := by
  have e : Dk.append m n b = (if maxFile < b.length + f.now.length then (2, { m with ops := m.ops + 1 }) else Dk.change { m with ops := m.ops + 1 } n f (.wr f.now.length b) (f.now.length + b.length)) := good_of h hg (fun f d => if maxFile < b.length + f.now.length then (2, d) else Dk.change d n f (.wr f.now.length b) (f.now.length + b.length))
  rw [e]
  clear e
  have hok : m.ok := by obtain ⟨_, _, _, _, _, D⟩ := DD; exact D.ok
  have HMANY := rmany hok hg
  have HB := rbegin_ok k r m w DD hk0 hops h
  have HO : ({ m with ops := m.ops + 1 } : ADisk).ops ≤ 1000000 := by show m.ops + 1 ≤ _; omega
  have HK0 := Lib.hid hk0
  have HG : get ({ m with ops := m.ops + 1 } : ADisk).files n = some f := hg
  clear DD hk0 hops h hg hok
  generalize ({ m with ops := m.ops + 1 } : ADisk) = m1 at HMANY HB HO HG ⊢
  have HB := Lib.hid HB
  have HO := Lib.hid HO
  have HG := Lib.hid HG
  have HMANY := Lib.hid HMANY
  unfold ptr at *
  obtain ⟨av, cv, rfl, _⟩ := id hv
  rw [List.length_map] at hv ⊢
  have hbl : (b.length : Int) ≤ 1099511627776 := by unfold lim at hb; omega
  have HV := Lib.hid hv; clear hv
  have HQ := Lib.hid hq; clear hq
  have HBL := Lib.hid hb; clear hb
  by_cases hfit : maxFile < b.length + f.now.length
  · rw [if_pos hfit]
    have HFIT := Lib.hid hfit; clear hfit
    go_enter Tryz.func22, Tryz.ntmps22
    go_wp2_with (go_at_call 76; refine HB.out.mono ?_; rintro e w1 ⟨rfl, c1, hc1, hk1, D1⟩)
    obtain ⟨vk, vf, vu, vF, F, D⟩ := D1
    obtain ⟨i, x, hix, hxn, hxf, hfy⟩ := find_yes D n HG.out
    have HFY := Lib.hid (hfy D)
    have hi0 : (0 : Int) ≤ (i : Int) := Int.natCast_nonneg _
    have hilt : i < F.length := (List.getElem?_eq_some_iff.1 hix).1
    have hlen := D.len
    have hlen' : (F.length : Int) ≤ 4096 := by omega
    have hilt' : (i : Int) < (F.length : Int) := by omega
    have HC := Lib.hid hc1
    have HK := Lib.hid hk1
    have HD := Lib.hid D
    have HIX := Lib.hid hix
    have HXN := Lib.hid hxn
    have HXF := Lib.hid hxf
    obtain ⟨g, kf, e2, hlc, hcm, -, f0, f1, f2, -⟩ := D.files.cells hix
    have hr5 := D.c5
    rw [e2] at hr5
    have hrl : r < w1.heap.size := D.lt
    have hgl : g < w1.heap.size := World.block_lt_of_cell? _ _ f1
    have HE2 := Lib.hid e2
    have hRF := D.files.each x (List.mem_of_getElem? hix)
    obtain ⟨asx, ksx, evs, -⟩ := id hRF.safe
    obtain ⟨avc, kvc, evc⟩ := own_shape hRF.chs.own
    rw [List.length_map] at evs
    have hnow := (D.fok (List.mem_of_getElem? hix)).now
    have hnow' : (x.f.now.length : Int) ≤ 268435456 := by unfold maxFile at hnow; omega
    have hdc := fun W hW => data_c (c := c1) k x W hW (D.fok (List.mem_of_getElem? hix)) (by have := HO.out; omega) (D.nok (List.mem_of_getElem? hix))
    rw [evs] at f1 hdc
    rw [evc] at f2 hdc
    unfold str at f0
    have HDC := Lib.hid hdc
    have HRF := Lib.hid hRF
    clear hc1 hk1 D hix hxn hxf hfy e2 hlc hcm hRF evs evc hnow hdc hlen hilt
    have hfit2 : 268435456 - (x.f.now.length : Int) < (b.length : Int) := by have hfit := HFIT.out; rw [HXF.out]; unfold maxFile at hfit; omega
    go_wp2_with (first | (go_at_call 77; refine HFY.out.mono ?_; rintro e w2 ⟨rfl, rfl⟩) | (go_at_call 78; refine (HDC.out _ HRF.out).mono ?_; rintro e w2 ⟨v2, rfl, hown2, hb2⟩; have HB2 := Lib.hid hb2; obtain ⟨a2, cap2, rfl⟩ := own_shape hown2; clear hown2 hb2))
    go_ret
    exact ⟨rfl, c1, HC.out, HK.out.trans (Kp.of_below HB2.out) HC.out, vk, vf, vu, vF, F, HD.out.kp (S := S2F) (Kp.of_below HB2.out) (fun _ h => h.elim) (Cx.refl _ _)⟩
  · rw [if_neg hfit]
    have HFIT := Lib.hid hfit; clear hfit
    go_enter Tryz.func22, Tryz.ntmps22
    go_wp2_with (go_at_call 76; refine HB.out.mono ?_; rintro e w1 ⟨rfl, c1, hc1, hk1, D1⟩)
    obtain ⟨vk, vf, vu, vF, F, D⟩ := D1
    obtain ⟨i, x, hix, hxn, hxf, hfy⟩ := find_yes D n HG.out
    have HFY := Lib.hid (hfy D)
    have hi0 : (0 : Int) ≤ (i : Int) := Int.natCast_nonneg _
    have hilt : i < F.length := (List.getElem?_eq_some_iff.1 hix).1
    have hlen := D.len
    have hlen' : (F.length : Int) ≤ 4096 := by omega
    have hilt' : (i : Int) < (F.length : Int) := by omega
    have HC := Lib.hid hc1
    have HK := Lib.hid hk1
    have HD := Lib.hid D
    have HIX := Lib.hid hix
    have HXN := Lib.hid hxn
    have HXF := Lib.hid hxf
    obtain ⟨g, kf, e2, hlc, hcm, -, f0, f1, f2, -⟩ := D.files.cells hix
    have hr5 := D.c5
    rw [e2] at hr5
    have hrl : r < w1.heap.size := D.lt
    have hgl : g < w1.heap.size := World.block_lt_of_cell? _ _ f1
    have HE2 := Lib.hid e2
    have hRF := D.files.each x (List.mem_of_getElem? hix)
    obtain ⟨asx, ksx, evs, -⟩ := id hRF.safe
    obtain ⟨avc, kvc, evc⟩ := own_shape hRF.chs.own
    rw [List.length_map] at evs
    have hnow := (D.fok (List.mem_of_getElem? hix)).now
    have hnow' : (x.f.now.length : Int) ≤ 268435456 := by unfold maxFile at hnow; omega
    have hdc := fun W hW => data_c (c := c1) k x W hW (D.fok (List.mem_of_getElem? hix)) (by have := HO.out; omega) (D.nok (List.mem_of_getElem? hix))
    rw [evs] at f1 hdc
    rw [evc] at f2 hdc
    unfold str at f0
    have HDC := Lib.hid hdc
    have HRF := Lib.hid hRF
    clear hc1 hk1 D hix hxn hxf hfy e2 hlc hcm hRF evs evc hnow hdc hlen hilt
    have hfit2 : ¬ 268435456 - (x.f.now.length : Int) < (b.length : Int) := by have hfit := HFIT.out; rw [HXF.out]; unfold maxFile at hfit; omega
    have hfit3 : (x.f.now.length : Int) + (b.length : Int) ≤ 268435456 := by omega
    go_wp2_with (first | (go_at_call 77; refine HFY.out.mono ?_; rintro e w2 ⟨rfl, rfl⟩) | (go_at_call 78; refine (HDC.out _ HRF.out).mono ?_; rintro e w2 ⟨v2, rfl, hown2, hb2⟩; have HB2 := Lib.hid hb2; obtain ⟨a2, cap2, rfl⟩ := own_shape hown2; clear hown2 hb2) | (go_at_call 80; refine (rtwinb _ _ ((HV.out.kp HK.out (fun h => HQ.out h) HC.out).kp (Kp.of_below (S := S2F) HB2.out) (fun h => h) (Cx.refl _ _)) (one_bv _) (by rw [List.length_map]; exact HBL.out)).mono ?_; rintro e w3 ⟨v3, rfl, hown3, hb3⟩; rw [List.length_map] at hown3; obtain ⟨c3, hc3, hsc3⟩ := fresh_c2 (c1 := c1) hb3 hown3; obtain ⟨a3, cap3, rfl⟩ := own_shape hown3; have HC3 := Lib.hid hc3; have HSC3 := Lib.hid hsc3; have HB3 := Lib.hid hb3; clear hown3 hb3 hc3 hsc3) | (go_at_call 79; refine (rchange_c (c := c3) k r m1 vk vf vu vF F _ ((HD.out.kp (S := S2F) (Kp.of_below HB2.out) (fun _ h => h.elim) (Cx.refl _ _)).kp (S := S2F) (Kp.of_below HB3.out) (fun _ h => h.elim) HC3.out) HO.out HIX.out (.wr x.f.now.length b) (.slice a3 b.length cap3) HSC3.out.1 (by show _ ≤ maxFile; unfold maxFile; omega) _ _ _ _ rfl _ (by omega) (by omega) (by rw [HXF.out]; exact HMANY.out)).mono ?_; rintro e w4 hp; have HP := Lib.hid hp; obtain ⟨rfl, -⟩ := hp))
    go_ret
    have hp := HP.out
    rw [HXN.out, HXF.out] at hp ⊢
    exact RPost.of HC.out HK.out (RPost.of (Cx.refl _ _) (Kp.of_below HB2.out) (RPost.of HC3.out (Kp.of_below HB3.out) hp))
set_option maxRecDepth 20000 in
set_option maxHeartbeats 4000000 in
theorem rtruncate_good (k r : Nat) (m : ADisk) (n : Nm) (t : Int) (w : World) (DD : RD w c k r m) (hk0 : k ≠ 0) (hops : m.ops < 900000) (f : AFile) (h : (begin_ m).1 = 0) (hg : get m.files n = some f) :
    Calls Tryz.prog 65 #[ptr r, .string ⟨n.toArray⟩, .int .i64 t] w (RPost k r (Dk.truncate m n t) c w) := by
  have e : Dk.truncate m n t = (if t < 0 then (1, { m with ops := m.ops + 1 }) else if (maxFile : Int) < t then (2, { m with ops := m.ops + 1 }) else Dk.change { m with ops := m.ops + 1 } n f (.cut t.toNat) t) := good_of h hg (fun f d => if t < 0 then (1, d) else if (maxFile : Int) < t then (2, d) else Dk.change d n f (.cut t.toNat) t)
  rw [e]
  clear e
  have hok : m.ok := by obtain ⟨_, _, _, _, _, D⟩ := DD; exact D.ok
  have HMANY := rmany hok hg
  have HB := rbegin_ok k r m w DD hk0 hops h
  have HO : ({ m with ops := m.ops + 1 } : ADisk).ops ≤ 1000000 := by show m.ops + 1 ≤ _; omega
  have HK0 := Lib.hid hk0
  have HG : get ({ m with ops := m.ops + 1 } : ADisk).files n = some f := hg
  clear DD hk0 hops h hg hok
  generalize ({ m with ops := m.ops + 1 } : ADisk) = m1 at HMANY HB HO HG ⊢
  have HB := Lib.hid HB
  have HO := Lib.hid HO
  have HG := Lib.hid HG
  have HMANY := Lib.hid HMANY
  unfold ptr at *
  by_cases ht : t < 0
  · rw [if_pos ht]
    go_enter Tryz.func65, Tryz.ntmps65
    go_wp2_with (go_at_call 76; refine HB.out.mono ?_; rintro e w1 ⟨rfl, c1, hc1, hk1, D1⟩)
    obtain ⟨vk, vf, vu, vF, F, D⟩ := D1
    obtain ⟨i, x, hix, hxn, hxf, hfy⟩ := find_yes D n HG.out
    have HFY := Lib.hid (hfy D)
    have hi0 : (0 : Int) ≤ (i : Int) := Int.natCast_nonneg _
    have hilt : i < F.length := (List.getElem?_eq_some_iff.1 hix).1
    have hlen := D.len
    have hlen' : (F.length : Int) ≤ 4096 := by omega
    have hilt' : (i : Int) < (F.length : Int) := by omega
    have HC := Lib.hid hc1
    have HK := Lib.hid hk1
    have HD := Lib.hid D
    have HIX := Lib.hid hix
    have HXN := Lib.hid hxn
    have HXF := Lib.hid hxf
    obtain ⟨g, kf, e2, hlc, hcm, -, f0, f1, f2, -⟩ := D.files.cells hix
    have hr5 := D.c5
    rw [e2] at hr5
    have hrl : r < w1.heap.size := D.lt
    have hgl : g < w1.heap.size := World.block_lt_of_cell? _ _ f1
    have HE2 := Lib.hid e2
    have hRF := D.files.each x (List.mem_of_getElem? hix)
    obtain ⟨asx, ksx, evs, -⟩ := id hRF.safe
    obtain ⟨avc, kvc, evc⟩ := own_shape hRF.chs.own
    rw [List.length_map] at evs
    have hnow := (D.fok (List.mem_of_getElem? hix)).now
    have hnow' : (x.f.now.length : Int) ≤ 268435456 := by unfold maxFile at hnow; omega
    have hdc := fun W hW => data_c (c := c1) k x W hW (D.fok (List.mem_of_getElem? hix)) (by have := HO.out; omega) (D.nok (List.mem_of_getElem? hix))
    rw [evs] at f1 hdc
    rw [evc] at f2 hdc
    unfold str at f0
    have HDC := Lib.hid hdc
    have HRF := Lib.hid hRF
    clear hc1 hk1 D hix hxn hxf hfy e2 hlc hcm hRF evs evc hnow hdc hlen hilt
    go_wp2_with (first | (go_at_call 77; refine HFY.out.mono ?_; rintro e w2 ⟨rfl, rfl⟩))
    go_ret
    exact ⟨rfl, c1, HC.out, HK.out, vk, vf, vu, vF, F, HD.out⟩
  · rw [if_neg ht]
    have ht0 : 0 ≤ t := by omega
    obtain ⟨t, rfl⟩ : ∃ u : Nat, t = (u : Int) := ⟨t.toNat, by omega⟩
    clear ht ht0
    by_cases hfit : (maxFile : Int) < t
    · rw [if_pos hfit]
      have hfit2 : 268435456 < (t : Int) := by unfold maxFile at hfit; omega
      clear hfit
      go_enter Tryz.func65, Tryz.ntmps65
      go_wp2_with (go_at_call 76; refine HB.out.mono ?_; rintro e w1 ⟨rfl, c1, hc1, hk1, D1⟩)
      obtain ⟨vk, vf, vu, vF, F, D⟩ := D1
      obtain ⟨i, x, hix, hxn, hxf, hfy⟩ := find_yes D n HG.out
      have HFY := Lib.hid (hfy D)
      have hi0 : (0 : Int) ≤ (i : Int) := Int.natCast_nonneg _
      have hilt : i < F.length := (List.getElem?_eq_some_iff.1 hix).1
      have hlen := D.len
      have hlen' : (F.length : Int) ≤ 4096 := by omega
      have hilt' : (i : Int) < (F.length : Int) := by omega
      have HC := Lib.hid hc1
      have HK := Lib.hid hk1
      have HD := Lib.hid D
      have HIX := Lib.hid hix
      have HXN := Lib.hid hxn
      have HXF := Lib.hid hxf
      obtain ⟨g, kf, e2, hlc, hcm, -, f0, f1, f2, -⟩ := D.files.cells hix
      have hr5 := D.c5
      rw [e2] at hr5
      have hrl : r < w1.heap.size := D.lt
      have hgl : g < w1.heap.size := World.block_lt_of_cell? _ _ f1
      have HE2 := Lib.hid e2
      have hRF := D.files.each x (List.mem_of_getElem? hix)
      obtain ⟨asx, ksx, evs, -⟩ := id hRF.safe
      obtain ⟨avc, kvc, evc⟩ := own_shape hRF.chs.own
      rw [List.length_map] at evs
      have hnow := (D.fok (List.mem_of_getElem? hix)).now
      have hnow' : (x.f.now.length : Int) ≤ 268435456 := by unfold maxFile at hnow; omega
      have hdc := fun W hW => data_c (c := c1) k x W hW (D.fok (List.mem_of_getElem? hix)) (by have := HO.out; omega) (D.nok (List.mem_of_getElem? hix))
      rw [evs] at f1 hdc
      rw [evc] at f2 hdc
      unfold str at f0
      have HDC := Lib.hid hdc
      have HRF := Lib.hid hRF
      clear hc1 hk1 D hix hxn hxf hfy e2 hlc hcm hRF evs evc hnow hdc hlen hilt
      go_wp2_with (first | (go_at_call 77; refine HFY.out.mono ?_; rintro e w2 ⟨rfl, rfl⟩))
      go_ret
      exact ⟨rfl, c1, HC.out, HK.out, vk, vf, vu, vF, F, HD.out⟩
    · rw [if_neg hfit]
      have hfit2 : (t : Int) ≤ 268435456 := by unfold maxFile at hfit; omega
      rw [Int.toNat_natCast]
      clear hfit
      go_enter Tryz.func65, Tryz.ntmps65
      go_wp2_with (go_at_call 76; refine HB.out.mono ?_; rintro e w1 ⟨rfl, c1, hc1, hk1, D1⟩)
      obtain ⟨vk, vf, vu, vF, F, D⟩ := D1
      obtain ⟨i, x, hix, hxn, hxf, hfy⟩ := find_yes D n HG.out
      have HFY := Lib.hid (hfy D)
      have hi0 : (0 : Int) ≤ (i : Int) := Int.natCast_nonneg _
      have hilt : i < F.length := (List.getElem?_eq_some_iff.1 hix).1
      have hlen := D.len
      have hlen' : (F.length : Int) ≤ 4096 := by omega
      have hilt' : (i : Int) < (F.length : Int) := by omega
      have HC := Lib.hid hc1
      have HK := Lib.hid hk1
      have HD := Lib.hid D
      have HIX := Lib.hid hix
      have HXN := Lib.hid hxn
      have HXF := Lib.hid hxf
      obtain ⟨g, kf, e2, hlc, hcm, -, f0, f1, f2, -⟩ := D.files.cells hix
      have hr5 := D.c5
      rw [e2] at hr5
      have hrl : r < w1.heap.size := D.lt
      have hgl : g < w1.heap.size := World.block_lt_of_cell? _ _ f1
      have HE2 := Lib.hid e2
      have hRF := D.files.each x (List.mem_of_getElem? hix)
      obtain ⟨asx, ksx, evs, -⟩ := id hRF.safe
      obtain ⟨avc, kvc, evc⟩ := own_shape hRF.chs.own
      rw [List.length_map] at evs
      have hnow := (D.fok (List.mem_of_getElem? hix)).now
      have hnow' : (x.f.now.length : Int) ≤ 268435456 := by unfold maxFile at hnow; omega
      have hdc := fun W hW => data_c (c := c1) k x W hW (D.fok (List.mem_of_getElem? hix)) (by have := HO.out; omega) (D.nok (List.mem_of_getElem? hix))
      rw [evs] at f1 hdc
      rw [evc] at f2 hdc
      unfold str at f0
      have HDC := Lib.hid hdc
      have HRF := Lib.hid hRF
      clear hc1 hk1 D hix hxn hxf hfy e2 hlc hcm hRF evs evc hnow hdc hlen hilt
      go_wp2_with (first | (go_at_call 77; refine HFY.out.mono ?_; rintro e w2 ⟨rfl, rfl⟩) | (go_at_call 79; refine (rchange_c (c := c1) k r m1 vk vf vu vF F _ HD.out HO.out HIX.out (.cut t) (.slice none 0 0) trivial (by show _ ≤ maxFile; unfold maxFile; omega) _ _ _ _ rfl _ (by omega) (by omega) (by rw [HXF.out]; exact HMANY.out)).mono ?_; rintro e w4 hp; have HP := Lib.hid hp; obtain ⟨rfl, -⟩ := hp))
      go_ret
      have hp := HP.out
      rw [HXN.out, HXF.out] at hp ⊢
      exact RPost.of HC.out HK.out hp
end Go.Proofs.YtnifmoigalmcmaaGreat
