/- WalBytes: the walk. -/
import Derived.Test.YtnifmoigalmcmaaUd
import Derived.Test.YtnifmoigalmcmaaYl
namespace Go.Proofs.Ytnifmoigalmcmaa
open Go Go.RowKit
open Wl
variable {c c' : Col} {w w' : World} {S : Nat × Nat → Prop} {q : Nat × Nat}
/-- What Encode answers. -/
def enc2 (n : Int) (l : List Bs) : Bs × Int := if n < 0 then ([], 1) else if good l = true then (enc kec n.toNat l, 0) else ([], 102)
theorem sc_nil (w : World) (c : Col) (q : Nat × Nat) : Sc w c q (.slice none 0 0) (([] : Bs).map bv) := ⟨none, 0, rfl, by simp, by unfold maxLen; omega, fun _ => rfl, fun ad had => by cases had⟩
theorem wenc_c (q1 q2 : Nat × Nat) (v : Value) (l : List Bs) (n : Int) (h : Bat w c q1 q2 v l) (hl : l.length ≤ 1000000000) (hb : ∀ r ∈ l, r.length ≤ 1000000000) (hn : -9223372036854775808 ≤ n ∧ n ≤ 9223372036854775807) :
    Calls Try.prog 9 #[.int .i64 n, v] w fun e w' => ∃ v', e = .returned (.tuple #[v', .int .i64 (enc2 n l).2]) ∧ Sc w' c00 (0, 0) v' ((enc2 n l).1.map bv) ∧ ∀ c S, Kp c S w w' := by
  unfold enc2
  by_cases h0 : n < 0
  · rw [if_pos h0]
    exact (encode_neg v n h0).mono fun e w' he => ⟨_, he.1, sc_nil _ _ _, fun c S => by rw [he.2]; exact Kp.refl c S w⟩
  · rw [if_neg h0]
    obtain ⟨m, rfl⟩ : ∃ m : Nat, n = m := ⟨n.toNat, by omega⟩
    by_cases hg : good l = true
    · rw [if_pos hg]
      exact (encode_wide q1 q2 v l m h hl hb (by omega) hg).mono fun e w' ⟨v', he, ho, hf, hk⟩ => ⟨v', he, Sc.of_owns ho (fun _ _ => rfl), hk⟩
    · rw [if_neg hg]
      exact (encode_bad q1 q2 v l m h hl hb (by simpa using hg)).mono fun e w' he => ⟨_, he.1, sc_nil _ _ _, fun c S => by rw [he.2]; exact Kp.refl c S w⟩
theorem renc_c (q1 q2 : Nat × Nat) (v : Value) (l : List Bs) (n : Int) (h : BatW w c q1 q2 v l) (hl : l.length ≤ 1000000000) (hb : ∀ r ∈ l, r.length ≤ 1000000000) (hn : -9223372036854775808 ≤ n ∧ n ≤ 9223372036854775807) :
    Calls Try.prog 11 #[.int .i64 n, v] w fun e w' => ∃ v', e = .returned (.tuple #[v', .int .i64 (enc2 n l).2]) ∧ Sc w' c00 (0, 0) v' ((enc2 n l).1.map bv) ∧ ∀ c S, Kp c S w w' := by
  unfold enc2
  by_cases h0 : n < 0
  · rw [if_pos h0]
    exact (rencode_neg v n h0).mono fun e w' he => ⟨_, he.1, sc_nil _ _ _, fun c S => by rw [he.2]; exact Kp.refl c S w⟩
  · rw [if_neg h0]
    obtain ⟨m, rfl⟩ : ∃ m : Nat, n = m := ⟨n.toNat, by omega⟩
    by_cases hg : good l = true
    · rw [if_pos hg]
      exact (rencode_good q1 q2 v l m h hl hb (by omega) hg).mono fun e w' ⟨v', he, ho, hf, hk⟩ => ⟨v', he, Sc.of_owns ho (fun _ _ => rfl), hk⟩
    · rw [if_neg hg]
      exact (rencode_bad q1 q2 v l m h hl hb (by simpa using hg)).mono fun e w' he => ⟨_, he.1, sc_nil _ _ _, fun c S => by rw [he.2]; exact Kp.refl c S w⟩
set_option maxRecDepth 20000 in
set_option maxHeartbeats 4000000 in
theorem walBytes_c (n : Int) (vl vm : Value) (l : List Bs) (bs : Bs) (w : World) (hB : BatW w c00 (0, 0) (0, 0) vl l) (hbb : l.length ≤ 1000000000 ∧ ∀ r ∈ l, r.length ≤ 1000000000) (hn : -9223372036854775808 ≤ n ∧ n ≤ 9223372036854775807)
    (hm : Sw w c00 (0, 0) vm (bs.map bv)) (hml : bs.length ≤ 1048576) :
    Calls Try.prog 3 #[.int .i64 n, vl, vm] w fun e w' => e = .returned (.bool true) ∧ ∀ c S, Kp c S w w' := by
  obtain ⟨xsl, ⟨al, capl, rfl, hl1, hl2, -⟩, hl3, -⟩ := id hB
  rw [hl3] at hB hl1 ⊢
  unfold maxLen at hl2
  obtain ⟨am, capm, rfl, hm1, hm2, -⟩ := id hm
  rw [List.length_map] at hm hm1 ⊢
  unfold maxLen at hm2
  obtain ⟨i0, hi, hz0, hz1, hz2⟩ := info_parts info_u8
  have H6 := Lib.hid hi; have H7 := Lib.hid hz0; have H8 := Lib.hid hz1; have H9 := Lib.hid hz2; clear hi hz0 hz1 hz2
  have HB := Lib.hid hB; have HBB := Lib.hid hbb; have HM := Lib.hid hm; have HNR := Lib.hid hn
  obtain ⟨X, hX⟩ : ∃ X, X = enc2 n l := ⟨_, rfl⟩
  obtain ⟨R, hR⟩ : ∃ R, R = Wl.read kec bs := ⟨_, rfl⟩
  have HX := Lib.hid hX; have HR := Lib.hid hR
  clear hB hbb hm hn hX hR
  by_cases hbig : 100000 < bs.length
  · go_enter Try.func3, Try.ntmps3
    go_wp2_with (go_at_call 7; refine (wawake_c _).mono ?_; rintro _ w1 ⟨rfl, hk⟩; have HK1 := Lib.hid hk; clear hk)
    go_ret
    exact ⟨rfl, HK1.out⟩
  · by_cases htot : tot l ≤ 20000
    · have dt : decide (tot l ≤ 20000) = true := decide_eq_true htot
      clear htot
      go_enter Try.func3, Try.ntmps3
      go_wp2_with (first
      | (go_at_call 14; refine (sameW_c _ _ R.1 R.1 _ HL7b.out HL8.out).mono ?_; rintro _ w9 ⟨rfl, hk9⟩; have HK9 := Lib.hid (fun c S => (HK8.out c S).alloc_trans (hk9 c S)); clear hk9)
      | (go_at_call 13; refine (rread_c _ _ bs (HM.out.kp (HK7.out c00 (fun _ => False)) (fun h => h) (Cx.refl _ _)) (by omega)).mono ?_; rintro _ w8 ⟨v8, cf8, rfl, hg8, hk8⟩; rw [← HR.out] at hg8 ⊢; have HL8 := Lib.hid hg8.logW; have HL7b := Lib.hid (HL7.out.kp (hk8 c00 (fun _ => False)) (fun h => h) (Cx.refl _ _)); have HS4e := Lib.hid (HS4d.out.kp (hk8 c00 (fun _ => False)) (fun h => h) (Cx.refl _ _)); have HS5e := Lib.hid (HS5d.out.kp (hk8 c00 (fun _ => False)) (fun h => h) (Cx.refl _ _)); have hcv1 := conv_sc HS4e.out; have hcv2 := conv_sc HS5e.out; have HK8 := Lib.hid (fun c S => (HK7.out c S).alloc_trans (hk8 c S)); clear hg8 hk8)
      | (go_at_call 12; refine (wread_c _ _ bs HS6.out (by omega)).mono ?_; rintro _ w7 ⟨v7, cf7, rfl, hg7, hk7⟩; rw [← HR.out] at hg7 ⊢; have HL7 := Lib.hid hg7.logW; have HS4d := Lib.hid (HS4c.out.kp (hk7 c00 (fun _ => False)) (fun h => h) (Cx.refl _ _)); have HS5d := Lib.hid (HS5c.out.kp (hk7 c00 (fun _ => False)) (fun h => h) (Cx.refl _ _)); have HK7 := Lib.hid (fun c S => (HK6.out c S).alloc_trans (hk7 c S)); clear hg7 hk7)
      | (at_builtin; refine wpList_appendW rfl _ _ _ rfl 5 i0 (.int .u8 0) 1 Try.underlying23 H6.out H7.out H8.out H9.out rfl (.slice none 0 0) 0 [] rfl (World.ownsRow_nil _ _ _ _) (.slice am bs.length capm) (bs.map bv) rfl (HM.out.kp (HK5.out c00 (fun _ => False)) (fun h => h) (Cx.refl _ _)) (one_bv _) (by rw [List.length_map]; unfold maxLen; omega) (by rw [List.length_map]; omega) ?_; intro v6 w6 ho6 hg6 hf6; rw [List.nil_append] at ho6; have HS6 := Lib.hid (Sc.of_owns (c := c00) (q := (0, 0)) ho6 (fun _ _ => rfl)); have hk6 := (fun c S => Kp.of_grown (c := c) (S := S) hg6 (fun g hg => by cases hg)); have HS4c := Lib.hid (HS4b.out.kp (hk6 c00 (fun _ => False)) (fun h => h) (Cx.refl _ _)); have HS5c := Lib.hid (HS5.out.kp (hk6 c00 (fun _ => False)) (fun h => h) (Cx.refl _ _)); have HK6 := Lib.hid (fun c S => (HK5.out c S).alloc_trans (hk6 c S)); clear ho6 hg6 hf6 hk6)
      | (go_at_call 11; refine (renc_c (0, 0) (0, 0) _ l n (HB.out.kp (HK4.out c00 (fun _ => False)) (fun h => h) (fun h => h) (Cx.refl _ _)) HBB.out.1 HBB.out.2 HNR.out).mono ?_; rintro _ w5 ⟨v5, rfl, hs5, hk5⟩; rw [← HX.out] at hs5 ⊢; have HS5 := Lib.hid hs5; have HS4b := Lib.hid (HS4.out.kp (hk5 c00 (fun _ => False)) (fun h => h) (Cx.refl _ _)); have HK5 := Lib.hid (fun c S => (HK4.out c S).alloc_trans (hk5 c S)); clear hs5 hk5)
      | (go_at_call 9; refine (wenc_c _ _ _ l n HG3.out HBB.out.1 HBB.out.2 HNR.out).mono ?_; rintro _ w4 ⟨v4, rfl, hs4, hk4⟩; rw [← HX.out] at hs4 ⊢; have HS4 := Lib.hid hs4; have HK4 := Lib.hid (fun c S => (HK3.out c S).alloc_trans (hk4 c S)); clear hs4 hk4)
      | (go_at_call 10; refine (twinsW_c (0, 0) (0, 0) _ l (HB.out.kp (HK2.out c00 (fun _ => False)) (fun h => h) (fun h => h) (Cx.refl _ _)) HBB.out.1 (fun r hr => Nat.le_trans (HBB.out.2 r hr) (by decide))).mono ?_; rintro _ w3 ⟨v3, cf, rfl, hg3, hk3⟩; have HG3 := Lib.hid hg3.bat; have HK3 := Lib.hid (fun c S => (HK2.out c S).alloc_trans (hk3 c S)); clear hg3 hk3)
      | (go_at_call 8; refine (few1_c (0, 0) (0, 0) _ l _ _ (HB.out.kp ((HK1.out c00 (fun _ => False)).alloc _) (fun h => h) (fun h => h) (Cx.refl _ _)) HBB.out.1 HBB.out.2 (heap_alloc_new _ _)).mono ?_; rintro _ w2 ⟨rfl, hk2⟩; rw [dt]; have HK2 := Lib.hid (fun c S => ((HK1.out c S).alloc _).alloc_trans (hk2 c S)); clear hk2)
      | (go_at_call 7; refine (wawake_c _).mono ?_; rintro _ w1 ⟨rfl, hk⟩; have HK1 := Lib.hid hk; clear hk))
      go_ret
      exact ⟨rfl, HK9.out⟩
    · have dt : decide (tot l ≤ 20000) = false := decide_eq_false htot
      clear htot
      go_enter Try.func3, Try.ntmps3
      go_wp2_with (first
      | (go_at_call 8; refine (few1_c (0, 0) (0, 0) _ l _ _ (HB.out.kp ((HK1.out c00 (fun _ => False)).alloc _) (fun h => h) (fun h => h) (Cx.refl _ _)) HBB.out.1 HBB.out.2 (heap_alloc_new _ _)).mono ?_; rintro _ w2 ⟨rfl, hk2⟩; rw [dt]; have HK2 := Lib.hid (fun c S => ((HK1.out c S).alloc _).alloc_trans (hk2 c S)); clear hk2)
      | (go_at_call 7; refine (wawake_c _).mono ?_; rintro _ w1 ⟨rfl, hk⟩; have HK1 := Lib.hid hk; clear hk))
      go_ret
      exact ⟨rfl, HK2.out⟩
end Go.Proofs.Ytnifmoigalmcmaa
