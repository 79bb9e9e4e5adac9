/- cairnref10: Read. -/
import Derived.Test.YtnifmoigalmcmaaUc
namespace Go.Proofs.Ytnifmoigalmcmaa
open Go Go.RowKit
open Wl
variable {c c' : Col} {w w' : World} {S : Nat × Nat → Prop} {q : Nat × Nat}
set_option maxRecDepth 20000 in
set_option maxHeartbeats 2000000 in
theorem rread_c (w : World) (v : Value) (bs : Bs) (h : Sw w c q v (bs.map bv)) (hl : bs.length ≤ 1000000000) :
    Calls Try.prog 13 #[v] w fun e w' => ∃ v' cf, e = .returned (.tuple #[v', .int .i64 (((read kec bs).2 : Nat) : Int)]) ∧ Grow QL w.heap.size w' 22 v' cf (read kec bs).1 ∧ ∀ c S, Kp c S w w' := by
  obtain ⟨i0, hi, hz0, hz1, hz2⟩ := info_batch
  have H6 := Lib.hid hi; have H7 := Lib.hid hz0; have H8 := Lib.hid hz1; have H9 := Lib.hid hz2; clear hi hz0 hz1 hz2
  obtain ⟨R, hR⟩ : ∃ R, R = read kec bs := ⟨_, rfl⟩
  rw [← hR]
  obtain ⟨K, hK⟩ : ∃ K, K = kec := ⟨_, rfl⟩
  rw [← hK] at hR
  by_cases hb0 : bs.length = 0
  · have hbs : bs = [] := List.eq_nil_of_length_eq_zero hb0
    subst hbs
    have hR0 : R = ([], 0) := by rw [hR]; exact readF_none K (by simp [first])
    subst hR0
    clear hR hK hb0 hl
    obtain ⟨a, cap, rfl, h1, h2, h3, h4⟩ := h
    have hone := fun (v : Value) (hv : Sw w c q v (([] : Bs).map bv)) => one_c w v [] 0 hv (by simp) (by omega)
    rw [show first kec [] 0 = none by simp [first]] at hone
    have HO := Lib.hid hone; clear hone h1 h4
    cases a with
    | none =>
      have hc0 := h3 rfl
      subst hc0
      have HF := Lib.hid (HO.out (.slice none 0 0) ⟨none, 0, rfl, by simp, by omega, fun _ => rfl, fun ad had => by cases had⟩)
      clear HO h2 h3
      go_enter Try.func13, Try.ntmps13
      go_wp2
      refine wp_loop_rounds 1 ?_
      rw [rounds_succ]
      go_wp2_with (go_at_call 33; refine HF.out.mono ?_; rintro _ w1 ⟨hk, rfl⟩; have HK := Lib.hid hk; clear hk)
      go_ret2
      exact ⟨_, _, rfl, Grow.start _ (HK5s HK.out), HK.out⟩
    | some ad =>
      obtain ⟨b, o, sp⟩ := ad
      go_enter Try.func13, Try.ntmps13
      go_wp2
      refine wp_loop_rounds 1 ?_
      rw [rounds_succ]
      go_wp2_with (go_at_call 33; refine (HO.out _ ⟨_, _, rfl, by simp, by omega, by first | (intro h; cases h) | (intro h; split at h <;> cases h), fun ad had j u hj => by simp at hj⟩).mono ?_; rintro _ w1 ⟨hk, rfl⟩; have HK := Lib.hid hk; clear hk)
      go_ret2
      exact ⟨_, _, rfl, Grow.start _ (HK5s HK.out), HK.out⟩
  · obtain ⟨b, o, cap, rfl, hlc, hcm, hc⟩ := h.spots hb0
    have HC := Lib.hid hc
    clear hc h hb0
    go_enter Try.func13, Try.ntmps13
    go_wp2
    obtain ⟨n, hn⟩ : ∃ n, n = bs.length := ⟨_, rfl⟩
    rw [← hn] at hl hlc ⊢
    have HN := Lib.hid hn; have HR := Lib.hid hR; have HKC := Lib.hid hK; clear hn hR hK
    go_loopw [4, 5] (fun v s wr => ∃ (at_ : Nat) (out : List (List Bs)) (cf : Col), at_ ≤ n ∧ out.length ≤ at_ ∧ s = .int .i64 at_ ∧ Grow QL w.heap.size wr 22 v cf out ∧
      R = (out ++ (readF K (n + 1) (bs.drop at_) out.length).1, at_ + (readF K (n + 1) (bs.drop at_) out.length).2) ∧ ∀ c S, Kp c S w wr) (fun _ s _ => n - (intOf s).toNat)
    case atStart => exact ⟨0, [], _, by omega, by simp, rfl, Grow.start _ (Nat.le_refl _), by rw [HR.out]; unfold Wl.read; rw [← HN.out]; simp, fun c S => Kp.refl c S w⟩
    case round =>
      obtain ⟨at_, out, cf, hat, hol, rfl, G, hRR, hK⟩ := hrel
      have HG := Lib.hid G; have HRR := Lib.hid hRR; have HK := Lib.hid hK; clear G hRR hK
      obtain ⟨k, hk⟩ : ∃ k, k = out.length := ⟨_, rfl⟩
      rw [← hk] at hol HRR
      have hfc := one_c wr _ (bs.drop at_) k (sub_sc (HC.out.on HK.out) HN.out hat hlc hcm).wide (by rw [List.length_drop, ← HN.out]; omega) (by omega)
      have HKK := Lib.hid hk; clear hk
      obtain ⟨xo, hxo⟩ := HG.out.own
      obtain ⟨ao, co, rfl⟩ := own_shape1 hxo.1
      clear hxo
      rw [← HKK.out] at HG ⊢
      rw [← HKC.out] at hfc
      have hdl : (bs.drop at_).length < n + 1 := by rw [List.length_drop]; have := HN.out; omega
      cases hfi : first K (bs.drop at_) k with
      | none =>
        rw [hfi] at hfc
        have HF := Lib.hid hfc
        have HRE := Lib.hid (show R = (out, at_) from by rw [HRR.out, readF_none K hfi]; simp)
        clear hfc hfi HRR hdl
        go_wp2_with (go_at_call 33; refine HF.out.mono ?_; rintro _ w1 ⟨hk, rfl⟩; have HK1 := Lib.hid hk; clear hk)
        all_goals
          go_ret2
          rw [HRE.out]
          first
          | exact ⟨_, rfl, ⟨_, HG.out.kp QL.stays (HK1.out cf (fun _ => False)) (fun h => h) (fun h => h)⟩, fun c S => (HK.out c S).alloc_trans (HK1.out c S)⟩
          | exact ⟨_, _, rfl, HG.out.kp QL.stays (HK1.out cf (fun _ => False)) (fun h => h) (fun h => h), fun c S => (HK.out c S).alloc_trans (HK1.out c S)⟩
      | some x =>
        obtain ⟨lb, m⟩ := x
        have hpos := first_pos K hfi
        have hpos' := hpos
        rw [List.length_drop, ← HN.out] at hpos'
        rw [hfi, if_neg (show ¬ cap = at_ by omega)] at hfc
        have HF := Lib.hid hfc
        have HRE := Lib.hid (show R = _ from by rw [HRR.out, readF_some K hdl hfi])
        rw [List.length_drop, ← HN.out] at hpos
        have hne : ¬ cap = at_ := by omega
        clear hfc hfi HRR hdl
        go_wp2_with (first
          | (at_builtin; refine wpList_append2 rfl _ _ _ rfl 22 i0 (.slice none 0 0) 24 Try.underlying38 H6.out H7.out H8.out H9.out rfl (.slice ao k co) out.length xs5 (by rw [HKK.out]; rfl) HO5.out ⟨w1.heap.size, 0, none⟩ 1 1 [.slice a4 m4 k4] rfl rfl (one_new _ _ _) (fun u hu => by rw [List.mem_singleton.1 hu]; exact QL.stays.one HQ5.out) (by rw [← HKK.out]; unfold maxLen; omega) (by rw [← HKK.out]; omega) ?_; intro v6 w6 hown6 hg6 hf6; have G6 := Lib.hid (HG5.out.push QL.stays HO5.out HQ5.out hown6 hg6 hf6); have HK6 := Lib.hid (fun c S => ((HK4.out c S).alloc _).grown hg6 (fun g hg hlt => absurd (HG5.out.fresh g hg) (by omega))); clear hown6 hg6 hf6)
          | (go_at_call 33; refine HF.out.mono ?_; rintro _ w1 ⟨hk, vb, cb, rfl, hgb⟩; obtain ⟨xb, hxb, _⟩ := hgb.own; obtain ⟨a4, m4, k4, rfl⟩ := own_slice hxb; obtain ⟨cg, xs5, g5, o5, q5⟩ := grow_join HG.out hgb hk (.cells #[.slice a4 m4 k4] 22); have HG5 := Lib.hid g5; have HO5 := Lib.hid o5; have HQ5 := Lib.hid q5; have HK4 := Lib.hid (fun c S => (HK.out c S).alloc_trans (hk c S)); clear g5 o5 q5 hk hgb hxb))
        go_roundw
        case rel =>
          refine ⟨at_ + m, out ++ [lb], _, by omega, by rw [List.length_append, ← HKK.out]; simp; omega, by go_num, G6.out, ?_, HK6.out⟩
          rw [HRE.out, List.length_append, ← HKK.out, List.drop_drop]
          simp [Nat.add_assoc]
        case measure => simp [intOf]; omega
end Go.Proofs.Ytnifmoigalmcmaa
