/- wal.Read: the batches that bytes begin with. -/
import Derived.Test.YtnifmoigalmcmaaYf
import Derived.WalkMore
namespace Go.Proofs.Ytnifmoigalmcmaa
open Go Go.RowKit
open Wl
variable {c c' : Col} {w w' : World} {S : Nat × Nat → Prop} {q : Nat × Nat}
/-- A slice that grew, as a batch, at colours of one's own. -/
theorem grow_bat {B : Nat} {wr : World} {v : Value} {cf f : Col} {l : List Bs} {q1 q2 : Nat × Nat} (G : Grow QB B wr 23 v cf l) (h1 : ∀ g, v.ownBlock = some g → f g = q1) (h2 : ∀ b, B ≤ b → cf b = (0, 0) → f b = q2) : Bat wr f q1 q2 v l := by
  obtain ⟨⟨xs, ho, hx⟩, hc, hold, hs⟩ := G
  refine ⟨xs, Sc.of_owns ho h1, by simpa using ho.1, fun i x y hi hj => ?_⟩
  refine Sc.recol1 (hx i x y hi hj) fun b hb => h2 b (Nat.not_lt.1 fun hlt => ?_) hb
  rw [hold b hlt] at hb; cases hb
/-- A new batch joins. -/
theorem grow_join {B : Nat} {wr w4 : World} {v x : Value} {cf cb : Col} {out : List (List Bs)} {l : List Bs} {e : TypeId} (G : Grow QL B wr e v cf out) (Gb : Grow QB wr.heap.size w4 23 x cb l) (hk : ∀ c S, Kp c S wr w4) (o : Obj) :
    ∃ cg xs, Grow QL B (w4.alloc o) e v cg out ∧ (w4.alloc o).ownsRow 0 e 1 v out.length xs ∧ QL (w4.alloc o) cg x l := by
  have G1 := G.kp QL.stays (hk cf (fun _ => False)) (fun h => h) (fun h => h)
  have h1 : QL w4 (newCol wr cf (0, 0)) x l := grow_bat Gb (fun g hg => if_neg (Nat.not_lt.2 (Gb.fresh g hg))) (fun b hb _ => if_neg (Nat.not_lt.2 hb))
  have hk : Kp (newCol wr cf (0, 0)) (fun _ => False) w4 (w4.alloc o) := (Kp.refl _ _ _).alloc _
  have G2 := G1.kp QL.stays hk (fun h => h) (fun h => h)
  obtain ⟨xs, hxs, _⟩ := G2.own
  exact ⟨_, xs, G2, hxs, QL.stays.stay h1 hk (fun h => h) (newCol_cx _ _ _)⟩
theorem info_batch : ∃ i, Try.prog.info? 22 = some i ∧ i.zero = some (.slice none 0 0) ∧ i.size = 1 ∧ i.bytes = 24 := by
  have h : (Try.prog.info? 22).map (fun i => (i.zero, i.size, i.bytes)) = some (some (.slice none 0 0), 1, 24) := by kernel_rfl
  cases hi : Try.prog.info? 22 with
  | none => rw [hi] at h; cases h
  | some i =>
    rw [hi] at h
    simp only [Option.map_some, Option.some.injEq, Prod.mk.injEq] at h
    exact ⟨i, rfl, h.1, h.2.1, h.2.2⟩
theorem sub_sc {b o n cap at_ : Nat} {l : List UInt8} (h : Bya w b o l) (hn : n = l.length) (ha : at_ ≤ n) (h1 : n ≤ cap) (h2 : cap ≤ maxLen) : Sc w (fun _ => (0, 0)) (0, 0) (.slice (if cap = at_ then some ⟨b, o, none⟩ else some ⟨b, o + at_, none⟩) (n - at_) (cap - at_)) ((l.drop at_).map bv) := by
  split
  · rename_i e
    have h0 : l.drop at_ = [] := List.eq_nil_of_length_eq_zero (by rw [List.length_drop]; omega)
    rw [h0, show n - at_ = 0 by omega]
    exact ⟨some ⟨b, o, none⟩, cap - at_, rfl, by simp, by omega, fun h => (by cases h), fun ad had => by cases had; exact ⟨rfl, fun j u hj => by simp at hj⟩⟩
  · exact (h.drop at_).sc (by rw [List.length_drop]; omega) (by omega) (by omega)
theorem own_shape1 {w : World} {e : TypeId} {n : Nat} {v : Value} {xs : List Value} (h : w.ownsRow 0 e 1 v n xs) : ∃ a cap, v = .slice a n cap := by
  rcases h.2 with ⟨rfl, h0⟩ | ⟨g, cap, cur, h3, _⟩
  · have := h.1; rw [h0] at this; exact ⟨none, 0, by rw [show n = 0 by simp at this; omega]⟩
  · exact ⟨_, _, h3⟩
set_option maxRecDepth 20000 in
set_option maxHeartbeats 2000000 in
theorem wread_c (w : World) (v : Value) (bs : Bs) (h : Sc w c q v (bs.map bv)) (hl : bs.length ≤ 1000000000) :
    Calls Try.prog 12 #[v] w fun e w' => ∃ v' cf, e = .returned (.tuple #[v', .int .i64 (((read kec bs).2 : Nat) : Int)]) ∧ Grow QL w.heap.size w' 22 v' cf (read kec bs).1 ∧ ∀ c S, Kp c S w w' := by
  obtain ⟨i0, hi, hz0, hz1, hz2⟩ := info_batch
  have H6 := Lib.hid hi; have H7 := Lib.hid hz0; have H8 := Lib.hid hz1; have H9 := Lib.hid hz2; clear hi hz0 hz1 hz2
  obtain ⟨R, hR⟩ : ∃ R, R = read kec bs := ⟨_, rfl⟩
  rw [← hR]
  obtain ⟨K, hK⟩ : ∃ K, K = kec := ⟨_, rfl⟩
  rw [← hK] at hR
  rcases h.cases with ⟨rfl, h0⟩ | ⟨b, o, cap, rfl, hlc, hcm, _, hc⟩
  · have hbs : bs = [] := by simpa using h0
    subst hbs
    have hR0 : R = ([], 0) := by rw [hR]; exact readF_none K (by simp [first])
    subst hR0
    have hf := first_c (q := q) w (.slice none 0 0) [] 0 h (by omega)
    rw [show first kec [] 0 = none by simp [first]] at hf
    have HF := Lib.hid hf; clear hf h hR
    go_enter Try.func12, Try.ntmps12
    go_wp2
    go_step3
    go_wp2
    go_step3
    go_wp2
    refine wp_loop_rounds 1 ?_
    rw [rounds_succ]
    go_wp2_with (go_at_call 32; refine HF.out.mono ?_; rintro _ w1 ⟨hk, rfl⟩; have HK := Lib.hid hk; clear hk)
    rw [Exit.noGoto_ret]
    go_ret2
    exact ⟨_, _, rfl, Grow.start _ (HK5s HK.out), HK.out⟩
  · rw [List.length_map] at hlc ⊢
    have HC : Hid (Bya w b o bs) := Lib.hid hc
    clear hc h
    go_enter Try.func12, Try.ntmps12
    go_wp2
    go_step3
    go_wp2
    go_step3
    go_wp2
    obtain ⟨n, hn⟩ : ∃ n, n = bs.length := ⟨_, rfl⟩
    rw [← hn] at hl hlc ⊢
    have HN := Lib.hid hn; have HR := Lib.hid hR; have HKC := Lib.hid hK; clear hn hR hK
    go_loopw [4, 5] (fun v s wr => ∃ (at_ : Nat) (out : List (List Bs)) (cf : Col), at_ ≤ n ∧ out.length ≤ at_ ∧ s = .int .i64 at_ ∧ Grow QL w.heap.size wr 22 v cf out ∧
      R = (out ++ (readF K (n + 1) (bs.drop at_) out.length).1, at_ + (readF K (n + 1) (bs.drop at_) out.length).2) ∧ ∀ c S, Kp c S w wr) (fun _ s _ => n - (intOf s).toNat)
    case atStart => exact ⟨0, [], _, by omega, by simp, rfl, Grow.start _ (Nat.le_refl _), by rw [HR.out]; unfold Wl.read; rw [← HN.out]; simp, fun c S => Kp.refl c S w⟩
    case round =>
      obtain ⟨at_, out, cf, hat, hol, rfl, G, hRR, hK⟩ := hrel
      have HG := Lib.hid G; have HRR := Lib.hid hRR; have HK := Lib.hid hK; clear G hRR hK
      obtain ⟨k, hk⟩ : ∃ k, k = out.length := ⟨_, rfl⟩
      rw [← hk] at hol HRR
      have hfc := first_c wr _ (bs.drop at_) k (sub_sc (HC.out.on HK.out) HN.out hat hlc hcm) (by omega)
      have HKK := Lib.hid hk; clear hk
      obtain ⟨xo, hxo⟩ := HG.out.own
      obtain ⟨ao, co, rfl⟩ := own_shape1 hxo.1
      clear hxo
      rw [← HKK.out] at HG ⊢
      rw [← HKC.out] at hfc
      have hdl : (bs.drop at_).length < n + 1 := by rw [List.length_drop]; have := HN.out; omega
      cases hfi : first K (bs.drop at_) k with
      | none =>
        rw [hfi] at hfc
        have HF := Lib.hid hfc
        have HRE := Lib.hid (show R = (out, at_) from by rw [HRR.out, readF_none K hfi]; simp)
        clear hfc hfi HRR hdl
        go_wp2_with (go_at_call 32; refine HF.out.mono ?_; rintro _ w1 ⟨hk, rfl⟩; have HK1 := Lib.hid hk; clear hk)
        all_goals
          go_ret2
          rw [HRE.out]
          exact ⟨_, _, rfl, HG.out.kp QL.stays (HK1.out cf (fun _ => False)) (fun h => h) (fun h => h), fun c S => (HK.out c S).alloc_trans (HK1.out c S)⟩
      | some x =>
        obtain ⟨lb, m⟩ := x
        have hpos := first_pos K hfi
        have hpos' := hpos
        rw [List.length_drop, ← HN.out] at hpos'
        rw [hfi, if_neg (show ¬ cap = at_ by omega)] at hfc
        have HF := Lib.hid hfc
        have HRE := Lib.hid (show R = _ from by rw [HRR.out, readF_some K hdl hfi])
        rw [List.length_drop, ← HN.out] at hpos
        have hne : ¬ cap = at_ := by omega
        clear hfc hfi HRR hdl
        go_wp2_with (first
          | (at_builtin; refine wpList_append2 rfl _ _ _ rfl 22 i0 (.slice none 0 0) 24 Try.underlying38 H6.out H7.out H8.out H9.out rfl (.slice ao k co) out.length xs5 (by rw [HKK.out]; rfl) HO5.out ⟨w1.heap.size, 0, none⟩ 1 1 [.slice a4 m4 k4] rfl rfl (one_new _ _ _) (fun u hu => by rw [List.mem_singleton.1 hu]; exact QL.stays.one HQ5.out) (by rw [← HKK.out]; unfold maxLen; omega) (by rw [← HKK.out]; omega) ?_; intro v6 w6 hown6 hg6 hf6; have G6 := Lib.hid (HG5.out.push QL.stays HO5.out HQ5.out hown6 hg6 hf6); have HK6 := Lib.hid (fun c S => ((HK4.out c S).alloc _).grown hg6 (fun g hg hlt => absurd (HG5.out.fresh g hg) (by omega))); clear hown6 hg6 hf6)
          | (go_at_call 32; refine HF.out.mono ?_; rintro _ w1 ⟨hk, vb, cb, rfl, hgb⟩; obtain ⟨xb, hxb, _⟩ := hgb.own; obtain ⟨a4, m4, k4, rfl⟩ := own_slice hxb; obtain ⟨cg, xs5, g5, o5, q5⟩ := grow_join HG.out hgb hk (.cells #[.slice a4 m4 k4] 22); have HG5 := Lib.hid g5; have HO5 := Lib.hid o5; have HQ5 := Lib.hid q5; have HK4 := Lib.hid (fun c S => (HK.out c S).alloc_trans (hk c S)); clear g5 o5 q5 hk hgb hxb))
        go_roundw
        case rel =>
          refine ⟨at_ + m, out ++ [lb], _, by omega, by rw [List.length_append, ← HKK.out]; simp; omega, by go_num, G6.out, ?_, HK6.out⟩
          rw [HRE.out, List.length_append, ← HKK.out, List.drop_drop]
          simp [Nat.add_assoc]
        case measure => simp [intOf]; omega
end Go.Proofs.Ytnifmoigalmcmaa
