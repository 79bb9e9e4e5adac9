/- wal.Batches of a log. -/
import Derived.Test.YtnifmoigalmcmaaVc
namespace Go.Proofs.Ytnifmoigalmcmaa
open Go Go.RowKit Dk
open Wl
variable {c c' : Col} {w w' : World} {S : Nat × Nat → Prop} {q : Nat × Nat}
theorem QL.shape {x : Value} {y : List Bs} (h : QL w c x y) : ∃ a k, x = .slice a y.length k := by
  obtain ⟨xs, ⟨a, k, rfl, _⟩, hl, _⟩ := h
  exact ⟨a, k, by rw [hl]⟩
set_option maxRecDepth 20000 in
set_option maxHeartbeats 1000000 in
theorem mapped_l (v : Value) (ls : List (List Bs)) (h : ∃ xs, w.ownsRow 0 22 1 v ls.length xs ∧ ∀ (i : Nat) x y, xs[i]? = some x → ls[i]? = some y → QL w c x y) (hl : ls.length ≤ 1000000) (hb : ∀ y ∈ ls, y.length ≤ 1000000000 ∧ ∀ r ∈ y, r.length ≤ lim) :
    Calls Try.prog 45 #[v, .func (.func 42) #[] #[]] w fun e w' => ∃ v' cf, e = .returned v' ∧ Grow QL w.heap.size w' 22 v' cf ls ∧ ∀ c S, Kp c S w w' := by
  obtain ⟨i0, hi, hz0, hz1, hz2⟩ := info_batch
  have H6 := Lib.hid hi; have H7 := Lib.hid hz0; have H8 := Lib.hid hz1; have H9 := Lib.hid hz2; clear hi hz0 hz1 hz2
  obtain ⟨xs, ho, hx⟩ := h
  by_cases h0 : ls.length = 0
  · obtain ⟨a, k, rfl⟩ := own_shape1 ho
    have hls : ls = [] := List.eq_nil_of_length_eq_zero h0
    subst hls
    clear ho hx hb h0 hl
    simp only [List.length_nil]
    go_enter Try.func45, Try.ntmps45
    go_wp2
    refine wp_loop_rounds 1 ?_
    rw [rounds_succ]
    go_wp2
    go_ret
    exact ⟨_, _, rfl, Grow.start _ (Nat.le_refl _), fun c S => Kp.refl c S w⟩
  · obtain ⟨g, cap, rfl, hc1, hc2⟩ := own_pos1 ho (by omega)
    have hcs := own_cells ho
    have hlen : xs.length = ls.length := by simpa using ho.1
    have HX := Lib.hid hx; have HB := Lib.hid hb; have HCS := Lib.hid hcs; have HLN := Lib.hid hlen; clear hx hb ho hcs hlen
    unfold maxLen at hc2
    go_enter Try.func45, Try.ntmps45
    go_wp2
    go_loopw [5, 10] (fun v s wr => ∃ i : Nat, i ≤ ls.length ∧ s = .int .i64 i ∧ (∃ cf, Grow QL w.heap.size wr 22 v cf (ls.take i)) ∧ ∀ c S, Kp c S w wr) (fun _ s _ => ls.length - (intOf s).toNat)
    case atStart => exact ⟨0, by omega, rfl, ⟨_, Grow.start _ (Nat.le_refl _)⟩, fun c S => Kp.refl c S w⟩
    case round =>
      obtain ⟨i, hi, rfl, ⟨cf, G⟩, hK⟩ := hrel
      have HG := Lib.hid G; have HK := Lib.hid hK; clear G hK
      by_cases hlt : i < ls.length
      · obtain ⟨x, hxe⟩ : ∃ x, xs[i]? = some x := ⟨_, List.getElem?_eq_getElem (by rw [HLN.out]; exact hlt)⟩
        have hql := HX.out i x ls[i] hxe (List.getElem?_eq_getElem hlt)
        have gc := (HK.out c (fun _ => False)).cell (HCS.out i x hxe) (fun h => h)
        have hbl := HB.out ls[i] (List.getElem_mem hlt)
        have htk := List.take_succ_eq_append_getElem hlt
        obtain ⟨r, hr⟩ : ∃ r, r = ls[i] := ⟨_, rfl⟩
        rw [← hr] at hql hbl htk
        obtain ⟨a, k, rfl⟩ := hql.shape
        have g0 : wr.cell? ⟨g, i, none⟩ = some (.slice a r.length k) := by rw [Nat.zero_add] at gc; exact gc
        have HQ := Lib.hid (QL.stays.stay hql (HK.out c (fun _ => False)) (fun h => h) (Cx.refl _ _)); have HTK := Lib.hid htk; have HBL := Lib.hid hbl; clear gc hxe hql hr htk hbl
        obtain ⟨L, hL⟩ : ∃ L, L = ls.take i := ⟨_, rfl⟩
        have hLl : L.length = i := by rw [hL, List.length_take]; omega
        rw [← hL] at HG HTK
        have HLL := Lib.hid hLl; clear hL hLl
        go_wp2_with (first
          | (at_builtin; refine wpList_append2 rfl _ _ _ rfl 22 i0 (.slice none 0 0) 24 Try.underlying38 H6.out H7.out H8.out H9.out rfl u5 L.length xs5 rfl HO5.out ⟨w4.heap.size, 0, none⟩ 1 1 [.slice a4 m4 k4] rfl rfl (one_new _ _ _) (fun u hu => by rw [List.mem_singleton.1 hu]; exact QL.stays.one HQ5.out) (by rw [HLL.out]; unfold maxLen; omega) (by rw [HLL.out]; omega) ?_; intro v6 w6 hown6 hg6 hf6; have G6 := Lib.hid (HG5.out.push QL.stays HO5.out HQ5.out hown6 hg6 hf6); have HK6 := Lib.hid (fun c S => ((HK4.out c S).alloc _).grown hg6 (fun g hg hlt => absurd (HG5.out.fresh g hg) (by omega))); clear hown6 hg6 hf6)
          | (go_at_call 42; refine (twin_b (0, 0) (0, 0) (.slice a r.length k) r HQ.out HBL.out.1 HBL.out.2).mono ?_; rintro _ w4 ⟨v4, cb, rfl, hgb, hk⟩; obtain ⟨xb, hxb, _⟩ := hgb.own; obtain ⟨a4, m4, k4, rfl⟩ := own_slice hxb; obtain ⟨cg, xs5, g5, o5, q5⟩ := grow_join HG.out hgb hk (.cells #[.slice a4 m4 k4] 22); have HG5 := Lib.hid g5; have HO5 := Lib.hid o5; have HQ5 := Lib.hid q5; have HK4 := Lib.hid (fun c S => (HK.out c S).alloc_trans (hk c S)); clear g5 o5 q5 hk hgb hxb))
        go_roundw
        case rel => exact ⟨i + 1, by omega, by go_num, ⟨_, by rw [HTK.out]; exact G6.out⟩, HK6.out⟩
        case measure => simp [intOf]; omega
      · obtain rfl : i = ls.length := by omega
        go_wp2
        go_ret
        have := HG.out
        rw [List.take_length] at this
        exact ⟨_, _, rfl, this, HK.out⟩
theorem wbatches_c {kl lb d : Nat} {nm : Nm} {vl : Value} {ls : List (List Bs)} {size : Nat} {dirty : Bool} (L : LogAt w c kl lb d nm vl ls size dirty) (hl : ls.length ≤ 1000000) (hb : ∀ y ∈ ls, y.length ≤ 1000000000 ∧ ∀ r ∈ y, r.length ≤ lim) :
    Calls Try.prog 21 #[ptr lb] w fun e w' => ∃ v' cf, e = .returned v' ∧ Grow QL w.heap.size w' 22 v' cf ls ∧ ∀ c S, Kp c S w w' := by
  have e0 := L.c0; have e3 := L.c3
  have HIS := Lib.hid (wis_one w lb e0)
  have HM := Lib.hid (mapped_l vl ls L.own hl hb)
  clear L hb hl
  unfold ptr at HIS ⊢
  go_enter Try.func21, Try.ntmps21
  go_wp2_with (first
    | (go_at_call 39; refine HIS.out.mono ?_; rintro _ w1 ⟨rfl, rfl⟩)
    | (go_at_call 45; refine HM.out.mono ?_; rintro _ w2 ⟨v2, cf, rfl, hg, hk⟩; have HG := Lib.hid hg; have HK := Lib.hid hk; clear hg hk))
  go_ret
  exact ⟨_, _, rfl, HG.out, HK.out⟩
end Go.Proofs.Ytnifmoigalmcmaa
