import Derived.Test.YtnifmoigalmcmaaGreatLt
namespace Go.Proofs.YtnifmoigalmcmaaGreat
open Go Go.RowKit Go.MapKept Go.Maps
open Dk
variable {c c' : Col} {w w' : World}
theorem owns_below0 {base e size n : Nat} {v : Value} {xs : List Value} (h : w.ownsRow base e size v n xs) (hb : Below w.heap.size w w') : w'.ownsRow base e size v n xs :=
  ownsRow_kp (c := fun _ => (0, 0)) (S := fun _ => False) (q := (0, 0)) h (fun _ _ => rfl) (Kp.of_below hb) (fun h => h)
theorem twin_end {p : APlan} {v1 v2 v3 : Value} {w w5 w6 : World} (HT : Below w.heap.size w w5)
    (h1 : w5.ownsRow (w.heap.size + 2) 3 1 v1 p.keep.length (p.keep.map iv)) (h2 : w5.ownsRow (w.heap.size + 2) 3 1 v2 p.fail.length (p.fail.map iv)) (h3 : w5.ownsRow (w.heap.size + 2) 3 1 v3 p.full.length (p.full.map iv))
    (hk : ∀ (c : Col) S, S (c w.heap.size) → S (c (w.heap.size + 1)) → Kp c S w5 w6) :
    ∃ c', Cx w c c' ∧ (∀ S, Kp c S w w6) ∧ PlanAt w6 c' v1 v2 v3 p := by
  let c1 : Col := fun b => if b < w.heap.size then c b else if b < w.heap.size + 2 then (1, 0) else (0, 0)
  let c' : Col := fun b => if b < w.heap.size then c b else (0, 0)
  have hs : ∀ {v : Value} {xs : List Value} {n : Nat}, w5.ownsRow (w.heap.size + 2) 3 1 v n xs → Sc w6 c' (0, 0) v xs := by
    intro v xs n h
    have hg : ∀ g, v.ownBlock = some g → w.heap.size + 2 ≤ g := fun g hg => by
      rcases h.2 with ⟨rfl, _⟩ | ⟨g', _, _, rfl, hh, _⟩
      · cases hg
      · cases hg; exact hh
    have h0 : Sc w5 c1 (0, 0) v xs := Sc.of_owns h (fun g hh => by
      have := hg g hh
      show (if g < w.heap.size then c g else if g < w.heap.size + 2 then (1, 0) else (0, 0)) = _
      rw [if_neg (by omega), if_neg (by omega)])
    have hkk : Kp c1 (fun q => q = (1, 0)) w5 w6 := hk _ _ (by show (if w.heap.size < w.heap.size then c w.heap.size else if w.heap.size < w.heap.size + 2 then (1, 0) else (0, 0)) = _; rw [if_neg (by omega), if_pos (by omega)]) (by show (if w.heap.size + 1 < w.heap.size then c (w.heap.size + 1) else if w.heap.size + 1 < w.heap.size + 2 then (1, 0) else (0, 0)) = _; rw [if_neg (by omega), if_pos (by omega)])
    obtain ⟨a, cap, e1, e2, e3, e4, e5⟩ := h0.kp (w' := w6) (c' := c1) hkk (by simp) (Cx.refl _ _)
    refine ⟨a, cap, e1, e2, e3, e4, fun ad had => ⟨(e5 ad had).1, fun j u hj => ⟨?_, ((e5 ad had).2 j u hj).2⟩⟩⟩
    subst e1
    have hge : w.heap.size + 2 ≤ ad.block := by
      rcases h.2 with ⟨e, e'⟩ | ⟨g', _, _, e, hh, _⟩
      · rw [e'] at h; have := h.1; simp at this; subst this; cases hj
      · injection e with e _ _; rw [had] at e; injection e with e; subst e; exact hh
    show (if ad.block < w.heap.size then c ad.block else (0, 0)) = _
    rw [if_neg (by omega)]
  refine ⟨c', fun b hb => if_pos hb, fun S => ?_, hs h1, hs h2, hs h3⟩
  have h0 : Kp c' (fun q => q = (7, 7)) w5 w5 := Kp.refl _ _ _
  let c2 : Col := fun b => if b < w.heap.size then (0, 0) else (1, 0)
  have hkk : Kp c2 (fun q => q = (1, 0)) w5 w6 := hk _ _ (if_neg (Nat.lt_irrefl _)) (if_neg (by omega))
  exact ⟨hkk.os.trans HT.os, hkk.tape.trans HT.tape, hkk.output.trans HT.output, Nat.le_trans HT.size hkk.size, fun b hb _ => (hkk.block b (Nat.lt_of_lt_of_le hb HT.size) (by rw [show c2 b = (0, 0) from if_pos hb]; simp)).trans (HT.block b hb)⟩
set_option linter.unusedVariables false in
theorem twin_tail {p : APlan} {a1 a2 a3 : Option Addr} {k1 k2 k3 : Nat} {w w5 : World} {t0 t3 t4 t5 t6 t7 t8 t9 t10 t11 t12 t13 t14 t15 : Value} (HT : Below w.heap.size w w5)
    (h1 : w5.ownsRow (w.heap.size + 2) 3 1 (.slice a1 p.keep.length k1) p.keep.length (p.keep.map iv)) (h2 : w5.ownsRow (w.heap.size + 2) 3 1 (.slice a2 p.fail.length k2) p.fail.length (p.fail.map iv)) (h3 : w5.ownsRow (w.heap.size + 2) 3 1 (.slice a3 p.full.length k3) p.full.length (p.full.map iv))
    (hQ : w5.heap[w.heap.size + 1]? = some (.cells #[.int .i64 0, .slice none 0 0, .slice none 0 0, .slice none 0 0, .int .i64 0] 24 (0, 0))) :
    bodyPost Tryz.prog Tryz.f57 (fun e w' => ∃ vk' vf' vu' c', e = .returned (.agg #[.int .i64 p.crash, vk', vf', vu', .int .i64 p.room]) ∧ Cx w c c' ∧ (∀ S, Kp c S w w') ∧ PlanAt w' c' vk' vf' vu' p) Exit.ret
      { tmps := #[t0, .pointer (some ⟨w.heap.size, 0, none⟩), .pointer (some ⟨w.heap.size + 1, 0, none⟩), t3, t4, t5, t6, t7, t8, t9, t10, t11, t12, t13, t14, t15], defers := [] }
      ((((((((w5.setCell ⟨w.heap.size, 1, none⟩ (.slice a1 p.keep.length k1)).setCell ⟨w.heap.size, 2, none⟩ (.slice a2 p.fail.length k2)).setCell ⟨w.heap.size, 3, none⟩ (.slice a3 p.full.length k3)).setCell ⟨w.heap.size + 1, 0, none⟩ (.int .i64 p.crash)).setCell ⟨w.heap.size + 1, 1, none⟩ (.slice a1 p.keep.length k1)).setCell ⟨w.heap.size + 1, 2, none⟩ (.slice a2 p.fail.length k2)).setCell ⟨w.heap.size + 1, 3, none⟩ (.slice a3 p.full.length k3)).setCell ⟨w.heap.size + 1, 4, none⟩ (.int .i64 p.room)) := by
  have d0 : World.cell? w5 ⟨w.heap.size + 1, 0, none⟩ = some (.int .i64 0) := cell_of_heap hQ 0
  have d1 : World.cell? w5 ⟨w.heap.size + 1, 1, none⟩ = some (.slice none 0 0) := cell_of_heap hQ 1
  have d2 : World.cell? w5 ⟨w.heap.size + 1, 2, none⟩ = some (.slice none 0 0) := cell_of_heap hQ 2
  have d3 : World.cell? w5 ⟨w.heap.size + 1, 3, none⟩ = some (.slice none 0 0) := cell_of_heap hQ 3
  have d4 : World.cell? w5 ⟨w.heap.size + 1, 4, none⟩ = some (.int .i64 0) := cell_of_heap hQ 4
  obtain ⟨cc, e1, e2, e3⟩ := twin_end (c := c) HT h1 h2 h3 (fun c S e1 e2 => ((((((((Kp.refl c S w5).setCell (p := ⟨w.heap.size, 1, none⟩) (fun _ => e1) (.slice a1 p.keep.length k1)).setCell (p := ⟨w.heap.size, 2, none⟩) (fun _ => e1) (.slice a2 p.fail.length k2)).setCell (p := ⟨w.heap.size, 3, none⟩) (fun _ => e1) (.slice a3 p.full.length k3)).setCell (p := ⟨w.heap.size + 1, 0, none⟩) (fun _ => e2) (.int .i64 p.crash)).setCell (p := ⟨w.heap.size + 1, 1, none⟩) (fun _ => e2) (.slice a1 p.keep.length k1)).setCell (p := ⟨w.heap.size + 1, 2, none⟩) (fun _ => e2) (.slice a2 p.fail.length k2)).setCell (p := ⟨w.heap.size + 1, 3, none⟩) (fun _ => e2) (.slice a3 p.full.length k3)).setCell (p := ⟨w.heap.size + 1, 4, none⟩) (fun _ => e2) (.int .i64 p.room))
  refine bodyPost_ret (v := .agg #[.int .i64 p.crash, .slice a1 p.keep.length k1, .slice a2 p.fail.length k2, .slice a3 p.full.length k3, .int .i64 p.room]) ?_ rfl ⟨_, _, _, cc, rfl, e1, e2, e3⟩
  simp [results, Tryz.results57, go_sem, d0, d1, d2, d3, d4]
set_option maxHeartbeats 40000000 in
theorem twin_c (p : APlan) (vk vf vu : Value) (w : World) {q : Nat × Nat} (hk : Sc w c q vk (p.keep.map iv)) (hf : Sc w c q vf (p.fail.map iv)) (hu : Sc w c q vu (p.full.map iv)) (lk : p.keep.length ≤ lim) (lf : p.fail.length ≤ lim) (lu : p.full.length ≤ lim) :
    Calls Tryz.prog 57 #[planV p vk vf vu] w fun e w' => ∃ vk' vf' vu' c', e = .returned (planV p vk' vf' vu') ∧ Cx w c c' ∧ (∀ S, Kp c S w w') ∧ PlanAt w' c' vk' vf' vu' p := by
  obtain ⟨ak, capk, rfl, _⟩ := id hk
  obtain ⟨af, capf, rfl, _⟩ := id hf
  obtain ⟨au, capu, rfl, _⟩ := id hu
  have HKK := Lib.hid ((hk.alloc (.cells #[.int .i64 p.crash, .slice ak (p.keep.map iv).length capk, .slice af (p.fail.map iv).length capf, .slice au (p.full.map iv).length capu, .int .i64 p.room] 24)).alloc (.cells #[.int .i64 0, .slice none 0 0, .slice none 0 0, .slice none 0 0, .int .i64 0] 24)).drew
  have HFF := Lib.hid ((hf.alloc (.cells #[.int .i64 p.crash, .slice ak (p.keep.map iv).length capk, .slice af (p.fail.map iv).length capf, .slice au (p.full.map iv).length capu, .int .i64 p.room] 24)).alloc (.cells #[.int .i64 0, .slice none 0 0, .slice none 0 0, .slice none 0 0, .int .i64 0] 24)).drew
  have HUU := Lib.hid ((hu.alloc (.cells #[.int .i64 p.crash, .slice ak (p.keep.map iv).length capk, .slice af (p.fail.map iv).length capf, .slice au (p.full.map iv).length capu, .int .i64 p.room] 24)).alloc (.cells #[.int .i64 0, .slice none 0 0, .slice none 0 0, .slice none 0 0, .int .i64 0] 24)).drew
  have LK := Lib.hid lk; clear lk
  have LF := Lib.hid lf; clear lf
  have LU := Lib.hid lu; clear lu
  simp only [List.length_map] at HKK HFF HUU ⊢
  clear hk hf hu
  rename_i z1 z2 z3; clear z1 z2 z3
  have HP : Hid (((w.alloc (.cells #[.int .i64 p.crash, .slice ak p.keep.length capk, .slice af p.fail.length capf, .slice au p.full.length capu, .int .i64 p.room] 24)).alloc (.cells #[.int .i64 0, .slice none 0 0, .slice none 0 0, .slice none 0 0, .int .i64 0] 24)).drew.heap[w.heap.size]? = some (.cells #[.int .i64 p.crash, .slice ak p.keep.length capk, .slice af p.fail.length capf, .slice au p.full.length capu, .int .i64 p.room] 24 (0, 0))) := heap_alloc_old _ (heap_alloc_new _ _)
  have HQ : Hid (((w.alloc (.cells #[.int .i64 p.crash, .slice ak p.keep.length capk, .slice af p.fail.length capf, .slice au p.full.length capu, .int .i64 p.room] 24)).alloc (.cells #[.int .i64 0, .slice none 0 0, .slice none 0 0, .slice none 0 0, .int .i64 0] 24)).drew.heap[w.heap.size + 1]? = some (.cells #[.int .i64 0, .slice none 0 0, .slice none 0 0, .slice none 0 0, .int .i64 0] 24 (0, 0))) := by have := heap_alloc_new (w.alloc (.cells #[.int .i64 p.crash, .slice ak p.keep.length capk, .slice af p.fail.length capf, .slice au p.full.length capu, .int .i64 p.room] 24)) (.cells #[.int .i64 0, .slice none 0 0, .slice none 0 0, .slice none 0 0, .int .i64 0] 24); rw [show (w.alloc (.cells #[.int .i64 p.crash, .slice ak p.keep.length capk, .slice af p.fail.length capf, .slice au p.full.length capu, .int .i64 p.room] 24)).heap.size = w.heap.size + 1 from by simp] at this; exact this
  have HT : Hid (Below w.heap.size w ((w.alloc (.cells #[.int .i64 p.crash, .slice ak p.keep.length capk, .slice af p.fail.length capf, .slice au p.full.length capu, .int .i64 p.room] 24)).alloc (.cells #[.int .i64 0, .slice none 0 0, .slice none 0 0, .slice none 0 0, .int .i64 0] 24)).drew) := (((Below.refl _ w).alloc (Nat.le_refl _) _).alloc (by simp) _).drew
  unfold planV
  go_enter Tryz.func57, Tryz.ntmps57
  go_wp2_with fail
  have hs1 : w.heap.size < ((w.alloc (.cells #[.int .i64 p.crash, .slice ak p.keep.length capk, .slice af p.fail.length capf, .slice au p.full.length capu, .int .i64 p.room] 24)).alloc (.cells #[.int .i64 0, .slice none 0 0, .slice none 0 0, .slice none 0 0, .int .i64 0] 24)).drew.heap.size := by simp; omega
  have hs2 : w.heap.size + 1 < ((w.alloc (.cells #[.int .i64 p.crash, .slice ak p.keep.length capk, .slice af p.fail.length capf, .slice au p.full.length capu, .int .i64 p.room] 24)).alloc (.cells #[.int .i64 0, .slice none 0 0, .slice none 0 0, .slice none 0 0, .int .i64 0] 24)).drew.heap.size := by simp
  go_region_with (first
    | (go_at_call 123; (with_reducible refine (cloneI _ _ HKK.out (one_iv _) (by rw [List.length_map]; exact LK.out)).mono ?_); (rintro e w' ⟨v', rfl, hown, hb⟩); (obtain ⟨a', cap', rfl, -⟩ := Sc.of_owns (c := fun _ => (0, 0)) (q := (0, 0)) hown (fun _ _ => rfl); rw [List.length_map] at hown ⊢; have hz1 : w.heap.size < w'.heap.size := Nat.lt_of_lt_of_le (by assumption) hb.size; have hz2 : w.heap.size + 1 < w'.heap.size := Nat.lt_of_lt_of_le (by assumption) hb.size; have HKK := Lib.hid (HKK.out.below hb); have HFF := Lib.hid (HFF.out.below hb); have HUU := Lib.hid (HUU.out.below hb); have HP := Lib.hid ((hb.block _ (by assumption)).trans HP.out); have HQ := Lib.hid ((hb.block _ (by assumption)).trans HQ.out); have c1 : w'.cell? ⟨w.heap.size, 1, none⟩ = some (.slice ak p.keep.length capk) := cell_of_heap HP.out 1; have c2 : w'.cell? ⟨w.heap.size, 2, none⟩ = some (.slice af p.fail.length capf) := cell_of_heap HP.out 2; have c3 : w'.cell? ⟨w.heap.size, 3, none⟩ = some (.slice au p.full.length capu) := cell_of_heap HP.out 3; have cf : ∀ i, w'.frozen? ⟨w.heap.size, i, none⟩ = false := unfrozen_of_heap HP.out; (try have HO1 := Lib.hid (owns_below0 HO1.out hb)); (try have HO2 := Lib.hid (owns_below0 HO2.out hb)); (try have HO3 := Lib.hid (owns_below0 HO3.out hb)); have HO1 := Lib.hid (ownsRow_base_a hown (Nat.succ_le_of_lt (by assumption : w.heap.size + 1 < _) : w.heap.size + 2 ≤ _)); have HT := Lib.hid (HT.out.trans (hb.mono HT.out.size)); clear hown hb))
    | (go_at_call 123; (with_reducible refine (cloneI _ _ HFF.out (one_iv _) (by rw [List.length_map]; exact LF.out)).mono ?_); (rintro e w' ⟨v', rfl, hown, hb⟩); (obtain ⟨a', cap', rfl, -⟩ := Sc.of_owns (c := fun _ => (0, 0)) (q := (0, 0)) hown (fun _ _ => rfl); rw [List.length_map] at hown ⊢; have hz1 : w.heap.size < w'.heap.size := Nat.lt_of_lt_of_le (by assumption) hb.size; have hz2 : w.heap.size + 1 < w'.heap.size := Nat.lt_of_lt_of_le (by assumption) hb.size; have HKK := Lib.hid (HKK.out.below hb); have HFF := Lib.hid (HFF.out.below hb); have HUU := Lib.hid (HUU.out.below hb); have HP := Lib.hid ((hb.block _ (by assumption)).trans HP.out); have HQ := Lib.hid ((hb.block _ (by assumption)).trans HQ.out); have c1 : w'.cell? ⟨w.heap.size, 1, none⟩ = some (.slice ak p.keep.length capk) := cell_of_heap HP.out 1; have c2 : w'.cell? ⟨w.heap.size, 2, none⟩ = some (.slice af p.fail.length capf) := cell_of_heap HP.out 2; have c3 : w'.cell? ⟨w.heap.size, 3, none⟩ = some (.slice au p.full.length capu) := cell_of_heap HP.out 3; have cf : ∀ i, w'.frozen? ⟨w.heap.size, i, none⟩ = false := unfrozen_of_heap HP.out; (try have HO1 := Lib.hid (owns_below0 HO1.out hb)); (try have HO2 := Lib.hid (owns_below0 HO2.out hb)); (try have HO3 := Lib.hid (owns_below0 HO3.out hb)); have HO2 := Lib.hid (ownsRow_base_a hown (Nat.succ_le_of_lt (by assumption : w.heap.size + 1 < _) : w.heap.size + 2 ≤ _)); have HT := Lib.hid (HT.out.trans (hb.mono HT.out.size)); clear hown hb))
    | (go_at_call 123; (with_reducible refine (cloneI _ _ HUU.out (one_iv _) (by rw [List.length_map]; exact LU.out)).mono ?_); (rintro e w' ⟨v', rfl, hown, hb⟩); (obtain ⟨a', cap', rfl, -⟩ := Sc.of_owns (c := fun _ => (0, 0)) (q := (0, 0)) hown (fun _ _ => rfl); rw [List.length_map] at hown ⊢; have hz1 : w.heap.size < w'.heap.size := Nat.lt_of_lt_of_le (by assumption) hb.size; have hz2 : w.heap.size + 1 < w'.heap.size := Nat.lt_of_lt_of_le (by assumption) hb.size; have HKK := Lib.hid (HKK.out.below hb); have HFF := Lib.hid (HFF.out.below hb); have HUU := Lib.hid (HUU.out.below hb); have HP := Lib.hid ((hb.block _ (by assumption)).trans HP.out); have HQ := Lib.hid ((hb.block _ (by assumption)).trans HQ.out); have c1 : w'.cell? ⟨w.heap.size, 1, none⟩ = some (.slice ak p.keep.length capk) := cell_of_heap HP.out 1; have c2 : w'.cell? ⟨w.heap.size, 2, none⟩ = some (.slice af p.fail.length capf) := cell_of_heap HP.out 2; have c3 : w'.cell? ⟨w.heap.size, 3, none⟩ = some (.slice au p.full.length capu) := cell_of_heap HP.out 3; have cf : ∀ i, w'.frozen? ⟨w.heap.size, i, none⟩ = false := unfrozen_of_heap HP.out; (try have HO1 := Lib.hid (owns_below0 HO1.out hb)); (try have HO2 := Lib.hid (owns_below0 HO2.out hb)); (try have HO3 := Lib.hid (owns_below0 HO3.out hb)); have HO3 := Lib.hid (ownsRow_base_a hown (Nat.succ_le_of_lt (by assumption : w.heap.size + 1 < _) : w.heap.size + 2 ≤ _)); have HT := Lib.hid (HT.out.trans (hb.mono HT.out.size)); clear hown hb)))
  all_goals
    have c0 : World.cell? _ ⟨w.heap.size, 0, none⟩ = some (.int .i64 p.crash) := cell_of_heap HP.out 0
    have c4 : World.cell? _ ⟨w.heap.size, 4, none⟩ = some (.int .i64 p.room) := cell_of_heap HP.out 4
    have d0 : World.cell? _ ⟨w.heap.size + 1, 0, none⟩ = some (.int .i64 0) := cell_of_heap HQ.out 0
    have d1 : World.cell? _ ⟨w.heap.size + 1, 1, none⟩ = some (.slice none 0 0) := cell_of_heap HQ.out 1
    have d2 : World.cell? _ ⟨w.heap.size + 1, 2, none⟩ = some (.slice none 0 0) := cell_of_heap HQ.out 2
    have d3 : World.cell? _ ⟨w.heap.size + 1, 3, none⟩ = some (.slice none 0 0) := cell_of_heap HQ.out 3
    have d4 : World.cell? _ ⟨w.heap.size + 1, 4, none⟩ = some (.int .i64 0) := cell_of_heap HQ.out 4
    have df := unfrozen_of_heap HQ.out
    go_wp2
    exact twin_tail HT.out HO1.out HO2.out HO3.out HQ.out
end Go.Proofs.YtnifmoigalmcmaaGreat
