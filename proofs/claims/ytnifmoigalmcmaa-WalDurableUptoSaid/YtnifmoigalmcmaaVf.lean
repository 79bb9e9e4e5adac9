/- Plans that came in; cairnref01.Twin. -/
import Derived.Test.YtnifmoigalmcmaaLt
import Derived.Test.YtnifmoigalmcmaaTw
import Derived.Laws.OwnMore
namespace Go.Proofs.Ytnifmoigalmcmaa
open Go Go.RowKit Go.MapKept Go.Maps
open Dk
section
variable {c c' : Col} {S : Nat × Nat → Prop} {w w' : World}
structure PlanW (w : World) (c : Col) (vk vf vu : Value) (p : APlan) : Prop where
  keep : Sw w c (0, 0) vk (p.keep.map iv)
  fail : Sw w c (0, 0) vf (p.fail.map iv)
  full : Sw w c (0, 0) vu (p.full.map iv)
theorem PlanW.kp {vk vf vu : Value} {p : APlan} (h : PlanW w c vk vf vu p) (hk : Kp c S w w') (h0 : ¬ S (0, 0)) (hc : Cx w c c') : PlanW w' c' vk vf vu p :=
  ⟨h.keep.kp hk h0 hc, h.fail.kp hk h0 hc, h.full.kp hk h0 hc⟩
end
variable {c c' : Col} {w w' : World} {q : Nat × Nat}
section
variable {P : Program}
theorem wpList_nilAppend {ops : Array Oper} {rest : List Oper} {o : Oper} {a : Act} {Q : Exit → Act → World → Prop} (hgd : o.guard = none) (s x : Operand) (t : TypeId)
    (ho : o.op = .call { callee := .builtin .append, args := #[s, x], argTypes := #[t, t] })
    (e : TypeId) (i : TypeInfo) (z : Value) (bytes : Nat) (ht : P.underlying t = some (.slice e)) (hi : P.info? e = some i) (hz : i.zero = some z)
    (hsize : i.size = 1) (hby : i.bytes = bytes) (hzs : z.cells.size = 1) (hb64 : bytes ≤ 64)
    (hs : a.eval s = .slice none 0 0) (v : Value) (xs : List Value) (hx : a.eval x = v) (h : Sw w c q v xs) (h1 : ∀ u ∈ xs, u.oneCell' = true) (hl : xs.length ≤ lim)
    (hK : ∀ v' w', w'.ownsRow w.heap.size e 1 v' xs.length xs → Below w.heap.size w w' → wpList P ops Q rest (a.put o.dst v') w') : wpList P ops Q (o :: rest) a w := by
  obtain ⟨ad, cap, rfl, hlc, hcm, hn0, hc⟩ := h
  cases ad with
  | none =>
    have h0 := hn0 rfl
    subst h0
    have hxs : xs = [] := List.eq_nil_of_length_eq_zero (by omega)
    subst hxs
    refine wpList_plain hgd fun K hK' => ?_
    have hrun := run_append_owned_none (P := P) (w := w) w.heap.size t o.type e i 1 ht hi (.slice none 0 0) 0 [] (World.ownsRow_nil _ _ _ _)
    unfold Oper.wp
    simp [execOp, ho, resolve, invoke, builtin, hs, hx, hrun, Result.andThen]
    exact hK' _ _ (hK _ _ (World.ownsRow_nil _ _ _ _) (Below.refl _ _))
  | some ad =>
    have hcell := hc ad rfl
    refine wpList_append_own _ hgd s x t ho w.heap.size e i z 1 bytes ht hi hz hsize hby hzs (by decide) (.slice none 0 0) 0 [] hs (World.ownsRow_nil _ _ _ _) ad xs.length cap xs hx (by simp) (fun j u hj => by rw [add_eq (hcell j u hj).1]; exact (hcell j u hj).2.2) h1 (lim_len hl) (lim_by hl hb64) (Nat.le_refl _) ?_
    intro v' w' hown hgrow _
    exact hK v' w' (by simpa using hown) ((Below.refl _ w).grown hgrow (Nat.le_refl _) (fun g hg => by cases hg))
end
theorem rtwin_c (p : APlan) (vk vf vu : Value) (w : World) (hp : PlanW w c vk vf vu p) (lk : p.keep.length ≤ lim) (lf : p.fail.length ≤ lim) (lu : p.full.length ≤ lim) :
    Calls Try.prog 17 #[planV p vk vf vu] w fun e w' => ∃ vk' vf' vu' c', e = .returned (planV p vk' vf' vu') ∧ Cx w c c' ∧ (∀ S, Kp c S w w') ∧ PlanAt w' c' vk' vf' vu' p := by
  obtain ⟨ak, capk, rfl, -⟩ := id hp.keep
  obtain ⟨af, capf, rfl, -⟩ := id hp.fail
  obtain ⟨au, capu, rfl, -⟩ := id hp.full
  have LK := Lib.hid lk; clear lk
  have LF := Lib.hid lf; clear lf
  have LU := Lib.hid lu; clear lu
  obtain ⟨i0, hi, hz0, hz1, hz2⟩ := info_parts info_int
  have H6 := Lib.hid hi; clear hi
  have H7 := Lib.hid hz0; clear hz0
  have H8 := Lib.hid hz1; clear hz1
  have H9 := Lib.hid hz2; clear hz2
  simp only [List.length_map] at hp ⊢
  have HP := Lib.hid hp; clear hp
  have K0 : Hid (∀ S, Kp c S w ((w.alloc (.cells #[.int .i64 p.crash, .slice ak p.keep.length capk, .slice af p.fail.length capf, .slice au p.full.length capu, .int .i64 p.room] 28)).alloc (.cells #[.int .i64 0, .slice none 0 0, .slice none 0 0, .slice none 0 0, .int .i64 0] 28))) := fun S => ((Kp.refl c S w).alloc _).alloc _
  have T0 : Hid (Below w.heap.size w ((w.alloc (.cells #[.int .i64 p.crash, .slice ak p.keep.length capk, .slice af p.fail.length capf, .slice au p.full.length capu, .int .i64 p.room] 28)).alloc (.cells #[.int .i64 0, .slice none 0 0, .slice none 0 0, .slice none 0 0, .int .i64 0] 28))) := ((Below.refl _ w).alloc (Nat.le_refl _) _).alloc (by simp) _
  have P0 : Hid (((w.alloc (.cells #[.int .i64 p.crash, .slice ak p.keep.length capk, .slice af p.fail.length capf, .slice au p.full.length capu, .int .i64 p.room] 28)).alloc (.cells #[.int .i64 0, .slice none 0 0, .slice none 0 0, .slice none 0 0, .int .i64 0] 28)).heap[w.heap.size]? = some (.cells #[.int .i64 p.crash, .slice ak p.keep.length capk, .slice af p.fail.length capf, .slice au p.full.length capu, .int .i64 p.room] 28 (0, 0))) := heap_alloc_old _ (heap_alloc_new _ _)
  have Q0 : Hid (((w.alloc (.cells #[.int .i64 p.crash, .slice ak p.keep.length capk, .slice af p.fail.length capf, .slice au p.full.length capu, .int .i64 p.room] 28)).alloc (.cells #[.int .i64 0, .slice none 0 0, .slice none 0 0, .slice none 0 0, .int .i64 0] 28)).heap[w.heap.size + 1]? = some (.cells #[.int .i64 0, .slice none 0 0, .slice none 0 0, .slice none 0 0, .int .i64 0] 28 (0, 0))) := by have := heap_alloc_new (w.alloc (.cells #[.int .i64 p.crash, .slice ak p.keep.length capk, .slice af p.fail.length capf, .slice au p.full.length capu, .int .i64 p.room] 28)) (.cells #[.int .i64 0, .slice none 0 0, .slice none 0 0, .slice none 0 0, .int .i64 0] 28); rw [show (w.alloc (.cells #[.int .i64 p.crash, .slice ak p.keep.length capk, .slice af p.fail.length capf, .slice au p.full.length capu, .int .i64 p.room] 28)).heap.size = w.heap.size + 1 from by simp] at this; exact this
  have Z0 : Hid (((w.alloc (.cells #[.int .i64 p.crash, .slice ak p.keep.length capk, .slice af p.fail.length capf, .slice au p.full.length capu, .int .i64 p.room] 28)).alloc (.cells #[.int .i64 0, .slice none 0 0, .slice none 0 0, .slice none 0 0, .int .i64 0] 28)).heap.size = w.heap.size + 2) := by simp [Hid]
  unfold planV
  go_enter Try.func17, Try.ntmps17
  go_wp2_with (at_builtin; refine wpList_nilAppend rfl _ _ _ rfl 3 i0 (.int .i64 0) 8 Try.underlying26 H6.out H7.out H8.out H9.out rfl (by decide) rfl _ _ rfl (HP.out.keep.kp (K0.out S2F) (fun h => h) (Cx.refl _ _)) (one_iv _) (by rw [List.length_map]; exact LK.out) ?_)
  intro v1 w1 hown hb
  obtain ⟨a1, k1, rfl, -⟩ := Sc.of_owns (c := fun _ => (0, 0)) (q := (0, 0)) hown (fun _ _ => rfl)
  simp only [List.length_map] at hown ⊢
  have P1 : Hid (w1.heap[w.heap.size]? = some (.cells #[.int .i64 p.crash, .slice ak p.keep.length capk, .slice af p.fail.length capf, .slice au p.full.length capu, .int .i64 p.room] 28 (0, 0))) := (hb.block w.heap.size (by omega)).trans P0.out
  have Q1 : Hid (w1.heap[w.heap.size + 1]? = some (.cells #[.int .i64 0, .slice none 0 0, .slice none 0 0, .slice none 0 0, .int .i64 0] 28 (0, 0))) := (hb.block (w.heap.size + 1) (by omega)).trans Q0.out
  have L1 := Lib.hid (lt_of_heap Q1.out)
  have T1 : Hid (Below w.heap.size w w1) := T0.out.trans (hb.mono (by omega))
  have K1 : Hid (∀ S, Kp c S w w1) := fun S => (K0.out S).below hb (by omega)
  have O1 := Lib.hid (ownsRow_base_a hown (by omega) : w1.ownsRow (w.heap.size + 2) 3 1 _ _ _)
  clear hown hb
  have c0 : w1.cell? ⟨w.heap.size, 0, none⟩ = some (.int .i64 p.crash) := cell_of_heap P1.out 0
  have c1 : w1.cell? ⟨w.heap.size, 1, none⟩ = some (.slice ak p.keep.length capk) := cell_of_heap P1.out 1
  have c2 : w1.cell? ⟨w.heap.size, 2, none⟩ = some (.slice af p.fail.length capf) := cell_of_heap P1.out 2
  have c3 : w1.cell? ⟨w.heap.size, 3, none⟩ = some (.slice au p.full.length capu) := cell_of_heap P1.out 3
  have c4 : w1.cell? ⟨w.heap.size, 4, none⟩ = some (.int .i64 p.room) := cell_of_heap P1.out 4
  have cf : ∀ i, w1.frozen? ⟨w.heap.size, i, none⟩ = false := unfrozen_of_heap P1.out
  have P1x : Hid ((w1.setCell ⟨w.heap.size, 1, none⟩ (.slice a1 p.keep.length k1)).heap[w.heap.size]? = some (.cells #[.int .i64 p.crash, .slice a1 p.keep.length k1, .slice af p.fail.length capf, .slice au p.full.length capu, .int .i64 p.room] 28 (0, 0))) := by
    have h2 : (w1.setCell ⟨w.heap.size, 1, none⟩ (.slice a1 p.keep.length k1)).heap[w.heap.size]? = some (.cells #[.int .i64 p.crash, .slice a1 p.keep.length k1, .slice af p.fail.length capf, .slice au p.full.length capu, .int .i64 p.room] 28 (0, 0)) := by have := heap_setCell P1.out 1 (.slice a1 p.keep.length k1); simpa using this
    exact h2
  have Q1x : Hid ((w1.setCell ⟨w.heap.size, 1, none⟩ (.slice a1 p.keep.length k1)).heap[w.heap.size + 1]? = some (.cells #[.int .i64 0, .slice none 0 0, .slice none 0 0, .slice none 0 0, .int .i64 0] 28 (0, 0))) := (Below.heap_setCell _ ⟨w.heap.size, 1, none⟩ _ (w.heap.size + 1) (by simp)).trans Q1.out
  have K1x : Hid (∀ S, Kp c S w (w1.setCell ⟨w.heap.size, 1, none⟩ (.slice a1 p.keep.length k1))) := fun S => (K1.out S).setCell (fun h => absurd h (Nat.lt_irrefl _)) _
  have T1x : Hid (Below w.heap.size w (w1.setCell ⟨w.heap.size, 1, none⟩ (.slice a1 p.keep.length k1))) := T1.out.setCell (Nat.le_refl _) _
  have O1x := Lib.hid (ownsRow_setCell_below O1.out (a := ⟨w.heap.size, 1, none⟩) (by show w.heap.size < w.heap.size + 2; omega) (.slice a1 p.keep.length k1))
  go_wp2_with (at_builtin; refine wpList_nilAppend rfl _ _ _ rfl 3 i0 (.int .i64 0) 8 Try.underlying26 H6.out H7.out H8.out H9.out rfl (by decide) rfl _ _ rfl (HP.out.fail.kp (K1x.out S2F) (fun h => h) (Cx.refl _ _)) (one_iv _) (by rw [List.length_map]; exact LF.out) ?_)
  clear c0 c1 c2 c3 c4 cf
  intro v2 w2 hown hb
  obtain ⟨a2, k2, rfl, -⟩ := Sc.of_owns (c := fun _ => (0, 0)) (q := (0, 0)) hown (fun _ _ => rfl)
  simp only [List.length_map] at hown ⊢
  have P2 : Hid (w2.heap[w.heap.size]? = some (.cells #[.int .i64 p.crash, .slice a1 p.keep.length k1, .slice af p.fail.length capf, .slice au p.full.length capu, .int .i64 p.room] 28 (0, 0))) := (hb.block w.heap.size (by have hz := L1.out; omega)).trans P1x.out
  have Q2 : Hid (w2.heap[w.heap.size + 1]? = some (.cells #[.int .i64 0, .slice none 0 0, .slice none 0 0, .slice none 0 0, .int .i64 0] 28 (0, 0))) := (hb.block (w.heap.size + 1) (by have hz := L1.out; omega)).trans Q1x.out
  have L2 := Lib.hid (lt_of_heap Q2.out)
  have T2 : Hid (Below w.heap.size w w2) := T1x.out.trans (hb.mono (by have hz := L1.out; omega))
  have K2 : Hid (∀ S, Kp c S w w2) := fun S => (K1x.out S).below hb (by have hz := L1.out; omega)
  have O1 := Lib.hid (owns_below0 O1x.out (by simpa using hb))
  have O2 := Lib.hid (ownsRow_base_a hown (by have hz := L1.out; omega) : w2.ownsRow (w.heap.size + 2) 3 1 _ _ _)
  clear hown hb
  have c0 : w2.cell? ⟨w.heap.size, 0, none⟩ = some (.int .i64 p.crash) := cell_of_heap P2.out 0
  have c1 : w2.cell? ⟨w.heap.size, 1, none⟩ = some (.slice a1 p.keep.length k1) := cell_of_heap P2.out 1
  have c2 : w2.cell? ⟨w.heap.size, 2, none⟩ = some (.slice af p.fail.length capf) := cell_of_heap P2.out 2
  have c3 : w2.cell? ⟨w.heap.size, 3, none⟩ = some (.slice au p.full.length capu) := cell_of_heap P2.out 3
  have c4 : w2.cell? ⟨w.heap.size, 4, none⟩ = some (.int .i64 p.room) := cell_of_heap P2.out 4
  have cf : ∀ i, w2.frozen? ⟨w.heap.size, i, none⟩ = false := unfrozen_of_heap P2.out
  have P2x : Hid ((w2.setCell ⟨w.heap.size, 2, none⟩ (.slice a2 p.fail.length k2)).heap[w.heap.size]? = some (.cells #[.int .i64 p.crash, .slice a1 p.keep.length k1, .slice a2 p.fail.length k2, .slice au p.full.length capu, .int .i64 p.room] 28 (0, 0))) := by
    have h2 : (w2.setCell ⟨w.heap.size, 2, none⟩ (.slice a2 p.fail.length k2)).heap[w.heap.size]? = some (.cells #[.int .i64 p.crash, .slice a1 p.keep.length k1, .slice a2 p.fail.length k2, .slice au p.full.length capu, .int .i64 p.room] 28 (0, 0)) := by have := heap_setCell P2.out 2 (.slice a2 p.fail.length k2); simpa using this
    exact h2
  have Q2x : Hid ((w2.setCell ⟨w.heap.size, 2, none⟩ (.slice a2 p.fail.length k2)).heap[w.heap.size + 1]? = some (.cells #[.int .i64 0, .slice none 0 0, .slice none 0 0, .slice none 0 0, .int .i64 0] 28 (0, 0))) := (Below.heap_setCell _ ⟨w.heap.size, 2, none⟩ _ (w.heap.size + 1) (by simp)).trans Q2.out
  have K2x : Hid (∀ S, Kp c S w (w2.setCell ⟨w.heap.size, 2, none⟩ (.slice a2 p.fail.length k2))) := fun S => (K2.out S).setCell (fun h => absurd h (Nat.lt_irrefl _)) _
  have T2x : Hid (Below w.heap.size w (w2.setCell ⟨w.heap.size, 2, none⟩ (.slice a2 p.fail.length k2))) := T2.out.setCell (Nat.le_refl _) _
  have O1x := Lib.hid (ownsRow_setCell_below O1.out (a := ⟨w.heap.size, 2, none⟩) (by show w.heap.size < w.heap.size + 2; omega) (.slice a2 p.fail.length k2))
  have O2x := Lib.hid (ownsRow_setCell_below O2.out (a := ⟨w.heap.size, 2, none⟩) (by show w.heap.size < w.heap.size + 2; omega) (.slice a2 p.fail.length k2))
  go_wp2_with (at_builtin; refine wpList_nilAppend rfl _ _ _ rfl 3 i0 (.int .i64 0) 8 Try.underlying26 H6.out H7.out H8.out H9.out rfl (by decide) rfl _ _ rfl (HP.out.full.kp (K2x.out S2F) (fun h => h) (Cx.refl _ _)) (one_iv _) (by rw [List.length_map]; exact LU.out) ?_)
  clear c0 c1 c2 c3 c4 cf
  intro v3 w3 hown hb
  obtain ⟨a3, k3, rfl, -⟩ := Sc.of_owns (c := fun _ => (0, 0)) (q := (0, 0)) hown (fun _ _ => rfl)
  simp only [List.length_map] at hown ⊢
  have P3 : Hid (w3.heap[w.heap.size]? = some (.cells #[.int .i64 p.crash, .slice a1 p.keep.length k1, .slice a2 p.fail.length k2, .slice au p.full.length capu, .int .i64 p.room] 28 (0, 0))) := (hb.block w.heap.size (by have hz := L2.out; omega)).trans P2x.out
  have Q3 : Hid (w3.heap[w.heap.size + 1]? = some (.cells #[.int .i64 0, .slice none 0 0, .slice none 0 0, .slice none 0 0, .int .i64 0] 28 (0, 0))) := (hb.block (w.heap.size + 1) (by have hz := L2.out; omega)).trans Q2x.out
  have L3 := Lib.hid (lt_of_heap Q3.out)
  have T3 : Hid (Below w.heap.size w w3) := T2x.out.trans (hb.mono (by have hz := L2.out; omega))
  have K3 : Hid (∀ S, Kp c S w w3) := fun S => (K2x.out S).below hb (by have hz := L2.out; omega)
  have O1 := Lib.hid (owns_below0 O1x.out (by simpa using hb))
  have O2 := Lib.hid (owns_below0 O2x.out (by simpa using hb))
  have O3 := Lib.hid (ownsRow_base_a hown (by have hz := L2.out; omega) : w3.ownsRow (w.heap.size + 2) 3 1 _ _ _)
  clear hown hb
  have c0 : w3.cell? ⟨w.heap.size, 0, none⟩ = some (.int .i64 p.crash) := cell_of_heap P3.out 0
  have c1 : w3.cell? ⟨w.heap.size, 1, none⟩ = some (.slice a1 p.keep.length k1) := cell_of_heap P3.out 1
  have c2 : w3.cell? ⟨w.heap.size, 2, none⟩ = some (.slice a2 p.fail.length k2) := cell_of_heap P3.out 2
  have c3 : w3.cell? ⟨w.heap.size, 3, none⟩ = some (.slice au p.full.length capu) := cell_of_heap P3.out 3
  have c4 : w3.cell? ⟨w.heap.size, 4, none⟩ = some (.int .i64 p.room) := cell_of_heap P3.out 4
  have cf : ∀ i, w3.frozen? ⟨w.heap.size, i, none⟩ = false := unfrozen_of_heap P3.out
  have P3x : Hid ((w3.setCell ⟨w.heap.size, 3, none⟩ (.slice a3 p.full.length k3)).heap[w.heap.size]? = some (.cells #[.int .i64 p.crash, .slice a1 p.keep.length k1, .slice a2 p.fail.length k2, .slice a3 p.full.length k3, .int .i64 p.room] 28 (0, 0))) := by
    have h2 : (w3.setCell ⟨w.heap.size, 3, none⟩ (.slice a3 p.full.length k3)).heap[w.heap.size]? = some (.cells #[.int .i64 p.crash, .slice a1 p.keep.length k1, .slice a2 p.fail.length k2, .slice a3 p.full.length k3, .int .i64 p.room] 28 (0, 0)) := by have := heap_setCell P3.out 3 (.slice a3 p.full.length k3); simpa using this
    exact h2
  have Q3x : Hid ((w3.setCell ⟨w.heap.size, 3, none⟩ (.slice a3 p.full.length k3)).heap[w.heap.size + 1]? = some (.cells #[.int .i64 0, .slice none 0 0, .slice none 0 0, .slice none 0 0, .int .i64 0] 28 (0, 0))) := (Below.heap_setCell _ ⟨w.heap.size, 3, none⟩ _ (w.heap.size + 1) (by simp)).trans Q3.out
  have K3x : Hid (∀ S, Kp c S w (w3.setCell ⟨w.heap.size, 3, none⟩ (.slice a3 p.full.length k3))) := fun S => (K3.out S).setCell (fun h => absurd h (Nat.lt_irrefl _)) _
  have T3x : Hid (Below w.heap.size w (w3.setCell ⟨w.heap.size, 3, none⟩ (.slice a3 p.full.length k3))) := T3.out.setCell (Nat.le_refl _) _
  have O1x := Lib.hid (ownsRow_setCell_below O1.out (a := ⟨w.heap.size, 3, none⟩) (by show w.heap.size < w.heap.size + 2; omega) (.slice a3 p.full.length k3))
  have O2x := Lib.hid (ownsRow_setCell_below O2.out (a := ⟨w.heap.size, 3, none⟩) (by show w.heap.size < w.heap.size + 2; omega) (.slice a3 p.full.length k3))
  have O3x := Lib.hid (ownsRow_setCell_below O3.out (a := ⟨w.heap.size, 3, none⟩) (by show w.heap.size < w.heap.size + 2; omega) (.slice a3 p.full.length k3))
  have d0 : w3.cell? ⟨w.heap.size + 1, 0, none⟩ = some (.int .i64 0) := cell_of_heap Q3.out 0
  have d1 : w3.cell? ⟨w.heap.size + 1, 1, none⟩ = some (.slice none 0 0) := cell_of_heap Q3.out 1
  have d2 : w3.cell? ⟨w.heap.size + 1, 2, none⟩ = some (.slice none 0 0) := cell_of_heap Q3.out 2
  have d3 : w3.cell? ⟨w.heap.size + 1, 3, none⟩ = some (.slice none 0 0) := cell_of_heap Q3.out 3
  have d4 : w3.cell? ⟨w.heap.size + 1, 4, none⟩ = some (.int .i64 0) := cell_of_heap Q3.out 4
  have df : ∀ i, w3.frozen? ⟨w.heap.size + 1, i, none⟩ = false := unfrozen_of_heap Q3.out
  go_wp2
  obtain ⟨cc, e1, e2, e3⟩ := twin_end (c := c) T3.out O1.out O2.out O3.out (fun c S e1 e2 => (((((((Kp.refl c S w3).setCell (p := ⟨w.heap.size, 3, none⟩) (fun _ => e1) (.slice a3 p.full.length k3)).setCell (p := ⟨w.heap.size + 1, 0, none⟩) (fun _ => e2) (.int .i64 p.crash)).setCell (p := ⟨w.heap.size + 1, 1, none⟩) (fun _ => e2) (.slice a1 p.keep.length k1)).setCell (p := ⟨w.heap.size + 1, 2, none⟩) (fun _ => e2) (.slice a2 p.fail.length k2)).setCell (p := ⟨w.heap.size + 1, 3, none⟩) (fun _ => e2) (.slice a3 p.full.length k3)).setCell (p := ⟨w.heap.size + 1, 4, none⟩) (fun _ => e2) (.int .i64 p.room)))
  refine bodyPost_ret (v := .agg #[.int .i64 p.crash, .slice a1 p.keep.length k1, .slice a2 p.fail.length k2, .slice a3 p.full.length k3, .int .i64 p.room]) ?_ rfl ⟨_, _, _, cc, rfl, e1, e2, e3⟩
  simp [results, Try.results17, go_sem, d0, d1, d2, d3, d4]
end Go.Proofs.Ytnifmoigalmcmaa
