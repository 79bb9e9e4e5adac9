/- WalBack: two rows that their function owns; the ends of batches. -/
import Derived.Test.YtnifmoigalmcmaaGreatYr
import Derived.Test.YtnifmoigalmcmaaGreatLt
import Derived.Test.YtnifmoigalmcmaaGreatTw
import Derived.Laws.OwnMore
import Derived.Test.YtnifmoigalmcmaaGreatYd
import Derived.Test.YtnifmoigalmcmaaGreatZb
import Derived.Laws.Bits64b
namespace Go.Proofs.YtnifmoigalmcmaaGreat
open Go Go.RowKit
open Wl
variable {c c' : Col} {w w' : World} {S : Nat × Nat → Prop} {q : Nat × Nat}
theorem Grow.bat {B : Nat} {v : Value} {cf : Col} {l : List Bs} {e : TypeId} (G : Grow QB B w e v cf l) : Bat w cf (1, 0) (0, 0) v l := by
  obtain ⟨⟨xs, ho, hx⟩, hc, -, -⟩ := G
  exact ⟨xs, Sc.of_owns ho hc, by simpa using ho.1, hx⟩
/-- Two rows that their function owns, newer than w. -/
structure Two (w wr : World) (e1 : TypeId) (v1 : Value) (xs1 : List Value) (e2 : TypeId) (v2 : Value) (xs2 : List Value) : Prop where
  one : wr.ownsRow 0 e1 1 v1 xs1.length xs1
  two : wr.ownsRow 0 e2 1 v2 xs2.length xs2
  apart : ∀ g, v1.ownBlock = some g → v2.ownBlock ≠ some g
  new1 : ∀ g, v1.ownBlock = some g → w.heap.size ≤ g
  new2 : ∀ g, v2.ownBlock = some g → w.heap.size ≤ g
  kp : ∀ c S, Kp c S w wr
variable {wr w2 : World} {e1 e2 : TypeId} {v1 v2 v' : Value} {xs1 xs2 ys : List Value}
theorem Two.start (h : ∀ c S, Kp c S w wr) : Two w wr e1 (.slice none 0 0) [] e2 (.slice none 0 0) [] :=
  ⟨World.ownsRow_nil _ _ _ _, World.ownsRow_nil _ _ _ _, (fun _ h => nomatch h), (fun _ h => nomatch h), (fun _ h => nomatch h), h⟩
theorem Two.swap (h : Two w wr e1 v1 xs1 e2 v2 xs2) : Two w wr e2 v2 xs2 e1 v1 xs1 :=
  ⟨h.two, h.one, fun g a b => h.apart g b a, h.new2, h.new1, h.kp⟩
theorem Two.on (h : Two w wr e1 v1 xs1 e2 v2 xs2) (hk : ∀ c S, Kp c S wr w2) : Two w w2 e1 v1 xs1 e2 v2 xs2 :=
  ⟨ownsRow_kp h.one (c := c00) (fun _ _ => rfl) (hk c00 (fun _ => False)) (fun h => h), ownsRow_kp h.two (c := c00) (fun _ _ => rfl) (hk c00 (fun _ => False)) (fun h => h), h.apart, h.new1, h.new2, fun c S => (h.kp c S).alloc_trans (hk c S)⟩
theorem Two.push (h : Two w wr e1 v1 xs1 e2 v2 xs2) (ho : w2.ownsRow 0 e1 1 v' (xs1.length + ys.length) (xs1 ++ ys)) (hg : wr.grownBy w2 v1.ownBlock) (hf : ∀ g, v'.ownBlock = some g → v1.ownBlock = some g ∨ wr.heap.size ≤ g) : Two w w2 e1 v' (xs1 ++ ys) e2 v2 xs2 := by
  refine ⟨by rw [List.length_append]; exact ho, ?_, fun g a b => ?_, fun g a => ?_, h.new2, fun c S => fresh_grown h.new1 h.kp hg c S⟩
  · refine ownsRow_kp h.two (c := fun b => if v1.ownBlock = some b then (1, 0) else (0, 0)) (S := (· = (1, 0))) (q := (0, 0)) (fun g hg => ?_) (Kp.of_grown hg (fun g hg _ => if_pos hg)) (by simp)
    exact if_neg (fun e => h.apart g e hg)
  · rcases hf g a with h1 | h1
    · exact h.apart g h1 b
    · have := ownBlock_lt h.two g b; omega
  · rcases hf g a with h1 | h1
    · exact h.new1 g h1
    · exact Nat.le_trans (h.kp c00 (fun _ => False)).size h1
/-- Behind each batch, how many bytes there are. -/
def ends (K : Bs → Bs) (l : List (List Bs)) (i : Nat) : List Nat := (List.range i).map fun k => (encs K 0 (l.take (k + 1))).length
def nv (n : Nat) : Value := .int .i64 n
theorem sum_four (l : List Bs) : (l.map fun r => 4 + r.length).sum = 4 * l.length + (l.map List.length).sum := by
  induction l with
  | nil => rfl
  | cons x r ih => simp only [List.map_cons, List.sum_cons, List.length_cons, ih]; omega
theorem enc_few {K : Bs → Bs} (hk : ∀ b, (K b).length = 32) (n : Nat) {l : List Bs} (h : tot l ≤ 20000) : (enc K n l).length ≤ 100024 := by
  rw [enc_length hk, sum_four]
  unfold tot at h
  omega
theorem encs_few {K : Bs → Bs} (hk : ∀ b, (K b).length = 32) (l : List (List Bs)) : ∀ (n : Nat), (∀ x ∈ l, tot x ≤ 20000) → (encs K n l).length ≤ l.length * 100024 := by
  induction l with
  | nil => intro n _; simp [encs]
  | cons x r ih =>
    intro n h
    have h1 := enc_few hk n (h x (by simp))
    have h2 := ih (n + 1) (fun y hy => h y (by simp [hy]))
    simp only [encs, List.length_append, List.length_cons]
    omega
/-- The batches ahead of i: few, and good. -/
def Ok (l : List (List Bs)) (i : Nat) : Prop := ∀ x ∈ l.take i, good x = true ∧ tot x ≤ 20000
theorem Ok.succ {l : List (List Bs)} {i : Nat} (h : Ok l i) (hi : i < l.length) (h1 : good l[i] = true) (h2 : tot l[i] ≤ 20000) : Ok l (i + 1) := by
  intro x hx
  rw [List.take_succ_eq_append_getElem hi] at hx
  rcases List.mem_append.1 hx with hx | hx
  · exact h x hx
  · rw [List.mem_singleton] at hx; subst hx; exact ⟨h1, h2⟩
theorem Sc.spot {a : Option Addr} {n k : Nat} {xs : List Value} (h : Sc w c q (.slice a n k) xs) (hn : xs.length ≠ 0) : ∃ b o, a = some ⟨b, o, none⟩ := by
  obtain ⟨a', cap, h1, h2, h3, h4, h5⟩ := h
  injection h1 with h1 _ h6
  subst h1 h6
  cases a with
  | none => have := h4 rfl; omega
  | some ad =>
    have := (h5 ad rfl).1
    obtain ⟨b, o, s⟩ := ad
    cases this
    exact ⟨b, o, rfl⟩
theorem Sc.get {b o n k : Nat} {xs : List Value} (h : Sc w c q (.slice (some ⟨b, o, none⟩) n k) xs) (j : Nat) (u : Value) (hj : xs[j]? = some u) : w.cell? ⟨b, o + j, none⟩ = some u := by
  obtain ⟨a', cap, h1, h2, h3, h4, h5⟩ := h
  injection h1 with h1 _ h6
  subst h1
  exact ((h5 _ rfl).2 j u hj).2
theorem LogW.pre {a : Option Addr} {k n : Nat} {l r : List (List Bs)} (h : LogW w c q (.slice a n k) (l ++ r)) : LogW w c q (.slice a l.length k) l := by
  obtain ⟨a', k', e', ht⟩ := h.take l.length (by rw [List.length_append]; omega)
  injection e' with e1 _ e2
  subst e1 e2
  rw [List.take_left] at ht
  exact ht
/-- What the rounds hold. -/
structure WB (K : Bs → Bs) (l : List (List Bs)) (w : World) (i : Nat) (wr : World) (vb ve : Value) : Prop where
  le : i ≤ l.length
  few : i ≤ 31
  ok : Ok l i
  two : Two w wr 5 vb ((encs K 0 (l.take i)).map bv) 3 ve ((ends K l i).map nv)
theorem WB.bytes {K : Bs → Bs} (hk : ∀ b, (K b).length = 32) {l : List (List Bs)} {w wr : World} {i : Nat} {vb ve : Value} (h : WB K l w i wr vb ve) : (encs K 0 (l.take i)).length ≤ 3200000 := by
  have h1 := encs_few hk (l.take i) 0 (fun x hx => (h.ok x hx).2)
  have h2 : (l.take i).length ≤ 31 := by rw [List.length_take]; have := h.few; omega
  have h3 : (l.take i).length * 100024 ≤ 31 * 100024 := Nat.mul_le_mul_right _ h2
  omega
end Go.Proofs.YtnifmoigalmcmaaGreat
/- Plans that came in; cairnref01.Twin. -/
namespace Go.Proofs.YtnifmoigalmcmaaGreat
open Go Go.RowKit Go.MapKept Go.Maps
open Dk
section
variable {c c' : Col} {S : Nat × Nat → Prop} {w w' : World}
structure PlanW (w : World) (c : Col) (vk vf vu : Value) (p : APlan) : Prop where
  keep : Sw w c (0, 0) vk (p.keep.map iv)
  fail : Sw w c (0, 0) vf (p.fail.map iv)
  full : Sw w c (0, 0) vu (p.full.map iv)
theorem PlanW.kp {vk vf vu : Value} {p : APlan} (h : PlanW w c vk vf vu p) (hk : Kp c S w w') (h0 : ¬ S (0, 0)) (hc : Cx w c c') : PlanW w' c' vk vf vu p :=
  ⟨h.keep.kp hk h0 hc, h.fail.kp hk h0 hc, h.full.kp hk h0 hc⟩
end
variable {c c' : Col} {w w' : World} {q : Nat × Nat}
section
variable {P : Program}
theorem wpList_nilAppend {ops : Array Oper} {rest : List Oper} {o : Oper} {a : Act} {Q : Exit → Act → World → Prop} (hgd : o.guard = none) (s x : Operand) (t : TypeId)
    (ho : o.op = .call { callee := .builtin .append, args := #[s, x], argTypes := #[t, t] })
    (e : TypeId) (i : TypeInfo) (z : Value) (bytes : Nat) (ht : P.underlying t = some (.slice e)) (hi : P.info? e = some i) (hz : i.zero = some z)
    (hsize : i.size = 1) (hby : i.bytes = bytes) (hzs : z.cells.size = 1) (hb64 : bytes ≤ 64)
    (hs : a.eval s = .slice none 0 0) (v : Value) (xs : List Value) (hx : a.eval x = v) (h : Sw w c q v xs) (h1 : ∀ u ∈ xs, u.oneCell' = true) (hl : xs.length ≤ lim)
    (hK : ∀ v' w', w'.ownsRow w.heap.size e 1 v' xs.length xs → Below w.heap.size w w' → wpList P ops Q rest (a.put o.dst v') w') : wpList P ops Q (o :: rest) a w := by
  obtain ⟨ad, cap, rfl, hlc, hcm, hn0, hc⟩ := h
  cases ad with
  | none =>
    have h0 := hn0 rfl
    subst h0
    have hxs : xs = [] := List.eq_nil_of_length_eq_zero (by omega)
    subst hxs
    refine wpList_plain hgd fun K hK' => ?_
    have hrun := run_append_owned_none (P := P) (w := w) w.heap.size t o.type e i 1 ht hi (.slice none 0 0) 0 [] (World.ownsRow_nil _ _ _ _)
    unfold Oper.wp
    simp [execOp, ho, resolve, invoke, builtin, hs, hx, hrun, Result.andThen]
    exact hK' _ _ (hK _ _ (World.ownsRow_nil _ _ _ _) (Below.refl _ _))
  | some ad =>
    have hcell := hc ad rfl
    refine wpList_append_own _ hgd s x t ho w.heap.size e i z 1 bytes ht hi hz hsize hby hzs (by decide) (.slice none 0 0) 0 [] hs (World.ownsRow_nil _ _ _ _) ad xs.length cap xs hx (by simp) (fun j u hj => by rw [add_eq (hcell j u hj).1]; exact (hcell j u hj).2.2) h1 (lim_len hl) (lim_by hl hb64) (Nat.le_refl _) ?_
    intro v' w' hown hgrow _
    exact hK v' w' (by simpa using hown) ((Below.refl _ w).grown hgrow (Nat.le_refl _) (fun g hg => by cases hg))
end
theorem rtwin_c (p : APlan) (vk vf vu : Value) (w : World) (hp : PlanW w c vk vf vu p) (lk : p.keep.length ≤ lim) (lf : p.fail.length ≤ lim) (lu : p.full.length ≤ lim) :
    Calls Tryz.prog 12 #[planV p vk vf vu] w fun e w' => ∃ vk' vf' vu' c', e = .returned (planV p vk' vf' vu') ∧ Cx w c c' ∧ (∀ S, Kp c S w w') ∧ PlanAt w' c' vk' vf' vu' p := by
  obtain ⟨ak, capk, rfl, -⟩ := id hp.keep
  obtain ⟨af, capf, rfl, -⟩ := id hp.fail
  obtain ⟨au, capu, rfl, -⟩ := id hp.full
  have LK := Lib.hid lk; clear lk
  have LF := Lib.hid lf; clear lf
  have LU := Lib.hid lu; clear lu
  obtain ⟨i0, hi, hz0, hz1, hz2⟩ := info_parts info_int
  have H6 := Lib.hid hi; clear hi
  have H7 := Lib.hid hz0; clear hz0
  have H8 := Lib.hid hz1; clear hz1
  have H9 := Lib.hid hz2; clear hz2
  simp only [List.length_map] at hp ⊢
  have HP := Lib.hid hp; clear hp
  have K0 : Hid (∀ S, Kp c S w ((w.alloc (.cells #[.int .i64 p.crash, .slice ak p.keep.length capk, .slice af p.fail.length capf, .slice au p.full.length capu, .int .i64 p.room] 24)).alloc (.cells #[.int .i64 0, .slice none 0 0, .slice none 0 0, .slice none 0 0, .int .i64 0] 24))) := fun S => ((Kp.refl c S w).alloc _).alloc _
  have T0 : Hid (Below w.heap.size w ((w.alloc (.cells #[.int .i64 p.crash, .slice ak p.keep.length capk, .slice af p.fail.length capf, .slice au p.full.length capu, .int .i64 p.room] 24)).alloc (.cells #[.int .i64 0, .slice none 0 0, .slice none 0 0, .slice none 0 0, .int .i64 0] 24))) := ((Below.refl _ w).alloc (Nat.le_refl _) _).alloc (by simp) _
  have P0 : Hid (((w.alloc (.cells #[.int .i64 p.crash, .slice ak p.keep.length capk, .slice af p.fail.length capf, .slice au p.full.length capu, .int .i64 p.room] 24)).alloc (.cells #[.int .i64 0, .slice none 0 0, .slice none 0 0, .slice none 0 0, .int .i64 0] 24)).heap[w.heap.size]? = some (.cells #[.int .i64 p.crash, .slice ak p.keep.length capk, .slice af p.fail.length capf, .slice au p.full.length capu, .int .i64 p.room] 24 (0, 0))) := heap_alloc_old _ (heap_alloc_new _ _)
  have Q0 : Hid (((w.alloc (.cells #[.int .i64 p.crash, .slice ak p.keep.length capk, .slice af p.fail.length capf, .slice au p.full.length capu, .int .i64 p.room] 24)).alloc (.cells #[.int .i64 0, .slice none 0 0, .slice none 0 0, .slice none 0 0, .int .i64 0] 24)).heap[w.heap.size + 1]? = some (.cells #[.int .i64 0, .slice none 0 0, .slice none 0 0, .slice none 0 0, .int .i64 0] 24 (0, 0))) := by have := heap_alloc_new (w.alloc (.cells #[.int .i64 p.crash, .slice ak p.keep.length capk, .slice af p.fail.length capf, .slice au p.full.length capu, .int .i64 p.room] 24)) (.cells #[.int .i64 0, .slice none 0 0, .slice none 0 0, .slice none 0 0, .int .i64 0] 24); rw [show (w.alloc (.cells #[.int .i64 p.crash, .slice ak p.keep.length capk, .slice af p.fail.length capf, .slice au p.full.length capu, .int .i64 p.room] 24)).heap.size = w.heap.size + 1 from by simp] at this; exact this
  have Z0 : Hid (((w.alloc (.cells #[.int .i64 p.crash, .slice ak p.keep.length capk, .slice af p.fail.length capf, .slice au p.full.length capu, .int .i64 p.room] 24)).alloc (.cells #[.int .i64 0, .slice none 0 0, .slice none 0 0, .slice none 0 0, .int .i64 0] 24)).heap.size = w.heap.size + 2) := by simp [Hid]
  unfold planV
  go_enter Tryz.func12, Tryz.ntmps12
  go_wp2_with (at_builtin; refine wpList_nilAppend rfl _ _ _ rfl 3 i0 (.int .i64 0) 8 Tryz.underlying22 H6.out H7.out H8.out H9.out rfl (by decide) rfl _ _ rfl (HP.out.keep.kp (K0.out S2F) (fun h => h) (Cx.refl _ _)) (one_iv _) (by rw [List.length_map]; exact LK.out) ?_)
  intro v1 w1 hown hb
  obtain ⟨a1, k1, rfl, -⟩ := Sc.of_owns (c := fun _ => (0, 0)) (q := (0, 0)) hown (fun _ _ => rfl)
  simp only [List.length_map] at hown ⊢
  have P1 : Hid (w1.heap[w.heap.size]? = some (.cells #[.int .i64 p.crash, .slice ak p.keep.length capk, .slice af p.fail.length capf, .slice au p.full.length capu, .int .i64 p.room] 24 (0, 0))) := (hb.block w.heap.size (by omega)).trans P0.out
  have Q1 : Hid (w1.heap[w.heap.size + 1]? = some (.cells #[.int .i64 0, .slice none 0 0, .slice none 0 0, .slice none 0 0, .int .i64 0] 24 (0, 0))) := (hb.block (w.heap.size + 1) (by omega)).trans Q0.out
  have L1 := Lib.hid (lt_of_heap Q1.out)
  have T1 : Hid (Below w.heap.size w w1) := T0.out.trans (hb.mono (by omega))
  have K1 : Hid (∀ S, Kp c S w w1) := fun S => (K0.out S).below hb (by omega)
  have O1 := Lib.hid (ownsRow_base_a hown (by omega) : w1.ownsRow (w.heap.size + 2) 3 1 _ _ _)
  clear hown hb
  have c0 : w1.cell? ⟨w.heap.size, 0, none⟩ = some (.int .i64 p.crash) := cell_of_heap P1.out 0
  have c1 : w1.cell? ⟨w.heap.size, 1, none⟩ = some (.slice ak p.keep.length capk) := cell_of_heap P1.out 1
  have c2 : w1.cell? ⟨w.heap.size, 2, none⟩ = some (.slice af p.fail.length capf) := cell_of_heap P1.out 2
  have c3 : w1.cell? ⟨w.heap.size, 3, none⟩ = some (.slice au p.full.length capu) := cell_of_heap P1.out 3
  have c4 : w1.cell? ⟨w.heap.size, 4, none⟩ = some (.int .i64 p.room) := cell_of_heap P1.out 4
  have cf : ∀ i, w1.frozen? ⟨w.heap.size, i, none⟩ = false := unfrozen_of_heap P1.out
  have P1x : Hid ((w1.setCell ⟨w.heap.size, 1, none⟩ (.slice a1 p.keep.length k1)).heap[w.heap.size]? = some (.cells #[.int .i64 p.crash, .slice a1 p.keep.length k1, .slice af p.fail.length capf, .slice au p.full.length capu, .int .i64 p.room] 24 (0, 0))) := by
    have h2 : (w1.setCell ⟨w.heap.size, 1, none⟩ (.slice a1 p.keep.length k1)).heap[w.heap.size]? = some (.cells #[.int .i64 p.crash, .slice a1 p.keep.length k1, .slice af p.fail.length capf, .slice au p.full.length capu, .int .i64 p.room] 24 (0, 0)) := by have := heap_setCell P1.out 1 (.slice a1 p.keep.length k1); simpa using this
    exact h2
  have Q1x : Hid ((w1.setCell ⟨w.heap.size, 1, none⟩ (.slice a1 p.keep.length k1)).heap[w.heap.size + 1]? = some (.cells #[.int .i64 0, .slice none 0 0, .slice none 0 0, .slice none 0 0, .int .i64 0] 24 (0, 0))) := (Below.heap_setCell _ ⟨w.heap.size, 1, none⟩ _ (w.heap.size + 1) (by simp)).trans Q1.out
  have K1x : Hid (∀ S, Kp c S w (w1.setCell ⟨w.heap.size, 1, none⟩ (.slice a1 p.keep.length k1))) := fun S => (K1.out S).setCell (fun h => absurd h (Nat.lt_irrefl _)) _
  have T1x : Hid (Below w.heap.size w (w1.setCell ⟨w.heap.size, 1, none⟩ (.slice a1 p.keep.length k1))) := T1.out.setCell (Nat.le_refl _) _
  have O1x := Lib.hid (ownsRow_setCell_below O1.out (a := ⟨w.heap.size, 1, none⟩) (by show w.heap.size < w.heap.size + 2; omega) (.slice a1 p.keep.length k1))
  go_wp2_with (at_builtin; refine wpList_nilAppend rfl _ _ _ rfl 3 i0 (.int .i64 0) 8 Tryz.underlying22 H6.out H7.out H8.out H9.out rfl (by decide) rfl _ _ rfl (HP.out.fail.kp (K1x.out S2F) (fun h => h) (Cx.refl _ _)) (one_iv _) (by rw [List.length_map]; exact LF.out) ?_)
  clear c0 c1 c2 c3 c4 cf
  intro v2 w2 hown hb
  obtain ⟨a2, k2, rfl, -⟩ := Sc.of_owns (c := fun _ => (0, 0)) (q := (0, 0)) hown (fun _ _ => rfl)
  simp only [List.length_map] at hown ⊢
  have P2 : Hid (w2.heap[w.heap.size]? = some (.cells #[.int .i64 p.crash, .slice a1 p.keep.length k1, .slice af p.fail.length capf, .slice au p.full.length capu, .int .i64 p.room] 24 (0, 0))) := (hb.block w.heap.size (by have hz := L1.out; omega)).trans P1x.out
  have Q2 : Hid (w2.heap[w.heap.size + 1]? = some (.cells #[.int .i64 0, .slice none 0 0, .slice none 0 0, .slice none 0 0, .int .i64 0] 24 (0, 0))) := (hb.block (w.heap.size + 1) (by have hz := L1.out; omega)).trans Q1x.out
  have L2 := Lib.hid (lt_of_heap Q2.out)
  have T2 : Hid (Below w.heap.size w w2) := T1x.out.trans (hb.mono (by have hz := L1.out; omega))
  have K2 : Hid (∀ S, Kp c S w w2) := fun S => (K1x.out S).below hb (by have hz := L1.out; omega)
  have O1 := Lib.hid (owns_below0 O1x.out (by simpa using hb))
  have O2 := Lib.hid (ownsRow_base_a hown (by have hz := L1.out; omega) : w2.ownsRow (w.heap.size + 2) 3 1 _ _ _)
  clear hown hb
  have c0 : w2.cell? ⟨w.heap.size, 0, none⟩ = some (.int .i64 p.crash) := cell_of_heap P2.out 0
  have c1 : w2.cell? ⟨w.heap.size, 1, none⟩ = some (.slice a1 p.keep.length k1) := cell_of_heap P2.out 1
  have c2 : w2.cell? ⟨w.heap.size, 2, none⟩ = some (.slice af p.fail.length capf) := cell_of_heap P2.out 2
  have c3 : w2.cell? ⟨w.heap.size, 3, none⟩ = some (.slice au p.full.length capu) := cell_of_heap P2.out 3
  have c4 : w2.cell? ⟨w.heap.size, 4, none⟩ = some (.int .i64 p.room) := cell_of_heap P2.out 4
  have cf : ∀ i, w2.frozen? ⟨w.heap.size, i, none⟩ = false := unfrozen_of_heap P2.out
  have P2x : Hid ((w2.setCell ⟨w.heap.size, 2, none⟩ (.slice a2 p.fail.length k2)).heap[w.heap.size]? = some (.cells #[.int .i64 p.crash, .slice a1 p.keep.length k1, .slice a2 p.fail.length k2, .slice au p.full.length capu, .int .i64 p.room] 24 (0, 0))) := by
    have h2 : (w2.setCell ⟨w.heap.size, 2, none⟩ (.slice a2 p.fail.length k2)).heap[w.heap.size]? = some (.cells #[.int .i64 p.crash, .slice a1 p.keep.length k1, .slice a2 p.fail.length k2, .slice au p.full.length capu, .int .i64 p.room] 24 (0, 0)) := by have := heap_setCell P2.out 2 (.slice a2 p.fail.length k2); simpa using this
    exact h2
  have Q2x : Hid ((w2.setCell ⟨w.heap.size, 2, none⟩ (.slice a2 p.fail.length k2)).heap[w.heap.size + 1]? = some (.cells #[.int .i64 0, .slice none 0 0, .slice none 0 0, .slice none 0 0, .int .i64 0] 24 (0, 0))) := (Below.heap_setCell _ ⟨w.heap.size, 2, none⟩ _ (w.heap.size + 1) (by simp)).trans Q2.out
  have K2x : Hid (∀ S, Kp c S w (w2.setCell ⟨w.heap.size, 2, none⟩ (.slice a2 p.fail.length k2))) := fun S => (K2.out S).setCell (fun h => absurd h (Nat.lt_irrefl _)) _
  have T2x : Hid (Below w.heap.size w (w2.setCell ⟨w.heap.size, 2, none⟩ (.slice a2 p.fail.length k2))) := T2.out.setCell (Nat.le_refl _) _
  have O1x := Lib.hid (ownsRow_setCell_below O1.out (a := ⟨w.heap.size, 2, none⟩) (by show w.heap.size < w.heap.size + 2; omega) (.slice a2 p.fail.length k2))
  have O2x := Lib.hid (ownsRow_setCell_below O2.out (a := ⟨w.heap.size, 2, none⟩) (by show w.heap.size < w.heap.size + 2; omega) (.slice a2 p.fail.length k2))
  go_wp2_with (at_builtin; refine wpList_nilAppend rfl _ _ _ rfl 3 i0 (.int .i64 0) 8 Tryz.underlying22 H6.out H7.out H8.out H9.out rfl (by decide) rfl _ _ rfl (HP.out.full.kp (K2x.out S2F) (fun h => h) (Cx.refl _ _)) (one_iv _) (by rw [List.length_map]; exact LU.out) ?_)
  clear c0 c1 c2 c3 c4 cf
  intro v3 w3 hown hb
  obtain ⟨a3, k3, rfl, -⟩ := Sc.of_owns (c := fun _ => (0, 0)) (q := (0, 0)) hown (fun _ _ => rfl)
  simp only [List.length_map] at hown ⊢
  have P3 : Hid (w3.heap[w.heap.size]? = some (.cells #[.int .i64 p.crash, .slice a1 p.keep.length k1, .slice a2 p.fail.length k2, .slice au p.full.length capu, .int .i64 p.room] 24 (0, 0))) := (hb.block w.heap.size (by have hz := L2.out; omega)).trans P2x.out
  have Q3 : Hid (w3.heap[w.heap.size + 1]? = some (.cells #[.int .i64 0, .slice none 0 0, .slice none 0 0, .slice none 0 0, .int .i64 0] 24 (0, 0))) := (hb.block (w.heap.size + 1) (by have hz := L2.out; omega)).trans Q2x.out
  have L3 := Lib.hid (lt_of_heap Q3.out)
  have T3 : Hid (Below w.heap.size w w3) := T2x.out.trans (hb.mono (by have hz := L2.out; omega))
  have K3 : Hid (∀ S, Kp c S w w3) := fun S => (K2x.out S).below hb (by have hz := L2.out; omega)
  have O1 := Lib.hid (owns_below0 O1x.out (by simpa using hb))
  have O2 := Lib.hid (owns_below0 O2x.out (by simpa using hb))
  have O3 := Lib.hid (ownsRow_base_a hown (by have hz := L2.out; omega) : w3.ownsRow (w.heap.size + 2) 3 1 _ _ _)
  clear hown hb
  have c0 : w3.cell? ⟨w.heap.size, 0, none⟩ = some (.int .i64 p.crash) := cell_of_heap P3.out 0
  have c1 : w3.cell? ⟨w.heap.size, 1, none⟩ = some (.slice a1 p.keep.length k1) := cell_of_heap P3.out 1
  have c2 : w3.cell? ⟨w.heap.size, 2, none⟩ = some (.slice a2 p.fail.length k2) := cell_of_heap P3.out 2
  have c3 : w3.cell? ⟨w.heap.size, 3, none⟩ = some (.slice au p.full.length capu) := cell_of_heap P3.out 3
  have c4 : w3.cell? ⟨w.heap.size, 4, none⟩ = some (.int .i64 p.room) := cell_of_heap P3.out 4
  have cf : ∀ i, w3.frozen? ⟨w.heap.size, i, none⟩ = false := unfrozen_of_heap P3.out
  have P3x : Hid ((w3.setCell ⟨w.heap.size, 3, none⟩ (.slice a3 p.full.length k3)).heap[w.heap.size]? = some (.cells #[.int .i64 p.crash, .slice a1 p.keep.length k1, .slice a2 p.fail.length k2, .slice a3 p.full.length k3, .int .i64 p.room] 24 (0, 0))) := by
    have h2 : (w3.setCell ⟨w.heap.size, 3, none⟩ (.slice a3 p.full.length k3)).heap[w.heap.size]? = some (.cells #[.int .i64 p.crash, .slice a1 p.keep.length k1, .slice a2 p.fail.length k2, .slice a3 p.full.length k3, .int .i64 p.room] 24 (0, 0)) := by have := heap_setCell P3.out 3 (.slice a3 p.full.length k3); simpa using this
    exact h2
  have Q3x : Hid ((w3.setCell ⟨w.heap.size, 3, none⟩ (.slice a3 p.full.length k3)).heap[w.heap.size + 1]? = some (.cells #[.int .i64 0, .slice none 0 0, .slice none 0 0, .slice none 0 0, .int .i64 0] 24 (0, 0))) := (Below.heap_setCell _ ⟨w.heap.size, 3, none⟩ _ (w.heap.size + 1) (by simp)).trans Q3.out
  have K3x : Hid (∀ S, Kp c S w (w3.setCell ⟨w.heap.size, 3, none⟩ (.slice a3 p.full.length k3))) := fun S => (K3.out S).setCell (fun h => absurd h (Nat.lt_irrefl _)) _
  have T3x : Hid (Below w.heap.size w (w3.setCell ⟨w.heap.size, 3, none⟩ (.slice a3 p.full.length k3))) := T3.out.setCell (Nat.le_refl _) _
  have O1x := Lib.hid (ownsRow_setCell_below O1.out (a := ⟨w.heap.size, 3, none⟩) (by show w.heap.size < w.heap.size + 2; omega) (.slice a3 p.full.length k3))
  have O2x := Lib.hid (ownsRow_setCell_below O2.out (a := ⟨w.heap.size, 3, none⟩) (by show w.heap.size < w.heap.size + 2; omega) (.slice a3 p.full.length k3))
  have O3x := Lib.hid (ownsRow_setCell_below O3.out (a := ⟨w.heap.size, 3, none⟩) (by show w.heap.size < w.heap.size + 2; omega) (.slice a3 p.full.length k3))
  have d0 : w3.cell? ⟨w.heap.size + 1, 0, none⟩ = some (.int .i64 0) := cell_of_heap Q3.out 0
  have d1 : w3.cell? ⟨w.heap.size + 1, 1, none⟩ = some (.slice none 0 0) := cell_of_heap Q3.out 1
  have d2 : w3.cell? ⟨w.heap.size + 1, 2, none⟩ = some (.slice none 0 0) := cell_of_heap Q3.out 2
  have d3 : w3.cell? ⟨w.heap.size + 1, 3, none⟩ = some (.slice none 0 0) := cell_of_heap Q3.out 3
  have d4 : w3.cell? ⟨w.heap.size + 1, 4, none⟩ = some (.int .i64 0) := cell_of_heap Q3.out 4
  have df : ∀ i, w3.frozen? ⟨w.heap.size + 1, i, none⟩ = false := unfrozen_of_heap Q3.out
  go_wp2
  obtain ⟨cc, e1, e2, e3⟩ := twin_end (c := c) T3.out O1.out O2.out O3.out (fun c S e1 e2 => (((((((Kp.refl c S w3).setCell (p := ⟨w.heap.size, 3, none⟩) (fun _ => e1) (.slice a3 p.full.length k3)).setCell (p := ⟨w.heap.size + 1, 0, none⟩) (fun _ => e2) (.int .i64 p.crash)).setCell (p := ⟨w.heap.size + 1, 1, none⟩) (fun _ => e2) (.slice a1 p.keep.length k1)).setCell (p := ⟨w.heap.size + 1, 2, none⟩) (fun _ => e2) (.slice a2 p.fail.length k2)).setCell (p := ⟨w.heap.size + 1, 3, none⟩) (fun _ => e2) (.slice a3 p.full.length k3)).setCell (p := ⟨w.heap.size + 1, 4, none⟩) (fun _ => e2) (.int .i64 p.room)))
  refine bodyPost_ret (v := .agg #[.int .i64 p.crash, .slice a1 p.keep.length k1, .slice a2 p.fail.length k2, .slice a3 p.full.length k3, .int .i64 p.room]) ?_ rfl ⟨_, _, _, cc, rfl, e1, e2, e3⟩
  simp [results, Tryz.results12, go_sem, d0, d1, d2, d3, d4]
end Go.Proofs.YtnifmoigalmcmaaGreat
/- The law's few over many steps. -/
namespace Go.Proofs.YtnifmoigalmcmaaGreat
open Go Go.RowKit
open Wl Dk
variable {c c' : Col} {w w' : World} {S : Nat × Nat → Prop} {q : Nat × Nat}
structure AStep where
  kind : Int
  batch : List Bs
  plan : APlan
  bytes : Bs
def stepCells (s : AStep) (vb vk vf vu vy : Value) : List Value := [.int .i64 s.kind, vb, .int .i64 s.plan.crash, vk, vf, vu, .int .i64 s.plan.room, vy]
/-- A step that came in. -/
structure StepAt (w : World) (c : Col) (b off : Nat) (s : AStep) (vb vk vf vu vy : Value) : Prop where
  cells : ∀ (j : Nat) u, (stepCells s vb vk vf vu vy)[j]? = some u → w.cell? ⟨b, off + j, none⟩ = some u
  col : c b = (0, 0)
  batch : BatW w c (0, 0) (0, 0) vb s.batch
  plan : PlanW w c vk vf vu s.plan
  bytes : Sw w c (0, 0) vy (s.bytes.map bv)
  kind : -9223372036854775808 ≤ s.kind ∧ s.kind ≤ 9223372036854775807
  few : s.batch.length ≤ 1048576 ∧ (∀ r ∈ s.batch, r.length ≤ 1048576) ∧ s.bytes.length ≤ 1048576
  fits : s.plan.keep.length ≤ lim ∧ s.plan.fail.length ≤ lim ∧ s.plan.full.length ≤ lim
theorem StepAt.kp {b off : Nat} {s : AStep} {vb vk vf vu vy : Value} (h : StepAt w c b off s vb vk vf vu vy) (hk : Kp c S w w') (h0 : ¬ S (0, 0)) (hc : Cx w c c') : StepAt w' c' b off s vb vk vf vu vy :=
  ⟨fun j u hj => hk.cell (h.cells j u hj) (by rw [h.col]; exact h0), (hc b (World.block_lt_of_cell? _ _ (h.cells 0 _ rfl))).trans h.col, h.batch.kp hk h0 h0 hc, h.plan.kp hk h0 hc, h.bytes.kp hk h0 hc, h.kind, h.few, h.fits⟩
def StepsAt (w : World) (c : Col) (v : Value) (l : List AStep) : Prop :=
  ∃ a cap, v = .slice a l.length cap ∧ l.length ≤ cap ∧ cap ≤ maxLen ∧ (l.length ≠ 0 → ∃ b o, a = some ⟨b, o, none⟩ ∧ ∀ (i : Nat) (hi : i < l.length), ∃ vb vk vf vu vy, StepAt w c b (o + i * 8) l[i] vb vk vf vu vy)
def stot (l : List AStep) : Nat := (l.map fun s => s.bytes.length + tot s.batch).sum
theorem stot_succ (l : List AStep) (i : Nat) (h : i < l.length) : stot (l.take (i + 1)) = stot (l.take i) + (l[i].bytes.length + tot l[i].batch) := by
  unfold stot
  rw [List.take_succ_eq_append_getElem h, List.map_append, List.sum_append]; simp
theorem sumL_le2 (l : List Bs) (i : Nat) (h : ∀ r ∈ l, r.length ≤ 1048576) : sumL l i ≤ i * 1048576 := by
  induction i with
  | zero => simp [sumL]
  | succ i ih =>
    by_cases hi : i < l.length
    · rw [sumL_succ l i hi]; have := h l[i] (List.getElem_mem hi); omega
    · have : sumL l (i + 1) = sumL l i := by unfold sumL; rw [List.take_of_length_le (by omega), List.take_of_length_le (by omega)]
      omega
set_option maxRecDepth 20000 in
set_option maxHeartbeats 4000000 in
theorem few_c (v : Value) (l : List AStep) (w : World) (h : StepsAt w c00 v l) (hl : l.length ≤ 1048576) :
    Calls Tryz.prog 10 #[v] w fun e w' => e = .returned (.bool (decide (stot l ≤ 20000) && decide (l.length ≤ 40))) ∧ ∀ c S, Kp c S w w' := by
  obtain ⟨a, cap, rfl, hlc, hcm, hx⟩ := h
  have HX := Lib.hid hx; clear hx
  unfold maxLen at hcm
  go_enter Tryz.func10, Tryz.ntmps10
  go_wp2
  go_loopw [3, 10] (fun v s wr => ∃ i : Nat, i ≤ l.length ∧ s = .int .i64 i ∧ v = .int .i64 ((stot (l.take i) : Nat) : Int) ∧ stot (l.take i) ≤ i * 1099513724928 ∧ ∀ c S, Kp c S w wr) (fun _ s _ => l.length - (intOf s).toNat)
  case atStart => exact ⟨0, Nat.zero_le _, rfl, rfl, by simp [stot], fun c S => Kp.refl c S w⟩
  case round =>
    obtain ⟨i, hi, rfl, rfl, hst, hK⟩ := hrel
    have HK := Lib.hid hK; clear hK
    by_cases hlt : i < l.length
    · obtain ⟨b, o, rfl, hxx⟩ := HX.out (by omega)
      obtain ⟨vb, vk, vf, vu, vy, T⟩ := hxx i hlt
      have hsucc := stot_succ l i hlt
      obtain ⟨s, hs⟩ : ∃ s, s = l[i] := ⟨_, rfl⟩
      rw [← hs] at T hsucc
      have T := T.kp (HK.out c00 (fun _ => False)) (fun h => h) (Cx.refl _ _)
      clear hxx hs
      obtain ⟨ak, nk, rfl, -⟩ := id T.plan.keep
      obtain ⟨af, nf, rfl, -⟩ := id T.plan.fail
      obtain ⟨au, nu, rfl, -⟩ := id T.plan.full
      obtain ⟨ay, ny, rfl, hy1, hy2, -⟩ := id T.bytes
      obtain ⟨b1, b2, b3⟩ := T.few
      have g0 := T.cells 0 _ rfl
      have g1 := T.cells 1 _ rfl
      have g2 := T.cells 2 _ rfl
      have g3 := T.cells 3 _ rfl
      have g4 := T.cells 4 _ rfl
      have g5 := T.cells 5 _ rfl
      have g6 := T.cells 6 _ rfl
      have g7 := T.cells 7 _ rfl
      rw [Nat.add_zero] at g0
      have hbat := T.batch
      simp only [List.length_map] at g3 g4 g5 g7 hy1
      obtain ⟨N, hN⟩ : ∃ N, N = stot (l.take i) := ⟨_, rfl⟩
      rw [← hN] at hsucc hst ⊢
      have HSU := Lib.hid hsucc; have HB2 := Lib.hid b2
      have hst2 : N ≤ 1152923703630102528 := by
        have : i * 1099513724928 ≤ 1048576 * 1099513724928 := Nat.mul_le_mul_right _ (by omega)
        omega
      clear T hsucc hN b2
      rcases hbat.at with ⟨ab, kb, rfl, he⟩ | ⟨gb, ob, kb, rfl, hlc2, hcm2, hxb⟩
      · rw [he] at b1 HSU HB2
        clear hbat
        go_wp2
        refine wp_loop_rounds 1 ?_
        rw [rounds_succ]
        go_wp2
        go_roundw
        case rel =>
          have ht : tot ([] : List Bs) = 0 := by simp [tot]
          refine ⟨i + 1, by omega, by go_num, ?_, ?_, fun c S => (HK.out c S).alloc _⟩
          · rw [HSU.out, ht]; go_num
          · rw [HSU.out, ht]; omega
        case measure => simp [intOf]; omega
      · have HXB := Lib.hid hxb; clear hbat hxb
        go_wp2
        generalize hw2 : World.alloc wr _ = w2
        have HK2 := Lib.hid (show ∀ c S, Kp c S wr w2 from fun c S => by rw [← hw2]; exact (Kp.refl c S wr).alloc _)
        clear hw2 g0 g1 g2 g3 g4 g5 g6 g7
        go_loop [3, 26] (fun v k => ∃ j : Nat, j ≤ s.batch.length ∧ k = .int .i64 j ∧ v = .int .i64 ((N + (s.bytes.length + s.batch.length) + sumL s.batch j : Nat) : Int)) (fun _ k => s.batch.length - (intOf k).toNat)
        case atStart => exact ⟨0, by omega, rfl, by simp [sumL]⟩
        case round =>
          obtain ⟨j, hj, rfl, rfl⟩ := hrel
          have hsum := sumL_le2 s.batch j HB2.out
          have hs63 : sumL s.batch j ≤ 1099511627776 := by have : j * 1048576 ≤ 1048576 * 1048576 := Nat.mul_le_mul_right _ (by omega); omega
          by_cases hjl : j < s.batch.length
          · obtain ⟨a2, k2, gc, hsc⟩ := HXB.out j hjl
            have gc := (HK2.out c00 (fun _ => False)).cell gc (fun h => h)
            have hsu := sumL_succ s.batch j hjl
            have hbj := HB2.out s.batch[j] (List.getElem_mem hjl)
            obtain ⟨m, hm⟩ : ∃ m, m = s.batch[j].length := ⟨_, rfl⟩
            rw [← hm] at gc hsu hbj
            obtain ⟨x, hx⟩ : ∃ x, x = sumL s.batch j := ⟨_, rfl⟩
            rw [← hx] at hsu hsum hs63 ⊢
            have HSJ := Lib.hid hsu; clear hsu hx hsum hm hsc
            go_wp2
            go_round
            case rel => exact ⟨j + 1, by omega, by go_num, by rw [HSJ.out]; go_num⟩
            case measure => simp [intOf]; omega
          · obtain rfl : j = s.batch.length := by omega
            have hfull := sumL_full s.batch
            obtain ⟨x, hx⟩ : ∃ x, x = sumL s.batch s.batch.length := ⟨_, rfl⟩
            rw [← hx] at hfull hsum hs63 ⊢
            have HF := Lib.hid hfull
            clear hfull hx hsum
            go_wp2
            go_roundw
            case rel =>
              refine ⟨i + 1, by omega, by go_num, ?_, ?_, fun c S => (HK.out c S).alloc_trans (HK2.out c S)⟩
              · rw [HSU.out, HF.out]; go_num
              · rw [HSU.out, HF.out]; omega
            case measure => simp [intOf]; omega
    · obtain rfl : i = l.length := by omega
      rw [List.take_length]
      by_cases h2 : stot l ≤ 20000
      · go_wp2
        go_ret
        refine ⟨?_, HK.out⟩
        rw [decide_eq_true h2]; simp; omega
      · go_wp2
        go_ret
        refine ⟨?_, HK.out⟩
        rfl
end Go.Proofs.YtnifmoigalmcmaaGreat
/- cairnref10: low and number. -/
namespace Go.Proofs.YtnifmoigalmcmaaGreat
open Go Go.RowKit
open Wl
variable {c : Col} {w : World}
theorem rlow_c (w : World) (n many : Nat) (hn : n < 2 ^ 64) (hl : many ≤ 8) :
    Calls Tryz.prog 131 #[.int .u64 n, .int .i64 many] w fun e w' => ∃ v', e = .returned v' ∧ w'.ownsRow 0 5 1 v' (low n many).length ((low n many).map bv) ∧ (∀ g, v'.ownBlock = some g → w.heap.size ≤ g) ∧ ∀ c S, Kp c S w w' := by
  obtain ⟨i0, hi, hz0, hz1, hz2⟩ := info_parts info_u8
  have H6 := Lib.hid hi; have H7 := Lib.hid hz0; have H8 := Lib.hid hz1; have H9 := Lib.hid hz2; clear hi hz0 hz1 hz2
  have HN := Lib.hid hn; clear hn
  go_enter Tryz.func131, Tryz.ntmps131
  go_wp2
  go_loopw [5, 6] (fun v' s wr => ∃ i : Nat, i ≤ many ∧ s = .int .i64 i ∧ wr.ownsRow 0 5 1 v' i ((low n i).map bv) ∧ (∀ g, v'.ownBlock = some g → w.heap.size ≤ g) ∧ ∀ c S, Kp c S w wr) (fun _ s _ => many - (intOf s).toNat)
  case atStart => exact ⟨0, by omega, rfl, World.ownsRow_nil _ _ _ _, (fun _ h => nomatch h), fun c S => Kp.refl c S w⟩
  case round =>
    obtain ⟨i, hi, rfl, ho, hf, hK⟩ := hrel
    have HO := Lib.hid ho; have HF := Lib.hid hf; have HK := Lib.hid hK; clear ho hf hK
    by_cases hlt : i < many
    · have n1 : IntKind.i64.wrap (8 * (i : Int)) = 8 * (i : Int) := IntWalk.i64_in _ (by omega)
      have n2 : (8 * (i : Int)).toNat = 8 * i := by omega
      have n3 : (0 : Int) ≤ 8 * (i : Int) := by omega
      have n4 : min (8 * i) 64 = 8 * i := by omega
      go_wp2_with (at_builtin; refine wpList_append2 rfl _ _ _ rfl 5 i0 (.int .u8 0) 1 Tryz.underlying41 H6.out H7.out H8.out H9.out rfl u5 i ((low n i).map bv) rfl (owns_alloc HO.out _) ⟨wr.heap.size, 0, none⟩ 1 1 [.int .u8 ((n : Int) / 2 ^ (8 * i) % 256)] rfl rfl (one_new _ _ _) (by simp [Value.oneCell']) (by unfold maxLen; omega) (by omega) ?_; intro v5 w5 hown5 hg5 hf5; have HO5 := Lib.hid hown5; have HF5 := Lib.hid hf5; have HG5 := Lib.hid hg5; clear hown5 hg5 hf5)
      go_roundw
      case rel =>
        refine ⟨i + 1, by omega, by go_num, ?_, fun g hg => ?_, fun c S => ((HK.out c S).alloc _).grown HG5.out (fun g hg hlt => absurd (HF.out g hg) (by omega))⟩
        · have := HO5.out
          rw [byte_eq] at this
          rw [low_snoc, List.map_append]
          exact this
        · rcases HF5.out g hg with h | h
          · exact HF.out g h
          · have := (HK.out (fun _ => (0, 0)) (fun _ => True)).size
            have h2 : wr.heap.size ≤ (wr.alloc (.cells #[.int .u8 ((n : Int) / 2 ^ (8 * i) % 256)] 5)).heap.size := by simp
            exact Nat.le_trans this (Nat.le_trans h2 h)
      case measure => simp [intOf]; omega
    · obtain rfl : i = many := by omega
      go_wp2
      go_ret
      exact ⟨_, rfl, by rw [low_length]; exact HO.out, HF.out, HK.out⟩
theorem num_drop (l : List UInt8) (k : Nat) (h : k < l.length) : num (l.drop k) = num (l.drop (k + 1)) * 256 + l[k].toNat := by
  rw [List.drop_eq_getElem_cons h, num]; omega
theorem rnumber_c (w : World) (b o cap : Nat) (l : List UInt8) (hl : l.length ≤ 8) (hcap : l.length ≤ cap) (hcm : cap ≤ maxLen) (hc : ∀ (j : Nat) u, (l.map bv)[j]? = some u → w.cell? ⟨b, o + j, none⟩ = some u) :
    Calls Tryz.prog 167 #[.slice (some ⟨b, o, none⟩) l.length cap] w fun e w' => e = .returned (.int .u64 (num l : Nat)) ∧ w' = w := by
  have HC := Lib.hid hc; clear hc
  unfold maxLen at hcm
  go_enter Tryz.func167, Tryz.ntmps167
  go_wp2
  go_loop [3, 4] (fun v s => ∃ k : Nat, k ≤ l.length ∧ s = .int .i64 ((k : Int) - 1) ∧ v = .int .u64 ((num (l.drop k) : Nat) : Int)) (fun _ s => (intOf s + 1).toNat)
  case atStart => exact ⟨l.length, Nat.le_refl _, rfl, by simp [num]⟩
  case round =>
    obtain ⟨k, hk, rfl, rfl⟩ := hrel
    by_cases h0 : 0 < k
    · obtain ⟨i, rfl⟩ : ∃ i, k = i + 1 := ⟨k - 1, by omega⟩
      have g := HC.out i _ (List.getElem?_eq_getElem (by rw [List.length_map]; omega))
      rw [List.getElem_map] at g
      have hb := (l[i]'(by omega)).toNat_lt
      have hm := num_drop l i (by omega)
      have hlt := num_lt (l.drop (i + 1))
      have hp : (256 : Nat) ^ (l.drop (i + 1)).length ≤ 256 ^ 7 := Nat.pow_le_pow_right (by decide) (by rw [List.length_drop]; omega)
      obtain ⟨x, hx⟩ : ∃ x, x = (l[i]'(by omega)).toNat := ⟨_, rfl⟩
      obtain ⟨m, hme⟩ : ∃ m, m = num (l.drop (i + 1)) := ⟨_, rfl⟩
      replace g : w.cell? ⟨b, o + i, none⟩ = some (.int .u8 (x : Int)) := by rw [g, hx]; rfl
      rw [← hx] at hb hm
      rw [← hme] at hm hlt ⊢
      have hm7 : m < 72057594037927936 := by omega
      have HM := Lib.hid hm
      clear hx hme hm hlt hp
      have i1 : (((i + 1 : Nat) : Int) - 1) = i := by omega
      rw [i1]
      clear i1
      go_wp2
      go_round
      case rel => exact ⟨i, by omega, rfl, by rw [HM.out]; go_num⟩
      case measure => simp [intOf]
    · obtain rfl : k = 0 := by omega
      go_wp2
      go_ret
      exact ⟨rfl, rfl⟩
end Go.Proofs.YtnifmoigalmcmaaGreat
/- cairnref03: the turns, the constants, a turn. -/
namespace Go.Proofs.YtnifmoigalmcmaaGreat
open Go Go.RowKit
theorem turns_c (c : Col) (w : World) : Calls Tryz.prog 188 #[] w fun e w' => e = .returned (.agg (i64s (rhoTab 24))) ∧ ∀ S, Kp c S w w' := by
  go_enter Tryz.func188, Tryz.ntmps188
  go_wp2
  rw [← i64s_zero]
  go_loopw [2, 3, 4] (fun x y s wr => ∃ t : Nat, t ≤ 24 ∧ s = .int .i64 t ∧ x = .int .i64 ((rhoXY t).1 : Nat) ∧ y = .int .i64 ((rhoXY t).2 : Nat) ∧ wr.heap[w.heap.size + 1]? = some (.cells (i64s (rhoTab t)) 235 (0, 0)) ∧ wr.heap[w.heap.size]? = some (.cells (i64s (rhoTab 0)) 235 (0, 0)) ∧ ∀ S, Kp c S w wr) (fun _ _ s _ => 24 - (intOf s).toNat)
  case atStart =>
    refine ⟨0, by omega, rfl, rfl, rfl, ?_, heap_alloc_old _ (heap_alloc_new _ _), fun S => ((Kp.refl c S w).alloc _).alloc _⟩
    have := heap_alloc_new (w.alloc (.cells (i64s (rhoTab 0)) 235 (0, 0))) (.cells (i64s (rhoTab 0)) 235 (0, 0))
    rw [show (w.alloc (.cells (i64s (rhoTab 0)) 235 (0, 0))).heap.size = w.heap.size + 1 from by simp] at this
    exact this
  case round =>
    obtain ⟨t, ht, rfl, rfl, rfl, h1, h0, hK⟩ := hrel
    obtain ⟨hx, hy⟩ := rhoXY_lt t
    have H1 := Lib.hid h1; have H0 := Lib.hid h0; have HK := Lib.hid hK; clear h0 hK
    by_cases hlt : t < 24
    · obtain ⟨x, hxx⟩ : ∃ x, x = (rhoXY t).1 := ⟨_, rfl⟩
      obtain ⟨y, hyy⟩ : ∃ y, y = (rhoXY t).2 := ⟨_, rfl⟩
      have HX := Lib.hid hxx; have HY := Lib.hid hyy
      rw [← hxx] at hx ⊢; rw [← hyy] at hy ⊢
      clear hxx hyy
      have hc : wr.cell? ⟨w.heap.size + 1, x + 5 * y, none⟩ = some (.int .i64 ((rhoTab t)[x + 5 * y]'(by rw [rhoTab_size]; omega) : Nat)) := by
        rw [cell_of_heap h1]; rw [i64s, Array.getElem?_map, Array.getElem?_eq_getElem (by rw [rhoTab_size]; omega)]; rfl
      have hf := unfrozen_of_heap h1
      clear h1
      have hnum := rho_num t hlt
      go_wp2
      go_roundw
      case rel =>
        refine ⟨t + 1, by omega, by go_num, by rw [HY.out]; rfl, ?_, ?_, ?_, fun S => (HK.out S).setCell (fun h => absurd h (by show ¬ w.heap.size + 1 < w.heap.size; omega)) _⟩
        · rw [HX.out, HY.out]; rfl
        · have := heap_setCell H1.out (x + 5 * y) (.int .i64 (((t + 1) * (t + 2) / 2 % 64 : Nat) : Int))
          rw [i64s_set] at this
          rw [HX.out, HY.out] at this ⊢
          exact this
        · exact (Below.heap_setCell _ _ _ _ (by show w.heap.size ≠ w.heap.size + 1; omega)).trans H0.out
      case measure => simp [intOf]; omega
    · obtain rfl : t = 24 := by omega
      have HE := Lib.hid h1
      go_wp2_with (first
        | (refine wpList_load_row rfl 235 _ rfl (w.heap.size + 1) rfl 235 _ _ _ HE.out Tryz.underlying235 rfl (by kernel_rfl) ?_)
        | (refine wpList_store_row rfl 235 _ _ rfl w.heap.size (i64s (rhoTab 24)) rfl rfl 235 _ H0.out (by kernel_rfl) (by kernel_rfl) (by kernel_rfl) ?_))
      refine bodyPost_ret (v := .agg (i64s (rhoTab 24))) ?_ rfl ⟨rfl, fun S => (HK.out S).setRow (fun h => absurd h (Nat.lt_irrefl _)) _⟩
      exact results_cell_row rfl _ _ w.heap.size 235 _ _ _ rfl (heap_setRow H0.out) Tryz.underlying235 rfl (by kernel_rfl)
set_option maxRecDepth 20000 in
theorem rconstants_c (c : Col) (w : World) : Calls Tryz.prog 187 #[] w fun e w' => e = .returned (.agg (u64s (iotaTab 168))) ∧ ∀ S, Kp c S w w' := by
  go_enter Tryz.func187, Tryz.ntmps187
  go_wp2
  rw [← u64s_zero]
  go_loopw [2, 3] (fun r s wr => ∃ i : Nat, i ≤ 24 ∧ s = .int .i64 i ∧ r = .int .i64 (iotaReg (7 * i) : Nat) ∧ wr.heap[w.heap.size + 1]? = some (.cells (u64s (iotaTab (7 * i))) 237 (0, 0)) ∧ wr.heap[w.heap.size]? = some (.cells (u64s (iotaTab 0)) 237 (0, 0)) ∧ ∀ S, Kp c S w wr) (fun _ s _ => 24 - (intOf s).toNat)
  case atStart =>
    refine ⟨0, by omega, rfl, rfl, ?_, heap_alloc_old _ (heap_alloc_new _ _), fun S => ((Kp.refl c S w).alloc _).alloc _⟩
    have := heap_alloc_new (w.alloc (.cells (u64s (iotaTab 0)) 237 (0, 0))) (.cells (u64s (iotaTab 0)) 237 (0, 0))
    rw [show (w.alloc (.cells (u64s (iotaTab 0)) 237 (0, 0))).heap.size = w.heap.size + 1 from by simp] at this
    exact this
  case round =>
    obtain ⟨i, hi, rfl, rfl, h1, h0, hK⟩ := hrel
    have H1 := Lib.hid h1; have H0 := Lib.hid h0; have HK := Lib.hid hK; clear h1 h0 hK
    by_cases hil : i < 24
    · go_wp2
      go_loopw [2, 4] (fun r s wr => ∃ j : Nat, j ≤ 7 ∧ s = .int .i64 j ∧ r = .int .i64 (iotaReg (7 * i + j) : Nat) ∧ wr.heap[w.heap.size + 1]? = some (.cells (u64s (iotaTab (7 * i + j))) 237 (0, 0)) ∧ wr.heap[w.heap.size]? = some (.cells (u64s (iotaTab 0)) 237 (0, 0)) ∧ ∀ S, Kp c S w wr) (fun _ s _ => 7 - (intOf s).toNat)
      case atStart => exact ⟨0, by omega, rfl, rfl, H1.out, H0.out, HK.out⟩
      case round =>
        clear H1 H0 HK
        obtain ⟨j, hj, rfl, rfl, h1, h0, hK⟩ := hrel
        have H1 := Lib.hid h1; have H0 := Lib.hid h0; have HK := Lib.hid hK; clear h0 hK
        by_cases hlt : j < 7
        · have ht : 7 * i + j < 168 := by omega
          have hr256 := iota_lt _ ht
          have hbig := iota_big _ ht
          have hodd : iotaReg (7 * i + j) % 2 = 1 → ((iotaReg (7 * i + j) : Nat) : Int).tmod 2 = 1 := fun h => by rw [Int.tmod_eq_emod_of_nonneg (by omega)]; omega
          have heven : ¬ iotaReg (7 * i + j) % 2 = 1 → ((iotaReg (7 * i + j) : Nat) : Int).tmod 2 = 0 := fun h => by rw [Int.tmod_eq_emod_of_nonneg (by omega)]; omega
          have hnx : iotaReg (7 * i + j + 1) = if iotaReg (7 * i + j) * 2 ≥ 256 then (iotaReg (7 * i + j) * 2) ^^^ 0x171 else iotaReg (7 * i + j) * 2 := rfl
          have htb : iotaTab (7 * i + j + 1) = if iotaReg (7 * i + j) % 2 = 1 then (iotaTab (7 * i + j)).setIfInBounds ((7 * i + j) / 7) (bits BinOp.or IntKind.u64 ((iotaTab (7 * i + j))[(7 * i + j) / 7]?.getD 0) (IntKind.u64.wrap (2 ^ min (IntKind.u64.wrap (IntKind.u64.wrap (2 ^ ((7 * i + j) % 7)) - 1)).toNat 64))) else iotaTab (7 * i + j) := rfl
          rw [show (7 * i + j) / 7 = i from by omega, show (7 * i + j) % 7 = j from by omega] at htb
          have hsz := iotaTab_size (7 * i + j)
          obtain ⟨r', hr'⟩ : ∃ r', r' = iotaReg (7 * i + j + 1) := ⟨_, rfl⟩
          obtain ⟨r, hr⟩ : ∃ r, r = iotaReg (7 * i + j) := ⟨_, rfl⟩
          obtain ⟨A, hA⟩ : ∃ A, A = iotaTab (7 * i + j) := ⟨_, rfl⟩
          rw [← hr'] at hnx hbig
          rw [← hr] at hr256 hbig hodd heven hnx htb ⊢
          rw [← hA] at hsz htb h1 H1
          have HR' := Lib.hid hr'; clear hr' hr hA
          have hc : wr.cell? ⟨w.heap.size + 1, i, none⟩ = some (.int .u64 (A[i]?.getD 0)) := by
            rw [cell_of_heap h1]; exact u64s_at (a := A) (i := i) (n := 24) hsz hil
          have hf := unfrozen_of_heap h1
          clear h1 hsz
          by_cases hg : r * 2 ≥ 256
          · have hbig := hbig hg
            clear hnx
            by_cases ho : r % 2 = 1
            · have hk := hodd ho
              rw [if_pos ho] at htb
              have HT := Lib.hid htb
              clear heven htb
              go_wp2
              go_roundw
              case rel =>
                refine ⟨j + 1, by omega, by go_num, by rw [show 7 * i + (j + 1) = 7 * i + j + 1 from rfl, ← HR'.out], ?_, (Below.heap_setCell _ _ _ _ (by show w.heap.size ≠ w.heap.size + 1; omega)).trans H0.out, fun S => ((HK.out S).setCell (fun h => absurd h (by show ¬ w.heap.size + 1 < w.heap.size; omega)) _)⟩
                rw [show 7 * i + (j + 1) = 7 * i + j + 1 from rfl, HT.out]; rw [← u64s_set]; exact heap_setCell H1.out i _
              case measure => simp [intOf]; omega
            · have hk := heven ho
              rw [if_neg ho] at htb
              have HT := Lib.hid htb
              clear hodd htb
              go_wp2
              go_roundw
              case rel =>
                refine ⟨j + 1, by omega, by go_num, by rw [show 7 * i + (j + 1) = 7 * i + j + 1 from rfl, ← HR'.out], ?_, H0.out, HK.out⟩
                rw [show 7 * i + (j + 1) = 7 * i + j + 1 from rfl, HT.out]; exact H1.out
              case measure => simp [intOf]; omega
          · rw [if_neg hg] at hnx
            clear hbig
            by_cases ho : r % 2 = 1
            · have hk := hodd ho
              rw [if_pos ho] at htb
              have HT := Lib.hid htb
              clear heven htb
              go_wp2
              go_roundw
              case rel =>
                refine ⟨j + 1, by omega, by go_num, by rw [show 7 * i + (j + 1) = 7 * i + j + 1 from rfl, ← HR'.out]; go_num, ?_, (Below.heap_setCell _ _ _ _ (by show w.heap.size ≠ w.heap.size + 1; omega)).trans H0.out, fun S => ((HK.out S).setCell (fun h => absurd h (by show ¬ w.heap.size + 1 < w.heap.size; omega)) _)⟩
                rw [show 7 * i + (j + 1) = 7 * i + j + 1 from rfl, HT.out]; rw [← u64s_set]; exact heap_setCell H1.out i _
              case measure => simp [intOf]; omega
            · have hk := heven ho
              rw [if_neg ho] at htb
              have HT := Lib.hid htb
              clear hodd htb
              go_wp2
              go_roundw
              case rel =>
                refine ⟨j + 1, by omega, by go_num, by rw [show 7 * i + (j + 1) = 7 * i + j + 1 from rfl, ← HR'.out]; go_num, ?_, H0.out, HK.out⟩
                rw [show 7 * i + (j + 1) = 7 * i + j + 1 from rfl, HT.out]; exact H1.out
              case measure => simp [intOf]; omega
        · obtain rfl : j = 7 := by omega
          clear h1
          go_wp2
          go_roundw
          case rel => exact ⟨i + 1, by omega, by go_num, rfl, H1.out, H0.out, HK.out⟩
          case measure => simp [intOf]; omega
    · obtain rfl : i = 24 := by omega
      go_wp2_with (first
        | (refine wpList_load_row rfl 237 _ rfl (w.heap.size + 1) rfl 237 _ _ _ H1.out Tryz.underlying237 rfl (by kernel_rfl) ?_)
        | (refine wpList_store_row rfl 237 _ _ rfl w.heap.size (u64s (iotaTab 168)) rfl rfl 237 _ H0.out (by kernel_rfl) (by kernel_rfl) (by kernel_rfl) ?_))
      refine bodyPost_ret (v := .agg (u64s (iotaTab 168))) ?_ rfl ⟨rfl, fun S => (HK.out S).setRow (fun h => absurd h (Nat.lt_irrefl _)) _⟩
      exact results_cell_row rfl _ _ w.heap.size 237 _ _ _ rfl (heap_setRow H0.out) Tryz.underlying237 rfl (by kernel_rfl)
theorem rol_zero {x : Int} (h : 0 ≤ x) (h2 : x < 18446744073709551616) : rol x 0 = x := by
  obtain ⟨n, rfl⟩ : ∃ n : Nat, x = n := ⟨x.toNat, by omega⟩
  have e1 : (n : Int) / 2 ^ (64 - 0) = ((0 : Nat) : Int) := by show (n : Int) / 18446744073709551616 = 0; omega
  have e2 : IntKind.u64.wrap ((n : Int) * 2 ^ 0) = (n : Int) := by rw [IntKind.wrap_u64]; omega
  unfold rol
  rw [e1, e2, bits_or_u64_nat _ _ (by omega) (by omega), Nat.or_zero]
theorem left_c (w : World) (x : Int) (k : Nat) (hk : k < 64) (h : k = 0 → 0 ≤ x ∧ x < 18446744073709551616) : Calls Tryz.prog 189 #[.int .u64 x, .int .i64 k] w fun e w' => e = .returned (.int .u64 (rol x k)) ∧ w' = w := by
  by_cases h0 : k = 0
  · subst h0
    have HZ := Lib.hid (rol_zero (h rfl).1 (h rfl).2)
    go_enter Tryz.func189, Tryz.ntmps189
    go_wp2
    go_ret
    exact ⟨by rw [HZ.out]; rfl, rfl⟩
  · have hm : ((k : Nat) : Int).tmod 64 = k := by rw [Int.tmod_eq_emod_of_nonneg (by omega)]; omega
    go_enter Tryz.func189, Tryz.ntmps189
    go_wp2
    go_ret
    exact ⟨rfl, rfl⟩
theorem xo_range (a b : Int) : 0 ≤ xo a b ∧ xo a b < 18446744073709551616 := by
  unfold xo bits
  simp only [IntKind.wrap_u64]
  omega
end Go.Proofs.YtnifmoigalmcmaaGreat
