/- The law's looks: what a log tells is what the document's log tells. -/
import Derived.RangeFuncCalls
import Derived.RangeFuncLeaves
import Derived.Deep.RegionHeld3
import Derived.Sort.QuietIn
import Derived.Test.YtnifmoigalmcmaaGreatWk
import Derived.Test.YtnifmoigalmcmaaGreatWa
import Derived.Test.YtnifmoigalmcmaaGreatYr
import Derived.Test.YtnifmoigalmcmaaGreatRh
namespace Go.Proofs.YtnifmoigalmcmaaGreat
open Go Go.RowKit Go.MapKept Go.Maps Go.Shelf
open Wl
attribute [local go_sem] Oper.semAt_some
variable {c c' : Col} {w w' W : World} {S : Nat × Nat → Prop} {q : Nat × Nat}
theorem eql_wseq (W : World) (b : Nat) : (binOp .eql 156 (.func (.func 139) #[] #[.pointer (some ⟨b, 0, none⟩)]) .nilFunc).run Tryz.prog W = .ok (.bool false) W := by kernel_rfl
theorem region_wideW {P : Program} {ops : Array Oper} {Q : Exit → Act → World → Prop} {n l id : Nat} {a : Act} {w : World} (S : World → Prop) (hm : P.follows .mixedOrders = true)
    (h : wpAnyG P ops (NoPanic Q) S l ops.size (Array.replicate ops.size false) a w.drew) : (Code.region id ops true).wpIn Fence.wide n P Q a w :=
  wpIn_wide.2 (wp_region_noPanic (wp_region_G S l hm h))
section
variable {P : Program} {ops : Array Oper} {Q : Exit → Act → World → Prop} {md : Region.Mode} {l n : Nat}
theorem anyIn_ofW (hnd : ∀ (i : Nat) o c, ops[i]? = some o → o.op ≠ .defer c) (hlo : ∀ a w, ¬ Q .outgrown a w) :
    ∀ (fuel : Nat) (listed : Array Bool) (a : Act) (w : World), wpAny P md ops Q fuel listed a w → wpAnyIn (Fence.wide.inRound l) n P md ops Q fuel listed a w := by
  intro fuel
  induction fuel with
  | zero => exact fun _ _ _ h => h
  | succ fuel ih =>
    intro listed a w h
    refine ⟨h.1, fun i hi => ?_⟩
    have h := h.2 i hi
    unfold wpOp at h
    unfold wpOpIn
    cases ho : ops[i]? with
    | none => rw [ho] at h; exact ih _ _ _ h
    | some o =>
      rw [ho] at h
      simp only at h ⊢
      split
      · rename_i hw
        rw [if_pos hw] at h
        rcases h with h | ⟨_, a', w', h⟩
        · refine ⟨fun _ _ => trivial, ?_⟩
          unfold Oper.wp at h
          rw [Oper.semAt_eq _ _ _ (fun c => hnd i o c ho)]
          generalize (execOp a.eval o).run P w = r at h ⊢
          cases r with
          | ok x w' =>
            cases x with
            | value v => exact ih _ _ _ h
            | skip => exact ih _ _ _ h
            | defer d => exact ih _ _ _ h
            | enter f args =>
              refine ⟨(fun e => by cases e), CallsIn.inRound l (callsIn_wide.2 (Calls.mono h fun e w2 he => ?_))⟩
              cases e with
              | returned v => exact ih _ _ _ he
              | panicked c => exact he
              | outgrown => exact he
            | row row args =>
              exact ⟨(fun e => by cases e), fun c cs _ => by
                obtain ⟨v, w2, hr, hs⟩ := h c cs
                exact ⟨v, w2, ih _ _ _ hr, stepsIn_wide.2 hs⟩⟩
            | _ => exact (h : False).elim
          | halt x w' =>
            cases x with
            | panic v => exact h
            | _ => exact (h : False).elim
        · exact absurd h (hlo a' w')
      · rename_i hw
        rw [if_neg hw] at h
        exact ⟨fun _ _ => trivial, ih _ _ _ h⟩
theorem nodef_of {ops : Array Oper} (h : ops.all (fun o => match o.op with | .defer _ => false | _ => true) = true) : ∀ (i : Nat) o c, ops[i]? = some o → o.op ≠ .defer c := by
  intro i o c hi e
  have h2 := Array.all_eq_true'.1 h o (Array.mem_of_getElem? hi)
  rw [e] at h2
  cases h2
/-- A region that draws and only reads, in a round. -/
theorem region_round_quiet {id : Nat} {a : Act} {w : World} {ol : List Oper} (hm : P.follows .mixedOrders = true) (hB : Region.lexB .any ol.toArray = true) (hd : ol.toArray.all (fun o => match o.op with | .defer _ => false | _ => true) = true) (hlo : ∀ a w, ¬ Q .outgrown a w)
    (h : wpQuiet P ol.toArray (fun w' => ∃ n, w' = w.drewN n) (fun a' => ∀ w', (∃ n, w' = w.drewN n) → Q .normal a' w') ol a) : (Code.region id ol.toArray true).wpIn (Fence.wide.inRound l) n P Q a w := by
  simp only [Region.lexB, Bool.and_eq_true] at hB
  refine wpIn_region_any hm (anyIn_ofW (nodef_of hd) hlo _ _ _ _ (wpAny_of_quiet (C := fun w' => ∃ n, w' = w.drewN n) (Q := fun a' => ∀ w', (∃ n, w' = w.drewN n) → Q .normal a' w') (fun _ w' hw' h => h w' hw') _ _ _ _ ⟨1, rfl⟩ ?_))
  have := wpAnyQ_lex (C := fun w' => ∃ n, w' = w.drewN n) (md := .any) hB.1 ol 0 (Array.replicate ol.toArray.size false) a (by simp) (by simpa using hB.2) h
  simpa using this
end
theorem RLogAt.logW {kl lb r : Nat} {nm : Dk.Nm} {vl : Value} {ls : List (List Bs)} {size : Nat} {torn : Bool} (h : RLogAt w c kl lb r nm vl ls size torn) : LogW w c00 (0, 0) vl ls := by
  obtain ⟨_, _, ⟨xs, ho, hx⟩, hc⟩ := h
  exact ⟨xs, (Sc.of_owns (show w.ownsRow 0 40 1 vl xs.length xs by rw [show xs.length = ls.length by simpa using ho.1]; exact ho) hc).wide.any, by simpa using ho.1, fun i x y hx' hy => ((hx i x y hx' hy).wide).any⟩
/-- Where looks stands in the document's list. -/
def LJ (ls : List (List Bs)) (Y : World) (p : Nat) (Z : World) : Prop :=
  ∃ i k : Nat, Below Y.heap.size Y Z ∧ Z.heap[Y.heap.size]? = some (.cells #[.int .i64 (i : Int)] 3 (0, 0)) ∧ Z.heap[Y.heap.size + 1]? = some (.cells #[.int .i64 (k : Int)] 3 (0, 0)) ∧ i ≤ ls.length ∧ (∀ h : i < ls.length, k ≤ ls[i].length) ∧ posN ls i + k = p
theorem LJ.grown {ls : List (List Bs)} {Y A B : World} {p : Nat} {row : Option Nat} (h : LJ ls Y p A) (hg : A.grownBy B row) (hr : ∀ r, row = some r → Y.heap.size + 2 ≤ r) : LJ ls Y p B := by
  obtain ⟨i, k, hb, h1, h2, h3⟩ := h
  exact ⟨i, k, hb.grown hg hb.size (fun g e => by have := hr g e; omega), (hg.block _ (lt_of_heap h1) (fun e => by have := hr _ e.symm; omega)).trans h1, (hg.block _ (lt_of_heap h2) (fun e => by have := hr _ e.symm; omega)).trans h2, h3⟩
def boxI (b : Nat) (W : World) : Nat := match W.cell? ⟨b, 0, none⟩ with
  | some (.int _ i) => i.toNat
  | _ => 0
theorem boxI_of {b : Nat} {W : World} {i : Nat} (h : W.heap[b]? = some (.cells #[.int .i64 (i : Int)] 3 (0, 0))) : boxI b W = i := by
  unfold boxI
  rw [cell_of_heap h 0]
  simp
theorem kpx_set {Bx : Nat → Prop} {b : Nat} {v : Value} (h : Bx b) (W : World) : KpX Bx W (W.setCell ⟨b, 0, none⟩ v) := ⟨by simp, fun g cs t fz hh hn => (Below.heap_setCell _ _ _ _ (fun e => hn (by rw [e]; exact h))).trans hh⟩
theorem lj_step {ls : List (List Bs)} {Y Z wr : World} {i k p n B : Nat} {M : List Bs} (hb : Below Y.heap.size Y wr) (hi : wr.heap[Y.heap.size]? = some (.cells #[.int .i64 (i : Int)] 3 (0, 0))) (hk : wr.heap[Y.heap.size + 1]? = some (.cells #[.int .i64 (k : Int)] 3 (0, 0)))
    (hil : i < ls.length) (hM : M = ls[i]) (hkk : k = M.length) (h3 : posN ls i + k = p) (hkx : KpX (fun b => b = Y.heap.size ∨ b = Y.heap.size + 1) Z wr) (hkf : KeepsFrom B Z wr) :
    (LJ ls Y p (((wr.drewN n).setCell ⟨Y.heap.size, 0, none⟩ (.int .i64 ((i : Int) + 1))).setCell ⟨Y.heap.size + 1, 0, none⟩ (.int .i64 0)) ∧
      KpX (fun b => b = Y.heap.size ∨ b = Y.heap.size + 1) Z (((wr.drewN n).setCell ⟨Y.heap.size, 0, none⟩ (.int .i64 ((i : Int) + 1))).setCell ⟨Y.heap.size + 1, 0, none⟩ (.int .i64 0)) ∧
      KeepsFrom B Z (((wr.drewN n).setCell ⟨Y.heap.size, 0, none⟩ (.int .i64 ((i : Int) + 1))).setCell ⟨Y.heap.size + 1, 0, none⟩ (.int .i64 0))) ∧
      ls.length - boxI Y.heap.size (((wr.drewN n).setCell ⟨Y.heap.size, 0, none⟩ (.int .i64 ((i : Int) + 1))).setCell ⟨Y.heap.size + 1, 0, none⟩ (.int .i64 0)) < ls.length - boxI Y.heap.size wr := by
  obtain ⟨D, hD⟩ : ∃ D, D = wr.drewN n := ⟨_, rfl⟩
  have hbD : Below Y.heap.size Y D := by rw [hD]; exact ⟨hb.os, hb.tape, hb.output, hb.size, hb.block⟩
  have hiD : D.heap[Y.heap.size]? = some (.cells #[.int .i64 (i : Int)] 3 (0, 0)) := by rw [hD]; exact hi
  have hkD : D.heap[Y.heap.size + 1]? = some (.cells #[.int .i64 (k : Int)] 3 (0, 0)) := by rw [hD]; exact hk
  have hxD : KpX (fun b => b = Y.heap.size ∨ b = Y.heap.size + 1) Z D := by rw [hD]; exact hkx
  have hfD : KeepsFrom B Z D := by rw [hD]; exact ⟨hkf.size, hkf.same⟩
  rw [← hD]
  clear hD
  have e0 := heap_setCell hiD 0 (.int .i64 ((i : Int) + 1))
  have e1 : (D.setCell ⟨Y.heap.size, 0, none⟩ (.int .i64 ((i : Int) + 1))).heap[Y.heap.size + 1]? = _ := (Below.heap_setCell _ _ _ _ (by show Y.heap.size + 1 ≠ Y.heap.size; omega)).trans hkD
  have e2 := heap_setCell e1 0 (.int .i64 0)
  have e3 : ((D.setCell ⟨Y.heap.size, 0, none⟩ (.int .i64 ((i : Int) + 1))).setCell ⟨Y.heap.size + 1, 0, none⟩ (.int .i64 0)).heap[Y.heap.size]? = _ := (Below.heap_setCell _ _ _ _ (by show Y.heap.size ≠ Y.heap.size + 1; omega)).trans e0
  have e3' : ((D.setCell ⟨Y.heap.size, 0, none⟩ (.int .i64 ((i : Int) + 1))).setCell ⟨Y.heap.size + 1, 0, none⟩ (.int .i64 0)).heap[Y.heap.size]? = some (.cells #[.int .i64 ((i + 1 : Nat) : Int)] 3 (0, 0)) := by rw [e3]; simp
  have hps := posN_succ ls i hil
  refine ⟨⟨⟨i + 1, 0, (hbD.setCell (Nat.le_refl _) _).setCell (Nat.le_succ _) _, e3', by rw [e2]; simp, hil, fun _ => Nat.zero_le _, ?_⟩, kpx_t hxD (kpx_t (kpx_set (.inl rfl) _) (kpx_set (.inr rfl) _)), (hfD.trans ((KeepsOthers.setCell _ _ _).from _)).trans ((KeepsOthers.setCell _ _ _).from _)⟩, ?_⟩
  · rw [hps, ← hM, ← hkk]; omega
  · rw [boxI_of e3', boxI_of hi]; omega
theorem lj_more {ls : List (List Bs)} {Y Z wr : World} {i k p n B : Nat} {M : List Bs} (hb : Below Y.heap.size Y wr) (hi : wr.heap[Y.heap.size]? = some (.cells #[.int .i64 (i : Int)] 3 (0, 0))) (hk : wr.heap[Y.heap.size + 1]? = some (.cells #[.int .i64 (k : Int)] 3 (0, 0)))
    (hil : i < ls.length) (hM : M = ls[i]) (hkk : k < M.length) (h3 : posN ls i + k = p) (hkx : KpX (fun b => b = Y.heap.size ∨ b = Y.heap.size + 1) Z wr) (hkf : KeepsFrom B Z wr) :
    KeepsFrom B Z ((wr.drewN n).setCell ⟨Y.heap.size + 1, 0, none⟩ (.int .i64 ((k : Int) + 1))) ∧
      KpX (fun b => b = Y.heap.size ∨ b = Y.heap.size + 1) Z ((wr.drewN n).setCell ⟨Y.heap.size + 1, 0, none⟩ (.int .i64 ((k : Int) + 1))) ∧
      LJ ls Y (p + 1) ((wr.drewN n).setCell ⟨Y.heap.size + 1, 0, none⟩ (.int .i64 ((k : Int) + 1))) := by
  obtain ⟨D, hD⟩ : ∃ D, D = wr.drewN n := ⟨_, rfl⟩
  have hbD : Below Y.heap.size Y D := by rw [hD]; exact ⟨hb.os, hb.tape, hb.output, hb.size, hb.block⟩
  have hiD : D.heap[Y.heap.size]? = some (.cells #[.int .i64 (i : Int)] 3 (0, 0)) := by rw [hD]; exact hi
  have hkD : D.heap[Y.heap.size + 1]? = some (.cells #[.int .i64 (k : Int)] 3 (0, 0)) := by rw [hD]; exact hk
  have hxD : KpX (fun b => b = Y.heap.size ∨ b = Y.heap.size + 1) Z D := by rw [hD]; exact hkx
  have hfD : KeepsFrom B Z D := by rw [hD]; exact ⟨hkf.size, hkf.same⟩
  rw [← hD]
  clear hD
  have e0 := heap_setCell hkD 0 (.int .i64 ((k : Int) + 1))
  have e1 : (D.setCell ⟨Y.heap.size + 1, 0, none⟩ (.int .i64 ((k : Int) + 1))).heap[Y.heap.size]? = _ := (Below.heap_setCell _ _ _ _ (by show Y.heap.size ≠ Y.heap.size + 1; omega)).trans hiD
  exact ⟨hfD.trans ((KeepsOthers.setCell _ _ _).from _), kpx_t hxD (kpx_set (.inr rfl) _), i, k + 1, hbD.setCell (Nat.le_succ _) _, e1, by rw [e0]; simp, Nat.le_of_lt hil, fun _ => by rw [← hM]; exact hkk, by omega⟩
theorem keeps_ret {Z wr : World} {n B b : Nat} {v : Value} (hkf : KeepsFrom B Z wr) : KeepsFrom B Z ((wr.drewN n).setCell ⟨b, 0, none⟩ v) :=
  (show KeepsFrom B Z (wr.drewN n) from ⟨hkf.size, hkf.same⟩).trans ((KeepsOthers.setCell _ _ _).from _)
theorem holdsX {ls : List (List Bs)} {Y Z wr : World} {p n : Nat} {v : Value} {b : Bs} (h : HoldsN (n, v, b) Z) (hl : LJ ls Y p Z) (hk : KpX (fun b => b = Y.heap.size ∨ b = Y.heap.size + 1) Z wr) (m : Nat) : Sw (wr.drewN m) c00 (0, 0) v (b.map bv) := by
  obtain ⟨i, k, -, hi, hj, -⟩ := hl
  obtain ⟨ad, cap, e, h1, h2, h3, h4⟩ := h
  refine ⟨ad, cap, e, h1, h2, h3, fun ad' had j u hj' => ?_⟩
  obtain ⟨s0, c0, hc⟩ := h4 ad' had j u hj'
  refine ⟨s0, c0, ?_⟩
  have hbox : ∀ (g : Nat) (z : Int), Z.heap[g]? = some (.cells #[.int .i64 z] 3 (0, 0)) → ad'.block ≠ g := fun g z hg e => by
    subst e
    have h5 := cell_of_heap hg (ad'.off + j)
    rw [hc] at h5
    rw [List.getElem?_map] at hj'
    obtain ⟨y, _, rfl⟩ := Option.map_eq_some_iff.1 hj'
    rcases Nat.eq_zero_or_pos (ad'.off + j) with h0 | h0
    · rw [h0] at h5; simp [bv] at h5
    · rw [Array.getElem?_eq_none (by simp; omega)] at h5; cases h5
  exact kpx_cell (p := ⟨ad'.block, ad'.off + j, none⟩) hk hc (fun h => h.elim (hbox _ _ hi) (hbox _ _ hj))
theorem pre_next {ls : List (List Bs)} {pre : List (Nat × Value × Bs)} {i k p : Nat} {v : Value} (hp : p = pre.length) (h : pre.map (fun x => (x.1, x.2.2)) = (flatN 0 ls).take p) (hil : i < ls.length) {M : List Bs} {u : Bs} (hM : M = ls[i]) (hk : k < M.length) (hu : u = M[k]) (h3 : posN ls i + k = p) :
    (pre ++ [(i, v, u)]).map (fun x => (x.1, x.2.2)) = (flatN 0 ls).take (pre ++ [(i, v, u)]).length := by
  subst hM hu
  have hg := flatN_get ls 0 i k hil hk
  rw [h3, Nat.zero_add] at hg
  rw [List.map_append, h, List.length_append, List.length_singleton, ← hp, List.take_add_one, hg]
  rfl
theorem pre_not {ls : List (List Bs)} {pre : List (Nat × Value × Bs)} {i k p n : Nat} {v : Value} {b : Bs} (hp : p = pre.length) (hil : i < ls.length) {M : List Bs} {u : Bs} (hM : M = ls[i]) (hk : k < M.length) (hu : u = M[k]) (h3 : posN ls i + k = p) (hne : ¬ (n = i ∧ b = u)) :
    ¬ (pre ++ [(n, v, b)]).map (fun x => (x.1, x.2.2)) <+: flatN 0 ls := by
  subst hM hu
  rintro ⟨t, ht⟩
  have hg := flatN_get ls 0 i k hil hk
  rw [h3, Nat.zero_add, ← ht, List.map_append, List.append_assoc, List.getElem?_append_right (by simp; omega), List.length_map, ← hp, Nat.sub_self] at hg
  simp at hg
  exact hne hg
set_option maxRecDepth 100000 in
set_option maxHeartbeats 8000000 in
theorem wlooks_c {kl kr lb yb d r : Nat} {nx ny : Dk.Nm} {vx vy : Value} {ls : List (List Bs)} {size : Nat} {dx dy : Bool} (w : World) (L : LogAt w c kl lb d nx vx ls size dx) (R : RLogAt w c kr yb r ny vy ls size dy) (hl : ls.length ≤ 100000000) (hs : ∀ y ∈ ls, Sma y) (_hsz : size ≤ 1000000000) :
    Calls Tryz.prog 25 #[ptr lb, ptr yb] w fun e w' => e = .returned (.bool true) ∧ ∀ S, Kp c S w w' := by
  unfold ptr
  refine (callsIn_wide (n := 6)).1 ?_
  refine callsIn_of_wp_marks Tryz.func25 rfl trivial ?_ rfl
  simp only [Tryz.ntmps25, List.size_toArray, List.length_cons, List.length_nil, Nat.reduceAdd, Nat.reduceSub, Array.replicate_succ, Array.replicate_zero, List.push_toArray, List.append_toArray, List.nil_append, List.cons_append]
  obtain ⟨w0, hw0⟩ : ∃ w0, w0 = (w.alloc (.cells #[.pointer (some ⟨yb, 0, none⟩)] 37)).alloc (.cells #[.bool false] 4) := ⟨_, rfl⟩
  have HK0 : Hid (∀ c S, Kp c S w w0) := fun c S => by rw [hw0]; exact ((Kp.refl _ _ _).alloc _).alloc _
  have HY0 := Lib.hid (show w0.heap[w.heap.size]? = some (.cells #[.pointer (some ⟨yb, 0, none⟩)] 37 (0, 0)) by rw [hw0]; exact heap_alloc_old _ (heap_alloc_new _ _))
  have HR0 := Lib.hid (show w0.heap[w.heap.size + 1]? = some (.cells #[.bool false] 4 (0, 0)) by
    rw [hw0]
    have h := heap_alloc_new (w.alloc (.cells #[.pointer (some ⟨yb, 0, none⟩)] 37)) (.cells #[.bool false] 4)
    rwa [World.size_alloc] at h)
  have HZ0 := Lib.hid (show w0.heap.size = w.heap.size + 2 by rw [hw0]; simp)
  obtain ⟨xs1, hxs1, -⟩ := R.own
  obtain ⟨ay, ky, rfl⟩ := own_shape1 hxs1
  obtain ⟨xs2, hxs2, -⟩ := L.own
  obtain ⟨ax, kx, rfl⟩ := own_shape1 hxs2
  clear hxs1 hxs2
  have HLX := Lib.hid (show ∀ X, (∀ c S, Kp c S w0 X) → LogAt X c kl lb d nx (.slice ax ls.length kx) ls size dx from fun X hX => (L.kp (HK0.out c (fun _ => False)) (fun h => h) (fun h => h) (fun h => h) (Cx.refl _ _)).kp (hX c (fun _ => False)) (fun h => h) (fun h => h) (fun h => h) (Cx.refl _ _))
  have HRX := Lib.hid (show ∀ X, (∀ c S, Kp c S w0 X) → RLogAt X c kr yb r ny (.slice ay ls.length ky) ls size dy from fun X hX => (R.kp (HK0.out c (fun _ => False)) (fun h => h) (fun h => h) (fun h => h) (Cx.refl _ _)).kp (hX c (fun _ => False)) (fun h => h) (fun h => h) (fun h => h) (Cx.refl _ _))
  have HSX := Lib.hid (show ∀ X, (∀ c S, Kp c S w0 X) → (fun X : World => X.cell? ⟨w.heap.size, 0, none⟩ = some (.pointer (some ⟨yb, 0, none⟩)) ∧ X.cell? ⟨yb, 2, none⟩ = some (.slice ay ls.length ky) ∧ X.cell? ⟨yb, 3, none⟩ = some (.int .i64 (size : Int))) X from fun X hX => ⟨cell_of_heap ((hX c (fun _ => False)).heap HY0.out (fun h => h)) 0, (HRX.out X hX).c2, (HRX.out X hX).c3⟩)
  have HBB := Lib.hid (show ∀ y ∈ ls, y.length ≤ 1000000000 ∧ ∀ r ∈ y, r.length ≤ lim from fun y hy => ⟨by have := (hs y hy).1; omega, fun r hr => by have := (hs y hy).2 r hr; unfold lim; omega⟩)
  have HSM := Lib.hid hs
  clear L R hs
  gi_wp2
  rw [← hw0]
  clear hw0
  have HKD : Hid (∀ c S, Kp c S w0 w0.drew) := fun c S => (Kp.refl c S w0).drew
  have HC := Lib.hid (show w0.drew.cell? ⟨lb, 0, none⟩ = some (.int .i64 1) ∧ w0.drew.cell? ⟨lb, 3, none⟩ = some (.slice ax ls.length kx) ∧ w0.drew.cell? ⟨lb, 4, none⟩ = some (.int .i64 (size : Int)) from ⟨(HLX.out _ HKD.out).c0, (HLX.out _ HKD.out).c3, (HLX.out _ HKD.out).c4⟩)
  have hS0 := Lib.hid (HSX.out _ HKD.out)
  refine region_wideW (fun X : World => X.cell? ⟨w.heap.size, 0, none⟩ = some (.pointer (some ⟨yb, 0, none⟩)) ∧ X.cell? ⟨yb, 2, none⟩ = some (.slice ay ls.length ky) ∧ X.cell? ⟨yb, 3, none⟩ = some (.int .i64 (size : Int))) (l := 26) rfl ?_
  refine wpAnyG_take (i := 0) (oi := _) (v := .pointer (some ⟨lb, 0, none⟩)) rfl (by kernel_rfl) (by kernel_rfl) (by kernel_rfl) (by kernel_rfl) (by kernel_rfl) (by kernel_rfl) (fun _ _ _ h => h) (Or.inl ⟨by rfl, fun X hX => ?_⟩) hS0.out ?_
  · obtain ⟨x1, x2, x3⟩ := hX
    go_simp
  simp only [Act.put, List.setIfInBounds_toArray]
  refine wpAnyG_take (i := 2) (oi := _) (v := .pointer (some ⟨yb, 0, none⟩)) rfl (by kernel_rfl) (by kernel_rfl) (by kernel_rfl) (by kernel_rfl) (by kernel_rfl) (by kernel_rfl) (fun _ _ _ h => h) (Or.inl ⟨by rfl, fun X hX => ?_⟩) hS0.out ?_
  · obtain ⟨x1, x2, x3⟩ := hX
    go_simp
  simp only [Act.put]
  refine wpAnyG_take (i := 3) (oi := _) (v := .pointer (some ⟨yb, 0, none⟩)) rfl (by kernel_rfl) (by kernel_rfl) (by kernel_rfl) (by kernel_rfl) (by kernel_rfl) (by kernel_rfl) (fun _ _ _ h => h) (Or.inl ⟨by rfl, fun X hX => ?_⟩) hS0.out ?_
  · obtain ⟨x1, x2, x3⟩ := hX
    go_simp
  simp only [Act.put]
  refine wpAnyG_take (i := 4) (oi := _) (v := .pointer (some ⟨yb, 2, none⟩)) rfl (by kernel_rfl) (by kernel_rfl) (by kernel_rfl) (by kernel_rfl) (by kernel_rfl) (by kernel_rfl) (fun _ _ _ h => h) (Or.inl ⟨by rfl, fun X hX => ?_⟩) hS0.out ?_
  · obtain ⟨x1, x2, x3⟩ := hX
    go_simp
  simp only [Act.put]
  refine wpAnyG_take (i := 5) (oi := _) (v := .slice ay ls.length ky) rfl (by kernel_rfl) (by kernel_rfl) (by kernel_rfl) (by kernel_rfl) (by kernel_rfl) (by kernel_rfl) (fun _ _ _ h => h) (Or.inl ⟨by rfl, fun X hX => ?_⟩) hS0.out ?_
  · obtain ⟨x1, x2, x3⟩ := hX
    go_simp
  simp only [Act.put]
  refine wpAnyG_take (i := 6) (oi := _) (v := .int .i64 ls.length) rfl (by kernel_rfl) (by kernel_rfl) (by kernel_rfl) (by kernel_rfl) (by kernel_rfl) (by kernel_rfl) (fun _ _ _ h => h) (Or.inl ⟨by rfl, fun X hX => ?_⟩) hS0.out ?_
  · obtain ⟨x1, x2, x3⟩ := hX
    go_simp
  simp only [Act.put]
  refine wpAnyG_one (i := 1) (by kernel_rfl) rfl (fun K' hK' => ?_)
  go_simp
  refine (count_c _ lb HC.out.1 HC.out.2.1).mono ?_
  rintro e w1 ⟨rfl, rfl⟩
  refine hK'.out _ _ (fun _ => hS0.out) ?_
  refine wpAnyG_take (i := 7) (oi := _) (v := .bool false) rfl (by kernel_rfl) (by kernel_rfl) (by kernel_rfl) (by kernel_rfl) (by kernel_rfl) (by kernel_rfl) (fun _ _ _ h => h) (Or.inl ⟨by rfl, fun X hX => ?_⟩) hS0.out ?_
  · obtain ⟨x1, x2, x3⟩ := hX
    go_simp
  simp only [Act.put]
  refine wpAnyG_take (i := 8) (oi := _) (v := .bool false) rfl (by kernel_rfl) (by kernel_rfl) (by kernel_rfl) (by kernel_rfl) (by kernel_rfl) (by kernel_rfl) (fun _ _ _ h => h) (Or.inl ⟨by rfl, fun X hX => ?_⟩) hS0.out ?_
  · obtain ⟨x1, x2, x3⟩ := hX
    go_simp
  simp only [Act.put]
  refine wpAnyG_take (i := 9) (oi := _) (v := .pointer (some ⟨lb, 0, none⟩)) rfl (by kernel_rfl) (by kernel_rfl) (by kernel_rfl) (by kernel_rfl) (by kernel_rfl) (by kernel_rfl) (fun _ _ _ h => h) (Or.inl ⟨by rfl, fun X hX => ?_⟩) hS0.out ?_
  · obtain ⟨x1, x2, x3⟩ := hX
    go_simp
  simp only [Act.put]
  refine wpAnyG_take (i := 11) (oi := _) (v := .pointer (some ⟨yb, 0, none⟩)) rfl (by kernel_rfl) (by kernel_rfl) (by kernel_rfl) (by kernel_rfl) (by kernel_rfl) (by kernel_rfl) (fun _ _ _ h => h) (Or.inl ⟨by rfl, fun X hX => ?_⟩) hS0.out ?_
  · obtain ⟨x1, x2, x3⟩ := hX
    go_simp
  simp only [Act.put]
  refine wpAnyG_take (i := 12) (oi := _) (v := .pointer (some ⟨yb, 0, none⟩)) rfl (by kernel_rfl) (by kernel_rfl) (by kernel_rfl) (by kernel_rfl) (by kernel_rfl) (by kernel_rfl) (fun _ _ _ h => h) (Or.inl ⟨by rfl, fun X hX => ?_⟩) hS0.out ?_
  · obtain ⟨x1, x2, x3⟩ := hX
    go_simp
  simp only [Act.put]
  refine wpAnyG_take (i := 13) (oi := _) (v := .pointer (some ⟨yb, 3, none⟩)) rfl (by kernel_rfl) (by kernel_rfl) (by kernel_rfl) (by kernel_rfl) (by kernel_rfl) (by kernel_rfl) (fun _ _ _ h => h) (Or.inl ⟨by rfl, fun X hX => ?_⟩) hS0.out ?_
  · obtain ⟨x1, x2, x3⟩ := hX
    go_simp
  simp only [Act.put]
  refine wpAnyG_take (i := 14) (oi := _) (v := .int .i64 (size : Int)) rfl (by kernel_rfl) (by kernel_rfl) (by kernel_rfl) (by kernel_rfl) (by kernel_rfl) (by kernel_rfl) (fun _ _ _ h => h) (Or.inl ⟨by rfl, fun X hX => ?_⟩) hS0.out ?_
  · obtain ⟨x1, x2, x3⟩ := hX
    go_simp
  simp only [Act.put]
  refine wpAnyG_one (i := 10) (by kernel_rfl) rfl (fun K' hK' => ?_)
  go_simp
  refine (wsize_c _ lb HC.out.1 HC.out.2.2).mono ?_
  rintro e w1 ⟨rfl, rfl⟩
  refine hK'.out _ _ (fun _ => hS0.out) ?_
  refine wpAnyG_take (i := 15) (oi := _) (v := .bool false) rfl (by kernel_rfl) (by kernel_rfl) (by kernel_rfl) (by kernel_rfl) (by kernel_rfl) (by kernel_rfl) (fun _ _ _ h => h) (Or.inl ⟨by rfl, fun X hX => ?_⟩) hS0.out ?_
  · obtain ⟨x1, x2, x3⟩ := hX
    go_simp
  simp only [Act.put]
  refine wpAnyG_take (i := 16) (oi := _) (v := .bool false) rfl (by kernel_rfl) (by kernel_rfl) (by kernel_rfl) (by kernel_rfl) (by kernel_rfl) (by kernel_rfl) (fun _ _ _ h => h) (Or.inl ⟨by rfl, fun X hX => ?_⟩) hS0.out ?_
  · obtain ⟨x1, x2, x3⟩ := hX
    go_simp
  simp only [Act.put]
  refine wpAnyG_take (i := 17) (oi := _) (v := .bool false) rfl (by kernel_rfl) (by kernel_rfl) (by kernel_rfl) (by kernel_rfl) (by kernel_rfl) (by kernel_rfl) (fun _ _ _ h => h) (Or.inl ⟨by rfl, fun X hX => ?_⟩) hS0.out ?_
  · obtain ⟨x1, x2, x3⟩ := hX
    go_simp
  simp only [Act.put]
  refine wpAnyG_take (i := 18) (oi := _) (v := .pointer (some ⟨lb, 0, none⟩)) rfl (by kernel_rfl) (by kernel_rfl) (by kernel_rfl) (by kernel_rfl) (by kernel_rfl) (by kernel_rfl) (fun _ _ _ h => h) (Or.inl ⟨by rfl, fun X hX => ?_⟩) hS0.out ?_
  · obtain ⟨x1, x2, x3⟩ := hX
    go_simp
  simp only [Act.put]
  refine wpAnyG_take (i := 20) (oi := _) (v := .pointer (some ⟨yb, 0, none⟩)) rfl (by kernel_rfl) (by kernel_rfl) (by kernel_rfl) (by kernel_rfl) (by kernel_rfl) (by kernel_rfl) (fun _ _ _ h => h) (Or.inl ⟨by rfl, fun X hX => ?_⟩) hS0.out ?_
  · obtain ⟨x1, x2, x3⟩ := hX
    go_simp
  simp only [Act.put]
  refine wpAnyG_take (i := 21) (oi := _) (v := .pointer (some ⟨yb, 0, none⟩)) rfl (by kernel_rfl) (by kernel_rfl) (by kernel_rfl) (by kernel_rfl) (by kernel_rfl) (by kernel_rfl) (fun _ _ _ h => h) (Or.inl ⟨by rfl, fun X hX => ?_⟩) hS0.out ?_
  · obtain ⟨x1, x2, x3⟩ := hX
    go_simp
  simp only [Act.put]
  refine wpAnyG_take (i := 22) (oi := _) (v := .pointer (some ⟨yb, 2, none⟩)) rfl (by kernel_rfl) (by kernel_rfl) (by kernel_rfl) (by kernel_rfl) (by kernel_rfl) (by kernel_rfl) (fun _ _ _ h => h) (Or.inl ⟨by rfl, fun X hX => ?_⟩) hS0.out ?_
  · obtain ⟨x1, x2, x3⟩ := hX
    go_simp
  simp only [Act.put]
  refine wpAnyG_take (i := 23) (oi := _) (v := .slice ay ls.length ky) rfl (by kernel_rfl) (by kernel_rfl) (by kernel_rfl) (by kernel_rfl) (by kernel_rfl) (by kernel_rfl) (fun _ _ _ h => h) (Or.inl ⟨by rfl, fun X hX => ?_⟩) hS0.out ?_
  · obtain ⟨x1, x2, x3⟩ := hX
    go_simp
  simp only [Act.put]
  refine wpAnyG_one (i := 19) (by kernel_rfl) rfl (fun K' hK' => ?_)
  go_simp
  refine (wbatches_c (HLX.out _ HKD.out) hl HBB.out).mono ?_
  rintro e w2 ⟨v2, cf2, rfl, hg2, hk2⟩
  have HK2 : Hid (∀ c S, Kp c S w0 w2) := fun c S => (HKD.out c S).alloc_trans (hk2 c S)
  have HG2 := Lib.hid hg2.logW
  clear hg2 hk2
  have hS0 := Lib.hid (HSX.out _ HK2.out)
  refine hK'.out _ _ (fun _ => hS0.out) ?_
  refine wpAnyG_one (i := 24) (by kernel_rfl) rfl (fun K' hK' => ?_)
  go_simp
  refine (sameW_c v2 _ ls ls _ HG2.out (HRX.out _ HK2.out).logW).mono ?_
  rintro e w3 ⟨rfl, hk3⟩
  have HK3 : Hid (∀ c S, Kp c S w0 w3) := fun c S => (HK2.out c S).alloc_trans (hk3 c S)
  clear hk3
  simp only [decide_true]
  have hS0 := Lib.hid (HSX.out _ HK3.out)
  refine hK'.out _ _ (fun _ => hS0.out) ?_
  refine wpAnyG_take (i := 25) (oi := _) (v := .bool false) rfl (by kernel_rfl) (by kernel_rfl) (by kernel_rfl) (by kernel_rfl) (by kernel_rfl) (by kernel_rfl) (fun _ _ _ h => h) (Or.inl ⟨by rfl, fun X hX => ?_⟩) hS0.out ?_
  · obtain ⟨x1, x2, x3⟩ := hX
    go_simp
  simp only [Act.put]
  refine wpAnyG_one (i := 26) (by kernel_rfl) rfl (fun K' hK' => ?_)
  go_simp
  refine hK'.out _ _ (fun _ => hS0.out) ?_
  refine wpAnyG_done (by kernel_rfl) ?_
  refine NoPanic.normal ?_
  have hfn := eql_wseq
  gi_wp2_with (refine ⟨trivial, ?_⟩; gi_at_call 86; refine (callsIn_wide.2 (weach_c (some ⟨lb, 0, none⟩) w3)).mono ?_; rintro e w' ⟨rfl, rfl⟩)
  clear hfn
  obtain ⟨W4, hW4⟩ : ∃ W, W = w3.alloc (.cells #[.pointer (some ⟨lb, 0, none⟩)] 33) := ⟨_, rfl⟩
  rw [← hW4]
  have he4 : W4.cell? ⟨w3.heap.size, 0, none⟩ = some (.pointer (some ⟨lb, 0, none⟩)) := by rw [hW4]; exact cell_of_heap (heap_alloc_new _ _) 0
  have HE4 := Lib.hid he4
  have HK4 : Hid (∀ c S, Kp c S w0 W4) := fun c S => by rw [hW4]; exact (HK3.out c S).alloc _
  have HZ4 := Lib.hid (show W4.heap.size = w3.heap.size + 1 by rw [hW4]; simp)
  clear hW4 hS0 HC HKD HG2
  refine' wpIn_rangeFunc_Q (α := Nat × Value × Bs) rfl (by omega) (gf := 139) (lb := #[.pointer (some ⟨w3.heap.size, 0, none⟩)]) rfl trivial (enters_of Tryz.func139 (by kernel_rfl) rfl)
    (weachq_stops 5 (by omega) w3.heap.size (some ⟨lb, 0, none⟩) (posN ls ls.length) (fun _ : Nat => False) (fun ys => ys.map (fun x => (x.1, x.2.2)) = flatN 0 ls) W4 (fun _ h => h.elim) he4 (each_batches (fun _ : Nat => False) (fun _ h => h.elim) (HLX.out _ HK4.out) hl HBB.out)) (fun h k => kpx_t h k) (fun W l o o' h1 h2 h3 h4 => kpx_b W l o o' h1 h2 h3 h4) (Below.refl _ _) (fun x => rfl)
    (fun _ Y => Below W4.heap.size W4 Y) (fun cc _ Y => cc = .exit 0 ∧ Below W4.heap.size W4 Y) ?hI ?hIx (holdsN_own _) ?h0 _ ?assign ?body ?done ?stop
  case hI => exact fun s A B row hs hg hr => hs.grown hg hs.size (fun g e => (hr g e).1)
  case hIx => exact fun cc s A B row hs hg hr => ⟨hs.1, hs.2.grown hg hs.2.size (fun g e => (hr g e).1)⟩
  case h0 => exact Below.refl _ _
  case assign =>
    rintro l x Y K hK
    gi_wp2
    exact hK
  case body =>
    rintro l pre x Y hY hlt hx
    gi_wp2
    exact ⟨KeepsFrom.refl _ _, rfl, hY⟩
  case' done =>
    rintro D1 ys Y hD1 hys hY hK1
  case' stop =>
    rintro D1 cc pre Y hD1 hpre ⟨rfl, hY⟩ hK1
  all_goals
    have HY : Hid (∀ c S, Kp c S W4 Y) := fun c S => Kp.of_below hY
    have HKY : Hid (∀ c S, Kp c S w0 Y) := fun c S => (HK4.out c S).alloc_trans (HY.out c S)
    have HD1 := Lib.hid hD1
    have HK1 := Lib.hid hK1
    have hye : Y.cell? ⟨w3.heap.size, 0, none⟩ = some (.pointer (some ⟨lb, 0, none⟩)) := (hY.cell (p := ⟨w3.heap.size, 0, none⟩) (by have := HZ4.out; show w3.heap.size < W4.heap.size; omega)).trans HE4.out
    have HYE := Lib.hid hye; clear hye
    clear hY hD1 hK1
    gi_wp2
    obtain ⟨W7, hW7⟩ : ∃ W, W = (Y.alloc (.cells #[.int .i64 0] 3)).alloc (.cells #[.int .i64 0] 3) := ⟨_, rfl⟩
    rw [← hW7]
    have HB7 := Lib.hid (show Below Y.heap.size Y W7 by rw [hW7]; exact ((Below.refl _ Y).alloc (Nat.le_refl _) _).alloc (by simp) _)
    have HI7 := Lib.hid (show W7.heap[Y.heap.size]? = some (.cells #[.int .i64 0] 3 (0, 0)) by rw [hW7]; exact heap_alloc_old _ (heap_alloc_new _ _))
    have HJ7 := Lib.hid (show W7.heap[Y.heap.size + 1]? = some (.cells #[.int .i64 0] 3 (0, 0)) by
      rw [hW7]
      have h := heap_alloc_new (Y.alloc (.cells #[.int .i64 0] 3)) (.cells #[.int .i64 0] 3)
      rwa [World.size_alloc] at h)
    have HZ7 := Lib.hid (show W7.heap.size = Y.heap.size + 2 by rw [hW7]; simp)
    clear hW7
    have hey : w3.heap.size < Y.heap.size := World.block_lt_of_cell? _ _ HYE.out
    have HE7 := Lib.hid (show W7.cell? ⟨w3.heap.size, 0, none⟩ = some (.pointer (some ⟨lb, 0, none⟩)) from (HB7.out.cell (p := ⟨w3.heap.size, 0, none⟩) hey).trans HYE.out)
    have HK7 : Hid (∀ c S, Kp c S w0 W7) := fun c S => (HKY.out c S).alloc_trans (Kp.of_below HB7.out)
    have HXB := Lib.hid (show ∀ b, (b = Y.heap.size ∨ b = Y.heap.size + 1) → b < W7.heap.size from fun b hb => by have := HZ7.out; omega)
    refine' wpIn_rangeFunc_Q (α := Nat × Value × Bs) rfl (by omega) (gf := 139) (lb := #[.pointer (some ⟨w3.heap.size, 0, none⟩)]) rfl trivial (enters_of Tryz.func139 (by kernel_rfl) rfl)
      (weachq_stops 5 (by omega) w3.heap.size (some ⟨lb, 0, none⟩) (posN ls ls.length) (fun b => b = Y.heap.size ∨ b = Y.heap.size + 1) (fun ys => ys.map (fun x => (x.1, x.2.2)) = flatN 0 ls) W7 HXB.out HE7.out (each_batches (fun b => b = Y.heap.size ∨ b = Y.heap.size + 1) HXB.out (HLX.out _ HK7.out) hl HBB.out)) (fun h k => kpx_t h k) (fun W l o o' h1 h2 h3 h4 => kpx_b W l o o' h1 h2 h3 h4) (Below.refl _ _) (fun x => rfl)
      (fun pre Z => LJ ls Y pre.length Z ∧ pre.map (fun x => (x.1, x.2.2)) = (flatN 0 ls).take pre.length) (fun cc pre _ => cc = .ret ∧ ¬ pre.map (fun x => (x.1, x.2.2)) <+: flatN 0 ls) ?_ (fun _ _ _ _ _ hs _ _ => hs) (holdsN_own _) ?_ _ ?_ ?_ ?_ (fun _ cc pre _ _ hp hn _ => absurd (by obtain ⟨ys, hy1, hy2⟩ := hp; rw [← hy1]; exact hy2.map _) hn.2)
    · exact fun s A B row hs hg hr => ⟨hs.1.grown hg (fun g e => by have := (hr g e).1; have := HZ7.out; omega), hs.2⟩
    · exact ⟨⟨0, 0, HB7.out, HI7.out, HJ7.out, Nat.zero_le _, fun _ => Nat.zero_le _, by rw [posN_zero]; rfl⟩, rfl⟩
    rotate_left
    · rintro l x Z K hK
      gi_wp2
      exact hK
    · rintro l pre ⟨n, v, rr⟩ Z ⟨hLJ, hpre⟩ hlt hx
      obtain ⟨av, cv, hv, -⟩ := id hx
      simp only [List.length_map] at hv
      subst hv
      have HX := Lib.hid hx; have HPRE := Lib.hid hpre; have HLT := Lib.hid hlt; clear hx hpre hlt
      obtain ⟨p, hp⟩ : ∃ p, p = pre.length := ⟨_, rfl⟩
      rw [← hp] at hLJ HLT HPRE
      have HP := Lib.hid hp; clear hp
      have HLJ := Lib.hid hLJ; clear hLJ
      gi_wp2
      gi_loopw [] (fun wr => LJ ls Y p wr ∧ KpX (fun b => b = Y.heap.size ∨ b = Y.heap.size + 1) Z wr ∧ KeepsFrom W7.heap.size Z wr) (fun wr => ls.length - boxI Y.heap.size wr)
      case atStart => exact ⟨HLJ.out, ⟨Nat.le_refl _, fun _ _ _ _ h _ => h⟩, KeepsFrom.refl _ _⟩
      case round =>
        obtain ⟨hlj, hkx, hkf⟩ := hrel
        obtain ⟨i, k, hb, hi, hk, h1, h2, h3⟩ := hlj
        have hil : i < ls.length := by
          have := HLT.out
          refine Nat.lt_of_le_of_ne h1 fun e => ?_
          subst e
          omega
        have HKR : Hid (∀ c S, Kp c S w0 wr) := fun c S => (HKY.out c S).alloc_trans (Kp.of_below hb)
        obtain ⟨by_, oy, rfl⟩ : ∃ b o, ay = some ⟨b, o, none⟩ := by
          obtain ⟨a, kk, hv, _, _, hs⟩ := (HRX.out wr HKR.out).logW.shape
          injection hv with e1 _ _
          subst e1
          exact hs (by omega)
        obtain ⟨a1, m1, g1, B1⟩ := (HRX.out wr HKR.out).logW.get i hil
        have z0 : wr.cell? ⟨w.heap.size, 0, none⟩ = some (.pointer (some ⟨yb, 0, none⟩)) := (HSX.out wr HKR.out).1
        have z1 : wr.cell? ⟨yb, 2, none⟩ = some (.slice (some ⟨by_, oy, none⟩) ls.length ky) := (HSX.out wr HKR.out).2.1
        have zi : wr.cell? ⟨Y.heap.size, 0, none⟩ = some (.int .i64 (i : Int)) := cell_of_heap hi 0
        have zk : wr.cell? ⟨Y.heap.size + 1, 0, none⟩ = some (.int .i64 (k : Int)) := cell_of_heap hk 0
        have fi : wr.frozen? ⟨Y.heap.size, 0, none⟩ = false := unfrozen_of_heap hi 0
        have zr : wr.cell? ⟨w.heap.size + 1, 0, none⟩ = some (.bool false) := cell_of_heap ((HKR.out c (fun _ => False)).heap HR0.out (fun h => h)) 0
        have fr : wr.frozen? ⟨w.heap.size + 1, 0, none⟩ = false := unfrozen_of_heap ((HKR.out c (fun _ => False)).heap HR0.out (fun h => h)) 0
        have fk : wr.frozen? ⟨Y.heap.size + 1, 0, none⟩ = false := unfrozen_of_heap hk 0
        obtain ⟨M, hM⟩ : ∃ M, M = ls[i] := ⟨_, rfl⟩
        have hml := (HSM.out ls[i] (List.getElem_mem hil)).1
        have h2 := h2 hil
        rw [← hM] at g1 B1 h2 hml
        have HB := Lib.hid hb; have HI := Lib.hid hi; have HK := Lib.hid hk; have H3 := Lib.hid h3; have HMM := Lib.hid hM; have HB1 := Lib.hid B1; have HKX := Lib.hid hkx; have HKF := Lib.hid hkf; have HIL := Lib.hid hil
        clear hb hi hk h3 hM B1 hkx hkf
        have hil' : (i : Int) < ls.length := by omega
        by_cases hkk : k = M.length
        · subst hkk
          gi_wp2
          refine region_round_quiet rfl (by kernel_rfl) (by kernel_rfl) (fun _ _ h => h) ?_
          repeat (quiet_step (fail))
          refine wpQuiet_nil ?_
          intro _ hw'
          obtain ⟨nq, hw''⟩ := hw'
          subst hw''
          gi_wp2
          exact lj_step HB.out HI.out HK.out HIL.out HMM.out rfl H3.out HKX.out HKF.out
        · have hkk' : ¬ (k : Int) = (M.length : Int) := by omega
          gi_wp2
          refine region_round_quiet rfl (by kernel_rfl) (by kernel_rfl) (fun _ _ h => h) ?_
          repeat (quiet_step (fail))
          refine wpQuiet_nil ?_
          intro _ hw'
          obtain ⟨nq, hw''⟩ := hw'
          subst hw''
          gi_wp2
          have hkl : k < M.length := by omega
          obtain ⟨b2, o2, rfl⟩ := HB1.out.spot (by omega)
          obtain ⟨a3, m3, g3, S3⟩ := HB1.out.get k hkl
          obtain ⟨u, hu⟩ : ∃ u, u = M[k] := ⟨_, rfl⟩
          rw [← hu] at g3 S3
          have HU := Lib.hid hu; have HKL := Lib.hid hkl
          have c1 : ∀ a, (convert 41 9 (.slice (a3) u.length m3)).run Tryz.prog (wr.drewN a) = .ok (.string ⟨u.toArray⟩) (wr.drewN a) := fun a => conv_sw (S3.kp (S := fun _ => False) ((Kp.refl _ _ wr).drewN a) (fun h => h) (Cx.refl _ _))
          have c2 : ∀ a, (convert 41 9 (.slice av rr.length cv)).run Tryz.prog (wr.drewN a) = .ok (.string ⟨rr.toArray⟩) (wr.drewN a) := fun a => conv_sw (holdsX HX.out HLJ.out HKX.out a)
          clear hu S3
          have hkl' : (k : Int) < M.length := by omega
          by_cases hn : n = i
          · subst hn
            by_cases hb : rr = u
            · subst hb
              have HNX := Lib.hid (pre_next (v := .slice av rr.length cv) HP.out HPRE.out HIL.out HMM.out HKL.out HU.out H3.out)
              refine region_round_quiet rfl (by kernel_rfl) (by kernel_rfl) (fun _ _ h => h) ?_
              repeat (quiet_step (fail))
              refine wpQuiet_nil ?_
              intro _ hw'
              obtain ⟨nq2, hw''⟩ := hw'
              subst hw''
              gi_wp2
              have h := lj_more (n := nq + nq2) HB.out HI.out HK.out HIL.out HMM.out HKL.out H3.out HKX.out HKF.out
              exact ⟨h.1, h.2.1, by rw [List.length_append, List.length_singleton, ← HP.out]; exact h.2.2, HNX.out⟩
            · have hb' : (rr == u) = false := by simpa using hb
              have HB' := Lib.hid hb
              refine region_round_quiet rfl (by kernel_rfl) (by kernel_rfl) (fun _ _ h => h) ?_
              repeat (quiet_step (fail))
              refine wpQuiet_nil ?_
              intro _ hw'
              obtain ⟨nq2, hw''⟩ := hw'
              subst hw''
              gi_wp2
              exact ⟨keeps_ret HKF.out, rfl, pre_not HP.out HIL.out HMM.out HKL.out HU.out H3.out (fun h => HB'.out h.2)⟩
          · have hn' : ¬ (n : Int) = (i : Int) := by omega
            have HN' := Lib.hid hn
            refine region_round_quiet rfl (by kernel_rfl) (by kernel_rfl) (fun _ _ h => h) ?_
            repeat (quiet_step (fail))
            refine wpQuiet_nil ?_
            intro _ hw'
            obtain ⟨nq2, hw''⟩ := hw'
            subst hw''
            gi_wp2
            exact ⟨keeps_ret HKF.out, rfl, pre_not HP.out HIL.out HMM.out HKL.out HU.out H3.out (fun h => HN'.out h.1)⟩
    · rintro D2 ys Y3 hD2 hys ⟨hlj, -⟩ hK2
      have HTOT := Lib.hid (show ys.length = posN ls ls.length by rw [← flatN_length ls 0, ← hys, List.length_map])
      rw [HTOT.out] at hlj
      have HLJ := Lib.hid hlj; have HD2 := Lib.hid hD2; have HK2 := Lib.hid hK2
      clear hlj hD2 hK2 hys
      gi_wp2
      gi_loopw [] (fun wr => LJ ls Y (posN ls ls.length) wr ∧ KpX (fun b => b = Y.heap.size ∨ b = Y.heap.size + 1) Y3 wr ∧ KeepsFrom W7.heap.size Y3 wr) (fun wr => ls.length - boxI Y.heap.size wr)
      case atStart => exact ⟨HLJ.out, ⟨Nat.le_refl _, fun _ _ _ _ h _ => h⟩, KeepsFrom.refl _ _⟩
      case round =>
        obtain ⟨hlj, hkx, hkf⟩ := hrel
        obtain ⟨i, k, hb, hi, hk, h1, h2, h3⟩ := hlj
        have HKR : Hid (∀ c S, Kp c S w0 wr) := fun c S => (HKY.out c S).alloc_trans (Kp.of_below hb)
        have z0 : wr.cell? ⟨w.heap.size, 0, none⟩ = some (.pointer (some ⟨yb, 0, none⟩)) := (HSX.out wr HKR.out).1
        have z1 : wr.cell? ⟨yb, 2, none⟩ = some (.slice ay ls.length ky) := (HSX.out wr HKR.out).2.1
        have zi : wr.cell? ⟨Y.heap.size, 0, none⟩ = some (.int .i64 (i : Int)) := cell_of_heap hi 0
        have zk : wr.cell? ⟨Y.heap.size + 1, 0, none⟩ = some (.int .i64 (k : Int)) := cell_of_heap hk 0
        have fi : wr.frozen? ⟨Y.heap.size, 0, none⟩ = false := unfrozen_of_heap hi 0
        have zr : wr.cell? ⟨w.heap.size + 1, 0, none⟩ = some (.bool false) := cell_of_heap ((HKR.out c (fun _ => False)).heap HR0.out (fun h => h)) 0
        have fr : wr.frozen? ⟨w.heap.size + 1, 0, none⟩ = false := unfrozen_of_heap ((HKR.out c (fun _ => False)).heap HR0.out (fun h => h)) 0
        have fk : wr.frozen? ⟨Y.heap.size + 1, 0, none⟩ = false := unfrozen_of_heap hk 0
        by_cases hil : i < ls.length
        · obtain ⟨by_, oy, rfl⟩ : ∃ b o, ay = some ⟨b, o, none⟩ := by
            obtain ⟨a, kk, hv, _, _, hs⟩ := (HRX.out wr HKR.out).logW.shape
            injection hv with e1 _ _
            subst e1
            exact hs (by omega)
          obtain ⟨a1, m1, g1, B1⟩ := (HRX.out wr HKR.out).logW.get i hil
          have hkk : k = ls[i].length := by
            have e1 := posN_succ ls i hil
            have e2 := posN_end ls (i + 1) hil
            have e3 := h2 hil
            omega
          obtain ⟨M, hM⟩ : ∃ M, M = ls[i] := ⟨_, rfl⟩
          have hml := (HSM.out ls[i] (List.getElem_mem hil)).1
          rw [← hM] at g1 hml hkk
          clear h2 B1
          subst hkk
          have HB := Lib.hid hb; have HI := Lib.hid hi; have HK := Lib.hid hk; have H3 := Lib.hid h3; have HMM := Lib.hid hM; have HKX := Lib.hid hkx; have HKF := Lib.hid hkf; have HIL := Lib.hid hil
          clear hb hi hk h3 hM hkx hkf
          have hil' : (i : Int) < ls.length := by omega
          gi_wp2
          gi_quiet (fail)
          gi_wp2
          exact lj_step HB.out HI.out HK.out HIL.out HMM.out rfl H3.out HKX.out HKF.out
        · obtain rfl : i = ls.length := by omega
          have HB := Lib.hid hb; have HI := Lib.hid hi; have HK := Lib.hid hk; have HKF := Lib.hid hkf
          clear hb hi hk h3 hkx hkf h2 hil
          gi_wp2
          gi_quiet (fail)
          gi_wp2
          obtain ⟨V, hV⟩ : ∃ V, V = wr.drewN nq := ⟨_, rfl⟩
          rw [← hV]
          have hh : V.heap = wr.heap := by rw [hV]; rfl
          have HKV : Hid (∀ c S, Kp c S w0 V.drew) := fun c S => by rw [hV]; exact ((HKR.out c S).drewN nq).drew
          have v0 : V.drew.cell? ⟨w.heap.size, 0, none⟩ = some (.pointer (some ⟨yb, 0, none⟩)) := (HSX.out _ HKV.out).1
          have v1 : V.drew.cell? ⟨yb, 2, none⟩ = some (.slice ay ls.length ky) := (HSX.out _ HKV.out).2.1
          have v2' : V.drew.cell? ⟨Y.heap.size, 0, none⟩ = some (.int .i64 (ls.length : Int)) := (World.cell?_of_block (a := ⟨Y.heap.size, 0, none⟩) (show V.heap[Y.heap.size]? = wr.heap[Y.heap.size]? by rw [hh])).trans zi
          have HRV := Lib.hid ((HKV.out c (fun _ => False)).heap HR0.out (fun h => h))
          have HD1V := Lib.hid (show V.drew.heap[D1]? = some (.deferred (some [])) from ((show V.heap[D1]? = wr.heap[D1]? by rw [hh]).trans (HB.out.block D1 (lt_of_heap HK1.out))).trans HK1.out)
          have HD2V := Lib.hid (show V.drew.heap[D2]? = some (.deferred (some [])) from (show V.heap[D2]? = wr.heap[D2]? by rw [hh]).trans (HKF.out.same D2 _ HD2.out HK2.out rfl))
          have HDW := Lib.hid (show w.heap.size + 1 < D1 by have h1 := HD1.out; have h2 := (HK4.out c (fun _ => False)).size; have h3 := HZ0.out; omega)
          have HD12 := Lib.hid (show D1 < D2 by have h1 := HD2.out; have h2 := HZ7.out; have h3 := lt_of_heap HK1.out; omega)
          clear z0 z1 zi zk fi zr fr fk hh hV
          have hS0 := Lib.hid (show (fun X : World => X.cell? ⟨w.heap.size, 0, none⟩ = some (.pointer (some ⟨yb, 0, none⟩)) ∧ X.cell? ⟨yb, 2, none⟩ = some (.slice ay ls.length ky) ∧ X.cell? ⟨Y.heap.size, 0, none⟩ = some (.int .i64 (ls.length : Int))) V.drew from ⟨v0, v1, v2'⟩)
          have zr : V.drew.cell? ⟨w.heap.size + 1, 0, none⟩ = some (.bool false) := cell_of_heap HRV.out 0
          have fr : V.drew.frozen? ⟨w.heap.size + 1, 0, none⟩ = false := unfrozen_of_heap HRV.out 0
          obtain ⟨U, hU⟩ : ∃ U, U = V.drew := ⟨_, rfl⟩
          refine region_wideW (fun X : World => X.cell? ⟨w.heap.size, 0, none⟩ = some (.pointer (some ⟨yb, 0, none⟩)) ∧ X.cell? ⟨yb, 2, none⟩ = some (.slice ay ls.length ky) ∧ X.cell? ⟨Y.heap.size, 0, none⟩ = some (.int .i64 (ls.length : Int))) (l := 7) rfl ?_
          rw [← hU] at hS0 zr fr HKV HRV HD1V HD2V ⊢
          clear hU v0 v1 v2'
          refine wpAnyG_take (i := 0) (oi := _) (v := .int .i64 (ls.length : Int)) rfl (by kernel_rfl) (by kernel_rfl) (by kernel_rfl) (by kernel_rfl) (by kernel_rfl) (by kernel_rfl) (fun _ _ _ h => h) (Or.inl ⟨by rfl, fun X hX => ?_⟩) hS0.out ?_
          · obtain ⟨x1, x2, x3⟩ := hX
            go_simp
          simp only [Act.put, List.setIfInBounds_toArray]
          refine wpAnyG_take (i := 1) (oi := _) (v := .pointer (some ⟨yb, 0, none⟩)) rfl (by kernel_rfl) (by kernel_rfl) (by kernel_rfl) (by kernel_rfl) (by kernel_rfl) (by kernel_rfl) (fun _ _ _ h => h) (Or.inl ⟨by rfl, fun X hX => ?_⟩) hS0.out ?_
          · obtain ⟨x1, x2, x3⟩ := hX
            go_simp
          simp only [Act.put]
          refine wpAnyG_take (i := 2) (oi := _) (v := .pointer (some ⟨yb, 0, none⟩)) rfl (by kernel_rfl) (by kernel_rfl) (by kernel_rfl) (by kernel_rfl) (by kernel_rfl) (by kernel_rfl) (fun _ _ _ h => h) (Or.inl ⟨by rfl, fun X hX => ?_⟩) hS0.out ?_
          · obtain ⟨x1, x2, x3⟩ := hX
            go_simp
          simp only [Act.put]
          refine wpAnyG_take (i := 3) (oi := _) (v := .pointer (some ⟨yb, 2, none⟩)) rfl (by kernel_rfl) (by kernel_rfl) (by kernel_rfl) (by kernel_rfl) (by kernel_rfl) (by kernel_rfl) (fun _ _ _ h => h) (Or.inl ⟨by rfl, fun X hX => ?_⟩) hS0.out ?_
          · obtain ⟨x1, x2, x3⟩ := hX
            go_simp
          simp only [Act.put]
          refine wpAnyG_take (i := 4) (oi := _) (v := .slice ay ls.length ky) rfl (by kernel_rfl) (by kernel_rfl) (by kernel_rfl) (by kernel_rfl) (by kernel_rfl) (by kernel_rfl) (fun _ _ _ h => h) (Or.inl ⟨by rfl, fun X hX => ?_⟩) hS0.out ?_
          · obtain ⟨x1, x2, x3⟩ := hX
            go_simp
          simp only [Act.put]
          refine wpAnyG_take (i := 5) (oi := _) (v := .int .i64 (ls.length : Int)) rfl (by kernel_rfl) (by kernel_rfl) (by kernel_rfl) (by kernel_rfl) (by kernel_rfl) (by kernel_rfl) (fun _ _ _ h => h) (Or.inl ⟨by rfl, fun X hX => ?_⟩) hS0.out ?_
          · obtain ⟨x1, x2, x3⟩ := hX
            go_simp
          simp only [Act.put]
          refine wpAnyG_take (i := 6) (oi := _) (v := .bool true) rfl (by kernel_rfl) (by kernel_rfl) (by kernel_rfl) (by kernel_rfl) (by kernel_rfl) (by kernel_rfl) (fun _ _ _ h => h) (Or.inl ⟨by rfl, fun X hX => ?_⟩) hS0.out ?_
          · obtain ⟨x1, x2, x3⟩ := hX
            go_simp
          simp only [Act.put]
          refine wpAnyG_one (i := 7) (by kernel_rfl) rfl (fun K' hK' => ?_)
          go_simp
          refine hK'.out _ _ (fun h => absurd h (by decide)) ?_
          refine wpAnyG_done (by kernel_rfl) ?_
          refine NoPanic.normal ?_
          gi_wp2
          have hz : w.heap.size + 1 < D1 := HDW.out
          have hz2 : D1 < D2 := HD12.out
          have h2 : (U.setCell ⟨w.heap.size + 1, 0, none⟩ (.bool true)).heap[D2]? = some (.deferred (some [])) := (Below.heap_setCell U ⟨w.heap.size + 1, 0, none⟩ _ D2 (by show D2 ≠ w.heap.size + 1; omega)).trans HD2V.out
          have h1 : ((U.setCell ⟨w.heap.size + 1, 0, none⟩ (.bool true)).putObj D2 (.deferred none)).heap[D1]? = some (.deferred (some [])) := (World.putObj_heap_other (by omega)).trans ((Below.heap_setCell U ⟨w.heap.size + 1, 0, none⟩ _ D1 (by show D1 ≠ w.heap.size + 1; omega)).trans HD1V.out)
          have hc : (((U.setCell ⟨w.heap.size + 1, 0, none⟩ (.bool true)).putObj D2 (.deferred none)).putObj D1 (.deferred none)).cell? ⟨w.heap.size + 1, 0, none⟩ = some (.bool true) :=
            (World.cell?_of_block (World.putObj_heap_other (k := w.heap.size + 1) (by omega))).trans ((World.cell?_of_block (World.putObj_heap_other (k := w.heap.size + 1) (by omega))).trans (World.cell?_setCell_same' _ _ _ (by rw [zr]; rfl)))
          refine ⟨by simp, .inl ⟨_, _, rfl, run_takeDeferred h2, ?_⟩⟩
          refine ⟨by simp, .inl ⟨_, _, rfl, run_takeDeferred h1, ?_⟩⟩
          refine ⟨.bool true, ?_, rfl, fun S => ?_⟩
          · simp [results, Tryz.results25, go_sem, hc]
          · exact ((((HK0.out c S).trans (HKV.out c S) (Cx.refl _ _)).setCell (fun h => by have h : w.heap.size + 1 < w.heap.size := h; omega) _).grown (grownBy_putObj' _ D2 _) (fun g e h => by cases e; omega)).grown (grownBy_putObj' _ D1 _) (fun g e h => by cases e; omega)
end Go.Proofs.YtnifmoigalmcmaaGreat
