/- wal.Each over a log: its iterator's contract. -/
import Derived.RangeFuncNested
import Derived.Test.YtnifmoigalmcmaaGreatVr
import Derived.Test.YtnifmoigalmcmaaGreatYo
import Derived.Laws.IdiomStrings
namespace Go.Proofs.YtnifmoigalmcmaaGreat
open Go Go.RowKit Go.MapKept Go.Maps Go.Shelf
open Wl
attribute [local go_sem] Oper.semAt_some
variable {c c' : Col} {w w' : World}
/-- Batches in memory that no round turns. -/
def PL (Bx : Nat → Prop) (w : World) (v : Value) (LL : List (Value × List (Value × Bs))) : Prop :=
  ∃ a cap, v = .slice a LL.length cap ∧ (LL.length : Int) ≤ 1000000000 ∧ (0 < LL.length → ∃ g o cs t fz, a = some ⟨g, o, none⟩ ∧ ¬ Bx g ∧ w.heap[g]? = some (.cells cs t fz) ∧ ∀ j x, LL[j]? = some x → cs[o + j]? = some x.1) ∧ ∀ x ∈ LL, Pairs Bx w x.1 x.2
theorem PL.kpx {Bx : Nat → Prop} {v : Value} {LL : List (Value × List (Value × Bs))} (h : PL Bx w v LL) (hk : KpX Bx w w') : PL Bx w' v LL := by
  obtain ⟨a, cap, e, h1, h3, h4⟩ := h
  refine ⟨a, cap, e, h1, fun h0 => ?_, fun x hx => (h4 x hx).kpx hk⟩
  obtain ⟨g, o, cs, t, fz, e1, e2, e3, e4⟩ := h3 h0
  exact ⟨g, o, cs, t, fz, e1, e2, hk.2 g cs t fz e3 e2, e4⟩
/-- What is handed on, in order: the batch's number, the record. -/
def flw : Nat → List (Value × List (Value × Bs)) → List (Nat × Value × Bs)
  | _, [] => []
  | i, x :: r => x.2.map (fun y => (i, y)) ++ flw (i + 1) r
theorem flw_append (i : Nat) (a b : List (Value × List (Value × Bs))) : flw i (a ++ b) = flw i a ++ flw (i + a.length) b := by
  induction a generalizing i with
  | nil => simp [flw]
  | cons x r ih => simp only [List.cons_append, flw, ih, List.append_assoc, List.length_cons]; rw [show i + 1 + r.length = i + (r.length + 1) by omega]
theorem flw_succ (LL : List (Value × List (Value × Bs))) (j : Nat) (x : Value × List (Value × Bs)) (h : LL[j]? = some x) : flw 0 (LL.take (j + 1)) = flw 0 (LL.take j) ++ x.2.map (fun y => (j, y)) := by
  have hj : j < LL.length := (List.getElem?_eq_some_iff.1 h).1
  rw [List.take_add_one, h]
  simp only [Option.toList_some, flw_append, flw, List.append_nil, List.length_take, Nat.min_eq_left (Nat.le_of_lt hj), Nat.zero_add]
theorem kpx_gr {Bx : Nat → Prop} {A B : World} {row : Option Nat} (hg : A.grownBy B row) (hr : ∀ r, row = some r → ∃ o : Obj, A.heap[r]? = some o ∧ o.isCells = false) : KpX Bx A B :=
  ⟨hg.size, fun _ _ _ _ hb _ => (grownBy_keeps_cells hg hr hb rfl).trans hb⟩
theorem kpx_be {Bx : Nat → Prop} {A B : World} (h : Below A.heap.size A B) : KpX Bx A B := ⟨h.size, fun b _ _ _ hb _ => (h.block b (lt_of_heap hb)).trans hb⟩
theorem kpx_cell {Bx : Nat → Prop} {A B : World} (h : KpX Bx A B) {p : Addr} {v : Value} (hv : A.cell? p = some v) (hn : ¬ Bx p.block) : B.cell? p = some v := by
  obtain ⟨o, ho, hc⟩ := cells_of_cell hv
  cases o with
  | cells cs t fz => exact (World.cell?_of_block ((h.2 _ _ _ _ ho hn).trans ho.symm)).trans hv
  | _ => cases hc
theorem keepsFrom_le {B B' : Nat} {W W' : World} (h : KeepsFrom B W W') (hB : B ≤ B') : KeepsFrom B' W W' := ⟨h.size, fun k o hk => h.same k o (Nat.le_trans hB hk)⟩
/-- The marks that a function's ranges left among its deferred calls. -/
def Mks (B : Nat) (ds : List Deferred) (W : World) : Prop :=
  ∃ Ds : List Nat, ds = Ds.map (fun D => { target := .collected D, args := #[] }) ∧ Ds.Nodup ∧ ∀ D ∈ Ds, B ≤ D ∧ W.heap[D]? = some (.deferred (some []))
theorem Mks.from {B : Nat} {ds : List Deferred} {W W' : World} (h : Mks B ds W) (hk : KeepsFrom B W W') : Mks B ds W' := by
  obtain ⟨Ds, h1, h2, h3⟩ := h
  exact ⟨Ds, h1, h2, fun D hD => ⟨(h3 D hD).1, hk.same _ _ (h3 D hD).1 (h3 D hD).2 rfl⟩⟩
theorem Mks.cons {B D : Nat} {ds : List Deferred} {W W' : World} (h : Mks B ds W) (hk : KeepsFrom B W W') (hD : W.heap.size ≤ D) (hB : B ≤ D) (hd : W'.heap[D]? = some (.deferred (some []))) : Mks B ({ target := .collected D, args := #[] } :: ds) W' := by
  obtain ⟨Ds, h1, h2, h3⟩ := h
  refine ⟨D :: Ds, by rw [h1]; rfl, List.nodup_cons.2 ⟨fun hm => ?_, h2⟩, fun E hE => ?_⟩
  · have := lt_of_heap (h3 D hm).2
    omega
  · rcases List.mem_cons.1 hE with rfl | hE
    · exact ⟨hB, hd⟩
    · exact ⟨(h3 E hE).1, hk.same _ _ (h3 E hE).1 (h3 E hE).2 rfl⟩
theorem Mks.leaves {α : Type} {F : Fence} {n B : Nat} {P : Program} {fn : Func} {tmps : Array Value} {R : Ending → World → Prop} {ds : List Deferred} {J : α → World → Prop} {s : α} (hJ : OwnFrom B J)
    (hr : ∀ W', J s W' → ∃ v, (results fn tmps).run P W' = .ok v W' ∧ R (.returned v) W') : ∀ {W : World}, Mks B ds W → J s W → LeavesInM F n P fn tmps R ds .returning W := by
  rintro W ⟨Ds, rfl, h2, h3⟩ hj
  induction Ds generalizing W with
  | nil => exact hr W hj
  | cons D Ds ih =>
    refine ⟨by simp, .inl ⟨_, _, rfl, run_takeDeferred (h3 D (by simp)).2, ?_⟩⟩
    refine ih (List.nodup_cons.1 h2).2 (fun E hE => ⟨(h3 E (by simp [hE])).1, ?_⟩) (hJ.putObj _ hj (h3 D (by simp)).1 (h3 D (by simp)).2 rfl)
    have hne : E ≠ D := fun e => (List.nodup_cons.1 h2).1 (e ▸ hE)
    exact (World.putObj_heap_other hne).trans (h3 E (by simp [hE])).2
theorem flw_pre (LL : List (Value × List (Value × Bs))) (j : Nat) (x : Value × List (Value × Bs)) (h : LL[j]? = some x) (pre : List (Value × Bs)) (hp : pre <+: x.2) : flw 0 (LL.take j) ++ pre.map (fun y => (j, y)) <+: flw 0 LL := by
  obtain ⟨r, hr⟩ := hp
  have h1 : flw 0 LL = flw 0 (LL.take (j + 1)) ++ flw (0 + (LL.take (j + 1)).length) (LL.drop (j + 1)) := by rw [← flw_append, List.take_append_drop]
  rw [h1, flw_succ LL j x h, ← hr, List.map_append]
  exact ⟨r.map (fun y => (j, y)) ++ flw (0 + (LL.take (j + 1)).length) (LL.drop (j + 1)), by simp only [List.append_assoc]⟩
def HoldsN (x : Nat × Value × Bs) (W : World) : Prop := HoldsR x.2 W
set_option maxRecDepth 100000 in
set_option maxHeartbeats 4000000 in
theorem weachq_in (n : Nat) (hn : 3 ≤ n) (l Bn B0 : Nat) (p : Option Addr) (N : Nat) (Bx : Nat → Prop) (G : List (Nat × Value × Bs) → Prop) (J Jx : List (Nat × Value × Bs) → World → Prop)
    (hY : ∀ pre x W, J pre W → pre.length < N → HoldsN x W → YieldAt Fence.wide (n - 1) Tryz.prog l #[.int .i64 (x.1 : Nat), x.2.1] W fun e W' =>
      (e = .returned (.bool true) ∧ J (pre ++ [x]) W' ∧ KpX Bx W W' ∧ KeepsFrom B0 W W') ∨ (e = .returned (.bool false) ∧ Jx (pre ++ [x]) W' ∧ KeepsFrom B0 W W'))
    (W : World) (hB0 : B0 = W.heap.size) (hBx : ∀ b, Bx b → b < B0) (hJx : OwnFrom W.heap.size Jx) (hBn : W.cell? ⟨Bn, 0, none⟩ = some (.pointer p)) (hJ : OwnFrom W.heap.size J)
    (HF : Calls Tryz.prog 85 #[.pointer p] (W.alloc (.cells #[.func (.yield l) #[] #[]] 205)) fun e w' => ∃ v LL, e = .returned v ∧ (W.alloc (.cells #[.func (.yield l) #[] #[]] 205)).grownBy w' none ∧ PL Bx w' v LL ∧ (flw 0 LL).length ≤ N ∧ G (flw 0 LL)) (h0 : J [] W) :
    CallsIn Fence.wide n Tryz.prog 139 #[.func (.yield l) #[] #[], .pointer (some ⟨Bn, 0, none⟩)] W fun e W' => (∃ v, e = .returned v) ∧
      ((∃ ys, G ys ∧ J ys W') ∨ (∃ pre, (∃ ys, G ys ∧ pre <+: ys) ∧ Jx pre W')) := by
  have HJ := Lib.hid hJ; clear hJ
  have H0 := Lib.hid h0; clear h0
  have HYY := Lib.hid hY; clear hY
  have HF1 := Lib.hid HF; clear HF
  have hB2 : (W.alloc (.cells #[.func (.yield l) #[] #[]] 205)).cell? ⟨Bn, 0, none⟩ = some (.pointer p) := (World.cell?_alloc_lt _ _ _ (World.block_lt_of_cell? _ _ hBn)).trans hBn
  clear hBn
  refine callsIn_of_wp_marks Tryz.func139 rfl trivial ?_ rfl
  simp only [Tryz.ntmps139, List.size_toArray, List.length_cons, List.length_nil, Nat.reduceAdd, Nat.reduceSub, Array.replicate_succ, Array.replicate_zero, List.push_toArray, List.append_toArray, List.nil_append, List.cons_append]
  gi_wp2
  refine ⟨trivial, fun _ => by omega, ?_⟩
  gi_at_call 85
  refine (callsIn_wide.2 HF1.out).mono ?_
  rintro e w1 ⟨v, LL, rfl, hg, hh, hN, hG⟩
  obtain ⟨a, cap, rfl, h1, h3, h4⟩ := hh
  have HG := Lib.hid hg; have H3 := Lib.hid h3; have H4 := Lib.hid h4; have HGG := Lib.hid hG; have HN := Lib.hid hN; clear hg h3 h4 hG hN
  gi_wp2
  refine wpIn_loop (fun b wr => ∃ (j : Nat) (ds : List Deferred) (u3 u4 u5 u10 u11 u12 u13 u14 u15 u16 u17 u18 u19 u20 u21 u22 : Value), b = { tmps := #[.func (.yield l) #[] #[], .pointer (some ⟨Bn, 0, none⟩), .pointer (some ⟨W.heap.size, 0, none⟩), u3, u4, u5, .pointer p, .slice a LL.length cap, .int .i64 LL.length, .int .i64 j, u10, u11, u12, u13, u14, u15, u16, u17, u18, u19, u20, u21, u22], defers := ds } ∧ j ≤ LL.length ∧ Mks B0 ds wr ∧ J (flw 0 (LL.take j)) wr ∧ KpX Bx w1 wr) (fun b _ => LL.length - (intOf (b.tmps[9]?.getD undef)).toNat) ?start ?round
  case start => exact ⟨0, [], _, _, _, _, _, _, _, _, _, _, _, _, _, _, _, _, rfl, Nat.zero_le _, ⟨[], rfl, List.nodup_nil, fun _ h => by cases h⟩, HJ.out _ _ _ none (HJ.out _ _ _ none H0.out (grown_alloc _ _) (fun r e => by cases e)) HG.out (fun r e => by cases e), ⟨Nat.le_refl _, fun _ _ _ _ h _ => h⟩⟩
  case round =>
    rintro aa wr ⟨j, ds, u3, u4, u5, u10, u11, u12, u13, u14, u15, u16, u17, u18, u19, u20, u21, u22, rfl, hj, hm, hJs, hks⟩
    have HM := Lib.hid hm; clear hm
    by_cases hlt : j < LL.length
    · obtain ⟨x, hx⟩ : ∃ x, LL[j]? = some x := ⟨LL[j], List.getElem?_eq_getElem hlt⟩
      obtain ⟨g, o, cs, t, fz, rfl, nb, hh, hc⟩ := H3.out (by omega)
      have c1 := hc j x hx
      have hp := H4.out x (List.mem_of_getElem? hx)
      obtain ⟨xv, L⟩ := x
      obtain ⟨ad, kd, hxv, h1', -⟩ := id hp
      simp only at hxv h1' c1 hp
      subst hxv
      have g1 : wr.cell? ⟨g, o + j, none⟩ = some (.slice ad L.length kd) := (cell_of_heap (hks.2 _ _ _ _ hh nb) _).trans c1
      have HP := Lib.hid hp; clear hp
      have HJS := Lib.hid hJs; have HKS := Lib.hid hks; clear hJs hks
      clear hh hc c1
      gi_wp2
      refine ⟨trivial, fun _ => by omega, ?_⟩
      gi_at_call 140
      refine (callsIn_wide.2 (recs_c ad L.length kd _)).mono ?_
      rintro e w2 ⟨rfl, hw2⟩
      have HJ2 := Lib.hid (show J (flw 0 (LL.take j)) w2 by rw [hw2]; exact HJ.out _ _ _ none (HJ.out _ _ _ none HJS.out (grown_alloc _ _) (fun r e => by cases e)) (grown_alloc _ _) (fun r e => by cases e))
      have HK2 := Lib.hid (show KpX Bx wr w2 by rw [hw2]; exact kpx_t (kpx_alloc _ _) (kpx_alloc _ _))
      have hb2 : w2.cell? ⟨wr.heap.size + 1, 0, none⟩ = some (.slice ad L.length kd) := by
        rw [hw2]
        have h := cell_of_heap (heap_alloc_new (wr.alloc (.cells #[.int .i64 (j : Nat)] 3)) (.cells #[.slice ad L.length kd] 40)) 0
        rwa [World.size_alloc] at h
      have hi2 : w2.cell? ⟨wr.heap.size, 0, none⟩ = some (.int .i64 (j : Nat)) := by
        rw [hw2]
        exact cell_of_heap (heap_alloc_old _ (heap_alloc_new wr (.cells #[.int .i64 (j : Nat)] 3))) 0
      have hkf2 : KeepsFrom B0 wr w2 := by rw [hw2]; exact (KeepsFrom.of_grownBy (grown_alloc _ _) (fun r e => by cases e)).trans (KeepsFrom.of_grownBy (grown_alloc _ _) (fun r e => by cases e))
      have hs2 : w2.heap.size = wr.heap.size + 2 := by rw [hw2]; simp
      clear hw2
      have HI2 := Lib.hid hi2; have HB2 := Lib.hid hb2; have HS2 := Lib.hid hs2; clear hi2 hb2 hs2
      gi_wp2
      have hy2 : w2.cell? ⟨W.heap.size, 0, none⟩ = some (.func (.yield l) #[] #[]) := kpx_cell (kpx_t HKS.out HK2.out) ((World.cell?_of_block (HG.out.block W.heap.size (by simp) (by simp))).trans (cell_of_heap (heap_alloc_new W (.cells #[.func (.yield l) #[] #[]] 205)) 0)) (fun h => absurd (hBx W.heap.size h) (by omega))
      have HY2 := Lib.hid hy2; clear hy2
      have HWS := Lib.hid (show W.heap.size < wr.heap.size by have h1 := HG.out.size; have h2 := HKS.out.1; simp at h1; omega)
      have HP2 := Lib.hid ((HP.out.kpx HKS.out).kpx HK2.out)
      have HKF := Lib.hid hkf2
      clear hkf2
      have hlen : (flw 0 (LL.take j)).length + L.length ≤ N := by
        have h1 := (flw_pre LL j _ hx L (List.prefix_refl _)).length_le
        have h2 := HN.out
        simp only [List.length_append, List.length_map] at h1
        omega
      have HLEN := Lib.hid hlen; clear hlen
      refine' wpIn_rangeFunc_Q (α := Value × Bs) rfl (by omega) (gf := 171) (lb := #[.pointer (some ⟨wr.heap.size + 1, 0, none⟩)]) rfl trivial (enters_of Tryz.func171 (by kernel_rfl) rfl)
        (recsq_stops (n - 1) (by omega) (wr.heap.size + 1) (.slice ad L.length kd) L Bx w2 HB2.out (fun W' hW' => HP2.out.kpx (kpx_be hW'))) (fun h k => kpx_t h k) (fun W l o o' h1 h2 h3 h4 => kpx_b W l o o' h1 h2 h3 h4) (Below.refl _ _) (fun x => rfl)
        (fun pre Y => J (flw 0 (LL.take j) ++ pre.map (fun y => (j, y))) Y ∧ KpX Bx w2 Y ∧ KeepsFrom B0 w2 Y) (fun cc pre Y => cc = .ret ∧ Jx (flw 0 (LL.take j) ++ pre.map (fun y => (j, y))) Y ∧ KeepsFrom B0 w2 Y) ?hI ?hIx (holdsR_own _) ?h0 _ ?assign ?body ?done ?stop
      case hI =>
        rintro s A B row ⟨h1, h2, h3⟩ hg hr
        exact ⟨HJ.out _ _ _ row h1 hg (fun r e => ⟨by have := (hr r e).1; have := HS2.out; have := HWS.out; omega, (hr r e).2⟩), kpx_t h2 (kpx_gr hg (fun r e => (hr r e).2)), Go.ownFrom_keepsFrom (β := Unit) (Nat.le_refl _) () A B row h3 hg hr⟩
      case hIx =>
        rintro cc s A B row ⟨h0, h1, h3⟩ hg hr
        exact ⟨h0, hJx _ _ _ row h1 hg (fun r e => ⟨by have := (hr r e).1; have := HS2.out; have := HWS.out; omega, (hr r e).2⟩), Go.ownFrom_keepsFrom (β := Unit) (Nat.le_refl _) () A B row h3 hg hr⟩
      case h0 => exact ⟨by simpa using HJ2.out, ⟨Nat.le_refl _, fun _ _ _ _ h _ => h⟩, KeepsFrom.refl _ _⟩
      case assign =>
        rintro l' x Y K hK
        gi_wp2
        exact hK
      case body =>
        rintro l' pre ⟨xv, r⟩ Y ⟨hj1, hk1, hf1⟩ hlt1 hx1
        obtain ⟨ax, cx, hxv, -⟩ := id hx1
        simp only [List.length_map] at hxv
        subst hxv
        have b1 : Y.cell? ⟨W.heap.size, 0, none⟩ = some (.func (.yield l) #[] #[]) := kpx_cell hk1 HY2.out (fun h => absurd (hBx W.heap.size h) (by omega))
        have b2 : Y.cell? ⟨wr.heap.size, 0, none⟩ = some (.int .i64 (j : Nat)) := kpx_cell hk1 HI2.out (fun h => absurd (hBx wr.heap.size h) (by have := HWS.out; omega))
        obtain ⟨fn, tmps, assign, body, hy, hR⟩ := yieldAt_wide (m := n - 1 - 1 - 1) (l' := l') (HYY.out (flw 0 (LL.take j) ++ pre.map (fun y => (j, y))) (j, .slice ax r.length cx, r) _ hj1 (by simp only [List.length_append, List.length_map]; have := HLEN.out; omega) hx1)
        simp only at hy
        have HF1' := Lib.hid hf1
        have HK1' := Lib.hid hk1
        have hap : (flw 0 (LL.take j) ++ pre.map (fun y => (j, y))) ++ [(j, Value.slice ax r.length cx, r)] = flw 0 (LL.take j) ++ (pre ++ [(Value.slice ax r.length cx, r)]).map (fun y => (j, y)) := by simp only [List.map_append, List.append_assoc, List.map_cons, List.map_nil]
        have HAP := Lib.hid hap; clear hap
        clear hj1 hx1 hk1 hf1
        have hlw : w2.heap.size ≥ B0 := by have := HWS.out; have := HS2.out; omega
        have HLW := Lib.hid hlw; clear hlw
        gi_wp2
        refine ⟨fun h => (nomatch h), hR.mono ?_⟩
        rintro e W3 (⟨rfl, hJ3, hk3, hf3⟩ | ⟨rfl, hJx3, hf3⟩)
        · rw [HAP.out] at hJ3
          have HJ3 := Lib.hid hJ3; have HK3 := Lib.hid hk3; have HF3 := Lib.hid hf3; clear hJ3 hk3 hf3
          clear hy hR b1 b2
          gi_wp2
          exact ⟨keepsFrom_le HF3.out HLW.out, HK3.out, HJ3.out, kpx_t HK1'.out HK3.out, HF1'.out.trans HF3.out⟩
        · rw [HAP.out] at hJx3
          have HJ3 := Lib.hid hJx3; have HF3 := Lib.hid hf3; clear hJx3 hf3
          clear hy hR b1 b2
          gi_wp2
          exact ⟨keepsFrom_le HF3.out HLW.out, rfl, HJ3.out, HF1'.out.trans HF3.out⟩
      case done =>
        rintro D ys Y hD rfl ⟨hj1, hk1, hf1⟩ hd1
        have HM1 := Lib.hid (HM.out.cons (HKF.out.trans hf1) (by have := HS2.out; omega) (by have := HWS.out; have := HS2.out; omega) hd1)
        have HJ1 := Lib.hid (show J (flw 0 (LL.take (j + 1))) Y by rw [flw_succ LL j _ hx]; exact hj1)
        have HK1 := Lib.hid (kpx_t (kpx_t HKS.out HK2.out) hk1)
        clear hj1 hk1 hf1 hd1
        gi_wp2
        exact ⟨⟨j + 1, _, _, _, _, _, _, _, _, _, _, _, _, _, _, _, _, _, by go_num, by omega, HM1.out, HJ1.out, HK1.out⟩, by simp [intOf]; omega⟩
      case stop =>
        rintro D cc pre Y hD hpre ⟨rfl, hj1, hf1⟩ hd1
        have HM1 := Lib.hid (HM.out.cons (HKF.out.trans hf1) (by have := HS2.out; omega) (by have := HWS.out; have := HS2.out; omega) hd1)
        have HJ1 := Lib.hid hj1
        clear hj1 hf1 hd1
        gi_wp2
        exact HM1.out.leaves (J := fun _ Y => Jx (flw 0 (LL.take j) ++ pre.map (fun y => (j, y))) Y) (s := ()) (fun _ A B row h hg hr => hJx _ A B row h hg (fun r e => ⟨by have := (hr r e).1; omega, (hr r e).2⟩)) (fun W' h => ⟨_, results_none rfl _ _ _, ⟨_, rfl⟩, .inr ⟨_, ⟨_, HGG.out, flw_pre LL j _ hx pre hpre⟩, h⟩⟩) HJ1.out
    · have HJ3 := Lib.hid hJs; clear hJs
      obtain rfl : j = LL.length := by omega
      gi_wp2
      exact HM.out.leaves (J := fun _ Y => J (flw 0 (LL.take LL.length)) Y) (s := ()) (fun _ A B row h hg hr => HJ.out _ A B row h hg (fun r e => ⟨by have := (hr r e).1; omega, (hr r e).2⟩)) (fun W' h => ⟨_, results_none rfl _ _ _, ⟨_, rfl⟩, .inl ⟨_, HGG.out, by rw [List.take_length] at h; exact h⟩⟩) HJ3.out
/-- A log's records, handed on one by one with their batch's number. -/
theorem weachq_stops (n : Nat) (hn : 3 ≤ n) (Bn : Nat) (p : Option Addr) (N : Nat) (Bx : Nat → Prop) (G : List (Nat × Value × Bs) → Prop) (w : World) (hBx : ∀ b, Bx b → b < w.heap.size) (hBn : w.cell? ⟨Bn, 0, none⟩ = some (.pointer p))
    (HF : ∀ W, Below w.heap.size w W → Calls Tryz.prog 85 #[.pointer p] W fun e w' => ∃ v LL, e = .returned v ∧ W.grownBy w' none ∧ PL Bx w' v LL ∧ (flw 0 LL).length ≤ N ∧ G (flw 0 LL)) :
    SeqStopsQ Fence.wide n Tryz.prog 139 #[.pointer (some ⟨Bn, 0, none⟩)] (fun x : Nat × Value × Bs => #[.int .i64 (x.1 : Nat), x.2.1]) HoldsN (KpX Bx) G (fun pre => ∃ ys, G ys ∧ pre <+: ys) N w := fun l J Jx W hW hJ hJx hY h0 =>
  weachq_in n hn l Bn W.heap.size p N Bx G J Jx hY W rfl (fun b hb => Nat.lt_of_lt_of_le (hBx b hb) hW.size) hJx ((hW.cell (p := ⟨Bn, 0, none⟩) (World.block_lt_of_cell? _ _ hBn)).trans hBn) hJ (HF _ (hW.alloc hW.size _)) h0
theorem holdsN_own (B : Nat) : OwnFrom B HoldsN := fun x W W' row h hg hr => holdsR_own B x.2 W W' row h hg hr
end Go.Proofs.YtnifmoigalmcmaaGreat
/- The law's few over one step; cairnref10.Same. -/
namespace Go.Proofs.YtnifmoigalmcmaaGreat
open Go Go.RowKit
open Wl
variable {c c' : Col} {w w' : World} {S : Nat × Nat → Prop} {q : Nat × Nat}
def sumL (l : List Bs) (i : Nat) : Nat := ((l.take i).map List.length).sum
def tot (l : List Bs) : Nat := l.length + (l.map List.length).sum
theorem sumL_succ (l : List Bs) (i : Nat) (h : i < l.length) : sumL l (i + 1) = sumL l i + l[i].length := by
  unfold sumL
  rw [List.take_succ_eq_append_getElem h, List.map_append, List.sum_append]; simp
theorem sumL_full (l : List Bs) : tot l = l.length + sumL l l.length := by unfold tot sumL; rw [List.take_length]
end Go.Proofs.YtnifmoigalmcmaaGreat
/- cairnref10.Same: whether two lists of batches are alike. -/
namespace Go.Proofs.YtnifmoigalmcmaaGreat
open Go Go.RowKit
open Wl
variable {c c' : Col} {w w' : World} {S : Nat × Nat → Prop} {q : Nat × Nat}
theorem Sw.any {v : Value} {xs : List Value} (h : Sw w c q v xs) : Sw w c00 (0, 0) v xs := by
  obtain ⟨a, cap, h1, h2, h3, h4, h5⟩ := h
  exact ⟨a, cap, h1, h2, h3, h4, fun ad had j u hj => ⟨(h5 ad had j u hj).1, rfl, (h5 ad had j u hj).2.2⟩⟩
theorem BatW.any {q1 q2 : Nat × Nat} {v : Value} {l : List Bs} (h : BatW w c q1 q2 v l) : BatW w c00 (0, 0) (0, 0) v l := by
  obtain ⟨xs, a, b, d⟩ := h
  exact ⟨xs, a.any, b, fun i x y hx hy => (d i x y hx hy).any⟩
theorem LogW.any {v : Value} {l : List (List Bs)} (h : LogW w c q v l) : LogW w c00 (0, 0) v l := by
  obtain ⟨xs, a, b, d⟩ := h
  exact ⟨xs, a.any, b, fun i x y hx hy => (d i x y hx hy).any⟩
theorem Grow.logW {B : Nat} {v : Value} {cf : Col} {l : List (List Bs)} {e : TypeId} (G : Grow QL B w e v cf l) : LogW w c00 (0, 0) v l := by
  obtain ⟨⟨xs, ho, hx⟩, hc, -, -⟩ := G
  refine ⟨xs, (Sc.of_owns ho hc).wide.any, by simpa using ho.1, fun i x y hx' hy => ((hx i x y hx' hy).wide).any⟩
theorem Sw.take {v : Value} {xs : List Value} (h : Sw w c q v xs) (n : Nat) (hn : n ≤ xs.length) : ∃ a k, v = .slice a xs.length k ∧ Sw w c q (.slice a n k) (xs.take n) := by
  obtain ⟨a, cap, rfl, h2, h3, h4, h5⟩ := h
  refine ⟨a, cap, rfl, a, cap, by rw [List.length_take, Nat.min_eq_left hn], by rw [List.length_take]; omega, h3, h4, fun ad had j u hj => h5 ad had j u ?_⟩
  rw [List.getElem?_take] at hj
  split at hj
  · exact hj
  · cases hj
theorem LogW.take {v : Value} {l : List (List Bs)} (h : LogW w c q v l) (n : Nat) (hn : n ≤ l.length) : ∃ a k, v = .slice a l.length k ∧ LogW w c q (.slice a n k) (l.take n) := by
  obtain ⟨xs, a, b, d⟩ := h
  obtain ⟨ad, k, h1, h2⟩ := a.take n (by omega)
  refine ⟨ad, k, by rw [h1, b], xs.take n, h2, by simp [b], fun i x y hx hy => ?_⟩
  rw [List.getElem?_take] at hx hy
  split at hx
  · rw [if_pos (by assumption)] at hy
    exact d i x y hx hy
  · cases hx
theorem LogW.shape {v : Value} {l : List (List Bs)} (h : LogW w c q v l) : ∃ a k, v = .slice a l.length k ∧ l.length ≤ k ∧ k ≤ maxLen ∧ (l.length ≠ 0 → ∃ b o, a = some ⟨b, o, none⟩) := by
  obtain ⟨xs, ⟨a, cap, rfl, h2, h3, h4, h5⟩, b, d⟩ := h
  refine ⟨a, cap, by rw [b], by omega, h3, fun hn => ?_⟩
  cases a with
  | none => have := h4 rfl; omega
  | some ad =>
    have := (h5 ad rfl 0 (xs[0]'(by omega)) (List.getElem?_eq_getElem _)).1
    obtain ⟨b, o, s⟩ := ad
    cases this
    exact ⟨b, o, rfl⟩
theorem LogW.get {b o n k : Nat} {l : List (List Bs)} (h : LogW w c q (.slice (some ⟨b, o, none⟩) n k) l) (j : Nat) (hj : j < l.length) : ∃ a m, w.cell? ⟨b, o + j, none⟩ = some (.slice a l[j].length m) ∧ BatW w c q q (.slice a l[j].length m) l[j] := by
  obtain ⟨xs, ⟨a, cap, hv, h2, h3, h4, h5⟩, hl, d⟩ := h
  injection hv with e1 e2 e3
  subst e1
  have hj' : j < xs.length := by omega
  have h1 := d j xs[j] l[j] (List.getElem?_eq_getElem hj') (List.getElem?_eq_getElem hj)
  have h2 := (h5 _ rfl j xs[j] (List.getElem?_eq_getElem hj')).2.2
  obtain ⟨ys, ⟨a, m, he, h3⟩, hyl, hd⟩ := id h1
  rw [hyl] at he
  rw [he] at h1 h2
  exact ⟨a, m, h2, h1⟩
theorem BatW.spot {a : Option Addr} {q1 q2 : Nat × Nat} {n k : Nat} {l : List Bs} (h : BatW w c q1 q2 (.slice a n k) l) (hn : l.length ≠ 0) : ∃ b o, a = some ⟨b, o, none⟩ := by
  rcases h.at with ⟨a', cap, hv, rfl⟩ | ⟨b, o, cap, hv, _⟩
  · exact absurd rfl hn
  · injection hv with e1 _ _; exact ⟨b, o, e1⟩
theorem BatW.get {b o n k : Nat} {q1 q2 : Nat × Nat} {l : List Bs} (h : BatW w c q1 q2 (.slice (some ⟨b, o, none⟩) n k) l) (j : Nat) (hj : j < l.length) : ∃ a m, w.cell? ⟨b, o + j, none⟩ = some (.slice a l[j].length m) ∧ Sw w c q2 (.slice a l[j].length m) (l[j].map bv) := by
  rcases h.at with ⟨a', cap, hv, rfl⟩ | ⟨b', o', cap, hv, _, _, hx⟩
  · exact absurd hj (by simp)
  · injection hv with e1 _ _; injection e1 with e1; injection e1 with e1 e2 _
    subst e1 e2
    exact hx j hj
theorem BatW.le {v : Value} {q1 q2 : Nat × Nat} {l : List Bs} (h : BatW w c q1 q2 v l) : (l.length : Int) ≤ 9223372036854775807 := by
  obtain ⟨xs, ⟨a, cap, rfl, h2, h3, h4, h5⟩, b, d⟩ := h
  unfold maxLen at h3
  omega
theorem conv_sw {v : Value} {l : List UInt8} (h : Sw w c q v (l.map bv)) : (convert 41 9 v).run Tryz.prog w = .ok (.string ⟨l.toArray⟩) w := by
  obtain ⟨a, cap, rfl, hcap, _, h0, h1⟩ := h
  rw [List.length_map]
  cases a with
  | none =>
    have h0 : l = [] := by
      have h2 := h0 rfl
      rw [List.length_map] at hcap
      exact List.eq_nil_of_length_eq_zero (by omega)
    subst h0
    rw [run_convert_bytes_string w 41 9 5 none _ cap Tryz.underlying41 Tryz.underlying5 Tryz.underlying9]
    rfl
  | some ad =>
    refine run_convert_bytes_back w 41 9 5 ad cap l Tryz.underlying41 Tryz.underlying5 Tryz.underlying9 (fun j hj => ?_)
    obtain ⟨h2, _, h3⟩ := h1 ad rfl j (bv (l[j])) (by rw [List.getElem?_map, List.getElem?_eq_getElem hj]; rfl)
    rw [add_eq h2]
    exact h3
theorem take_step {α : Type} {l m : List α} {j : Nat} (h : l.take j = m.take j) (hl : j < l.length) (hm : j < m.length) (h1 : l[j] = m[j]) : l.take (j + 1) = m.take (j + 1) := by
  rw [List.take_succ_eq_append_getElem hl, List.take_succ_eq_append_getElem hm, h, h1]
theorem take_all {α : Type} {l m : List α} {j : Nat} (h : l.take j = m.take j) (hl : l.length ≤ j) (hm : m.length ≤ j) : l = m := by
  rw [List.take_of_length_le hl, List.take_of_length_le hm] at h
  exact h
theorem not_at {α : Type} {l m : List α} {j : Nat} (hl : j < l.length) (hm : j < m.length) (h : l[j] ≠ m[j]) : l ≠ m := by
  rintro rfl
  exact h rfl
set_option maxRecDepth 20000 in
set_option maxHeartbeats 8000000 in
theorem sameW_c (v1 v2 : Value) (l1 l2 : List (List Bs)) (w : World) (h1 : LogW w c00 (0, 0) v1 l1) (h2 : LogW w c00 (0, 0) v2 l2) :
    Calls Tryz.prog 84 #[v1, v2] w fun e w' => e = .returned (.bool (decide (l1 = l2))) ∧ ∀ c S, Kp c S w w' := by
  obtain ⟨a1, k1, rfl, m1, n1, p1⟩ := h1.shape
  obtain ⟨a2, k2, rfl, m2, n2, p2⟩ := h2.shape
  have P1 := Lib.hid p1; have P2 := Lib.hid p2; clear p1 p2
  have H1 := Lib.hid h1; clear h1
  have H2 := Lib.hid h2; clear h2
  unfold maxLen at n1 n2
  by_cases hle : l1.length = l2.length
  · rw [← hle] at H2 P2 m2 ⊢
    have HLE := Lib.hid hle
    clear hle
    go_enter Tryz.func84, Tryz.ntmps84
    go_wp2
    go_loopw [14] (fun s wr => ∃ j : Nat, j ≤ l1.length ∧ s = .int .i64 j ∧ l1.take j = l2.take j ∧ ∀ c S, Kp c S w wr) (fun s _ => l1.length - (intOf s).toNat)
    case atStart => exact ⟨0, Nat.zero_le _, rfl, rfl, fun c S => Kp.refl _ _ _⟩
    case round =>
      obtain ⟨j, hj, rfl, ht, hk⟩ := hrel
      have HT := Lib.hid ht; clear ht
      have HK := Lib.hid hk; clear hk
      by_cases hlt : j < l1.length
      · have hlt2 : j < l2.length := by have := HLE.out; omega
        obtain ⟨b1, o1, rfl⟩ := P1.out (by omega)
        obtain ⟨b2, o2, rfl⟩ := P2.out (by omega)
        obtain ⟨a3, k3, g3, B3⟩ := H1.out.get j hlt
        obtain ⟨a4, k4, g4, B4⟩ := H2.out.get j hlt2
        have hstep : l1[j] = l2[j] → l1.take (j + 1) = l2.take (j + 1) := fun h => take_step HT.out hlt hlt2 h
        have hnot : l1[j] ≠ l2[j] → l1 ≠ l2 := fun h => not_at hlt hlt2 h
        obtain ⟨x, hx⟩ : ∃ x, x = l1[j] := ⟨_, rfl⟩
        obtain ⟨y, hy⟩ : ∃ y, y = l2[j] := ⟨_, rfl⟩
        rw [← hx] at g3 B3 hstep hnot
        rw [← hy] at g4 B4 hstep hnot
        have HX := Lib.hid hx; have HY := Lib.hid hy; clear hx hy
        have HSTEP := Lib.hid hstep; have HNOT := Lib.hid hnot; clear hstep hnot
        have HB3 := Lib.hid B3; have HB4 := Lib.hid B4; clear B3 B4
        by_cases hxy : x.length = y.length
        · rw [← hxy] at g4 HB4
          have HXY := Lib.hid hxy; clear hxy
          have G3 := Lib.hid g3; have G4 := Lib.hid g4; clear g3 g4
          have p3 := (HK.out c00 (fun _ => False)).cell G3.out (fun h => h)
          have p4 := (HK.out c00 (fun _ => False)).cell G4.out (fun h => h)
          go_wp2
          go_quiet (fail)
          go_wp2
          have hxl := HB3.out.le
          go_loopw [33] (fun s wr => ∃ i : Nat, i ≤ x.length ∧ s = .int .i64 i ∧ x.take i = y.take i ∧ ∀ c S, Kp c S w wr) (fun s _ => x.length - (intOf s).toNat)
          case atStart => exact ⟨0, Nat.zero_le _, rfl, rfl, fun c S => (HK.out c S).drewN _⟩
          case round =>
            obtain ⟨i, hi, rfl, ht, hk⟩ := hrel
            have HT2 := Lib.hid ht; clear ht
            have HK2 := Lib.hid hk; clear hk
            by_cases hi1 : i < x.length
            · have hi2 : i < y.length := by have := HXY.out; omega
              obtain ⟨b3, o3, rfl⟩ := HB3.out.spot (by omega)
              obtain ⟨b4, o4, rfl⟩ := HB4.out.spot (by omega)
              obtain ⟨a5, k5, g5, s5⟩ := HB3.out.get i hi1
              obtain ⟨a6, k6, g6, s6⟩ := HB4.out.get i hi2
              clear p3 p4
              have r3 := (HK2.out c00 (fun _ => False)).cell G3.out (fun h => h)
              have r4 := (HK2.out c00 (fun _ => False)).cell G4.out (fun h => h)
              have r5 := (HK2.out c00 (fun _ => False)).cell g5 (fun h => h)
              have r6 := (HK2.out c00 (fun _ => False)).cell g6 (fun h => h)
              have hst : x[i] = y[i] → x.take (i + 1) = y.take (i + 1) := fun h => take_step HT2.out hi1 hi2 h
              have hno : x[i] ≠ y[i] → x ≠ y := fun h => not_at hi1 hi2 h
              obtain ⟨u, hu⟩ : ∃ u, u = x[i] := ⟨_, rfl⟩
              obtain ⟨v, hv⟩ : ∃ v, v = y[i] := ⟨_, rfl⟩
              rw [← hu] at r5 s5 hst hno
              rw [← hv] at r6 s6 hst hno
              have HST := Lib.hid hst; have HNO := Lib.hid hno; clear hst hno hu hv g5 g6
              have c1 := fun n => conv_sw (s5.kp ((HK2.out c00 (fun _ => False)).drewN n) (fun h => h) (Cx.refl _ _))
              have c2 := fun n => conv_sw (s6.kp ((HK2.out c00 (fun _ => False)).drewN n) (fun h => h) (Cx.refl _ _))
              clear s5 s6
              go_wp2
              go_quiet (fail)
              go_wp2
              · have hn2 : (!u == v) = true := by assumption
                have hn2 : u ≠ v := by simpa using hn2
                go_ret
                exact ⟨ret_bool (Eq.symm (decide_eq_false (HNOT.out (HNO.out hn2)))), fun c S => (HK2.out c S).drewN _⟩
              · have hn2 : (!u == v) = false := by assumption
                have hn2 : u = v := by simpa using hn2
                refine ⟨⟨i + 1, by omega, by go_num, HST.out hn2, fun c S => (HK2.out c S).drewN _⟩, ?_⟩
                simp [intOf]; omega
            · have HJ := Lib.hid hi1
              go_wp2
              go_roundw
              case rel => exact ⟨j + 1, by omega, by go_num, HSTEP.out (take_all HT2.out (by have := HJ.out; omega) (by have := HJ.out; have := HXY.out; omega)), HK2.out⟩
              case measure => simp [intOf]; omega
        · have g3 := (HK.out c00 (fun _ => False)).cell g3 (fun h => h)
          have g4 := (HK.out c00 (fun _ => False)).cell g4 (fun h => h)
          have d1 : ((x.length : Int) == y.length) = false := by simp; omega
          have d2 : ¬ (x.length : Int) = y.length := by omega
          go_wp2
          go_quiet (fail)
          go_wp2
          go_ret
          exact ⟨ret_bool (Eq.symm (decide_eq_false (HNOT.out (fun e => d2 (by rw [e]))))), fun c S => (HK.out c S).drewN _⟩
      · have HJ := Lib.hid hlt
        go_wp2
        go_ret
        exact ⟨ret_bool (Eq.symm (decide_eq_true (take_all HT.out (by have := HJ.out; omega) (by have := HJ.out; have := HLE.out; omega)))), HK.out⟩
  · have hle' : ((l1.length : Int) == l2.length) = false := by simp; omega
    have hle2 : ¬ (l1.length : Int) = l2.length := by omega
    go_enter Tryz.func84, Tryz.ntmps84
    go_wp2
    go_ret
    exact ⟨ret_bool (by simp; intro e; exact hle (by rw [e])), fun c S => Kp.refl _ _ _⟩
end Go.Proofs.YtnifmoigalmcmaaGreat
