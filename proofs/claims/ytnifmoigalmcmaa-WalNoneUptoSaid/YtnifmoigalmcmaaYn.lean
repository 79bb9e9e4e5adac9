/- WalNone: a log that nobody opened has nothing and takes nothing. -/
import Derived.Test.YtnifmoigalmcmaaYo
namespace Go.Proofs.Ytnifmoigalmcmaa
open Go Go.RowKit Go.Shelf
open Wl
attribute [local go_sem] Oper.semAt_some
variable {c c' : Col} {w w' : World} {S : Nat × Nat → Prop} {q : Nat × Nat}
theorem eql_weach (W : World) (b : Nat) : (binOp .eql 60 (.func (.func 46) #[] #[.pointer (some ⟨b, 0, none⟩)]) .nilFunc).run Try.prog W = .ok (.bool false) W := by kernel_rfl
set_option maxRecDepth 100000 in
set_option maxHeartbeats 8000000 in
theorem walNone_c (batch : List Bs) (vb : Value) (w : World) (hv : BatW w c (0, 0) (0, 0) vb batch) (hl : batch.length ≤ 1000000000) (hb : ∀ r ∈ batch, r.length ≤ lim) :
    Calls Try.prog 6 #[vb] w fun e w' => e = .returned (.bool true) ∧ ∀ S, Kp c S w w' := by
  obtain ⟨ad, capd, rfl, -⟩ : ∃ ad capd, vb = .slice ad batch.length capd ∧ True := by
    obtain ⟨xs, ⟨a, cap, h1, _⟩, h2, _⟩ := id hv
    exact ⟨a, cap, by rw [h1, h2], trivial⟩
  refine (callsIn_wide (n := 6)).1 ?_
  refine callsIn_of_wp_marks Try.func6 rfl trivial ?_ rfl
  simp only [Try.ntmps6, List.size_toArray, List.length_cons, List.length_nil, Nat.reduceAdd, Nat.reduceSub, Array.replicate_succ, Array.replicate_zero, List.push_toArray, List.append_toArray, List.nil_append, List.cons_append]
  have HV := Lib.hid hv; have HLB := Lib.hid hl; have HBL := Lib.hid hb
  clear hv hl hb
  gi_wp2_with (refine ⟨trivial, ?_⟩; gi_at_call 7; refine (callsIn_wide.2 (wawake_c _)).mono ?_; rintro e w1 ⟨rfl, hk1⟩; have HK1 := Lib.hid hk1; clear hk1)
  obtain ⟨Wa, hWa⟩ : ∃ Wa, Wa = (w1.alloc (.cells #[.int .i64 0, .pointer none, .string ⟨#[]⟩, .slice none 0 0, .int .i64 0, .int .i64 0] 57)).alloc (.cells #[.pointer none, .pointer (some ⟨w1.heap.size, 0, none⟩)] 48) := ⟨_, rfl⟩
  rw [← hWa]
  have HKWa : Hid (∀ c S, Kp c S w Wa) := fun c S => by rw [hWa]; exact ((((Kp.refl c S w).alloc _).alloc_trans (HK1.out c S)).alloc _).alloc _
  have HRa : Hid (Wa.heap[w.heap.size]? = some (.cells #[.bool false] 4 (0, 0))) := by rw [hWa]; exact heap_alloc_old _ (heap_alloc_old _ ((HK1.out c (fun _ => False)).heap (heap_alloc_new _ _) (fun h => h)))
  have HZa : Hid (Wa.heap[w1.heap.size]? = some (.cells #[.int .i64 0, .pointer none, .string ⟨#[]⟩, .slice none 0 0, .int .i64 0, .int .i64 0] 57 (0, 0))) := by rw [hWa]; exact heap_alloc_old _ (heap_alloc_new _ _)
  have HSa : Hid (Wa.heap[w1.heap.size + 1]? = some (.cells #[.pointer none, .pointer (some ⟨w1.heap.size, 0, none⟩)] 48 (0, 0))) := by
    rw [hWa]
    have h := heap_alloc_new (w1.alloc (.cells #[.int .i64 0, .pointer none, .string ⟨#[]⟩, .slice none 0 0, .int .i64 0, .int .i64 0] 57)) (.cells #[.pointer none, .pointer (some ⟨w1.heap.size, 0, none⟩)] 48)
    rwa [World.size_alloc] at h
  clear hWa
  have hfn := eql_weach
  refine wpIn_loop_rounds 3 ?_
  rw [roundsIn_succ]
  have HN1 : Hid (NoLog Wa (.pointer (none))) := .inl rfl
  have s1 : Wa.cell? ⟨w1.heap.size + 1, 0, none⟩ = some (.pointer (none)) := cell_of_heap HSa.out 0
  gi_wp2_with (refine ⟨trivial, ?_⟩; gi_at_call 23; refine (callsIn_wide.2 (weach_c (none) Wa)).mono ?_; rintro e we ⟨rfl, rfl⟩)
  obtain ⟨X1, hX⟩ : ∃ X, X = Wa.alloc (.cells #[.pointer (none)] 48) := ⟨_, rfl⟩
  rw [← hX]
  have HKX1 : Hid (∀ c S, Kp c S Wa X1) := fun c S => by rw [hX]; exact (Kp.refl c S _).alloc _
  have he1 : X1.cell? ⟨Wa.heap.size, 0, none⟩ = some (.pointer (none)) := by rw [hX]; exact cell_of_heap (heap_alloc_new _ _) 0
  have HNX1 : NoLog X1 (.pointer (none)) := nolog_on HN1.out (HKX1.out _ _)
  clear hX s1
  refine wpIn_rangeFunc_ownG (α := Empty) rfl (by omega) (gf := 46) (lb := #[.pointer (some ⟨Wa.heap.size, 0, none⟩)]) rfl trivial (enters_of Try.func46 (by kernel_rfl) rfl)
    (weach1_stops 5 (by omega) Wa.heap.size (none) X1 he1 HNX1) (fun h k => kpx_t h k) (fun W l o o' h1 h2 h3 h4 => kpx_b W l o o' h1 h2 h3 h4) (Below.refl _ _) (fun x => x.elim)
    (fun _ W => (∀ c S, Kp c S X1 W)) (fun _ _ _ => False)
    ?hI1 (fun _ _ _ _ _ hs _ _ => hs) ?h01 (fun x => x.elim) (fun _ x => x.elim) (fun _ _ x => x.elim) ?done1 (fun _ _ _ _ _ _ h _ => h.elim)
  case hI1 => exact fun s A B row hs hg hr c S => (hs c S).grown hg (fun g e hlt => by have := (hr g e).1; omega)
  case h01 => exact fun c S => Kp.refl _ _ _
  rintro D1 ys Wb0 hD1 rfl hI hK1
  have HD1 := Lib.hid hK1
  have HKb0 : Hid (∀ c S, Kp c S Wa Wb0) := fun c S => (HKX1.out c S).alloc_trans (hI c S)
  clear hI hK1 he1 HNX1
  have HN1b := Lib.hid (nolog_on HN1.out (HKb0.out _ _))

  gi_wp2_with (first
    | (refine ⟨trivial, ?_⟩; gi_at_call 10; refine (callsIn_wide.2 (twinsW_c (0, 0) (0, 0) _ batch (HV.out.kp (c' := c) (S := fun _ => False) ((HKWa.out c _).trans (HKb0.out c _) (Cx.refl _ _)) (fun h => h) (fun h => h) (Cx.refl _ _)) HLB.out HBL.out)).mono ?_; rintro e T1 ⟨v', cf, rfl, -, hk⟩; have HT1 := Lib.hid hk; clear hk; have HNT1 := Lib.hid (nolog_on HN1b.out (HT1.out _ _)))
    | (refine ⟨trivial, ?_⟩; gi_at_call 19; refine (callsIn_wide.2 (wappend_no HNT1.out)).mono ?_; rintro e w' ⟨rfl, rfl⟩)
    | (refine ⟨trivial, ?_⟩; gi_at_call 24; refine (callsIn_wide.2 (wreset_no HNT1.out)).mono ?_; rintro e w' ⟨rfl, rfl⟩)
    | (refine ⟨trivial, ?_⟩; gi_at_call 21; refine (callsIn_wide.2 (wbatches_no HNT1.out)).mono ?_; rintro e w' ⟨rfl, rfl⟩)
    | (refine ⟨trivial, ?_⟩; gi_at_call 25; refine (callsIn_wide.2 (wcount_no HNT1.out)).mono ?_; rintro e w' ⟨rfl, rfl⟩)
    | (refine ⟨trivial, ?_⟩; gi_at_call 26; refine (callsIn_wide.2 (wsize_no HNT1.out)).mono ?_; rintro e w' ⟨rfl, rfl⟩))
  have HKb : Hid (∀ c S, Kp c S Wa T1) := fun c S => (HKb0.out c S).alloc_trans (HT1.out c S)
  have HRb := Lib.hid ((HKb.out c (fun _ => False)).heap HRa.out (fun h => h))
  have HZb := Lib.hid ((HKb.out c (fun _ => False)).heap HZa.out (fun h => h))
  have HST1 := Lib.hid ((HKb.out c (fun _ => False)).heap HSa.out (fun h => h))
  have HDT := Lib.hid ((HT1.out c (fun _ => False)).heap HD1.out (fun h => h))
  rw [roundsIn_succ]
  have HN2 : Hid (NoLog T1 (.pointer (some ⟨w1.heap.size, 0, none⟩))) := .inr ⟨w1.heap.size, rfl, cell_of_heap HZb.out 0⟩
  have s2 : T1.cell? ⟨w1.heap.size + 1, 1, none⟩ = some (.pointer (some ⟨w1.heap.size, 0, none⟩)) := cell_of_heap HST1.out 1
  gi_wp2_with (refine ⟨trivial, ?_⟩; gi_at_call 23; refine (callsIn_wide.2 (weach_c (some ⟨w1.heap.size, 0, none⟩) T1)).mono ?_; rintro e we ⟨rfl, rfl⟩)
  obtain ⟨X2, hX⟩ : ∃ X, X = T1.alloc (.cells #[.pointer (some ⟨w1.heap.size, 0, none⟩)] 48) := ⟨_, rfl⟩
  rw [← hX]
  have HKX2 : Hid (∀ c S, Kp c S T1 X2) := fun c S => by rw [hX]; exact (Kp.refl c S _).alloc _
  have he2 : X2.cell? ⟨T1.heap.size, 0, none⟩ = some (.pointer (some ⟨w1.heap.size, 0, none⟩)) := by rw [hX]; exact cell_of_heap (heap_alloc_new _ _) 0
  have HNX2 : NoLog X2 (.pointer (some ⟨w1.heap.size, 0, none⟩)) := nolog_on HN2.out (HKX2.out _ _)
  clear hX s2
  refine wpIn_rangeFunc_ownG (α := Empty) rfl (by omega) (gf := 46) (lb := #[.pointer (some ⟨T1.heap.size, 0, none⟩)]) rfl trivial (enters_of Try.func46 (by kernel_rfl) rfl)
    (weach1_stops 5 (by omega) T1.heap.size (some ⟨w1.heap.size, 0, none⟩) X2 he2 HNX2) (fun h k => kpx_t h k) (fun W l o o' h1 h2 h3 h4 => kpx_b W l o o' h1 h2 h3 h4) (Below.refl _ _) (fun x => x.elim)
    (fun _ W => (∀ c S, Kp c S X2 W) ∧ W.heap[D1]? = some (.deferred (some []))) (fun _ _ _ => False)
    ?hI2 (fun _ _ _ _ _ hs _ _ => hs) ?h02 (fun x => x.elim) (fun _ x => x.elim) (fun _ _ x => x.elim) ?done2 (fun _ _ _ _ _ _ h _ => h.elim)
  case hI2 => exact fun s A B row hs hg hr => ⟨fun c S => (hs.1 c S).grown hg (fun g e hlt => by have := (hr g e).1; omega), (hg.block D1 (lt_of_heap hs.2) (fun e => by have := (hr D1 e.symm).1; have := lt_of_heap ((HKX2.out c (fun _ => False)).heap HDT.out (fun h => h)); omega)).trans hs.2⟩
  case h02 => exact ⟨fun c S => Kp.refl _ _ _, (HKX2.out c (fun _ => False)).heap HDT.out (fun h => h)⟩
  rintro D2 ys Wc0 hD2 rfl ⟨hI, hd1⟩ hK2
  have HD2 := Lib.hid hK2
  have HD12 := Lib.hid hd1
  have HKc0 : Hid (∀ c S, Kp c S T1 Wc0) := fun c S => (HKX2.out c S).alloc_trans (hI c S)
  have HLT : Hid (D1 < X2.heap.size) := by have := lt_of_heap ((HKX2.out c (fun _ => False)).heap HDT.out (fun h => h)); exact this
  have hD2' := Lib.hid hD2
  have hD1' := Lib.hid hD1
  have HLX : Hid (w.heap.size < X1.heap.size) := by have := lt_of_heap ((HKX1.out c (fun _ => False)).heap HRa.out (fun h => h)); exact this
  clear hI hK2 hd1 he2 HNX2 hD1 hD2
  have HN2b := Lib.hid (nolog_on HN2.out (HKc0.out _ _))

  gi_wp2_with (first
    | (refine ⟨trivial, ?_⟩; gi_at_call 10; refine (callsIn_wide.2 (twinsW_c (0, 0) (0, 0) _ batch (HV.out.kp (c' := c) (S := fun _ => False) ((HKWa.out c _).trans ((HKb.out c _).trans (HKc0.out c _) (Cx.refl _ _)) (Cx.refl _ _)) (fun h => h) (fun h => h) (Cx.refl _ _)) HLB.out HBL.out)).mono ?_; rintro e T2 ⟨v', cf, rfl, -, hk⟩; have HT2 := Lib.hid hk; clear hk; have HNT2 := Lib.hid (nolog_on HN2b.out (HT2.out _ _)))
    | (refine ⟨trivial, ?_⟩; gi_at_call 19; refine (callsIn_wide.2 (wappend_no HNT2.out)).mono ?_; rintro e w' ⟨rfl, rfl⟩)
    | (refine ⟨trivial, ?_⟩; gi_at_call 24; refine (callsIn_wide.2 (wreset_no HNT2.out)).mono ?_; rintro e w' ⟨rfl, rfl⟩)
    | (refine ⟨trivial, ?_⟩; gi_at_call 21; refine (callsIn_wide.2 (wbatches_no HNT2.out)).mono ?_; rintro e w' ⟨rfl, rfl⟩)
    | (refine ⟨trivial, ?_⟩; gi_at_call 25; refine (callsIn_wide.2 (wcount_no HNT2.out)).mono ?_; rintro e w' ⟨rfl, rfl⟩)
    | (refine ⟨trivial, ?_⟩; gi_at_call 26; refine (callsIn_wide.2 (wsize_no HNT2.out)).mono ?_; rintro e w' ⟨rfl, rfl⟩))
  have HKc : Hid (∀ c S, Kp c S T1 T2) := fun c S => (HKc0.out c S).alloc_trans (HT2.out c S)
  have HRc := Lib.hid ((HKc.out c (fun _ => False)).heap HRb.out (fun h => h))
  have HDT1 := Lib.hid ((HT2.out c (fun _ => False)).heap HD12.out (fun h => h))
  have HDT2 := Lib.hid ((HT2.out c (fun _ => False)).heap HD2.out (fun h => h))
  have HKWc : Hid (∀ c S, Kp c S w T2) := fun c S => ((HKWa.out c S).alloc_trans (HKb.out c S)).alloc_trans (HKc.out c S)
  rw [roundsIn_succ]
  have r0 : T2.cell? ⟨w.heap.size, 0, none⟩ = some (.bool false) := cell_of_heap HRc.out 0
  have r1 := unfrozen_of_heap HRc.out
  gi_wp2
  have hz : w.heap.size < D1 := by have := HLX.out; have := hD1'.out; omega
  have hz2 : w.heap.size < D2 := by have := HLT.out; have := hD2'.out; omega
  have hne : D1 ≠ D2 := by have := HLT.out; have := hD2'.out; omega
  have h2 : (T2.setCell ⟨w.heap.size, 0, none⟩ (.bool true)).heap[D2]? = some (.deferred (some [])) := (Below.heap_setCell T2 ⟨w.heap.size, 0, none⟩ _ D2 (by show D2 ≠ w.heap.size; omega)).trans HDT2.out
  have h1 : ((T2.setCell ⟨w.heap.size, 0, none⟩ (.bool true)).putObj D2 (.deferred none)).heap[D1]? = some (.deferred (some [])) := (World.putObj_heap_other (fun e => hne e)).trans ((Below.heap_setCell T2 ⟨w.heap.size, 0, none⟩ _ D1 (by show D1 ≠ w.heap.size; omega)).trans HDT1.out)
  have hc : (((T2.setCell ⟨w.heap.size, 0, none⟩ (.bool true)).putObj D2 (.deferred none)).putObj D1 (.deferred none)).cell? ⟨w.heap.size, 0, none⟩ = some (.bool true) :=
    (World.cell?_of_block (World.putObj_heap_other (k := w.heap.size) (by omega))).trans ((World.cell?_of_block (World.putObj_heap_other (k := w.heap.size) (by omega))).trans (World.cell?_setCell_same' _ _ _ (by rw [r0]; rfl)))
  refine ⟨by simp, .inl ⟨_, _, rfl, run_takeDeferred h2, ?_⟩⟩
  refine ⟨by simp, .inl ⟨_, _, rfl, run_takeDeferred h1, ?_⟩⟩
  refine ⟨.bool true, ?_, rfl, fun S => ?_⟩
  · simp [results, Try.results6, go_sem, hc]
  · exact (((HKWc.out c S).setCell (fun h => by have h : w.heap.size < w.heap.size := h; omega) _).grown (grownBy_putObj' _ D2 _) (fun g e h => by cases e; omega)).grown (grownBy_putObj' _ D1 _) (fun g e h => by cases e; omega)
end Go.Proofs.Ytnifmoigalmcmaa
