/- DiskNone: a disk that nobody made is dead and empty. -/
import Derived.Test.YtepphepcaphlkaaDn
import Derived.Test.YtepphepcaphlkaaEa
import Derived.Test.YtepphepcaphlkaaAw1
namespace Go.Proofs.Ytepphepcaphlkaa
open Go Go.RowKit Go.MapKept Go.Maps Go.Shelf
open Dk
attribute [local go_sem] Oper.semAt_some
variable {c c' : Col} {w w' A B : World} {Bx : Nat → Prop}
theorem do_no (p : Option Addr) (o : AOp) (vd vk vf vu : Value) (w : World) (DD : NoD w p) (hv : Sw w c (0, 0) vd (o.data.map bv)) (hpw : PlanW w c vk vf vu o.plan) (hf : o.data.length ≤ lim ∧ o.plan.keep.length ≤ lim ∧ o.plan.fail.length ≤ lim ∧ o.plan.full.length ≤ lim) :
    Calls Try.prog 12 #[.pointer p, opV o vd vk vf vu] w fun e w' => e = .returned (.int .i64 10) ∧ ∀ S, Kp c S w w' := by
  obtain ⟨hb, lk, lf, lu⟩ := hf
  by_cases h0 : o.kind = 0
  · exact do_no_create p o vd vk vf vu w DD hv hb hpw lk lf lu h0
  by_cases h1 : o.kind = 1
  · exact do_no_append p o vd vk vf vu w DD hv hb hpw lk lf lu h1
  by_cases h2 : o.kind = 2
  · exact do_no_writeAt p o vd vk vf vu w DD hv hb hpw lk lf lu h2
  by_cases h3 : o.kind = 3
  · exact do_no_truncate p o vd vk vf vu w DD hv hb hpw lk lf lu h3
  by_cases h4 : o.kind = 4
  · exact do_no_sync p o vd vk vf vu w DD hv hb hpw lk lf lu h4
  by_cases h5 : o.kind = 5
  · exact do_no_rename p o vd vk vf vu w DD hv hb hpw lk lf lu h5
  by_cases h6 : o.kind = 6
  · exact do_no_remove p o vd vk vf vu w DD hv hb hpw lk lf lu h6
  by_cases h7 : o.kind = 7
  · exact do_no_start p o vd vk vf vu w DD hv hb hpw lk lf lu h7
  exact do_no_read p o vd vk vf vu w DD hv hb hpw lk lf lu h0 h1 h2 h3 h4 h5 h6 h7
abbrev NX : Nat → Prop := fun _ => False
theorem clone_no (w : World) (p : Option Addr) (h : NoD w p) : Calls Try.prog 26 #[.pointer p] w fun e w' => e = .returned (.pointer none) ∧ w' = w.alloc (.cells #[.pointer p] 25) := by
  have h1 : NoD (w.alloc (.cells #[.pointer p] 25)) p := h.kp ((Kp.refl (fun _ => (0, 0)) S2F w).alloc _) (fun _ h => h)
  refine (callsIn_wide (n := 5)).1 ?_
  refine callsIn_of_wp_marks Try.func26 rfl trivial ?_ rfl
  simp only [Try.ntmps26, List.size_toArray, List.length_cons, List.length_nil, Nat.reduceAdd, Nat.reduceSub, Array.replicate_succ, Array.replicate_zero, List.push_toArray, List.append_toArray, List.nil_append, List.cons_append]
  gi_wp2_with (refine ⟨trivial, ?_⟩; gi_at_call 37; refine (callsIn_wide.2 (is_no _ _ h1)).mono ?_; rintro e w' ⟨rfl, rfl⟩)
  exact ⟨_, results_tmp rfl _ _ _, rfl, rfl⟩
theorem eql_each (W : World) (b : Nat) : (binOp .eql 68 (.func (.func 59) #[] #[.pointer (some ⟨b, 0, none⟩)]) .nilFunc).run Try.prog W = .ok (.bool false) W := by kernel_rfl
set_option maxRecDepth 100000 in
set_option maxHeartbeats 8000000 in
theorem diskNone_c (o : AOp) (vd vk vf vu : Value) (w : World) (hv : Sw w c (0, 0) vd (o.data.map bv)) (hpw : PlanW w c vk vf vu o.plan) (hf : o.data.length ≤ lim ∧ o.plan.keep.length ≤ lim ∧ o.plan.fail.length ≤ lim ∧ o.plan.full.length ≤ lim) :
    Calls Try.prog 8 #[opV o vd vk vf vu] w fun e w' => e = .returned (.bool true) ∧ ∀ S, Kp c S w w' := by
  obtain ⟨ad, capd, rfl, -⟩ := id hv
  obtain ⟨ak, capk, rfl, -⟩ := id hpw.keep
  obtain ⟨af, capf, rfl, -⟩ := id hpw.fail
  obtain ⟨au, capu, rfl, -⟩ := id hpw.full
  unfold opV str
  refine (callsIn_wide (n := 6)).1 ?_
  refine callsIn_of_wp_marks Try.func8 rfl trivial ?_ rfl
  simp only [Try.ntmps8, List.size_toArray, List.length_cons, List.length_nil, Nat.reduceAdd, Nat.reduceSub, Array.replicate_succ, Array.replicate_zero, List.push_toArray, List.append_toArray, List.nil_append, List.cons_append]
  obtain ⟨w0, hw0⟩ : ∃ w0, w0 = (w.alloc (.cells #[.int .i64 o.kind, .string ⟨List.toArray o.name⟩, .string ⟨List.toArray o.to⟩, .int .i64 o.at_, .int .i64 o.long, .slice ad o.data.length capd, .int .i64 o.plan.crash, .slice ak o.plan.keep.length capk, .slice af o.plan.fail.length capf, .slice au o.plan.full.length capu, .int .i64 o.plan.room] 32)).alloc (.cells #[.bool false] 4) := ⟨_, rfl⟩
  have HW0 := Lib.hid hw0
  have hk0 : ∀ S, Kp c S w w0 := fun S => by rw [hw0]; exact ((Kp.refl c S w).alloc _).alloc _
  have HB0 : Hid (w0.heap[w.heap.size]? = some (.cells #[.int .i64 o.kind, .string ⟨List.toArray o.name⟩, .string ⟨List.toArray o.to⟩, .int .i64 o.at_, .int .i64 o.long, .slice ad o.data.length capd, .int .i64 o.plan.crash, .slice ak o.plan.keep.length capk, .slice af o.plan.fail.length capf, .slice au o.plan.full.length capu, .int .i64 o.plan.room] 32 (0, 0))) := by
    rw [hw0]; exact heap_alloc_old _ (heap_alloc_new _ _)
  have HB1 : Hid (w0.heap[w.heap.size + 1]? = some (.cells #[.bool false] 4 (0, 0))) := by
    rw [hw0]
    have h := heap_alloc_new (w.alloc (.cells #[.int .i64 o.kind, .string ⟨List.toArray o.name⟩, .string ⟨List.toArray o.to⟩, .int .i64 o.at_, .int .i64 o.long, .slice ad o.data.length capd, .int .i64 o.plan.crash, .slice ak o.plan.keep.length capk, .slice af o.plan.fail.length capf, .slice au o.plan.full.length capu, .int .i64 o.plan.room] 32)) (.cells #[.bool false] 4)
    rwa [World.size_alloc] at h
  have HK0 := Lib.hid hk0
  have HV := Lib.hid hv
  have HPW := Lib.hid hpw
  have HF := Lib.hid hf
  clear hk0 hw0 hv hpw hf
  simp only [List.length_map] at HV HPW ⊢
  gi_wp2_with (refine ⟨trivial, ?_⟩; gi_at_call 9; rw [← HW0.out]; refine (callsIn_wide.2 (awake_c (c := c) w0)).mono ?_; rintro e w1 ⟨rfl, hk1⟩; have HK1 := Lib.hid hk1; clear hk1)
  obtain ⟨Wa, hWa⟩ : ∃ Wa, Wa = (w1.alloc (.cells #[.int .i64 0, .int .i64 0, .slice none 0 0, .slice none 0 0, .slice none 0 0, .int .i64 0, .int .i64 0, .bool false, .map none] 65)).alloc (.cells #[.pointer none, .pointer (some ⟨w1.heap.size, 0, none⟩)] 25) := ⟨_, rfl⟩
  rw [← hWa]
  have HKW1 : Hid (∀ S, Kp c S w Wa) := fun S => by rw [hWa]; exact (((HK0.out S).trans (HK1.out S) (Cx.refl _ _)).alloc _).alloc _
  have HO1 : Hid (Wa.heap[w.heap.size]? = some (.cells #[.int .i64 o.kind, .string ⟨List.toArray o.name⟩, .string ⟨List.toArray o.to⟩, .int .i64 o.at_, .int .i64 o.long, .slice ad o.data.length capd, .int .i64 o.plan.crash, .slice ak o.plan.keep.length capk, .slice af o.plan.fail.length capf, .slice au o.plan.full.length capu, .int .i64 o.plan.room] 32 (0, 0))) := by rw [hWa]; exact heap_alloc_old _ (heap_alloc_old _ ((HK1.out S2F).heap HB0.out (fun h => h)))
  have HR1 : Hid (Wa.heap[w.heap.size + 1]? = some (.cells #[.bool false] 4 (0, 0))) := by rw [hWa]; exact heap_alloc_old _ (heap_alloc_old _ ((HK1.out S2F).heap HB1.out (fun h => h)))
  have HZ1 : Hid (Wa.heap[w1.heap.size]? = some (.cells #[.int .i64 0, .int .i64 0, .slice none 0 0, .slice none 0 0, .slice none 0 0, .int .i64 0, .int .i64 0, .bool false, .map none] 65 (0, 0))) := by rw [hWa]; exact heap_alloc_old _ (heap_alloc_new _ _)
  have HS1 : Hid (Wa.heap[w1.heap.size + 1]? = some (.cells #[.pointer none, .pointer (some ⟨w1.heap.size, 0, none⟩)] 25 (0, 0))) := by
    rw [hWa]
    have h := heap_alloc_new (w1.alloc (.cells #[.int .i64 0, .int .i64 0, .slice none 0 0, .slice none 0 0, .slice none 0 0, .int .i64 0, .int .i64 0, .bool false, .map none] 65)) (.cells #[.pointer none, .pointer (some ⟨w1.heap.size, 0, none⟩)] 25)
    rwa [World.size_alloc] at h
  clear hWa
  have HN1 : Hid (NoD Wa none) := .inl rfl
  have s0 : Wa.cell? ⟨w1.heap.size + 1, 0, none⟩ = some (.pointer none) := cell_of_heap HS1.out 0
  have hfn := eql_each
  refine wpIn_loop_rounds 3 ?_
  rw [roundsIn_succ]
  have q0 : Wa.cell? ⟨w.heap.size, 0, none⟩ = some (.int .i64 o.kind) := cell_of_heap HO1.out 0
  have q1 : Wa.cell? ⟨w.heap.size, 1, none⟩ = some (.string ⟨List.toArray o.name⟩) := cell_of_heap HO1.out 1
  have q2 : Wa.cell? ⟨w.heap.size, 2, none⟩ = some (.string ⟨List.toArray o.to⟩) := cell_of_heap HO1.out 2
  have q3 : Wa.cell? ⟨w.heap.size, 3, none⟩ = some (.int .i64 o.at_) := cell_of_heap HO1.out 3
  have q4 : Wa.cell? ⟨w.heap.size, 4, none⟩ = some (.int .i64 o.long) := cell_of_heap HO1.out 4
  have q5 : Wa.cell? ⟨w.heap.size, 5, none⟩ = some (.slice ad o.data.length capd) := cell_of_heap HO1.out 5
  have q6 : Wa.cell? ⟨w.heap.size, 6, none⟩ = some (.int .i64 o.plan.crash) := cell_of_heap HO1.out 6
  have q7 : Wa.cell? ⟨w.heap.size, 7, none⟩ = some (.slice ak o.plan.keep.length capk) := cell_of_heap HO1.out 7
  have q8 : Wa.cell? ⟨w.heap.size, 8, none⟩ = some (.slice af o.plan.fail.length capf) := cell_of_heap HO1.out 8
  have q9 : Wa.cell? ⟨w.heap.size, 9, none⟩ = some (.slice au o.plan.full.length capu) := cell_of_heap HO1.out 9
  have q10 : Wa.cell? ⟨w.heap.size, 10, none⟩ = some (.int .i64 o.plan.room) := cell_of_heap HO1.out 10
  gi_wp2_with (first
    | (refine ⟨trivial, ?_⟩; gi_at_call 12; refine (callsIn_wide.2 (do_no (c := c) none o _ _ _ _ Wa HN1.out (HV.out.kp (HKW1.out S2F) (fun h => h) (Cx.refl _ _)) (HPW.out.kp (HKW1.out S2F) (fun h => h) (Cx.refl _ _)) HF.out)).mono ?_; rintro e w12 ⟨rfl, hk⟩; have HKa1 := Lib.hid hk; clear hk q0 q1 q2 q3 q4 q5 q6 q7 q8 q9 q10; have HNa1 := Lib.hid (HN1.out.kp (HKa1.out S2F) (fun _ h => h)))
    | (refine ⟨trivial, ?_⟩; gi_at_call 27; refine (callsIn_wide.2 (dead_no _ none HNa1.out)).mono ?_; rintro e w' ⟨rfl, rfl⟩)
    | (refine ⟨trivial, ?_⟩; gi_at_call 17; refine (callsIn_wide.2 (ops_no _ none HNa1.out)).mono ?_; rintro e w' ⟨rfl, rfl⟩)
    | (refine ⟨trivial, ?_⟩; gi_at_call 13; refine (callsIn_wide.2 (files_no _ none HNa1.out)).mono ?_; rintro e w' ⟨rfl, rfl⟩)
    | (refine ⟨trivial, ?_⟩; gi_at_call 14; refine (callsIn_wide.2 (safe_no _ none HNa1.out)).mono ?_; rintro e w' ⟨rfl, rfl⟩)
    | (refine ⟨trivial, ?_⟩; gi_at_call 26; refine (callsIn_wide.2 (clone_no _ none HNa1.out)).mono ?_; rintro e w13 ⟨rfl, hw⟩; have HKb1 : Hid (∀ S, Kp c S Wa w13) := (fun S => by rw [hw]; exact (HKa1.out S).alloc _); clear hw; have HNb1 := Lib.hid (HN1.out.kp (HKb1.out S2F) (fun _ h => h)); have q1 : w13.cell? ⟨w.heap.size, 1, none⟩ = some (.string ⟨List.toArray o.name⟩) := cell_of_heap ((HKb1.out S2F).heap HO1.out (fun h => h)) 1)
    | (refine ⟨trivial, ?_⟩; gi_at_call 19; refine (callsIn_wide.2 (size_no _ none HNb1.out _)).mono ?_; rintro e w' ⟨rfl, rfl⟩)
    | (refine ⟨trivial, ?_⟩; gi_at_call 28; refine (callsIn_wide.2 (each_c none w13)).mono ?_; rintro e w' ⟨rfl, rfl⟩))
  obtain ⟨W41, hW4⟩ : ∃ W, W = w13.alloc (.cells #[.pointer (none)] 25) := ⟨_, rfl⟩
  rw [← hW4]
  have HK41 : Hid (∀ S, Kp c S Wa W41) := fun S => by rw [hW4]; exact (HKb1.out S).alloc _
  have he1 : W41.cell? ⟨w13.heap.size, 0, none⟩ = some (.pointer (none)) := by rw [hW4]; exact cell_of_heap (heap_alloc_new _ _) 0
  have HNd1 : NoD W41 (none) := HN1.out.kp (HK41.out S2F) (fun _ h => h)
  clear hW4
  refine wpIn_rangeFunc_ownG (α := Empty) rfl (by omega) (gf := 59) (lb := #[.pointer (some ⟨w13.heap.size, 0, none⟩)]) rfl trivial (enters_of Try.func59 (by kernel_rfl) rfl)
    (each1_stops (fun x : Empty => x.elim) 5 (by omega) w13.heap.size (none) [] NX W41 he1 (fun W hW => heads_no HNd1 W hW)) (fun h k => kpx_t h k) (fun W l o o' h1 h2 h3 h4 => kpx_b W l o o' h1 h2 h3 h4) (Below.refl _ _) (fun x => x.elim)
    (fun _ W => (∀ S, Kp c S W41 W)) (fun _ _ _ => False)
    ?hI (fun _ _ _ _ _ hs _ _ => hs) ?h0 (fun x => x.elim) (fun _ x => x.elim) (fun _ _ x => x.elim) ?done (fun _ _ _ _ _ _ h _ => h.elim)
  case hI => exact fun s A B row hs hg hr S => (hs S).grown hg (fun g e hlt => by have := (hr g e).1; omega)
  case h0 => exact fun S => Kp.refl _ _ _
  rintro D1 ys Wb hD1 rfl hI hK1
  have HD1 := Lib.hid hK1
  have HI1 := Lib.hid hI
  clear hI hK1 he1
  have HKab : Hid (∀ S, Kp c S Wa Wb) := fun S => (HK41.out S).trans (HI1.out S) (Cx.refl _ _)
  have HKW2 : Hid (∀ S, Kp c S w Wb) := fun S => (HKW1.out S).trans (HKab.out S) (Cx.refl _ _)
  have HO2 := Lib.hid ((HKab.out S2F).heap HO1.out (fun h => h))
  have HR2 := Lib.hid ((HKab.out S2F).heap HR1.out (fun h => h))
  have HZ2 := Lib.hid ((HKab.out S2F).heap HZ1.out (fun h => h))
  have HS2 := Lib.hid ((HKab.out S2F).heap HS1.out (fun h => h))
  have HN2 : Hid (NoD Wb (some ⟨w1.heap.size, 0, none⟩)) := .inr ⟨w1.heap.size, rfl, cell_of_heap HZ2.out 0⟩
  clear s0 q1 HNd1
  have s0 : Wb.cell? ⟨w1.heap.size + 1, 1, none⟩ = some (.pointer (some ⟨w1.heap.size, 0, none⟩)) := cell_of_heap HS2.out 1
  gi_wp2
  rw [roundsIn_succ]
  have q0 : Wb.cell? ⟨w.heap.size, 0, none⟩ = some (.int .i64 o.kind) := cell_of_heap HO2.out 0
  have q1 : Wb.cell? ⟨w.heap.size, 1, none⟩ = some (.string ⟨List.toArray o.name⟩) := cell_of_heap HO2.out 1
  have q2 : Wb.cell? ⟨w.heap.size, 2, none⟩ = some (.string ⟨List.toArray o.to⟩) := cell_of_heap HO2.out 2
  have q3 : Wb.cell? ⟨w.heap.size, 3, none⟩ = some (.int .i64 o.at_) := cell_of_heap HO2.out 3
  have q4 : Wb.cell? ⟨w.heap.size, 4, none⟩ = some (.int .i64 o.long) := cell_of_heap HO2.out 4
  have q5 : Wb.cell? ⟨w.heap.size, 5, none⟩ = some (.slice ad o.data.length capd) := cell_of_heap HO2.out 5
  have q6 : Wb.cell? ⟨w.heap.size, 6, none⟩ = some (.int .i64 o.plan.crash) := cell_of_heap HO2.out 6
  have q7 : Wb.cell? ⟨w.heap.size, 7, none⟩ = some (.slice ak o.plan.keep.length capk) := cell_of_heap HO2.out 7
  have q8 : Wb.cell? ⟨w.heap.size, 8, none⟩ = some (.slice af o.plan.fail.length capf) := cell_of_heap HO2.out 8
  have q9 : Wb.cell? ⟨w.heap.size, 9, none⟩ = some (.slice au o.plan.full.length capu) := cell_of_heap HO2.out 9
  have q10 : Wb.cell? ⟨w.heap.size, 10, none⟩ = some (.int .i64 o.plan.room) := cell_of_heap HO2.out 10
  gi_wp2_with (first
    | (refine ⟨trivial, ?_⟩; gi_at_call 12; refine (callsIn_wide.2 (do_no (c := c) (some ⟨w1.heap.size, 0, none⟩) o _ _ _ _ Wb HN2.out (HV.out.kp (HKW2.out S2F) (fun h => h) (Cx.refl _ _)) (HPW.out.kp (HKW2.out S2F) (fun h => h) (Cx.refl _ _)) HF.out)).mono ?_; rintro e w22 ⟨rfl, hk⟩; have HKa2 := Lib.hid hk; clear hk q0 q1 q2 q3 q4 q5 q6 q7 q8 q9 q10; have HNa2 := Lib.hid (HN2.out.kp (HKa2.out S2F) (fun _ h => h)))
    | (refine ⟨trivial, ?_⟩; gi_at_call 27; refine (callsIn_wide.2 (dead_no _ (some ⟨w1.heap.size, 0, none⟩) HNa2.out)).mono ?_; rintro e w' ⟨rfl, rfl⟩)
    | (refine ⟨trivial, ?_⟩; gi_at_call 17; refine (callsIn_wide.2 (ops_no _ (some ⟨w1.heap.size, 0, none⟩) HNa2.out)).mono ?_; rintro e w' ⟨rfl, rfl⟩)
    | (refine ⟨trivial, ?_⟩; gi_at_call 13; refine (callsIn_wide.2 (files_no _ (some ⟨w1.heap.size, 0, none⟩) HNa2.out)).mono ?_; rintro e w' ⟨rfl, rfl⟩)
    | (refine ⟨trivial, ?_⟩; gi_at_call 14; refine (callsIn_wide.2 (safe_no _ (some ⟨w1.heap.size, 0, none⟩) HNa2.out)).mono ?_; rintro e w' ⟨rfl, rfl⟩)
    | (refine ⟨trivial, ?_⟩; gi_at_call 26; refine (callsIn_wide.2 (clone_no _ (some ⟨w1.heap.size, 0, none⟩) HNa2.out)).mono ?_; rintro e w23 ⟨rfl, hw⟩; have HKb2 : Hid (∀ S, Kp c S Wb w23) := (fun S => by rw [hw]; exact (HKa2.out S).alloc _); clear hw; have HNb2 := Lib.hid (HN2.out.kp (HKb2.out S2F) (fun _ h => h)); have q1 : w23.cell? ⟨w.heap.size, 1, none⟩ = some (.string ⟨List.toArray o.name⟩) := cell_of_heap ((HKb2.out S2F).heap HO2.out (fun h => h)) 1)
    | (refine ⟨trivial, ?_⟩; gi_at_call 19; refine (callsIn_wide.2 (size_no _ (some ⟨w1.heap.size, 0, none⟩) HNb2.out _)).mono ?_; rintro e w' ⟨rfl, rfl⟩)
    | (refine ⟨trivial, ?_⟩; gi_at_call 28; refine (callsIn_wide.2 (each_c (some ⟨w1.heap.size, 0, none⟩) w23)).mono ?_; rintro e w' ⟨rfl, rfl⟩))
  obtain ⟨W42, hW4⟩ : ∃ W, W = w23.alloc (.cells #[.pointer (some ⟨w1.heap.size, 0, none⟩)] 25) := ⟨_, rfl⟩
  rw [← hW4]
  have HK42 : Hid (∀ S, Kp c S Wb W42) := fun S => by rw [hW4]; exact (HKb2.out S).alloc _
  have he2 : W42.cell? ⟨w23.heap.size, 0, none⟩ = some (.pointer (some ⟨w1.heap.size, 0, none⟩)) := by rw [hW4]; exact cell_of_heap (heap_alloc_new _ _) 0
  have HNd2 : NoD W42 (some ⟨w1.heap.size, 0, none⟩) := HN2.out.kp (HK42.out S2F) (fun _ h => h)
  clear hW4
  refine wpIn_rangeFunc_ownG (α := Empty) rfl (by omega) (gf := 59) (lb := #[.pointer (some ⟨w23.heap.size, 0, none⟩)]) rfl trivial (enters_of Try.func59 (by kernel_rfl) rfl)
    (each1_stops (fun x : Empty => x.elim) 5 (by omega) w23.heap.size (some ⟨w1.heap.size, 0, none⟩) [] NX W42 he2 (fun W hW => heads_no HNd2 W hW)) (fun h k => kpx_t h k) (fun W l o o' h1 h2 h3 h4 => kpx_b W l o o' h1 h2 h3 h4) (Below.refl _ _) (fun x => x.elim)
    (fun _ W => (∀ S, Kp c S W42 W) ∧ W.heap[D1]? = some (.deferred (some []))) (fun _ _ _ => False)
    ?hI2 (fun _ _ _ _ _ hs _ _ => hs) ?h02 (fun x => x.elim) (fun _ x => x.elim) (fun _ _ x => x.elim) ?done2 (fun _ _ _ _ _ _ h _ => h.elim)
  case hI2 => exact fun s A B row hs hg hr => ⟨fun S => (hs.1 S).grown hg (fun g e hlt => by have := (hr g e).1; omega), (hg.block D1 (lt_of_heap hs.2) (fun e => by have := (hr D1 e.symm).1; have := lt_of_heap ((HK42.out S2F).heap HD1.out (fun h => h)); omega)).trans hs.2⟩
  case h02 => exact ⟨fun S => Kp.refl _ _ _, (HK42.out S2F).heap HD1.out (fun h => h)⟩
  rintro D2 ys Wc hD2 rfl ⟨hI, hd1⟩ hK2
  have HD2 := Lib.hid hK2
  have HD12 := Lib.hid hd1
  have HKbc : Hid (∀ S, Kp c S Wb Wc) := fun S => (HK42.out S).trans (hI S) (Cx.refl _ _)
  have HKWc : Hid (∀ S, Kp c S w Wc) := fun S => (HKW2.out S).trans (HKbc.out S) (Cx.refl _ _)
  have HR3 := Lib.hid ((HKbc.out S2F).heap HR2.out (fun h => h))
  have hne : D1 ≠ D2 := by have := lt_of_heap ((HK42.out S2F).heap HD1.out (fun h => h)); omega
  have HNE := Lib.hid hne
  have HL1 : Hid (w.heap.size + 1 < W42.heap.size) := by have := lt_of_heap ((HK42.out S2F).heap HR2.out (fun h => h)); exact this
  have HL2 : Hid (w.heap.size + 1 < D1) := by have := lt_of_heap ((HK41.out S2F).heap HR1.out (fun h => h)); show w.heap.size + 1 < D1; omega
  have hD2' := Lib.hid hD2
  have hD1' := Lib.hid hD1
  clear hI hK2 hd1 he2 s0 q1 HNd2 hne hD1 hD2
  have r0 : Wc.cell? ⟨w.heap.size + 1, 0, none⟩ = some (.bool false) := cell_of_heap HR3.out 0
  have r1 := unfrozen_of_heap HR3.out
  gi_wp2
  rw [roundsIn_succ]
  gi_wp2
  have hz : w.heap.size + 1 < D1 := HL2.out
  have hz2 : w.heap.size + 1 < D2 := by have := HL1.out; have := hD2'.out; omega
  have h2 : (Wc.setCell ⟨w.heap.size + 1, 0, none⟩ (.bool true)).heap[D2]? = some (.deferred (some [])) := (Below.heap_setCell Wc ⟨w.heap.size + 1, 0, none⟩ _ D2 (by show D2 ≠ w.heap.size + 1; omega)).trans HD2.out
  have h1 : ((Wc.setCell ⟨w.heap.size + 1, 0, none⟩ (.bool true)).putObj D2 (.deferred none)).heap[D1]? = some (.deferred (some [])) := (World.putObj_heap_other (fun e => HNE.out e)).trans ((Below.heap_setCell Wc ⟨w.heap.size + 1, 0, none⟩ _ D1 (by show D1 ≠ w.heap.size + 1; omega)).trans HD12.out)
  have hc : (((Wc.setCell ⟨w.heap.size + 1, 0, none⟩ (.bool true)).putObj D2 (.deferred none)).putObj D1 (.deferred none)).cell? ⟨w.heap.size + 1, 0, none⟩ = some (.bool true) :=
    (World.cell?_of_block (World.putObj_heap_other (k := w.heap.size + 1) (by omega))).trans ((World.cell?_of_block (World.putObj_heap_other (k := w.heap.size + 1) (by omega))).trans (World.cell?_setCell_same' _ _ _ (by rw [r0]; rfl)))
  refine ⟨by simp, .inl ⟨_, _, rfl, run_takeDeferred h2, ?_⟩⟩
  refine ⟨by simp, .inl ⟨_, _, rfl, run_takeDeferred h1, ?_⟩⟩
  refine ⟨.bool true, ?_, rfl, fun S => ?_⟩
  · simp [results, Try.results8, go_sem, hc]
  · exact (((HKWc.out S).setCell (fun h => by have h : w.heap.size + 1 < w.heap.size := h; omega) _).grown (grownBy_putObj' _ D2 _) (fun g e h => by cases e; omega)).grown (grownBy_putObj' _ D1 _) (fun g e h => by cases e; omega)
end Go.Proofs.Ytepphepcaphlkaa
