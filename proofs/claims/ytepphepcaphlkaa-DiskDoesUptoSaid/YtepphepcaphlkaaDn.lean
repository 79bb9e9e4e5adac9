/- L1.Do on a disk that nobody made, and L1.Do of a start. -/
import Derived.Test.YtepphepcaphlkaaDo
import Derived.Test.YtepphepcaphlkaaRt
import Derived.Test.YtepphepcaphlkaaSt
import Derived.Test.YtepphepcaphlkaaNo
namespace Go.Proofs.Ytepphepcaphlkaa
open Go Go.RowKit Go.MapKept Go.Maps
open Dk
variable {c c' : Col} {w w' : World}
theorem NoD.kp {S : Nat × Nat → Prop} {p : Option Addr} (h : NoD w p) (hk : Kp c S w w') (hS : ∀ q, ¬ S q) : NoD w' p := by
  rcases h with rfl | ⟨b, rfl, h⟩
  · exact .inl rfl
  · exact .inr ⟨b, rfl, hk.cell h (hS _)⟩
theorem no_end {kk : Nat} {w2 wr : World} {c2 : Col} {av : Option Addr} {i : Nat} (hkf : ∀ b, b < w.heap.size → (c b).1 ≠ kk) (hk2 : ∀ S, Kp c S w w2) (hC : Cx w c c2) (I : XInv w2 c2 kk av i wr) : ∀ S, Kp c S w wr := fun S => by
  have h := (hk2 (fun q => q = (kk, 0))).trans I.kp hC
  exact ⟨h.os, h.tape, h.output, h.size, fun b hb _ => h.block b hb (fun e => hkf b hb (by rw [e]))⟩
/-- Twin, with the lengths written out. -/
theorem rtwin_x {p : APlan} {ak af au : Option Addr} {nk nf nu : Nat} (hp : PlanW w c (.slice ak p.keep.length nk) (.slice af p.fail.length nf) (.slice au p.full.length nu) p) (lk : p.keep.length ≤ lim) (lf : p.fail.length ≤ lim) (lu : p.full.length ≤ lim) :
    Calls Try.prog 18 #[.agg #[.int .i64 p.crash, .slice ak p.keep.length nk, .slice af p.fail.length nf, .slice au p.full.length nu, .int .i64 p.room]] w fun e w' => ∃ b1 b2 b3 l1 l2 l3 c', e = .returned (.agg #[.int .i64 p.crash, .slice b1 p.keep.length l1, .slice b2 p.fail.length l2, .slice b3 p.full.length l3, .int .i64 p.room]) ∧ Cx w c c' ∧ (∀ S, Kp c S w w') ∧ PlanAt w' c' (.slice b1 p.keep.length l1) (.slice b2 p.fail.length l2) (.slice b3 p.full.length l3) p := by
  refine (rtwin_c p _ _ _ _ hp lk lf lu).mono fun e w' h => ?_
  obtain ⟨vk, vf, vu, ci, he, hc, hk, hpl⟩ := h
  obtain ⟨b1, l1, rfl, -⟩ := id hpl.keep
  obtain ⟨b2, l2, rfl, -⟩ := id hpl.fail
  obtain ⟨b3, l3, rfl, -⟩ := id hpl.full
  simp only [List.length_map] at hpl he
  exact ⟨b1, b2, b3, l1, l2, l3, ci, he, hc, hk, hpl⟩
theorem start_x (k d : Nat) (m : ADisk) (w : World) (DD : DiskAt w c k d m) (p : APlan) {b1 b2 b3 : Option Addr} {l1 l2 l3 : Nat} (hp : PlanAt w c (.slice b1 p.keep.length l1) (.slice b2 p.fail.length l2) (.slice b3 p.full.length l3) p) (lk : p.keep.length ≤ lim) (lf : p.fail.length ≤ lim) (lu : p.full.length ≤ lim)
    (hk0 : k ≠ 0) (hops : m.ops < 900000) (hdry : m.dead = true → ∀ x ∈ m.files, x.2.chs = []) :
    Calls Try.prog 15 #[.pointer (some ⟨d, 0, none⟩), .agg #[.int .i64 p.crash, .slice b1 p.keep.length l1, .slice b2 p.fail.length l2, .slice b3 p.full.length l3, .int .i64 p.room]] w fun e w' => e = .returned (.int .i64 0) ∧ ∃ c', Cx w c c' ∧ Kp c (fun q => q.1 = k) w w' ∧ DiskAt w' c' k d (Dk.start m p) :=
  start_c k d m w DD p _ _ _ (q := (0, 0)) hp.keep hp.fail hp.full lk lf lu hk0 (fun h => hk0 h.symm) hops hdry
set_option maxHeartbeats 8000000 in
theorem do_start (k d : Nat) (m : ADisk) (o : AOp) (vd vk vf vu : Value) (w : World) (DD : DiskAt w c k d m) (hk0 : k ≠ 0) (hops : m.ops < 900000) (hdry : m.dead = true → ∀ x ∈ m.files, x.2.chs = []) (hv : Sw w c (0, 0) vd (o.data.map bv)) (hb : o.data.length ≤ lim) (hpw : PlanW w c vk vf vu o.plan) (lk : o.plan.keep.length ≤ lim) (lf : o.plan.fail.length ≤ lim) (lu : o.plan.full.length ≤ lim) (hkind : o.kind = 7) :
    Calls Try.prog 12 #[ptr d, opV o vd vk vf vu] w (OpPost k d (doOp m o) c w) := by
  have e0 : doOp m o = (0, Dk.start m o.plan) := by unfold doOp; simp [hkind]
  rw [e0]
  clear e0
  obtain ⟨ad, capd, rfl, -⟩ := id hv
  obtain ⟨ak, capk, rfl, -⟩ := id hpw.keep
  obtain ⟨af, capf, rfl, -⟩ := id hpw.fail
  obtain ⟨au, capu, rfl, -⟩ := id hpw.full
  obtain ⟨kk, hkk0, hkk, hkf⟩ := fresh_col c w.heap.size k
  obtain ⟨W, hW⟩ : ∃ W, W = w.alloc (.cells #[.int .i64 7, .string ⟨o.name.toArray⟩, .string ⟨o.to.toArray⟩, .int .i64 o.at_, .int .i64 o.long, .slice ad o.data.length capd, .int .i64 o.plan.crash, .slice ak o.plan.keep.length capk, .slice af o.plan.fail.length capf, .slice au o.plan.full.length capu, .int .i64 o.plan.room] 32) := ⟨_, rfl⟩
  have KW : Hid (∀ S, Kp c S w W) := by intro S; rw [hW]; exact (Kp.refl c S w).alloc _
  have HOP : Hid (W.heap[w.heap.size]? = some (.cells #[.int .i64 7, .string ⟨o.name.toArray⟩, .string ⟨o.to.toArray⟩, .int .i64 o.at_, .int .i64 o.long, .slice ad o.data.length capd, .int .i64 o.plan.crash, .slice ak o.plan.keep.length capk, .slice af o.plan.fail.length capf, .slice au o.plan.full.length capu, .int .i64 o.plan.room] 32 (0, 0))) := by rw [hW]; exact heap_alloc_new _ _
  have hWs : W.heap.size = w.heap.size + 1 := by rw [hW]; simp
  have c0 := cell_of_heap HOP.out 0
  obtain ⟨cW, hcW⟩ : ∃ cW : Col, cW = fun b => if b < w.heap.size then c b else (0, 0) := ⟨_, rfl⟩
  have HCW : Hid (Cx w c cW) := by intro b hb; rw [hcW]; exact if_pos hb
  clear hcW
  have HV := Lib.hid (hv.kp (KW.out S2F) (fun h => h) HCW.out); clear hv
  have HPW := Lib.hid (hpw.kp (KW.out S2F) (fun h => h) HCW.out); clear hpw
  have HD := Lib.hid (DD.kp (KW.out S2F) (fun _ h => h.elim) HCW.out); clear DD
  have HK0 := Lib.hid hk0; clear hk0
  have HO := Lib.hid hops; clear hops
  have HDRY := Lib.hid hdry; clear hdry
  have HKK := Lib.hid hkk; clear hkk
  have HB := Lib.hid hb; clear hb
  have LK := Lib.hid lk; clear lk
  have LF := Lib.hid lf; clear lf
  have LU := Lib.hid lu; clear lu
  have HKK0 := Lib.hid hkk0; clear hkk0
  have HKF := Lib.hid hkf; clear hkf
  have HWs := Lib.hid hWs; clear hWs
  have HW := Lib.hid hW; clear hW
  unfold opV str ptr
  rw [hkind]; clear hkind
  simp only [List.length_map] at HV HPW ⊢
  go_enter Try.func12, Try.ntmps12
  go_wp2_with (first
    | (go_at_call 32; rw [← HW.out]; refine (ltwin _ _ HV.out (one_bv _) (by rw [List.length_map]; exact HB.out)).mono ?_; rintro e w1 ⟨v1, rfl, hown1, hb1⟩; (obtain ⟨av, cap, rfl, -⟩ := Sc.of_owns (c := fun _ => (0, 0)) (q := (0, 0)) hown1 (fun _ _ => rfl)); rw [List.length_map] at hown1 ⊢; have HOW := Lib.hid hown1; have HB1 := Lib.hid hb1; clear hown1 hb1; (obtain ⟨c1, hc1⟩ : ∃ c1 : Col, c1 = fun b => if b < W.heap.size then cW b else (kk, 0) := ⟨_, rfl⟩); have HX1 : Hid (Cx W cW c1) := (fun b hb => by rw [hc1]; exact if_pos hb); have HG1 : Hid (∀ g, (Value.slice av o.data.length cap).ownBlock = some g → c1 g = (kk, 0)) := (fun g hg => by rw [hc1]; exact if_neg (Nat.not_lt.2 (own_base HOW.out g hg))); clear hc1; have HD1 := Lib.hid (HD.out.kp (Kp.of_below (S := S2F) HB1.out) (fun _ h => h.elim) HX1.out); have HR1 := Lib.hid (xrow_of HOW.out HG1.out); have HP1 := Lib.hid ((HB1.out.block _ (by rw [HWs.out]; omega)).trans HOP.out); have p0 := cell_of_heap HP1.out 0; have p1 := cell_of_heap HP1.out 1; have p2 := cell_of_heap HP1.out 2; have p3 := cell_of_heap HP1.out 3; have p4 := cell_of_heap HP1.out 4; have p5 := cell_of_heap HP1.out 5; have p6 := cell_of_heap HP1.out 6; have p7 := cell_of_heap HP1.out 7; have p8 := cell_of_heap HP1.out 8; have p9 := cell_of_heap HP1.out 9; have p10 := cell_of_heap HP1.out 10)
    | (go_at_call 18; refine (rtwin_x (HPW.out.kp (Kp.of_below (S := S2F) HB1.out) (fun h => h) HX1.out) LK.out LF.out LU.out).mono ?_; rintro e w2 ⟨b1, b2, b3, l1, l2, l3, c2, rfl, hc2, hk2, hp2⟩; have HX2 := Lib.hid hc2; have HK2 := Lib.hid hk2; have HPL := Lib.hid hp2; clear hc2 hk2 hp2; clear p0 p1 p2 p3 p4 p5 p6 p7 p8 p9 p10)
    | (go_at_call 15; refine (start_x k d m w2 (HD1.out.kp (HK2.out S2F) (fun _ h => h.elim) HX2.out) o.plan HPL.out LK.out LF.out LU.out HK0.out HO.out HDRY.out).mono ?_; rintro e w3 ⟨rfl, c3, hcx3, hkp3, hd3⟩; have HX3 := Lib.hid hcx3; have HK3 := Lib.hid hkp3; have HD3 := Lib.hid hd3; clear hcx3 hkp3 hd3; have HR3 := Lib.hid ((HR1.out.kp (HK2.out S2F) (fun h => h) HX2.out).kp HK3.out HKK.out HX3.out)))
  clear c0
  have hlen : (o.data.length : Int) ≤ 9223372036854775807 := by have := HB.out; unfold lim at this; omega
  go_loopw [83] (fun s wr => ∃ i : Nat, i ≤ o.data.length ∧ s = .int .i64 i ∧ XInv w3 c3 kk av i wr) (fun s _ => o.data.length - (intOf s).toNat)
  case atStart => exact ⟨0, Nat.zero_le _, rfl, xinv_start _ _ _ _⟩
  case round =>
    obtain ⟨i, hi, rfl, I⟩ := hrel
    have HI := Lib.hid I; clear I
    by_cases hlt : i < o.data.length
    · obtain ⟨g, x, rfl, hg, hcell, hfz⟩ := xinv_cell HR3.out HI.out hlt
      have HG := Lib.hid hg; clear hg
      unfold bv at hcell
      go_wp2
      go_roundw
      case rel => exact ⟨i + 1, by omega, by go_num, xinv_step HI.out HG.out _⟩
      case measure => simp [intOf]; omega
    · obtain rfl : i = o.data.length := by omega
      go_wp2
      go_ret
      exact ⟨rfl, op_end HKK0.out HKK.out HKF.out ((HCW.out.trans HX1.out (KW.out S2F).size).trans HX2.out ((KW.out S2F).below HB1.out (by rw [HWs.out]; omega)).size) (fun S => ((KW.out S).below HB1.out (by rw [HWs.out]; omega)).trans (HK2.out S) (HCW.out.trans HX1.out (KW.out S2F).size)) HX3.out HK3.out HD3.out HI.out⟩
set_option maxHeartbeats 8000000 in
theorem do_no_create (p : Option Addr) (o : AOp) (vd vk vf vu : Value) (w : World) (DD : NoD w p) (hv : Sw w c (0, 0) vd (o.data.map bv)) (hb : o.data.length ≤ lim) (hpw : PlanW w c vk vf vu o.plan) (lk : o.plan.keep.length ≤ lim) (lf : o.plan.fail.length ≤ lim) (lu : o.plan.full.length ≤ lim) (hkind : o.kind = 0) :
    Calls Try.prog 12 #[.pointer p, opV o vd vk vf vu] w fun e w' => e = .returned (.int .i64 10) ∧ ∀ S, Kp c S w w' := by
  obtain ⟨ad, capd, rfl, -⟩ := id hv
  obtain ⟨ak, capk, rfl, -⟩ := id hpw.keep
  obtain ⟨af, capf, rfl, -⟩ := id hpw.fail
  obtain ⟨au, capu, rfl, -⟩ := id hpw.full
  obtain ⟨kk, hkk0, -, hkf⟩ := fresh_col c w.heap.size 0
  obtain ⟨W, hW⟩ : ∃ W, W = w.alloc (.cells #[.int .i64 0, .string ⟨o.name.toArray⟩, .string ⟨o.to.toArray⟩, .int .i64 o.at_, .int .i64 o.long, .slice ad o.data.length capd, .int .i64 o.plan.crash, .slice ak o.plan.keep.length capk, .slice af o.plan.fail.length capf, .slice au o.plan.full.length capu, .int .i64 o.plan.room] 32) := ⟨_, rfl⟩
  have KW : Hid (∀ S, Kp c S w W) := by intro S; rw [hW]; exact (Kp.refl c S w).alloc _
  have HOP : Hid (W.heap[w.heap.size]? = some (.cells #[.int .i64 0, .string ⟨o.name.toArray⟩, .string ⟨o.to.toArray⟩, .int .i64 o.at_, .int .i64 o.long, .slice ad o.data.length capd, .int .i64 o.plan.crash, .slice ak o.plan.keep.length capk, .slice af o.plan.fail.length capf, .slice au o.plan.full.length capu, .int .i64 o.plan.room] 32 (0, 0))) := by rw [hW]; exact heap_alloc_new _ _
  have hWs : W.heap.size = w.heap.size + 1 := by rw [hW]; simp
  have c0 := cell_of_heap HOP.out 0
  obtain ⟨cW, hcW⟩ : ∃ cW : Col, cW = fun b => if b < w.heap.size then c b else (0, 0) := ⟨_, rfl⟩
  have HCW : Hid (Cx w c cW) := by intro b hb; rw [hcW]; exact if_pos hb
  clear hcW
  have HV := Lib.hid (hv.kp (KW.out S2F) (fun h => h) HCW.out); clear hv
  have HPW := Lib.hid (hpw.kp (KW.out S2F) (fun h => h) HCW.out); clear hpw
  have HD := Lib.hid (DD.kp (KW.out S2F) (fun _ h => h)); clear DD
  have HB := Lib.hid hb; clear hb
  have LK := Lib.hid lk; clear lk
  have LF := Lib.hid lf; clear lf
  have LU := Lib.hid lu; clear lu
  have HKK0 := Lib.hid hkk0; clear hkk0
  have HKF := Lib.hid hkf; clear hkf
  have HWs := Lib.hid hWs; clear hWs
  have HW := Lib.hid hW; clear hW
  unfold opV str
  rw [hkind]; clear hkind
  simp only [List.length_map] at HV HPW ⊢
  go_enter Try.func12, Try.ntmps12
  go_wp2_with (first
    | (go_at_call 32; rw [← HW.out]; refine (ltwin _ _ HV.out (one_bv _) (by rw [List.length_map]; exact HB.out)).mono ?_; rintro e w1 ⟨v1, rfl, hown1, hb1⟩; (obtain ⟨av, cap, rfl, -⟩ := Sc.of_owns (c := fun _ => (0, 0)) (q := (0, 0)) hown1 (fun _ _ => rfl)); rw [List.length_map] at hown1 ⊢; have HOW := Lib.hid hown1; have HB1 := Lib.hid hb1; clear hown1 hb1; (obtain ⟨c1, hc1⟩ : ∃ c1 : Col, c1 = fun b => if b < W.heap.size then cW b else (kk, 0) := ⟨_, rfl⟩); have HX1 : Hid (Cx W cW c1) := (fun b hb => by rw [hc1]; exact if_pos hb); have HG1 : Hid (∀ g, (Value.slice av o.data.length cap).ownBlock = some g → c1 g = (kk, 0)) := (fun g hg => by rw [hc1]; exact if_neg (Nat.not_lt.2 (own_base HOW.out g hg))); clear hc1; have HD1 := Lib.hid (HD.out.kp (Kp.of_below (c := c) (S := S2F) HB1.out) (fun _ h => h)); have HR1 := Lib.hid (xrow_of HOW.out HG1.out); have HP1 := Lib.hid ((HB1.out.block _ (by rw [HWs.out]; omega)).trans HOP.out); have p0 := cell_of_heap HP1.out 0; have p1 := cell_of_heap HP1.out 1; have p2 := cell_of_heap HP1.out 2; have p3 := cell_of_heap HP1.out 3; have p4 := cell_of_heap HP1.out 4; have p5 := cell_of_heap HP1.out 5; have p6 := cell_of_heap HP1.out 6; have p7 := cell_of_heap HP1.out 7; have p8 := cell_of_heap HP1.out 8; have p9 := cell_of_heap HP1.out 9; have p10 := cell_of_heap HP1.out 10)
    | (go_at_call 29; refine (create_no w1 p HD1.out _).mono ?_; rintro e w2 ⟨rfl, rfl⟩))
  clear p0 p1 p2 p3 p4 p5 p6 p7 p8 p9 p10
  clear c0
  have hlen : (o.data.length : Int) ≤ 9223372036854775807 := by have := HB.out; unfold lim at this; omega
  go_loopw [83] (fun s wr => ∃ i : Nat, i ≤ o.data.length ∧ s = .int .i64 i ∧ XInv w1 c1 kk av i wr) (fun s _ => o.data.length - (intOf s).toNat)
  case atStart => exact ⟨0, Nat.zero_le _, rfl, xinv_start _ _ _ _⟩
  case round =>
    obtain ⟨i, hi, rfl, I⟩ := hrel
    have HI := Lib.hid I; clear I
    by_cases hlt : i < o.data.length
    · obtain ⟨g, x, rfl, hg, hcell, hfz⟩ := xinv_cell HR1.out HI.out hlt
      have HG := Lib.hid hg; clear hg
      unfold bv at hcell
      go_wp2
      go_roundw
      case rel => exact ⟨i + 1, by omega, by go_num, xinv_step HI.out HG.out _⟩
      case measure => simp [intOf]; omega
    · obtain rfl : i = o.data.length := by omega
      go_wp2
      go_ret
      exact ⟨rfl, no_end HKF.out (fun S => (KW.out S).below HB1.out (by rw [HWs.out]; omega)) (HCW.out.trans HX1.out (KW.out S2F).size) HI.out⟩
set_option maxHeartbeats 8000000 in
theorem do_no_append (p : Option Addr) (o : AOp) (vd vk vf vu : Value) (w : World) (DD : NoD w p) (hv : Sw w c (0, 0) vd (o.data.map bv)) (hb : o.data.length ≤ lim) (hpw : PlanW w c vk vf vu o.plan) (lk : o.plan.keep.length ≤ lim) (lf : o.plan.fail.length ≤ lim) (lu : o.plan.full.length ≤ lim) (hkind : o.kind = 1) :
    Calls Try.prog 12 #[.pointer p, opV o vd vk vf vu] w fun e w' => e = .returned (.int .i64 10) ∧ ∀ S, Kp c S w w' := by
  obtain ⟨ad, capd, rfl, -⟩ := id hv
  obtain ⟨ak, capk, rfl, -⟩ := id hpw.keep
  obtain ⟨af, capf, rfl, -⟩ := id hpw.fail
  obtain ⟨au, capu, rfl, -⟩ := id hpw.full
  obtain ⟨kk, hkk0, -, hkf⟩ := fresh_col c w.heap.size 0
  obtain ⟨W, hW⟩ : ∃ W, W = w.alloc (.cells #[.int .i64 1, .string ⟨o.name.toArray⟩, .string ⟨o.to.toArray⟩, .int .i64 o.at_, .int .i64 o.long, .slice ad o.data.length capd, .int .i64 o.plan.crash, .slice ak o.plan.keep.length capk, .slice af o.plan.fail.length capf, .slice au o.plan.full.length capu, .int .i64 o.plan.room] 32) := ⟨_, rfl⟩
  have KW : Hid (∀ S, Kp c S w W) := by intro S; rw [hW]; exact (Kp.refl c S w).alloc _
  have HOP : Hid (W.heap[w.heap.size]? = some (.cells #[.int .i64 1, .string ⟨o.name.toArray⟩, .string ⟨o.to.toArray⟩, .int .i64 o.at_, .int .i64 o.long, .slice ad o.data.length capd, .int .i64 o.plan.crash, .slice ak o.plan.keep.length capk, .slice af o.plan.fail.length capf, .slice au o.plan.full.length capu, .int .i64 o.plan.room] 32 (0, 0))) := by rw [hW]; exact heap_alloc_new _ _
  have hWs : W.heap.size = w.heap.size + 1 := by rw [hW]; simp
  have c0 := cell_of_heap HOP.out 0
  obtain ⟨cW, hcW⟩ : ∃ cW : Col, cW = fun b => if b < w.heap.size then c b else (0, 0) := ⟨_, rfl⟩
  have HCW : Hid (Cx w c cW) := by intro b hb; rw [hcW]; exact if_pos hb
  clear hcW
  have HV := Lib.hid (hv.kp (KW.out S2F) (fun h => h) HCW.out); clear hv
  have HPW := Lib.hid (hpw.kp (KW.out S2F) (fun h => h) HCW.out); clear hpw
  have HD := Lib.hid (DD.kp (KW.out S2F) (fun _ h => h)); clear DD
  have HB := Lib.hid hb; clear hb
  have LK := Lib.hid lk; clear lk
  have LF := Lib.hid lf; clear lf
  have LU := Lib.hid lu; clear lu
  have HKK0 := Lib.hid hkk0; clear hkk0
  have HKF := Lib.hid hkf; clear hkf
  have HWs := Lib.hid hWs; clear hWs
  have HW := Lib.hid hW; clear hW
  unfold opV str
  rw [hkind]; clear hkind
  simp only [List.length_map] at HV HPW ⊢
  go_enter Try.func12, Try.ntmps12
  go_wp2_with (first
    | (go_at_call 32; rw [← HW.out]; refine (ltwin _ _ HV.out (one_bv _) (by rw [List.length_map]; exact HB.out)).mono ?_; rintro e w1 ⟨v1, rfl, hown1, hb1⟩; (obtain ⟨av, cap, rfl, -⟩ := Sc.of_owns (c := fun _ => (0, 0)) (q := (0, 0)) hown1 (fun _ _ => rfl)); rw [List.length_map] at hown1 ⊢; have HOW := Lib.hid hown1; have HB1 := Lib.hid hb1; clear hown1 hb1; (obtain ⟨c1, hc1⟩ : ∃ c1 : Col, c1 = fun b => if b < W.heap.size then cW b else (kk, 0) := ⟨_, rfl⟩); have HX1 : Hid (Cx W cW c1) := (fun b hb => by rw [hc1]; exact if_pos hb); have HG1 : Hid (∀ g, (Value.slice av o.data.length cap).ownBlock = some g → c1 g = (kk, 0)) := (fun g hg => by rw [hc1]; exact if_neg (Nat.not_lt.2 (own_base HOW.out g hg))); clear hc1; have HD1 := Lib.hid (HD.out.kp (Kp.of_below (c := c) (S := S2F) HB1.out) (fun _ h => h)); have HR1 := Lib.hid (xrow_of HOW.out HG1.out); have HP1 := Lib.hid ((HB1.out.block _ (by rw [HWs.out]; omega)).trans HOP.out); have p0 := cell_of_heap HP1.out 0; have p1 := cell_of_heap HP1.out 1; have p2 := cell_of_heap HP1.out 2; have p3 := cell_of_heap HP1.out 3; have p4 := cell_of_heap HP1.out 4; have p5 := cell_of_heap HP1.out 5; have p6 := cell_of_heap HP1.out 6; have p7 := cell_of_heap HP1.out 7; have p8 := cell_of_heap HP1.out 8; have p9 := cell_of_heap HP1.out 9; have p10 := cell_of_heap HP1.out 10)
    | (go_at_call 30; refine (append_no w1 p HD1.out _ _ _ _).mono ?_; rintro e w2 ⟨rfl, rfl⟩))
  clear p0 p1 p2 p3 p4 p5 p6 p7 p8 p9 p10
  clear c0
  have hlen : (o.data.length : Int) ≤ 9223372036854775807 := by have := HB.out; unfold lim at this; omega
  go_loopw [83] (fun s wr => ∃ i : Nat, i ≤ o.data.length ∧ s = .int .i64 i ∧ XInv w1 c1 kk av i wr) (fun s _ => o.data.length - (intOf s).toNat)
  case atStart => exact ⟨0, Nat.zero_le _, rfl, xinv_start _ _ _ _⟩
  case round =>
    obtain ⟨i, hi, rfl, I⟩ := hrel
    have HI := Lib.hid I; clear I
    by_cases hlt : i < o.data.length
    · obtain ⟨g, x, rfl, hg, hcell, hfz⟩ := xinv_cell HR1.out HI.out hlt
      have HG := Lib.hid hg; clear hg
      unfold bv at hcell
      go_wp2
      go_roundw
      case rel => exact ⟨i + 1, by omega, by go_num, xinv_step HI.out HG.out _⟩
      case measure => simp [intOf]; omega
    · obtain rfl : i = o.data.length := by omega
      go_wp2
      go_ret
      exact ⟨rfl, no_end HKF.out (fun S => (KW.out S).below HB1.out (by rw [HWs.out]; omega)) (HCW.out.trans HX1.out (KW.out S2F).size) HI.out⟩
set_option maxHeartbeats 8000000 in
theorem do_no_writeAt (p : Option Addr) (o : AOp) (vd vk vf vu : Value) (w : World) (DD : NoD w p) (hv : Sw w c (0, 0) vd (o.data.map bv)) (hb : o.data.length ≤ lim) (hpw : PlanW w c vk vf vu o.plan) (lk : o.plan.keep.length ≤ lim) (lf : o.plan.fail.length ≤ lim) (lu : o.plan.full.length ≤ lim) (hkind : o.kind = 2) :
    Calls Try.prog 12 #[.pointer p, opV o vd vk vf vu] w fun e w' => e = .returned (.int .i64 10) ∧ ∀ S, Kp c S w w' := by
  obtain ⟨ad, capd, rfl, -⟩ := id hv
  obtain ⟨ak, capk, rfl, -⟩ := id hpw.keep
  obtain ⟨af, capf, rfl, -⟩ := id hpw.fail
  obtain ⟨au, capu, rfl, -⟩ := id hpw.full
  obtain ⟨kk, hkk0, -, hkf⟩ := fresh_col c w.heap.size 0
  obtain ⟨W, hW⟩ : ∃ W, W = w.alloc (.cells #[.int .i64 2, .string ⟨o.name.toArray⟩, .string ⟨o.to.toArray⟩, .int .i64 o.at_, .int .i64 o.long, .slice ad o.data.length capd, .int .i64 o.plan.crash, .slice ak o.plan.keep.length capk, .slice af o.plan.fail.length capf, .slice au o.plan.full.length capu, .int .i64 o.plan.room] 32) := ⟨_, rfl⟩
  have KW : Hid (∀ S, Kp c S w W) := by intro S; rw [hW]; exact (Kp.refl c S w).alloc _
  have HOP : Hid (W.heap[w.heap.size]? = some (.cells #[.int .i64 2, .string ⟨o.name.toArray⟩, .string ⟨o.to.toArray⟩, .int .i64 o.at_, .int .i64 o.long, .slice ad o.data.length capd, .int .i64 o.plan.crash, .slice ak o.plan.keep.length capk, .slice af o.plan.fail.length capf, .slice au o.plan.full.length capu, .int .i64 o.plan.room] 32 (0, 0))) := by rw [hW]; exact heap_alloc_new _ _
  have hWs : W.heap.size = w.heap.size + 1 := by rw [hW]; simp
  have c0 := cell_of_heap HOP.out 0
  obtain ⟨cW, hcW⟩ : ∃ cW : Col, cW = fun b => if b < w.heap.size then c b else (0, 0) := ⟨_, rfl⟩
  have HCW : Hid (Cx w c cW) := by intro b hb; rw [hcW]; exact if_pos hb
  clear hcW
  have HV := Lib.hid (hv.kp (KW.out S2F) (fun h => h) HCW.out); clear hv
  have HPW := Lib.hid (hpw.kp (KW.out S2F) (fun h => h) HCW.out); clear hpw
  have HD := Lib.hid (DD.kp (KW.out S2F) (fun _ h => h)); clear DD
  have HB := Lib.hid hb; clear hb
  have LK := Lib.hid lk; clear lk
  have LF := Lib.hid lf; clear lf
  have LU := Lib.hid lu; clear lu
  have HKK0 := Lib.hid hkk0; clear hkk0
  have HKF := Lib.hid hkf; clear hkf
  have HWs := Lib.hid hWs; clear hWs
  have HW := Lib.hid hW; clear hW
  unfold opV str
  rw [hkind]; clear hkind
  simp only [List.length_map] at HV HPW ⊢
  go_enter Try.func12, Try.ntmps12
  go_wp2_with (first
    | (go_at_call 32; rw [← HW.out]; refine (ltwin _ _ HV.out (one_bv _) (by rw [List.length_map]; exact HB.out)).mono ?_; rintro e w1 ⟨v1, rfl, hown1, hb1⟩; (obtain ⟨av, cap, rfl, -⟩ := Sc.of_owns (c := fun _ => (0, 0)) (q := (0, 0)) hown1 (fun _ _ => rfl)); rw [List.length_map] at hown1 ⊢; have HOW := Lib.hid hown1; have HB1 := Lib.hid hb1; clear hown1 hb1; (obtain ⟨c1, hc1⟩ : ∃ c1 : Col, c1 = fun b => if b < W.heap.size then cW b else (kk, 0) := ⟨_, rfl⟩); have HX1 : Hid (Cx W cW c1) := (fun b hb => by rw [hc1]; exact if_pos hb); have HG1 : Hid (∀ g, (Value.slice av o.data.length cap).ownBlock = some g → c1 g = (kk, 0)) := (fun g hg => by rw [hc1]; exact if_neg (Nat.not_lt.2 (own_base HOW.out g hg))); clear hc1; have HD1 := Lib.hid (HD.out.kp (Kp.of_below (c := c) (S := S2F) HB1.out) (fun _ h => h)); have HR1 := Lib.hid (xrow_of HOW.out HG1.out); have HP1 := Lib.hid ((HB1.out.block _ (by rw [HWs.out]; omega)).trans HOP.out); have p0 := cell_of_heap HP1.out 0; have p1 := cell_of_heap HP1.out 1; have p2 := cell_of_heap HP1.out 2; have p3 := cell_of_heap HP1.out 3; have p4 := cell_of_heap HP1.out 4; have p5 := cell_of_heap HP1.out 5; have p6 := cell_of_heap HP1.out 6; have p7 := cell_of_heap HP1.out 7; have p8 := cell_of_heap HP1.out 8; have p9 := cell_of_heap HP1.out 9; have p10 := cell_of_heap HP1.out 10)
    | (go_at_call 33; refine (writeAt_no w1 p HD1.out _ _ _ _ _).mono ?_; rintro e w2 ⟨rfl, rfl⟩))
  clear p0 p1 p2 p3 p4 p5 p6 p7 p8 p9 p10
  clear c0
  have hlen : (o.data.length : Int) ≤ 9223372036854775807 := by have := HB.out; unfold lim at this; omega
  go_loopw [83] (fun s wr => ∃ i : Nat, i ≤ o.data.length ∧ s = .int .i64 i ∧ XInv w1 c1 kk av i wr) (fun s _ => o.data.length - (intOf s).toNat)
  case atStart => exact ⟨0, Nat.zero_le _, rfl, xinv_start _ _ _ _⟩
  case round =>
    obtain ⟨i, hi, rfl, I⟩ := hrel
    have HI := Lib.hid I; clear I
    by_cases hlt : i < o.data.length
    · obtain ⟨g, x, rfl, hg, hcell, hfz⟩ := xinv_cell HR1.out HI.out hlt
      have HG := Lib.hid hg; clear hg
      unfold bv at hcell
      go_wp2
      go_roundw
      case rel => exact ⟨i + 1, by omega, by go_num, xinv_step HI.out HG.out _⟩
      case measure => simp [intOf]; omega
    · obtain rfl : i = o.data.length := by omega
      go_wp2
      go_ret
      exact ⟨rfl, no_end HKF.out (fun S => (KW.out S).below HB1.out (by rw [HWs.out]; omega)) (HCW.out.trans HX1.out (KW.out S2F).size) HI.out⟩
set_option maxHeartbeats 8000000 in
theorem do_no_truncate (p : Option Addr) (o : AOp) (vd vk vf vu : Value) (w : World) (DD : NoD w p) (hv : Sw w c (0, 0) vd (o.data.map bv)) (hb : o.data.length ≤ lim) (hpw : PlanW w c vk vf vu o.plan) (lk : o.plan.keep.length ≤ lim) (lf : o.plan.fail.length ≤ lim) (lu : o.plan.full.length ≤ lim) (hkind : o.kind = 3) :
    Calls Try.prog 12 #[.pointer p, opV o vd vk vf vu] w fun e w' => e = .returned (.int .i64 10) ∧ ∀ S, Kp c S w w' := by
  obtain ⟨ad, capd, rfl, -⟩ := id hv
  obtain ⟨ak, capk, rfl, -⟩ := id hpw.keep
  obtain ⟨af, capf, rfl, -⟩ := id hpw.fail
  obtain ⟨au, capu, rfl, -⟩ := id hpw.full
  obtain ⟨kk, hkk0, -, hkf⟩ := fresh_col c w.heap.size 0
  obtain ⟨W, hW⟩ : ∃ W, W = w.alloc (.cells #[.int .i64 3, .string ⟨o.name.toArray⟩, .string ⟨o.to.toArray⟩, .int .i64 o.at_, .int .i64 o.long, .slice ad o.data.length capd, .int .i64 o.plan.crash, .slice ak o.plan.keep.length capk, .slice af o.plan.fail.length capf, .slice au o.plan.full.length capu, .int .i64 o.plan.room] 32) := ⟨_, rfl⟩
  have KW : Hid (∀ S, Kp c S w W) := by intro S; rw [hW]; exact (Kp.refl c S w).alloc _
  have HOP : Hid (W.heap[w.heap.size]? = some (.cells #[.int .i64 3, .string ⟨o.name.toArray⟩, .string ⟨o.to.toArray⟩, .int .i64 o.at_, .int .i64 o.long, .slice ad o.data.length capd, .int .i64 o.plan.crash, .slice ak o.plan.keep.length capk, .slice af o.plan.fail.length capf, .slice au o.plan.full.length capu, .int .i64 o.plan.room] 32 (0, 0))) := by rw [hW]; exact heap_alloc_new _ _
  have hWs : W.heap.size = w.heap.size + 1 := by rw [hW]; simp
  have c0 := cell_of_heap HOP.out 0
  obtain ⟨cW, hcW⟩ : ∃ cW : Col, cW = fun b => if b < w.heap.size then c b else (0, 0) := ⟨_, rfl⟩
  have HCW : Hid (Cx w c cW) := by intro b hb; rw [hcW]; exact if_pos hb
  clear hcW
  have HV := Lib.hid (hv.kp (KW.out S2F) (fun h => h) HCW.out); clear hv
  have HPW := Lib.hid (hpw.kp (KW.out S2F) (fun h => h) HCW.out); clear hpw
  have HD := Lib.hid (DD.kp (KW.out S2F) (fun _ h => h)); clear DD
  have HB := Lib.hid hb; clear hb
  have LK := Lib.hid lk; clear lk
  have LF := Lib.hid lf; clear lf
  have LU := Lib.hid lu; clear lu
  have HKK0 := Lib.hid hkk0; clear hkk0
  have HKF := Lib.hid hkf; clear hkf
  have HWs := Lib.hid hWs; clear hWs
  have HW := Lib.hid hW; clear hW
  unfold opV str
  rw [hkind]; clear hkind
  simp only [List.length_map] at HV HPW ⊢
  go_enter Try.func12, Try.ntmps12
  go_wp2_with (first
    | (go_at_call 32; rw [← HW.out]; refine (ltwin _ _ HV.out (one_bv _) (by rw [List.length_map]; exact HB.out)).mono ?_; rintro e w1 ⟨v1, rfl, hown1, hb1⟩; (obtain ⟨av, cap, rfl, -⟩ := Sc.of_owns (c := fun _ => (0, 0)) (q := (0, 0)) hown1 (fun _ _ => rfl)); rw [List.length_map] at hown1 ⊢; have HOW := Lib.hid hown1; have HB1 := Lib.hid hb1; clear hown1 hb1; (obtain ⟨c1, hc1⟩ : ∃ c1 : Col, c1 = fun b => if b < W.heap.size then cW b else (kk, 0) := ⟨_, rfl⟩); have HX1 : Hid (Cx W cW c1) := (fun b hb => by rw [hc1]; exact if_pos hb); have HG1 : Hid (∀ g, (Value.slice av o.data.length cap).ownBlock = some g → c1 g = (kk, 0)) := (fun g hg => by rw [hc1]; exact if_neg (Nat.not_lt.2 (own_base HOW.out g hg))); clear hc1; have HD1 := Lib.hid (HD.out.kp (Kp.of_below (c := c) (S := S2F) HB1.out) (fun _ h => h)); have HR1 := Lib.hid (xrow_of HOW.out HG1.out); have HP1 := Lib.hid ((HB1.out.block _ (by rw [HWs.out]; omega)).trans HOP.out); have p0 := cell_of_heap HP1.out 0; have p1 := cell_of_heap HP1.out 1; have p2 := cell_of_heap HP1.out 2; have p3 := cell_of_heap HP1.out 3; have p4 := cell_of_heap HP1.out 4; have p5 := cell_of_heap HP1.out 5; have p6 := cell_of_heap HP1.out 6; have p7 := cell_of_heap HP1.out 7; have p8 := cell_of_heap HP1.out 8; have p9 := cell_of_heap HP1.out 9; have p10 := cell_of_heap HP1.out 10)
    | (go_at_call 34; refine (truncate_no w1 p HD1.out _ _).mono ?_; rintro e w2 ⟨rfl, rfl⟩))
  clear p0 p1 p2 p3 p4 p5 p6 p7 p8 p9 p10
  clear c0
  have hlen : (o.data.length : Int) ≤ 9223372036854775807 := by have := HB.out; unfold lim at this; omega
  go_loopw [83] (fun s wr => ∃ i : Nat, i ≤ o.data.length ∧ s = .int .i64 i ∧ XInv w1 c1 kk av i wr) (fun s _ => o.data.length - (intOf s).toNat)
  case atStart => exact ⟨0, Nat.zero_le _, rfl, xinv_start _ _ _ _⟩
  case round =>
    obtain ⟨i, hi, rfl, I⟩ := hrel
    have HI := Lib.hid I; clear I
    by_cases hlt : i < o.data.length
    · obtain ⟨g, x, rfl, hg, hcell, hfz⟩ := xinv_cell HR1.out HI.out hlt
      have HG := Lib.hid hg; clear hg
      unfold bv at hcell
      go_wp2
      go_roundw
      case rel => exact ⟨i + 1, by omega, by go_num, xinv_step HI.out HG.out _⟩
      case measure => simp [intOf]; omega
    · obtain rfl : i = o.data.length := by omega
      go_wp2
      go_ret
      exact ⟨rfl, no_end HKF.out (fun S => (KW.out S).below HB1.out (by rw [HWs.out]; omega)) (HCW.out.trans HX1.out (KW.out S2F).size) HI.out⟩
set_option maxHeartbeats 8000000 in
theorem do_no_sync (p : Option Addr) (o : AOp) (vd vk vf vu : Value) (w : World) (DD : NoD w p) (hv : Sw w c (0, 0) vd (o.data.map bv)) (hb : o.data.length ≤ lim) (hpw : PlanW w c vk vf vu o.plan) (lk : o.plan.keep.length ≤ lim) (lf : o.plan.fail.length ≤ lim) (lu : o.plan.full.length ≤ lim) (hkind : o.kind = 4) :
    Calls Try.prog 12 #[.pointer p, opV o vd vk vf vu] w fun e w' => e = .returned (.int .i64 10) ∧ ∀ S, Kp c S w w' := by
  obtain ⟨ad, capd, rfl, -⟩ := id hv
  obtain ⟨ak, capk, rfl, -⟩ := id hpw.keep
  obtain ⟨af, capf, rfl, -⟩ := id hpw.fail
  obtain ⟨au, capu, rfl, -⟩ := id hpw.full
  obtain ⟨kk, hkk0, -, hkf⟩ := fresh_col c w.heap.size 0
  obtain ⟨W, hW⟩ : ∃ W, W = w.alloc (.cells #[.int .i64 4, .string ⟨o.name.toArray⟩, .string ⟨o.to.toArray⟩, .int .i64 o.at_, .int .i64 o.long, .slice ad o.data.length capd, .int .i64 o.plan.crash, .slice ak o.plan.keep.length capk, .slice af o.plan.fail.length capf, .slice au o.plan.full.length capu, .int .i64 o.plan.room] 32) := ⟨_, rfl⟩
  have KW : Hid (∀ S, Kp c S w W) := by intro S; rw [hW]; exact (Kp.refl c S w).alloc _
  have HOP : Hid (W.heap[w.heap.size]? = some (.cells #[.int .i64 4, .string ⟨o.name.toArray⟩, .string ⟨o.to.toArray⟩, .int .i64 o.at_, .int .i64 o.long, .slice ad o.data.length capd, .int .i64 o.plan.crash, .slice ak o.plan.keep.length capk, .slice af o.plan.fail.length capf, .slice au o.plan.full.length capu, .int .i64 o.plan.room] 32 (0, 0))) := by rw [hW]; exact heap_alloc_new _ _
  have hWs : W.heap.size = w.heap.size + 1 := by rw [hW]; simp
  have c0 := cell_of_heap HOP.out 0
  obtain ⟨cW, hcW⟩ : ∃ cW : Col, cW = fun b => if b < w.heap.size then c b else (0, 0) := ⟨_, rfl⟩
  have HCW : Hid (Cx w c cW) := by intro b hb; rw [hcW]; exact if_pos hb
  clear hcW
  have HV := Lib.hid (hv.kp (KW.out S2F) (fun h => h) HCW.out); clear hv
  have HPW := Lib.hid (hpw.kp (KW.out S2F) (fun h => h) HCW.out); clear hpw
  have HD := Lib.hid (DD.kp (KW.out S2F) (fun _ h => h)); clear DD
  have HB := Lib.hid hb; clear hb
  have LK := Lib.hid lk; clear lk
  have LF := Lib.hid lf; clear lf
  have LU := Lib.hid lu; clear lu
  have HKK0 := Lib.hid hkk0; clear hkk0
  have HKF := Lib.hid hkf; clear hkf
  have HWs := Lib.hid hWs; clear hWs
  have HW := Lib.hid hW; clear hW
  unfold opV str
  rw [hkind]; clear hkind
  simp only [List.length_map] at HV HPW ⊢
  go_enter Try.func12, Try.ntmps12
  go_wp2_with (first
    | (go_at_call 32; rw [← HW.out]; refine (ltwin _ _ HV.out (one_bv _) (by rw [List.length_map]; exact HB.out)).mono ?_; rintro e w1 ⟨v1, rfl, hown1, hb1⟩; (obtain ⟨av, cap, rfl, -⟩ := Sc.of_owns (c := fun _ => (0, 0)) (q := (0, 0)) hown1 (fun _ _ => rfl)); rw [List.length_map] at hown1 ⊢; have HOW := Lib.hid hown1; have HB1 := Lib.hid hb1; clear hown1 hb1; (obtain ⟨c1, hc1⟩ : ∃ c1 : Col, c1 = fun b => if b < W.heap.size then cW b else (kk, 0) := ⟨_, rfl⟩); have HX1 : Hid (Cx W cW c1) := (fun b hb => by rw [hc1]; exact if_pos hb); have HG1 : Hid (∀ g, (Value.slice av o.data.length cap).ownBlock = some g → c1 g = (kk, 0)) := (fun g hg => by rw [hc1]; exact if_neg (Nat.not_lt.2 (own_base HOW.out g hg))); clear hc1; have HD1 := Lib.hid (HD.out.kp (Kp.of_below (c := c) (S := S2F) HB1.out) (fun _ h => h)); have HR1 := Lib.hid (xrow_of HOW.out HG1.out); have HP1 := Lib.hid ((HB1.out.block _ (by rw [HWs.out]; omega)).trans HOP.out); have p0 := cell_of_heap HP1.out 0; have p1 := cell_of_heap HP1.out 1; have p2 := cell_of_heap HP1.out 2; have p3 := cell_of_heap HP1.out 3; have p4 := cell_of_heap HP1.out 4; have p5 := cell_of_heap HP1.out 5; have p6 := cell_of_heap HP1.out 6; have p7 := cell_of_heap HP1.out 7; have p8 := cell_of_heap HP1.out 8; have p9 := cell_of_heap HP1.out 9; have p10 := cell_of_heap HP1.out 10)
    | (go_at_call 20; refine (sync_no w1 p HD1.out _).mono ?_; rintro e w2 ⟨rfl, rfl⟩))
  clear p0 p1 p2 p3 p4 p5 p6 p7 p8 p9 p10
  clear c0
  have hlen : (o.data.length : Int) ≤ 9223372036854775807 := by have := HB.out; unfold lim at this; omega
  go_loopw [83] (fun s wr => ∃ i : Nat, i ≤ o.data.length ∧ s = .int .i64 i ∧ XInv w1 c1 kk av i wr) (fun s _ => o.data.length - (intOf s).toNat)
  case atStart => exact ⟨0, Nat.zero_le _, rfl, xinv_start _ _ _ _⟩
  case round =>
    obtain ⟨i, hi, rfl, I⟩ := hrel
    have HI := Lib.hid I; clear I
    by_cases hlt : i < o.data.length
    · obtain ⟨g, x, rfl, hg, hcell, hfz⟩ := xinv_cell HR1.out HI.out hlt
      have HG := Lib.hid hg; clear hg
      unfold bv at hcell
      go_wp2
      go_roundw
      case rel => exact ⟨i + 1, by omega, by go_num, xinv_step HI.out HG.out _⟩
      case measure => simp [intOf]; omega
    · obtain rfl : i = o.data.length := by omega
      go_wp2
      go_ret
      exact ⟨rfl, no_end HKF.out (fun S => (KW.out S).below HB1.out (by rw [HWs.out]; omega)) (HCW.out.trans HX1.out (KW.out S2F).size) HI.out⟩
set_option maxHeartbeats 8000000 in
theorem do_no_rename (p : Option Addr) (o : AOp) (vd vk vf vu : Value) (w : World) (DD : NoD w p) (hv : Sw w c (0, 0) vd (o.data.map bv)) (hb : o.data.length ≤ lim) (hpw : PlanW w c vk vf vu o.plan) (lk : o.plan.keep.length ≤ lim) (lf : o.plan.fail.length ≤ lim) (lu : o.plan.full.length ≤ lim) (hkind : o.kind = 5) :
    Calls Try.prog 12 #[.pointer p, opV o vd vk vf vu] w fun e w' => e = .returned (.int .i64 10) ∧ ∀ S, Kp c S w w' := by
  obtain ⟨ad, capd, rfl, -⟩ := id hv
  obtain ⟨ak, capk, rfl, -⟩ := id hpw.keep
  obtain ⟨af, capf, rfl, -⟩ := id hpw.fail
  obtain ⟨au, capu, rfl, -⟩ := id hpw.full
  obtain ⟨kk, hkk0, -, hkf⟩ := fresh_col c w.heap.size 0
  obtain ⟨W, hW⟩ : ∃ W, W = w.alloc (.cells #[.int .i64 5, .string ⟨o.name.toArray⟩, .string ⟨o.to.toArray⟩, .int .i64 o.at_, .int .i64 o.long, .slice ad o.data.length capd, .int .i64 o.plan.crash, .slice ak o.plan.keep.length capk, .slice af o.plan.fail.length capf, .slice au o.plan.full.length capu, .int .i64 o.plan.room] 32) := ⟨_, rfl⟩
  have KW : Hid (∀ S, Kp c S w W) := by intro S; rw [hW]; exact (Kp.refl c S w).alloc _
  have HOP : Hid (W.heap[w.heap.size]? = some (.cells #[.int .i64 5, .string ⟨o.name.toArray⟩, .string ⟨o.to.toArray⟩, .int .i64 o.at_, .int .i64 o.long, .slice ad o.data.length capd, .int .i64 o.plan.crash, .slice ak o.plan.keep.length capk, .slice af o.plan.fail.length capf, .slice au o.plan.full.length capu, .int .i64 o.plan.room] 32 (0, 0))) := by rw [hW]; exact heap_alloc_new _ _
  have hWs : W.heap.size = w.heap.size + 1 := by rw [hW]; simp
  have c0 := cell_of_heap HOP.out 0
  obtain ⟨cW, hcW⟩ : ∃ cW : Col, cW = fun b => if b < w.heap.size then c b else (0, 0) := ⟨_, rfl⟩
  have HCW : Hid (Cx w c cW) := by intro b hb; rw [hcW]; exact if_pos hb
  clear hcW
  have HV := Lib.hid (hv.kp (KW.out S2F) (fun h => h) HCW.out); clear hv
  have HPW := Lib.hid (hpw.kp (KW.out S2F) (fun h => h) HCW.out); clear hpw
  have HD := Lib.hid (DD.kp (KW.out S2F) (fun _ h => h)); clear DD
  have HB := Lib.hid hb; clear hb
  have LK := Lib.hid lk; clear lk
  have LF := Lib.hid lf; clear lf
  have LU := Lib.hid lu; clear lu
  have HKK0 := Lib.hid hkk0; clear hkk0
  have HKF := Lib.hid hkf; clear hkf
  have HWs := Lib.hid hWs; clear hWs
  have HW := Lib.hid hW; clear hW
  unfold opV str
  rw [hkind]; clear hkind
  simp only [List.length_map] at HV HPW ⊢
  go_enter Try.func12, Try.ntmps12
  go_wp2_with (first
    | (go_at_call 32; rw [← HW.out]; refine (ltwin _ _ HV.out (one_bv _) (by rw [List.length_map]; exact HB.out)).mono ?_; rintro e w1 ⟨v1, rfl, hown1, hb1⟩; (obtain ⟨av, cap, rfl, -⟩ := Sc.of_owns (c := fun _ => (0, 0)) (q := (0, 0)) hown1 (fun _ _ => rfl)); rw [List.length_map] at hown1 ⊢; have HOW := Lib.hid hown1; have HB1 := Lib.hid hb1; clear hown1 hb1; (obtain ⟨c1, hc1⟩ : ∃ c1 : Col, c1 = fun b => if b < W.heap.size then cW b else (kk, 0) := ⟨_, rfl⟩); have HX1 : Hid (Cx W cW c1) := (fun b hb => by rw [hc1]; exact if_pos hb); have HG1 : Hid (∀ g, (Value.slice av o.data.length cap).ownBlock = some g → c1 g = (kk, 0)) := (fun g hg => by rw [hc1]; exact if_neg (Nat.not_lt.2 (own_base HOW.out g hg))); clear hc1; have HD1 := Lib.hid (HD.out.kp (Kp.of_below (c := c) (S := S2F) HB1.out) (fun _ h => h)); have HR1 := Lib.hid (xrow_of HOW.out HG1.out); have HP1 := Lib.hid ((HB1.out.block _ (by rw [HWs.out]; omega)).trans HOP.out); have p0 := cell_of_heap HP1.out 0; have p1 := cell_of_heap HP1.out 1; have p2 := cell_of_heap HP1.out 2; have p3 := cell_of_heap HP1.out 3; have p4 := cell_of_heap HP1.out 4; have p5 := cell_of_heap HP1.out 5; have p6 := cell_of_heap HP1.out 6; have p7 := cell_of_heap HP1.out 7; have p8 := cell_of_heap HP1.out 8; have p9 := cell_of_heap HP1.out 9; have p10 := cell_of_heap HP1.out 10)
    | (go_at_call 35; refine (rename_no w1 p HD1.out _ _).mono ?_; rintro e w2 ⟨rfl, rfl⟩))
  clear p0 p1 p2 p3 p4 p5 p6 p7 p8 p9 p10
  clear c0
  have hlen : (o.data.length : Int) ≤ 9223372036854775807 := by have := HB.out; unfold lim at this; omega
  go_loopw [83] (fun s wr => ∃ i : Nat, i ≤ o.data.length ∧ s = .int .i64 i ∧ XInv w1 c1 kk av i wr) (fun s _ => o.data.length - (intOf s).toNat)
  case atStart => exact ⟨0, Nat.zero_le _, rfl, xinv_start _ _ _ _⟩
  case round =>
    obtain ⟨i, hi, rfl, I⟩ := hrel
    have HI := Lib.hid I; clear I
    by_cases hlt : i < o.data.length
    · obtain ⟨g, x, rfl, hg, hcell, hfz⟩ := xinv_cell HR1.out HI.out hlt
      have HG := Lib.hid hg; clear hg
      unfold bv at hcell
      go_wp2
      go_roundw
      case rel => exact ⟨i + 1, by omega, by go_num, xinv_step HI.out HG.out _⟩
      case measure => simp [intOf]; omega
    · obtain rfl : i = o.data.length := by omega
      go_wp2
      go_ret
      exact ⟨rfl, no_end HKF.out (fun S => (KW.out S).below HB1.out (by rw [HWs.out]; omega)) (HCW.out.trans HX1.out (KW.out S2F).size) HI.out⟩
set_option maxHeartbeats 8000000 in
theorem do_no_remove (p : Option Addr) (o : AOp) (vd vk vf vu : Value) (w : World) (DD : NoD w p) (hv : Sw w c (0, 0) vd (o.data.map bv)) (hb : o.data.length ≤ lim) (hpw : PlanW w c vk vf vu o.plan) (lk : o.plan.keep.length ≤ lim) (lf : o.plan.fail.length ≤ lim) (lu : o.plan.full.length ≤ lim) (hkind : o.kind = 6) :
    Calls Try.prog 12 #[.pointer p, opV o vd vk vf vu] w fun e w' => e = .returned (.int .i64 10) ∧ ∀ S, Kp c S w w' := by
  obtain ⟨ad, capd, rfl, -⟩ := id hv
  obtain ⟨ak, capk, rfl, -⟩ := id hpw.keep
  obtain ⟨af, capf, rfl, -⟩ := id hpw.fail
  obtain ⟨au, capu, rfl, -⟩ := id hpw.full
  obtain ⟨kk, hkk0, -, hkf⟩ := fresh_col c w.heap.size 0
  obtain ⟨W, hW⟩ : ∃ W, W = w.alloc (.cells #[.int .i64 6, .string ⟨o.name.toArray⟩, .string ⟨o.to.toArray⟩, .int .i64 o.at_, .int .i64 o.long, .slice ad o.data.length capd, .int .i64 o.plan.crash, .slice ak o.plan.keep.length capk, .slice af o.plan.fail.length capf, .slice au o.plan.full.length capu, .int .i64 o.plan.room] 32) := ⟨_, rfl⟩
  have KW : Hid (∀ S, Kp c S w W) := by intro S; rw [hW]; exact (Kp.refl c S w).alloc _
  have HOP : Hid (W.heap[w.heap.size]? = some (.cells #[.int .i64 6, .string ⟨o.name.toArray⟩, .string ⟨o.to.toArray⟩, .int .i64 o.at_, .int .i64 o.long, .slice ad o.data.length capd, .int .i64 o.plan.crash, .slice ak o.plan.keep.length capk, .slice af o.plan.fail.length capf, .slice au o.plan.full.length capu, .int .i64 o.plan.room] 32 (0, 0))) := by rw [hW]; exact heap_alloc_new _ _
  have hWs : W.heap.size = w.heap.size + 1 := by rw [hW]; simp
  have c0 := cell_of_heap HOP.out 0
  obtain ⟨cW, hcW⟩ : ∃ cW : Col, cW = fun b => if b < w.heap.size then c b else (0, 0) := ⟨_, rfl⟩
  have HCW : Hid (Cx w c cW) := by intro b hb; rw [hcW]; exact if_pos hb
  clear hcW
  have HV := Lib.hid (hv.kp (KW.out S2F) (fun h => h) HCW.out); clear hv
  have HPW := Lib.hid (hpw.kp (KW.out S2F) (fun h => h) HCW.out); clear hpw
  have HD := Lib.hid (DD.kp (KW.out S2F) (fun _ h => h)); clear DD
  have HB := Lib.hid hb; clear hb
  have LK := Lib.hid lk; clear lk
  have LF := Lib.hid lf; clear lf
  have LU := Lib.hid lu; clear lu
  have HKK0 := Lib.hid hkk0; clear hkk0
  have HKF := Lib.hid hkf; clear hkf
  have HWs := Lib.hid hWs; clear hWs
  have HW := Lib.hid hW; clear hW
  unfold opV str
  rw [hkind]; clear hkind
  simp only [List.length_map] at HV HPW ⊢
  go_enter Try.func12, Try.ntmps12
  go_wp2_with (first
    | (go_at_call 32; rw [← HW.out]; refine (ltwin _ _ HV.out (one_bv _) (by rw [List.length_map]; exact HB.out)).mono ?_; rintro e w1 ⟨v1, rfl, hown1, hb1⟩; (obtain ⟨av, cap, rfl, -⟩ := Sc.of_owns (c := fun _ => (0, 0)) (q := (0, 0)) hown1 (fun _ _ => rfl)); rw [List.length_map] at hown1 ⊢; have HOW := Lib.hid hown1; have HB1 := Lib.hid hb1; clear hown1 hb1; (obtain ⟨c1, hc1⟩ : ∃ c1 : Col, c1 = fun b => if b < W.heap.size then cW b else (kk, 0) := ⟨_, rfl⟩); have HX1 : Hid (Cx W cW c1) := (fun b hb => by rw [hc1]; exact if_pos hb); have HG1 : Hid (∀ g, (Value.slice av o.data.length cap).ownBlock = some g → c1 g = (kk, 0)) := (fun g hg => by rw [hc1]; exact if_neg (Nat.not_lt.2 (own_base HOW.out g hg))); clear hc1; have HD1 := Lib.hid (HD.out.kp (Kp.of_below (c := c) (S := S2F) HB1.out) (fun _ h => h)); have HR1 := Lib.hid (xrow_of HOW.out HG1.out); have HP1 := Lib.hid ((HB1.out.block _ (by rw [HWs.out]; omega)).trans HOP.out); have p0 := cell_of_heap HP1.out 0; have p1 := cell_of_heap HP1.out 1; have p2 := cell_of_heap HP1.out 2; have p3 := cell_of_heap HP1.out 3; have p4 := cell_of_heap HP1.out 4; have p5 := cell_of_heap HP1.out 5; have p6 := cell_of_heap HP1.out 6; have p7 := cell_of_heap HP1.out 7; have p8 := cell_of_heap HP1.out 8; have p9 := cell_of_heap HP1.out 9; have p10 := cell_of_heap HP1.out 10)
    | (go_at_call 36; refine (remove_no w1 p HD1.out _).mono ?_; rintro e w2 ⟨rfl, rfl⟩))
  clear p0 p1 p2 p3 p4 p5 p6 p7 p8 p9 p10
  clear c0
  have hlen : (o.data.length : Int) ≤ 9223372036854775807 := by have := HB.out; unfold lim at this; omega
  go_loopw [83] (fun s wr => ∃ i : Nat, i ≤ o.data.length ∧ s = .int .i64 i ∧ XInv w1 c1 kk av i wr) (fun s _ => o.data.length - (intOf s).toNat)
  case atStart => exact ⟨0, Nat.zero_le _, rfl, xinv_start _ _ _ _⟩
  case round =>
    obtain ⟨i, hi, rfl, I⟩ := hrel
    have HI := Lib.hid I; clear I
    by_cases hlt : i < o.data.length
    · obtain ⟨g, x, rfl, hg, hcell, hfz⟩ := xinv_cell HR1.out HI.out hlt
      have HG := Lib.hid hg; clear hg
      unfold bv at hcell
      go_wp2
      go_roundw
      case rel => exact ⟨i + 1, by omega, by go_num, xinv_step HI.out HG.out _⟩
      case measure => simp [intOf]; omega
    · obtain rfl : i = o.data.length := by omega
      go_wp2
      go_ret
      exact ⟨rfl, no_end HKF.out (fun S => (KW.out S).below HB1.out (by rw [HWs.out]; omega)) (HCW.out.trans HX1.out (KW.out S2F).size) HI.out⟩
set_option maxHeartbeats 8000000 in
theorem do_no_start (p : Option Addr) (o : AOp) (vd vk vf vu : Value) (w : World) (DD : NoD w p) (hv : Sw w c (0, 0) vd (o.data.map bv)) (hb : o.data.length ≤ lim) (hpw : PlanW w c vk vf vu o.plan) (lk : o.plan.keep.length ≤ lim) (lf : o.plan.fail.length ≤ lim) (lu : o.plan.full.length ≤ lim) (hkind : o.kind = 7) :
    Calls Try.prog 12 #[.pointer p, opV o vd vk vf vu] w fun e w' => e = .returned (.int .i64 10) ∧ ∀ S, Kp c S w w' := by
  obtain ⟨ad, capd, rfl, -⟩ := id hv
  obtain ⟨ak, capk, rfl, -⟩ := id hpw.keep
  obtain ⟨af, capf, rfl, -⟩ := id hpw.fail
  obtain ⟨au, capu, rfl, -⟩ := id hpw.full
  obtain ⟨kk, hkk0, -, hkf⟩ := fresh_col c w.heap.size 0
  obtain ⟨W, hW⟩ : ∃ W, W = w.alloc (.cells #[.int .i64 7, .string ⟨o.name.toArray⟩, .string ⟨o.to.toArray⟩, .int .i64 o.at_, .int .i64 o.long, .slice ad o.data.length capd, .int .i64 o.plan.crash, .slice ak o.plan.keep.length capk, .slice af o.plan.fail.length capf, .slice au o.plan.full.length capu, .int .i64 o.plan.room] 32) := ⟨_, rfl⟩
  have KW : Hid (∀ S, Kp c S w W) := by intro S; rw [hW]; exact (Kp.refl c S w).alloc _
  have HOP : Hid (W.heap[w.heap.size]? = some (.cells #[.int .i64 7, .string ⟨o.name.toArray⟩, .string ⟨o.to.toArray⟩, .int .i64 o.at_, .int .i64 o.long, .slice ad o.data.length capd, .int .i64 o.plan.crash, .slice ak o.plan.keep.length capk, .slice af o.plan.fail.length capf, .slice au o.plan.full.length capu, .int .i64 o.plan.room] 32 (0, 0))) := by rw [hW]; exact heap_alloc_new _ _
  have hWs : W.heap.size = w.heap.size + 1 := by rw [hW]; simp
  have c0 := cell_of_heap HOP.out 0
  obtain ⟨cW, hcW⟩ : ∃ cW : Col, cW = fun b => if b < w.heap.size then c b else (0, 0) := ⟨_, rfl⟩
  have HCW : Hid (Cx w c cW) := by intro b hb; rw [hcW]; exact if_pos hb
  clear hcW
  have HV := Lib.hid (hv.kp (KW.out S2F) (fun h => h) HCW.out); clear hv
  have HPW := Lib.hid (hpw.kp (KW.out S2F) (fun h => h) HCW.out); clear hpw
  have HD := Lib.hid (DD.kp (KW.out S2F) (fun _ h => h)); clear DD
  have HB := Lib.hid hb; clear hb
  have LK := Lib.hid lk; clear lk
  have LF := Lib.hid lf; clear lf
  have LU := Lib.hid lu; clear lu
  have HKK0 := Lib.hid hkk0; clear hkk0
  have HKF := Lib.hid hkf; clear hkf
  have HWs := Lib.hid hWs; clear hWs
  have HW := Lib.hid hW; clear hW
  unfold opV str
  rw [hkind]; clear hkind
  simp only [List.length_map] at HV HPW ⊢
  go_enter Try.func12, Try.ntmps12
  go_wp2_with (first
    | (go_at_call 32; rw [← HW.out]; refine (ltwin _ _ HV.out (one_bv _) (by rw [List.length_map]; exact HB.out)).mono ?_; rintro e w1 ⟨v1, rfl, hown1, hb1⟩; (obtain ⟨av, cap, rfl, -⟩ := Sc.of_owns (c := fun _ => (0, 0)) (q := (0, 0)) hown1 (fun _ _ => rfl)); rw [List.length_map] at hown1 ⊢; have HOW := Lib.hid hown1; have HB1 := Lib.hid hb1; clear hown1 hb1; (obtain ⟨c1, hc1⟩ : ∃ c1 : Col, c1 = fun b => if b < W.heap.size then cW b else (kk, 0) := ⟨_, rfl⟩); have HX1 : Hid (Cx W cW c1) := (fun b hb => by rw [hc1]; exact if_pos hb); have HG1 : Hid (∀ g, (Value.slice av o.data.length cap).ownBlock = some g → c1 g = (kk, 0)) := (fun g hg => by rw [hc1]; exact if_neg (Nat.not_lt.2 (own_base HOW.out g hg))); clear hc1; have HD1 := Lib.hid (HD.out.kp (Kp.of_below (c := c) (S := S2F) HB1.out) (fun _ h => h)); have HR1 := Lib.hid (xrow_of HOW.out HG1.out); have HP1 := Lib.hid ((HB1.out.block _ (by rw [HWs.out]; omega)).trans HOP.out); have p0 := cell_of_heap HP1.out 0; have p1 := cell_of_heap HP1.out 1; have p2 := cell_of_heap HP1.out 2; have p3 := cell_of_heap HP1.out 3; have p4 := cell_of_heap HP1.out 4; have p5 := cell_of_heap HP1.out 5; have p6 := cell_of_heap HP1.out 6; have p7 := cell_of_heap HP1.out 7; have p8 := cell_of_heap HP1.out 8; have p9 := cell_of_heap HP1.out 9; have p10 := cell_of_heap HP1.out 10)
    | (go_at_call 18; refine (rtwin_x (HPW.out.kp (Kp.of_below (S := S2F) HB1.out) (fun h => h) HX1.out) LK.out LF.out LU.out).mono ?_; rintro e w2 ⟨b1, b2, b3, l1, l2, l3, c2, rfl, hc2, hk2, hp2⟩; have HX2 := Lib.hid hc2; have HK2 := Lib.hid hk2; have HPL := Lib.hid hp2; clear hc2 hk2 hp2; clear p0 p1 p2 p3 p4 p5 p6 p7 p8 p9 p10)
    | (go_at_call 15; refine (start_no w2 p (HD1.out.kp (HK2.out S2F) (fun _ h => h)) _ _ _ _ _ _ _ _ _ _ _).mono ?_; rintro e w3 ⟨rfl, o3, hw3⟩; have HK3 : Hid (∀ S, Kp c2 S w2 w3) := (fun S => by rw [hw3]; exact (Kp.refl c2 S w2).alloc _); clear hw3; have HR3 := Lib.hid ((HR1.out.kp (HK2.out S2F) (fun h => h) HX2.out).kp (HK3.out S2F) (fun h => h) (Cx.refl _ _))))
  clear c0
  have hlen : (o.data.length : Int) ≤ 9223372036854775807 := by have := HB.out; unfold lim at this; omega
  go_loopw [83] (fun s wr => ∃ i : Nat, i ≤ o.data.length ∧ s = .int .i64 i ∧ XInv w3 c2 kk av i wr) (fun s _ => o.data.length - (intOf s).toNat)
  case atStart => exact ⟨0, Nat.zero_le _, rfl, xinv_start _ _ _ _⟩
  case round =>
    obtain ⟨i, hi, rfl, I⟩ := hrel
    have HI := Lib.hid I; clear I
    by_cases hlt : i < o.data.length
    · obtain ⟨g, x, rfl, hg, hcell, hfz⟩ := xinv_cell HR3.out HI.out hlt
      have HG := Lib.hid hg; clear hg
      unfold bv at hcell
      go_wp2
      go_roundw
      case rel => exact ⟨i + 1, by omega, by go_num, xinv_step HI.out HG.out _⟩
      case measure => simp [intOf]; omega
    · obtain rfl : i = o.data.length := by omega
      go_wp2
      go_ret
      exact ⟨rfl, no_end HKF.out (fun S => (((KW.out S).below HB1.out (by rw [HWs.out]; omega)).trans (HK2.out S) (HCW.out.trans HX1.out (KW.out S2F).size)).trans (HK3.out S) ((HCW.out.trans HX1.out (KW.out S2F).size).trans HX2.out ((KW.out S2F).below HB1.out (by rw [HWs.out]; omega)).size)) ((HCW.out.trans HX1.out (KW.out S2F).size).trans HX2.out ((KW.out S2F).below HB1.out (by rw [HWs.out]; omega)).size) HI.out⟩
set_option maxHeartbeats 8000000 in
theorem do_no_read (p : Option Addr) (o : AOp) (vd vk vf vu : Value) (w : World) (DD : NoD w p) (hv : Sw w c (0, 0) vd (o.data.map bv)) (hb : o.data.length ≤ lim) (hpw : PlanW w c vk vf vu o.plan) (lk : o.plan.keep.length ≤ lim) (lf : o.plan.fail.length ≤ lim) (lu : o.plan.full.length ≤ lim) (h0 : o.kind ≠ 0) (h1 : o.kind ≠ 1) (h2 : o.kind ≠ 2) (h3 : o.kind ≠ 3) (h4 : o.kind ≠ 4) (h5 : o.kind ≠ 5) (h6 : o.kind ≠ 6) (h7 : o.kind ≠ 7) :
    Calls Try.prog 12 #[.pointer p, opV o vd vk vf vu] w fun e w' => e = .returned (.int .i64 10) ∧ ∀ S, Kp c S w w' := by
  obtain ⟨ad, capd, rfl, -⟩ := id hv
  obtain ⟨ak, capk, rfl, -⟩ := id hpw.keep
  obtain ⟨af, capf, rfl, -⟩ := id hpw.fail
  obtain ⟨au, capu, rfl, -⟩ := id hpw.full
  obtain ⟨kk, hkk0, -, hkf⟩ := fresh_col c w.heap.size 0
  obtain ⟨W, hW⟩ : ∃ W, W = w.alloc (.cells #[.int .i64 o.kind, .string ⟨o.name.toArray⟩, .string ⟨o.to.toArray⟩, .int .i64 o.at_, .int .i64 o.long, .slice ad o.data.length capd, .int .i64 o.plan.crash, .slice ak o.plan.keep.length capk, .slice af o.plan.fail.length capf, .slice au o.plan.full.length capu, .int .i64 o.plan.room] 32) := ⟨_, rfl⟩
  have KW : Hid (∀ S, Kp c S w W) := by intro S; rw [hW]; exact (Kp.refl c S w).alloc _
  have HOP : Hid (W.heap[w.heap.size]? = some (.cells #[.int .i64 o.kind, .string ⟨o.name.toArray⟩, .string ⟨o.to.toArray⟩, .int .i64 o.at_, .int .i64 o.long, .slice ad o.data.length capd, .int .i64 o.plan.crash, .slice ak o.plan.keep.length capk, .slice af o.plan.fail.length capf, .slice au o.plan.full.length capu, .int .i64 o.plan.room] 32 (0, 0))) := by rw [hW]; exact heap_alloc_new _ _
  have hWs : W.heap.size = w.heap.size + 1 := by rw [hW]; simp
  have c0 := cell_of_heap HOP.out 0
  obtain ⟨cW, hcW⟩ : ∃ cW : Col, cW = fun b => if b < w.heap.size then c b else (0, 0) := ⟨_, rfl⟩
  have HCW : Hid (Cx w c cW) := by intro b hb; rw [hcW]; exact if_pos hb
  clear hcW
  have HV := Lib.hid (hv.kp (KW.out S2F) (fun h => h) HCW.out); clear hv
  have HPW := Lib.hid (hpw.kp (KW.out S2F) (fun h => h) HCW.out); clear hpw
  have HD := Lib.hid (DD.kp (KW.out S2F) (fun _ h => h)); clear DD
  have HB := Lib.hid hb; clear hb
  have LK := Lib.hid lk; clear lk
  have LF := Lib.hid lf; clear lf
  have LU := Lib.hid lu; clear lu
  have HKK0 := Lib.hid hkk0; clear hkk0
  have HKF := Lib.hid hkf; clear hkf
  have HWs := Lib.hid hWs; clear hWs
  have HW := Lib.hid hW; clear hW
  unfold opV str
  
  simp only [List.length_map] at HV HPW ⊢
  go_enter Try.func12, Try.ntmps12
  go_wp2_with (first
    | (go_at_call 32; rw [← HW.out]; refine (ltwin _ _ HV.out (one_bv _) (by rw [List.length_map]; exact HB.out)).mono ?_; rintro e w1 ⟨v1, rfl, hown1, hb1⟩; (obtain ⟨av, cap, rfl, -⟩ := Sc.of_owns (c := fun _ => (0, 0)) (q := (0, 0)) hown1 (fun _ _ => rfl)); rw [List.length_map] at hown1 ⊢; have HOW := Lib.hid hown1; have HB1 := Lib.hid hb1; clear hown1 hb1; (obtain ⟨c1, hc1⟩ : ∃ c1 : Col, c1 = fun b => if b < W.heap.size then cW b else (kk, 0) := ⟨_, rfl⟩); have HX1 : Hid (Cx W cW c1) := (fun b hb => by rw [hc1]; exact if_pos hb); have HG1 : Hid (∀ g, (Value.slice av o.data.length cap).ownBlock = some g → c1 g = (kk, 0)) := (fun g hg => by rw [hc1]; exact if_neg (Nat.not_lt.2 (own_base HOW.out g hg))); clear hc1; have HD1 := Lib.hid (HD.out.kp (Kp.of_below (c := c) (S := S2F) HB1.out) (fun _ h => h)); have HR1 := Lib.hid (xrow_of HOW.out HG1.out); have HP1 := Lib.hid ((HB1.out.block _ (by rw [HWs.out]; omega)).trans HOP.out); have p0 := cell_of_heap HP1.out 0; have p1 := cell_of_heap HP1.out 1; have p2 := cell_of_heap HP1.out 2; have p3 := cell_of_heap HP1.out 3; have p4 := cell_of_heap HP1.out 4; have p5 := cell_of_heap HP1.out 5; have p6 := cell_of_heap HP1.out 6; have p7 := cell_of_heap HP1.out 7; have p8 := cell_of_heap HP1.out 8; have p9 := cell_of_heap HP1.out 9; have p10 := cell_of_heap HP1.out 10)
    | (go_at_call 21; refine (read_no w1 p HD1.out _ _ _).mono ?_; rintro e w2 ⟨rfl, rfl⟩))
  clear p0 p1 p2 p3 p4 p5 p6 p7 p8 p9 p10
  clear c0
  have hlen : (o.data.length : Int) ≤ 9223372036854775807 := by have := HB.out; unfold lim at this; omega
  go_loopw [83] (fun s wr => ∃ i : Nat, i ≤ o.data.length ∧ s = .int .i64 i ∧ XInv w1 c1 kk av i wr) (fun s _ => o.data.length - (intOf s).toNat)
  case atStart => exact ⟨0, Nat.zero_le _, rfl, xinv_start _ _ _ _⟩
  case round =>
    obtain ⟨i, hi, rfl, I⟩ := hrel
    have HI := Lib.hid I; clear I
    by_cases hlt : i < o.data.length
    · obtain ⟨g, x, rfl, hg, hcell, hfz⟩ := xinv_cell HR1.out HI.out hlt
      have HG := Lib.hid hg; clear hg
      unfold bv at hcell
      go_wp2
      go_roundw
      case rel => exact ⟨i + 1, by omega, by go_num, xinv_step HI.out HG.out _⟩
      case measure => simp [intOf]; omega
    · obtain rfl : i = o.data.length := by omega
      go_wp2
      go_ret
      exact ⟨rfl, no_end HKF.out (fun S => (KW.out S).below HB1.out (by rw [HWs.out]; omega)) (HCW.out.trans HX1.out (KW.out S2F).size) HI.out⟩
end Go.Proofs.Ytepphepcaphlkaa
