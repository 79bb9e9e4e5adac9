import Derived.Test.YtnifmoigalmcmaaGreatLt
import Derived.Test.YtnifmoigalmcmaaGreatTw
namespace Go.Proofs.YtnifmoigalmcmaaGreat
open Go Go.RowKit Go.MapKept Go.Maps
open Dk
variable {c c' : Col} {w w' : World}
theorem new_c (k : Nat) (p : APlan) (vk vf vu : Value) (w : World) {q : Nat × Nat} (hk : Sc w c q vk (p.keep.map iv)) (hf : Sc w c q vf (p.fail.map iv)) (hu : Sc w c q vu (p.full.map iv)) (lk : p.keep.length ≤ lim) (lf : p.fail.length ≤ lim) (lu : p.full.length ≤ lim) (hk0 : k ≠ 0) :
    Calls Tryz.prog 11 #[planV p vk vf vu] w fun e w' => ∃ d c', e = .returned (ptr d) ∧ Cx w c c' ∧ (∀ S, Kp c S w w') ∧ DiskAt w' c' k d (new_ p) ∧ w.heap.size ≤ d := by
  have HK := Lib.hid hk; clear hk
  have HF := Lib.hid hf; clear hf
  have HU := Lib.hid hu; clear hu
  have LK := Lib.hid lk; clear lk
  have LF := Lib.hid lf; clear lf
  have LU := Lib.hid lu; clear lu
  have HK0 := Lib.hid hk0; clear hk0
  have hmm := @run_makeMap Tryz.prog
  unfold planV
  go_enter Tryz.func11, Tryz.ntmps11
  go_wp2_with (go_at_call 57; refine (twin_c p vk vf vu _ (HK.out.alloc _) (HF.out.alloc _) (HU.out.alloc _) LK.out LF.out LU.out).mono ?_; rintro e w1 ⟨vk', vf', vu', c1, rfl, hcx, hkp, hpl⟩; unfold planV; obtain ⟨a1, k1, rfl, -⟩ := hpl.keep; obtain ⟨a2, k2, rfl, -⟩ := hpl.fail; obtain ⟨a3, k3, rfl, -⟩ := hpl.full; have HX := Lib.hid hcx; clear hcx; have HP := Lib.hid hkp; clear hkp; have HL := Lib.hid hpl; clear hpl)
  go_ret
  obtain ⟨c2, hc2⟩ : ∃ c2 : Col, c2 = fun b => if b < w1.heap.size then c1 b else (k, 0) := ⟨_, rfl⟩
  have h1 : Cx w1 c1 c2 := by intro b hb; rw [hc2]; exact if_pos hb
  have hz1 := (HP.out S2F).size
  have hz : w.heap.size ≤ w1.heap.size := by have : (w.alloc (.cells #[.int .i64 p.crash, vk, vf, vu, .int .i64 p.room] 24)).heap.size ≤ w1.heap.size := hz1; simp at this; omega
  have hx : Cx w c c1 := fun b hb => HX.out b (by simp; omega)
  have n0 : ∀ q, (q = ((k, 0) : Nat × Nat)) → q ≠ (0, 0) := fun q hq => by rw [hq]; simp; exact HK0.out
  refine ⟨w1.heap.size + 1, c2, rfl, hx.trans h1 hz, fun S => ((((Kp.refl c S w).alloc _).trans (HP.out S) (Cx.refl _ _)).alloc _).alloc _, ⟨.slice a1 p.keep.length k1, .slice a2 p.fail.length k2, .slice a3 p.full.length k3, w1.heap.size, #[], 0, fun _ => 0, ⟨by simp [new_], by simp [new_], by simp [new_], by simp [new_], by simp [new_]⟩, ?_, ?_, ?_, ?_⟩, by omega⟩
  · have := heap_alloc_new (w1.alloc (.map #[] 0)) (.cells #[.int .i64 1, .int .i64 p.crash, .slice a1 p.keep.length k1, .slice a2 p.fail.length k2, .slice a3 p.full.length k3, .int .i64 p.room, .int .i64 0, .bool false, .map (some w1.heap.size)] 119)
    rw [show (w1.alloc (.map #[] 0)).heap.size = w1.heap.size + 1 from by simp] at this
    exact this
  · rw [hc2]; exact if_neg (by omega)
  · have HL' := HL.out
    simp only [List.length_map] at HL'
    exact HL'.kp (S := fun _ => False) (((Kp.refl _ _ _).alloc _).alloc _) (fun h => h) h1
  · exact ⟨heap_alloc_old _ (heap_alloc_new _ _), by rw [hc2]; exact if_neg (by omega), ⟨by simp, ⟨fun _ h => by simp at h, by simp, by simp⟩, fun _ h => by simp at h⟩, by simp [new_], by simp [new_], by simp [new_]⟩
end Go.Proofs.YtnifmoigalmcmaaGreat
namespace Go.Proofs.YtnifmoigalmcmaaGreat
open Go Go.RowKit Go.MapKept Go.Maps
open Dk
variable {c c' : Col} {w w' : World}
theorem start_ok {m : ADisk} (h : m.ok) (hd : m.dead = true → ∀ x ∈ m.files, x.2.chs = []) (p : APlan) : (Dk.start m p).ok := by
  unfold Dk.start
  cases e : m.dead with
  | true =>
    refine ⟨Int.le_refl _, fun x hx => ?_, h.many, h.names, h.rising⟩
    have := h.files x hx
    exact ⟨this.safe, this.now, this.chs, by rw [hd e x hx]; exact Nat.zero_le _⟩
  | false =>
    have h' := die_ok h
    refine ⟨Int.le_refl _, fun x hx => ?_, h'.many, h'.names, h'.rising⟩
    have := h'.files x hx
    obtain ⟨y, hy, i, e⟩ := dieAll_mem m.plan m.files 0 x hx
    refine ⟨this.safe, this.now, this.chs, ?_⟩
    rw [e]; exact Nat.zero_le _
section
variable {w3 : World} {k d : Nat} {m m1 : ADisk} {vk vf vu : Value} {mb : Nat} {es : Array MapEntry} {ck : Nat} {fb : Nm → Nat}
theorem start_end {p : APlan} {vk' vf' vu' : Value} (D : DiskAt' w c k d m1 vk vf vu mb es ck fb) (hk0 : k ≠ 0) (hf : m1.files = (Dk.start m p).files) (hok : (Dk.start m p).ok) (hp : PlanAt w c vk' vf' vu' p)
    (hw : w' = ((((((w.setCell ⟨d, 1, none⟩ (.int .i64 p.crash)).setCell ⟨d, 2, none⟩ vk').setCell ⟨d, 3, none⟩ vf').setCell ⟨d, 4, none⟩ vu').setCell ⟨d, 5, none⟩ (.int .i64 p.room)).setCell ⟨d, 6, none⟩ (.int .i64 0)).setCell ⟨d, 7, none⟩ (.bool false)) :
    Kp c (fun q => q = (k, 0)) w w' ∧ DiskAt w' c k d (Dk.start m p) := by
  have hkp : Kp c (fun q => q = (k, 0)) w w' := by
    rw [hw]
    exact (((((((Kp.refl _ _ _).setCell (fun _ => D.col) _).setCell (fun _ => D.col) _).setCell (fun _ => D.col) _).setCell (fun _ => D.col) _).setCell (fun _ => D.col) _).setCell (fun _ => D.col) _).setCell (fun _ => D.col) _
  refine ⟨hkp, vk', vf', vu', mb, es, ck, fb, D.redo hk0 hkp ?_ ?_ hf.symm ((hp.kp hkp (by simp; exact fun h => hk0 h.symm) (Cx.refl _ _))) hok (Cx.refl _ _)⟩
  · rw [hw]
    have := heap_setCell (heap_setCell (heap_setCell (heap_setCell (heap_setCell (heap_setCell (heap_setCell D.heap 1 (.int .i64 p.crash)) 2 vk') 3 vf') 4 vu') 5 (.int .i64 p.room)) 6 (.int .i64 0)) 7 (.bool false)
    simpa [diskCells, Dk.start] using this
  · have hne := D.mb_ne
    rw [hw]
    simp only [Below.heap_setCell _ ⟨d, _, none⟩ _ mb hne]
end
theorem start_c (k d : Nat) (m : ADisk) (w : World) (DD : DiskAt w c k d m) (p : APlan) (vk vf vu : Value) {q : Nat × Nat} (hk : Sc w c q vk (p.keep.map iv)) (hf : Sc w c q vf (p.fail.map iv)) (hu : Sc w c q vu (p.full.map iv)) (lk : p.keep.length ≤ lim) (lf : p.fail.length ≤ lim) (lu : p.full.length ≤ lim)
    (hk0 : k ≠ 0) (hq : q.1 ≠ k) (hops : m.ops < 900000) (hdry : m.dead = true → ∀ x ∈ m.files, x.2.chs = []) :
    Calls Tryz.prog 23 #[ptr d, planV p vk vf vu] w fun e w' => e = .returned (.int .i64 0) ∧ ∃ c', Cx w c c' ∧ Kp c (fun q => q.1 = k) w w' ∧ DiskAt w' c' k d (Dk.start m p) := by
  obtain ⟨vk0, vf0, vu0, mb, es, ck, fb, D⟩ := DD
  obtain ⟨a1, k1, rfl, -⟩ := id hk
  obtain ⟨a2, k2, rfl, -⟩ := id hf
  obtain ⟨a3, k3, rfl, -⟩ := id hu
  simp only [List.length_map] at hk hf hu ⊢
  have HOK := Lib.hid (start_ok D.ok hdry p); clear hdry
  obtain ⟨cW, hcW⟩ : ∃ cW : Col, cW = fun b => if b < w.heap.size then c b else (0, 0) := ⟨_, rfl⟩
  have HCW : Hid (Cx w c cW) := by intro b hb; rw [hcW]; exact if_pos hb
  have HC0 : Hid (cW w.heap.size = (0, 0)) := by rw [hcW]; exact if_neg (by omega)
  clear hcW
  have KW : Hid (∀ S, Kp c S w (w.alloc (.cells #[.int .i64 p.crash, .slice a1 p.keep.length k1, .slice a2 p.fail.length k2, .slice a3 p.full.length k3, .int .i64 p.room] 24))) := fun S => (Kp.refl c S w).alloc _
  have DW := D.kp (KW.out S2F) (fun _ h => h.elim) HCW.out
  clear D
  have hc0 := DW.c0
  have hc7 := DW.c7
  have hp0 := cell_of_heap (heap_alloc_new w (.cells #[.int .i64 p.crash, .slice a1 p.keep.length k1, .slice a2 p.fail.length k2, .slice a3 p.full.length k3, .int .i64 p.room] 24)) 0
  have HD := Lib.hid DW; clear DW
  have HKK := Lib.hid (hk.kp (KW.out S2F) (fun h => h) HCW.out); clear hk
  have HFF := Lib.hid (hf.kp (KW.out S2F) (fun h => h) HCW.out); clear hf
  have HUU := Lib.hid (hu.kp (KW.out S2F) (fun h => h) HCW.out); clear hu
  have LK := Lib.hid lk; clear lk
  have LF := Lib.hid lf; clear lf
  have LU := Lib.hid lu; clear lu
  have HK0 := Lib.hid hk0; clear hk0
  have HQ := Lib.hid hq; clear hq
  have HOPS := Lib.hid hops; clear hops
  unfold planV ptr
  cases hd : m.dead with
  | true =>
    rw [hd] at hc7
    have HDD := Lib.hid hd; clear hd
    go_enter Tryz.func23, Tryz.ntmps23
    go_wp2_with (first
      | (go_at_call 81; refine (is_one _ _ hc0).mono ?_; rintro e w' ⟨rfl, rfl⟩)
      | (go_at_call 57; refine (twin_c p _ _ _ _ HKK.out HFF.out HUU.out LK.out LF.out LU.out).mono ?_; rintro e w2 ⟨vk', vf', vu', c2, rfl, hcx, hkp, hpl⟩; unfold planV; obtain ⟨b1, l1, rfl, -⟩ := id hpl.keep; obtain ⟨b2, l2, rfl, -⟩ := id hpl.fail; obtain ⟨b3, l3, rfl, -⟩ := id hpl.full; have HX := Lib.hid hcx; clear hcx; have HP := Lib.hid hkp; clear hkp; have HL := Lib.hid hpl; clear hpl; have D2 := HD.out.kp (HP.out S2F) (fun _ h => h.elim) HX.out; have e1 := D2.c1; have e2 := D2.c2; have e3 := D2.c3; have e4 := D2.c4; have e5 := D2.c5; have e6 := D2.c6; have e7 := D2.c7; have ef := D2.fz; have HD2 := Lib.hid D2; clear D2))
    go_ret
    have HL' := HL.out
    simp only [List.length_map] at HL'
    obtain ⟨hkk, hdd⟩ := start_end HD2.out HK0.out (by unfold Dk.start; rw [HDD.out]; rfl) HOK.out HL' rfl
    refine ⟨rfl, c2, HCW.out.trans HX.out (KW.out S2F).size, ?_, hdd⟩
    refine Kp.trans (c' := c2) ?_ (hkk.mono (fun q hq => by rw [hq])) ((HCW.out.trans HX.out (KW.out S2F).size))
    exact (KW.out _).trans (HP.out _) HCW.out

  | false =>
    rw [hd] at hc7
    have HDD := Lib.hid hd; clear hd
    go_enter Tryz.func23, Tryz.ntmps23
    go_wp2_with (first
      | (go_at_call 81; refine (is_one _ _ hc0).mono ?_; rintro e w' ⟨rfl, rfl⟩)
      | (go_at_call 82; refine (die_c k d m _ _ _ _ _ _ _ _ HD.out HK0.out (Int.lt_trans HOPS.out (by decide))).mono ?_; rintro e w1 ⟨rfl, c1, hcx1, hkp1, hdd1⟩; have HX1 := Lib.hid hcx1; clear hcx1; have HK1 := Lib.hid hkp1; clear hkp1; have HD1 := Lib.hid hdd1; clear hdd1; have hpl := HK1.out.heap (heap_alloc_new w (.cells #[.int .i64 p.crash, .slice a1 p.keep.length k1, .slice a2 p.fail.length k2, .slice a3 p.full.length k3, .int .i64 p.room] 24)) (by rw [HC0.out]; exact fun h => HK0.out h.symm); have p0 : w1.cell? ⟨w.heap.size, 0, none⟩ = some (.int .i64 p.crash) := cell_of_heap hpl 0; have p1 : w1.cell? ⟨w.heap.size, 1, none⟩ = some (.slice a1 p.keep.length k1) := cell_of_heap hpl 1; have p2 : w1.cell? ⟨w.heap.size, 2, none⟩ = some (.slice a2 p.fail.length k2) := cell_of_heap hpl 2; have p3 : w1.cell? ⟨w.heap.size, 3, none⟩ = some (.slice a3 p.full.length k3) := cell_of_heap hpl 3; have p4 : w1.cell? ⟨w.heap.size, 4, none⟩ = some (.int .i64 p.room) := cell_of_heap hpl 4; have HK1' := Lib.hid (HKK.out.kp HK1.out HQ.out HX1.out); have HF1' := Lib.hid (HFF.out.kp HK1.out HQ.out HX1.out); have HU1' := Lib.hid (HUU.out.kp HK1.out HQ.out HX1.out); clear hpl)
      | (go_at_call 57; refine (twin_c p _ _ _ _ HK1'.out HF1'.out HU1'.out LK.out LF.out LU.out).mono ?_; rintro e w2 ⟨vk', vf', vu', c2, rfl, hcx, hkp, hpl⟩; unfold planV; obtain ⟨b1, l1, rfl, -⟩ := id hpl.keep; obtain ⟨b2, l2, rfl, -⟩ := id hpl.fail; obtain ⟨b3, l3, rfl, -⟩ := id hpl.full; have HX := Lib.hid hcx; clear hcx; have HP := Lib.hid hkp; clear hkp; have HL := Lib.hid hpl; clear hpl; have D2 := HD1.out.kp (HP.out S2F) (fun _ h => h.elim) HX.out; have e1 := D2.c1; have e2 := D2.c2; have e3 := D2.c3; have e4 := D2.c4; have e5 := D2.c5; have e6 := D2.c6; have e7 := D2.c7; have ef := D2.fz; have HD2 := Lib.hid D2; clear D2))
    go_ret
    have HL' := HL.out
    simp only [List.length_map] at HL'
    obtain ⟨hkk, hdd⟩ := start_end HD2.out HK0.out (by unfold Dk.start; rw [HDD.out]; rfl) HOK.out HL' rfl
    refine ⟨rfl, c2, (HCW.out.trans HX1.out (KW.out S2F).size).trans HX.out (Nat.le_trans (KW.out S2F).size HK1.out.size), ?_, hdd⟩
    refine Kp.trans (c' := c2) ?_ (hkk.mono (fun q hq => by rw [hq])) ((HCW.out.trans HX1.out (KW.out S2F).size).trans HX.out (Nat.le_trans (KW.out S2F).size HK1.out.size))
    exact ((KW.out _).trans HK1.out HCW.out).trans (HP.out _) (HCW.out.trans HX1.out (KW.out S2F).size)

end Go.Proofs.YtnifmoigalmcmaaGreat
