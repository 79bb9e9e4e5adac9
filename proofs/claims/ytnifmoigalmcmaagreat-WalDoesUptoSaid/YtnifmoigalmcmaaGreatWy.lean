/- The document's disk: New, Start. -/
import Derived.Test.YtnifmoigalmcmaaGreatRw
import Derived.Test.YtnifmoigalmcmaaGreatZc
import Derived.Test.YtnifmoigalmcmaaGreatSt
import Derived.Test.YtnifmoigalmcmaaGreatLt
namespace Go.Proofs.YtnifmoigalmcmaaGreat
open Go Go.RowKit Go.MapKept Go.Maps
open Dk
variable {c c' : Col} {S : Nat × Nat → Prop} {w w' : World} {q : Nat × Nat}
theorem PlanW.kp' {vk vf vu : Value} {p : APlan} (h : PlanW w c vk vf vu p) (hk : Kp c S w w') (h0 : ¬ S (0, 0)) (hc : Cx w c c') : PlanW w' c' vk vf vu p :=
  ⟨h.keep.kp hk h0 hc, h.fail.kp hk h0 hc, h.full.kp hk h0 hc⟩
theorem rtwin_y {p : APlan} {ak af au : Option Addr} {nk nf nu : Nat} (hp : PlanW w c (.slice ak p.keep.length nk) (.slice af p.fail.length nf) (.slice au p.full.length nu) p) (lk : p.keep.length ≤ lim) (lf : p.fail.length ≤ lim) (lu : p.full.length ≤ lim) :
    Calls Tryz.prog 12 #[.agg #[.int .i64 p.crash, .slice ak p.keep.length nk, .slice af p.fail.length nf, .slice au p.full.length nu, .int .i64 p.room]] w fun e w' => ∃ b1 l1 b2 l2 b3 l3 c', e = .returned (.agg #[.int .i64 p.crash, .slice b1 p.keep.length l1, .slice b2 p.fail.length l2, .slice b3 p.full.length l3, .int .i64 p.room]) ∧ Cx w c c' ∧ (∀ S, Kp c S w w') ∧ PlanAt w' c' (.slice b1 p.keep.length l1) (.slice b2 p.fail.length l2) (.slice b3 p.full.length l3) p := by
  refine (rtwin_c p _ _ _ w hp lk lf lu).mono ?_
  rintro e w' ⟨vk, vf, vu, c', rfl, hc, hk, hpl⟩
  obtain ⟨b1, l1, rfl, -⟩ := id hpl.keep
  obtain ⟨b2, l2, rfl, -⟩ := id hpl.fail
  obtain ⟨b3, l3, rfl, -⟩ := id hpl.full
  simp only [List.length_map] at hpl
  exact ⟨b1, l1, b2, l2, b3, l3, c', by simp only [List.length_map]; rfl, hc, hk, hpl⟩
theorem rnew_c (k : Nat) (p : APlan) {ak af au : Option Addr} {nk nf nu : Nat} (w : World) (hp : PlanW w c (.slice ak p.keep.length nk) (.slice af p.fail.length nf) (.slice au p.full.length nu) p) (lk : p.keep.length ≤ lim) (lf : p.fail.length ≤ lim) (lu : p.full.length ≤ lim) (hk0 : k ≠ 0) :
    Calls Tryz.prog 13 #[.agg #[.int .i64 p.crash, .slice ak p.keep.length nk, .slice af p.fail.length nf, .slice au p.full.length nu, .int .i64 p.room]] w fun e w' => ∃ r c', e = .returned (ptr r) ∧ Cx w c c' ∧ (∀ S, Kp c S w w') ∧ RD w' c' k r (new_ p) ∧ w.heap.size ≤ r := by
  have HPW := Lib.hid hp; clear hp
  have LK := Lib.hid lk; clear lk
  have LF := Lib.hid lf; clear lf
  have LU := Lib.hid lu; clear lu
  have HK0 := Lib.hid hk0; clear hk0
  go_enter Tryz.func13, Tryz.ntmps13
  go_wp2_with (go_at_call 12; refine (rtwin_y (c := c) (HPW.out.kp' (S := S2F) ((Kp.refl _ _ _).alloc _) (fun h => h) (Cx.refl _ _)) LK.out LF.out LU.out).mono ?_; rintro e w1 ⟨b1, l1, b2, l2, b3, l3, c1, rfl, hcx, hkp, hpl⟩; have HX := Lib.hid hcx; have HP := Lib.hid hkp; have HL := Lib.hid hpl; clear hcx hkp hpl)
  go_ret
  obtain ⟨c2, hc2⟩ : ∃ c2 : Col, c2 = fun b => if b < w1.heap.size then c1 b else (k, 0) := ⟨_, rfl⟩
  have h1 : Cx w1 c1 c2 := by intro b hb; rw [hc2]; exact if_pos hb
  have hz1 := (HP.out S2F).size
  have hz : w.heap.size ≤ w1.heap.size := by simp at hz1; omega
  have hx : Cx w c c1 := fun b hb => HX.out b (by simp; omega)
  refine ⟨w1.heap.size, c2, rfl, hx.trans h1 hz, fun S => (((Kp.refl c S w).alloc _).trans (HP.out S) (Cx.refl _ _)).alloc _, ⟨.slice b1 p.keep.length l1, .slice b2 p.fail.length l2, .slice b3 p.full.length l3, .slice none 0 0, [], ⟨by simp [new_], by simp [new_], by simp [new_], by simp [new_], by simp [new_]⟩, ?_, ?_, ?_, rfl, ⟨World.ownsRow_nil _ _ _ _, (fun g hg => by cases hg), (fun x hx => by cases hx), List.Pairwise.nil⟩⟩, hz⟩
  · exact heap_alloc_new w1 _
  · rw [hc2]; exact if_neg (Nat.lt_irrefl _)
  · exact HL.out.kp (S := fun _ => False) ((Kp.refl _ _ _).alloc _) (fun h => h) h1
theorem rstart_end {k r : Nat} {m m1 : ADisk} {vk vf vu vF vk' vf' vu' : Value} {F : List RFl} {p : APlan} (D : RD' w c k r m1 vk vf vu vF F) (hk0 : k ≠ 0) (hf : m1.files = (Dk.start m p).files) (hok : (Dk.start m p).ok) (hp : PlanAt w c vk' vf' vu' p)
    (hw : w' = ((((((w.setCell ⟨r, 0, none⟩ (.int .i64 p.crash)).setCell ⟨r, 1, none⟩ vk').setCell ⟨r, 2, none⟩ vf').setCell ⟨r, 3, none⟩ vu').setCell ⟨r, 4, none⟩ (.int .i64 p.room)).setCell ⟨r, 6, none⟩ (.int .i64 0)).setCell ⟨r, 7, none⟩ (.bool false)) :
    Kp c (fun q => q = (k, 0)) w w' ∧ RD w' c k r (Dk.start m p) := by
  have hkp : Kp c (fun q => q = (k, 0)) w w' := by
    rw [hw]
    exact (((((((Kp.refl _ _ _).setCell (fun _ => D.col) _).setCell (fun _ => D.col) _).setCell (fun _ => D.col) _).setCell (fun _ => D.col) _).setCell (fun _ => D.col) _).setCell (fun _ => D.col) _).setCell (fun _ => D.col) _
  refine ⟨hkp, vk', vf', vu', vF, F, D.redo hk0 hkp ?_ hf.symm (hp.kp hkp (by simp; exact fun h => hk0 h.symm) (Cx.refl _ _)) hok (Cx.refl _ _)⟩
  rw [hw]
  have := heap_setCell (heap_setCell (heap_setCell (heap_setCell (heap_setCell (heap_setCell (heap_setCell D.heap 0 (.int .i64 p.crash)) 1 vk') 2 vf') 3 vu') 4 (.int .i64 p.room)) 6 (.int .i64 0)) 7 (.bool false)
  simpa [rdCells, Dk.start] using this
set_option maxRecDepth 20000 in
set_option maxHeartbeats 4000000 in
theorem rstart_c (k r : Nat) (m : ADisk) (w : World) (DD : RD w c k r m) (p : APlan) {ak af au : Option Addr} {nk nf nu : Nat} (hp : PlanW w c (.slice ak p.keep.length nk) (.slice af p.fail.length nf) (.slice au p.full.length nu) p) (lk : p.keep.length ≤ lim) (lf : p.fail.length ≤ lim) (lu : p.full.length ≤ lim)
    (hk0 : k ≠ 0) (hops : m.ops < 900000) (hdry : m.dead = true → ∀ x ∈ m.files, x.2.chs = []) :
    Calls Tryz.prog 24 #[ptr r, .agg #[.int .i64 p.crash, .slice ak p.keep.length nk, .slice af p.fail.length nf, .slice au p.full.length nu, .int .i64 p.room]] w fun e w' => e = .returned (.tuple #[]) ∧ ∃ c', Cx w c c' ∧ Kp c (fun q => q.1 = k) w w' ∧ RD w' c' k r (Dk.start m p) := by
  obtain ⟨vk0, vf0, vu0, vF, F, D⟩ := DD
  have HOK := Lib.hid (start_ok D.ok hdry p); clear hdry
  obtain ⟨cW, hcW⟩ : ∃ cW : Col, cW = fun b => if b < w.heap.size then c b else (0, 0) := ⟨_, rfl⟩
  have HCW : Hid (Cx w c cW) := by intro b hb; rw [hcW]; exact if_pos hb
  have HC0 : Hid (cW w.heap.size = (0, 0)) := by rw [hcW]; exact if_neg (by omega)
  clear hcW
  have KW : Hid (∀ S, Kp c S w (w.alloc (.cells #[.int .i64 p.crash, .slice ak p.keep.length nk, .slice af p.fail.length nf, .slice au p.full.length nu, .int .i64 p.room] 24))) := fun S => (Kp.refl c S w).alloc _
  have DW := D.kp (KW.out S2F) (fun _ h => h.elim) HCW.out
  have hc7 := D.c7
  have hrl := D.lt
  clear D
  have HD := Lib.hid DW; clear DW
  have HPW := Lib.hid (hp.kp' (KW.out S2F) (fun h => h) HCW.out); clear hp
  have LK := Lib.hid lk; clear lk
  have LF := Lib.hid lf; clear lf
  have LU := Lib.hid lu; clear lu
  have HK0 := Lib.hid hk0; clear hk0
  have HOPS := Lib.hid hops; clear hops
  unfold ptr
  cases hd : m.dead with
  | true =>
    rw [hd] at hc7
    have HDD := Lib.hid hd; clear hd
    go_enter Tryz.func24, Tryz.ntmps24
    go_wp2_with (go_at_call 12; refine (rtwin_y (c := cW) HPW.out LK.out LF.out LU.out).mono ?_; rintro e w2 ⟨b1, l1, b2, l2, b3, l3, c2, rfl, hcx, hkp, hpl⟩; have HX := Lib.hid hcx; have HP := Lib.hid hkp; have HL := Lib.hid hpl; have D2 := HD.out.kp (HP.out S2F) (fun _ h => h.elim) HX.out; have e0 := D2.c0; have e1 := D2.c1; have e2 := D2.c2; have e3 := D2.c3; have e4 := D2.c4; have e6 := D2.c6; have e7 := D2.c7; have ef := D2.fz; have HD2 := Lib.hid D2; clear D2 hcx hkp hpl)
    go_end0
    obtain ⟨hkk, hdd⟩ := rstart_end HD2.out HK0.out (by unfold Dk.start; rw [HDD.out]; rfl) HOK.out HL.out rfl
    refine ⟨rfl, c2, HCW.out.trans HX.out (KW.out S2F).size, ?_, hdd⟩
    refine Kp.trans (c' := c2) ?_ (hkk.mono (fun q hq => by rw [hq])) ((HCW.out.trans HX.out (KW.out S2F).size))
    exact (KW.out _).trans (HP.out _) HCW.out
  | false =>
    rw [hd] at hc7
    have HDD := Lib.hid hd; clear hd
    go_enter Tryz.func24, Tryz.ntmps24
    go_wp2_with (first
      | (go_at_call 83; refine (rdie_c k r m _ _ _ _ _ _ HD.out HK0.out (by have := HOPS.out; omega)).mono ?_; rintro e w1 ⟨rfl, c1, hcx1, hkp1, hdd1⟩; have HX1 := Lib.hid hcx1; have HK1 := Lib.hid hkp1; obtain ⟨vk1, vf1, vu1, vF1, F1, hd1⟩ := hdd1; have HD1 := Lib.hid hd1; have hpl := hkp1.heap (heap_alloc_new w (.cells #[.int .i64 p.crash, .slice ak p.keep.length nk, .slice af p.fail.length nf, .slice au p.full.length nu, .int .i64 p.room] 24)) (by rw [HC0.out]; exact fun h => HK0.out h.symm); have p0 : w1.cell? ⟨w.heap.size, 0, none⟩ = some (.int .i64 p.crash) := cell_of_heap hpl 0; have p1 : w1.cell? ⟨w.heap.size, 1, none⟩ = some (.slice ak p.keep.length nk) := cell_of_heap hpl 1; have p2 : w1.cell? ⟨w.heap.size, 2, none⟩ = some (.slice af p.fail.length nf) := cell_of_heap hpl 2; have p3 : w1.cell? ⟨w.heap.size, 3, none⟩ = some (.slice au p.full.length nu) := cell_of_heap hpl 3; have p4 : w1.cell? ⟨w.heap.size, 4, none⟩ = some (.int .i64 p.room) := cell_of_heap hpl 4; have HPW1 := Lib.hid (HPW.out.kp' hkp1 (fun h => HK0.out h.symm) hcx1); clear hcx1 hkp1 hd1 hpl hc7)
      | (go_at_call 12; refine (rtwin_y (c := c1) HPW1.out LK.out LF.out LU.out).mono ?_; rintro e w2 ⟨b1, l1, b2, l2, b3, l3, c2, rfl, hcx, hkp, hpl⟩; have HX := Lib.hid hcx; have HP := Lib.hid hkp; have HL := Lib.hid hpl; have D2 := HD1.out.kp (HP.out S2F) (fun _ h => h.elim) HX.out; have e0 := D2.c0; have e1 := D2.c1; have e2 := D2.c2; have e3 := D2.c3; have e4 := D2.c4; have e6 := D2.c6; have e7 := D2.c7; have ef := D2.fz; have HD2 := Lib.hid D2; clear D2 hcx hkp hpl))
    go_end0
    obtain ⟨hkk, hdd⟩ := rstart_end HD2.out HK0.out (by unfold Dk.start; rw [HDD.out]; rfl) HOK.out HL.out rfl
    have hx2 := (HCW.out.trans HX1.out (KW.out S2F).size).trans HX.out (Nat.le_trans (KW.out S2F).size HK1.out.size)
    refine ⟨rfl, c2, hx2, ?_, hdd⟩
    refine Kp.trans (c' := c2) ?_ (hkk.mono (fun q hq => by rw [hq])) hx2
    exact ((KW.out _).trans HK1.out HCW.out).trans (HP.out _) (HCW.out.trans HX1.out (KW.out S2F).size)
end Go.Proofs.YtnifmoigalmcmaaGreat
/- The document's disk: All: its files as they lie. -/
namespace Go.Proofs.YtnifmoigalmcmaaGreat
open Go Go.RowKit Go.MapKept Go.Maps
open Dk
variable {c c' : Col} {S : Nat × Nat → Prop} {w w' : World} {q : Nat × Nat}
def AllPost (fs : List (Nm × List UInt8)) (c : Col) (w : World) (e : Ending) (w' : World) : Prop :=
  ∃ a n k c', e = .returned (.slice a n k) ∧ n = fs.length ∧ Cx w c c' ∧ (∀ S, Kp c S w w') ∧ FilesAt w' c' (.slice a n k) fs
set_option maxRecDepth 20000 in
set_option maxHeartbeats 8000000 in
theorem rall_false (k r : Nat) (m : ADisk) (w : World) (DD : RD w c k r m) (hops : m.ops ≤ 1000000) :
    Calls Tryz.prog 28 #[ptr r, .bool false] w (AllPost (Dk.files m) c w) := by
  obtain ⟨vk, vf, vu, vF, F, D⟩ := DD
  have HD := Lib.hid D
  have HO := Lib.hid hops; clear hops
  obtain ⟨fs, hfs⟩ : ∃ fs, fs = m.files.map fun x => (x.1, x.2.now) := ⟨_, rfl⟩
  have HFS := Lib.hid hfs
  obtain ⟨i0, hi, hz0, hz1, hz2⟩ := info_parts3
  have H6 := Lib.hid hi; clear hi
  have H7 := Lib.hid hz0; clear hz0
  have H8 := Lib.hid hz1; clear hz1
  have H9 := Lib.hid hz2; clear hz2
  obtain ⟨af, kf, e⟩ := D.files.shape
  have hr5 := D.c5
  rw [e] at hr5
  have HE := Lib.hid e
  have hrl := D.lt
  have hlen := D.len
  have hlen' : (F.length : Int) ≤ 4096 := by omega
  obtain ⟨kk, hkk0, hkk, hkf⟩ := fresh_col c w.heap.size k
  have HKK0 := Lib.hid hkk0; clear hkk0
  have HKF := Lib.hid hkf; clear hkf hkk
  have HML := Lib.hid (show m.files.length = F.length by rw [← D.names, List.length_map])
  clear D e hfs
  unfold ptr
  go_enter Tryz.func28, Tryz.ntmps28
  go_wp2
  clear hr5
  go_loopw [5, 14] (fun vo s wr => ∃ (j : Nat) (ao : Option Addr) (capo : Nat), j ≤ F.length ∧ s = .int .i64 j ∧ vo = .slice ao j capo ∧ TInv w c kk fs j vo wr) (fun _ s _ => F.length - (intOf s).toNat)
  case atStart =>
    exact ⟨0, none, 0, Nat.zero_le _, rfl, rfl, ⟨c, [], Cx.refl _ _, World.ownsRow_nil _ _ _ _, (fun g hg => by cases hg), (fun i x hi => by simp at hi)⟩, fun S => Kp.refl _ _ _⟩
  case round =>
    obtain ⟨j, ao, capo, hj, rfl, rfl, I⟩ := hrel
    have HI := Lib.hid I; clear I
    have HDr := Lib.hid (HD.out.kp (HI.out.kp S2F) (fun _ h => h.elim) (Cx.refl _ _))
    by_cases hlt : j < F.length
    · obtain ⟨x, hx⟩ : ∃ x, F[j]? = some x := ⟨F[j], List.getElem?_eq_getElem hlt⟩
      obtain ⟨g, cap, e2, hlc, hcm, -, f0, f1, f2, -⟩ := HDr.out.files.cells hx
      rw [HE.out] at e2
      injection e2 with e3 e5 e4
      clear e5 hlc hcm
      subst e3 e4
      have hRF := HDr.out.files.each x (List.mem_of_getElem? hx)
      have hfok := HDr.out.fok (List.mem_of_getElem? hx)
      have hnok := HDr.out.nok (List.mem_of_getElem? hx)
      obtain ⟨asx, ksx, evs, -⟩ := id hRF.safe
      obtain ⟨avc, kvc, evc⟩ := own_shape hRF.chs.own
      rw [List.length_map] at evs
      have hdc := fun W hW => data_c (c := c) k x W hW hfok (by have := HO.out; omega) hnok
      have hsafe := hRF.safe
      rw [evs] at f1 hdc hsafe
      rw [evc] at f2 hdc
      have HDC := Lib.hid hdc
      have HSF := Lib.hid hsafe
      have HRF := Lib.hid hRF
      have HSL := Lib.hid (lim_file hfok.safe)
      have hgl : g < wr.heap.size := World.block_lt_of_cell? _ _ f1
      have hrl2 : r < wr.heap.size := HDr.out.lt
      unfold str at f0
      have HX := Lib.hid (show fs[j]? = some (x.n, x.f.now) by rw [HFS.out, ← HD.out.names, List.getElem?_map, List.getElem?_map, hx]; rfl)
      clear hRF hfok hnok evs evc hdc hsafe hx
      obtain ⟨c3, xs, hcx, hown, hcol, hdat⟩ := HI.out.ex
      have HCX := Lib.hid hcx; clear hcx
      have HOW := Lib.hid hown; clear hown
      have HCO := Lib.hid hcol; clear hcol
      have HDT := Lib.hid hdat; clear hdat
      have k5 : j + 1 ≤ maxLen ∧ (j + 1) * 40 ≤ 140737488355328 := by unfold maxLen; omega
      have K5 := Lib.hid k5; clear k5
      obtain ⟨W, hW⟩ : ∃ W, W = wr.alloc (.cells #[.string ⟨x.n.toArray⟩, .slice asx x.f.safe.length ksx, .slice avc x.L.length kvc] 148) := ⟨_, rfl⟩
      have HBW := Lib.hid (show Below wr.heap.size wr W by rw [hW]; exact (Below.refl _ wr).alloc (Nat.le_refl _) _)
      have HPW := Lib.hid (show W.heap[wr.heap.size]? = some (.cells #[.string ⟨x.n.toArray⟩, .slice asx x.f.safe.length ksx, .slice avc x.L.length kvc] 148 (0, 0)) by rw [hW]; exact heap_alloc_new _ _)
      have HW := Lib.hid hW; clear hW
      go_wp2_with (first
        | (go_at_call 80; rw [← HW.out]; refine (rtwinc _ _ (HSF.out.kp (S := S2F) (Kp.of_below HBW.out) (fun h => h) (Cx.refl _ _)) HSL.out).mono ?_; rintro e w3 ⟨v3, rfl, hown3, hb3⟩; obtain ⟨a3, cap3, rfl⟩ := own_shape hown3; have HO3 := Lib.hid (own_below hown3 HBW.out.size); have HB3 := Lib.hid (HBW.out.trans (hb3.mono HBW.out.size)); have HP3 := Lib.hid ((hb3.block wr.heap.size (lt_of_heap HPW.out)).trans HPW.out); clear hown3 hb3; have p0 : w3.cell? ⟨wr.heap.size, 0, none⟩ = some (.string ⟨x.n.toArray⟩) := cell_of_heap HP3.out 0; have p1 : w3.cell? ⟨wr.heap.size, 1, none⟩ = some (.slice asx x.f.safe.length ksx) := cell_of_heap HP3.out 1; have p2 : w3.cell? ⟨wr.heap.size, 2, none⟩ = some (.slice avc x.L.length kvc) := cell_of_heap HP3.out 2)
        | (go_at_call 78; refine (HDC.out _ (HRF.out.kp (S := S2F) (Kp.of_below HB3.out) (fun h => h) (fun _ _ h => h) (Cx.refl _ _))).mono ?_; rintro e w4 ⟨v4, rfl, hown4, hb4⟩; obtain ⟨a4, cap4, rfl⟩ := own_shape hown4; have HO4 := Lib.hid (own_below hown4 HB3.out.size); have HB4 := Lib.hid (HB3.out.trans (hb4.mono HB3.out.size)); have HP4 := Lib.hid ((hb4.block wr.heap.size (lt_of_heap HP3.out)).trans HP3.out); clear hown4 hb4 p0 p1 p2; have p0 : w4.cell? ⟨wr.heap.size, 0, none⟩ = some (.string ⟨x.n.toArray⟩) := cell_of_heap HP4.out 0)
        | (at_builtin; refine wpList_append3 rfl _ _ _ rfl 108 i0 (.agg #[.string ⟨#[]⟩, .slice none 0 0]) 2 40 Tryz.underlying55 H6.out H7.out H8.out H9.out rfl (by decide) _ j xs rfl (owns_alloc (owns_below HOW.out HB4.out) _) ⟨_, 0, none⟩ 1 1 [str x.n, .slice a4 x.f.now.length cap4] rfl rfl (two_new _ _ _ _) (by simp [Value.oneCell', str]) K5.out.1 K5.out.2 ?_))
      intro v6 w6 hown6 hg6 hb6
      have hg6 : World.grownBy _ w6 (Value.slice ao j capo).ownBlock := hg6
      have hb6 : ∀ g, v6.ownBlock = some g → (Value.slice ao j capo).ownBlock = some g ∨ _ ≤ g := hb6
      obtain ⟨g6, cap6, rfl⟩ := own_succ hown6
      have HB6 := Lib.hid hb6; clear hb6
      have HG6 := Lib.hid hg6; clear hg6
      have HO6 := Lib.hid hown6; clear hown6
      go_wp2
      go_roundw
      case rel =>
        refine ⟨j + 1, some ⟨g6, 0, none⟩, cap6, by omega, by go_num, rfl, ?_⟩
        exact told_step HKK0.out HKF.out HI.out.kp HCX.out HCO.out HOW.out HDT.out HX.out HB4.out HO4.out ((Below.refl _ w4).alloc (Nat.le_refl _) _) HO6.out HG6.out (fun g hg => (HB6.out g hg).imp id (fun h => by simpa using h))
      case measure => simp [intOf]; omega
    · obtain rfl : j = F.length := by omega
      have hfl : fs.length = F.length := by rw [HFS.out, List.length_map, HML.out]
      have hr7 := HDr.out.c7
      have I := HI.out
      obtain ⟨c3, hc3, hF⟩ := told_end hfl I HKF.out
      have HF := Lib.hid hF; clear hF
      have HC3 := Lib.hid hc3; clear hc3
      have HII := Lib.hid I; clear I
      have HFL := Lib.hid hfl; clear hfl
      cases hd : m.dead with
      | true =>
        rw [hd] at hr7
        have HDE := Lib.hid hd; clear hd
        go_wp2
        go_ret
        have e : Dk.files m = [] := by unfold Dk.files; rw [HDE.out]; rfl
        rw [e]
        exact ⟨none, 0, 0, c3, rfl, rfl, HC3.out, HII.out.kp, FilesAt.nil _ _⟩
      | false =>
        rw [hd] at hr7
        have HDE := Lib.hid hd; clear hd
        go_wp2
        go_ret
        have e : Dk.files m = fs := by unfold Dk.files; rw [HDE.out, HFS.out]; rfl
        rw [e]
        exact ⟨ao, F.length, capo, c3, rfl, HFL.out.symm, HC3.out, HII.out.kp, HF.out⟩
set_option maxRecDepth 20000 in
set_option maxHeartbeats 8000000 in
theorem rall_true (k r : Nat) (m : ADisk) (w : World) (DD : RD w c k r m) (hops : m.ops ≤ 1000000) :
    Calls Tryz.prog 28 #[ptr r, .bool true] w (AllPost (Dk.safe m) c w) := by
  obtain ⟨vk, vf, vu, vF, F, D⟩ := DD
  have HD := Lib.hid D
  have HO := Lib.hid hops; clear hops
  obtain ⟨fs, hfs⟩ : ∃ fs, fs = m.files.map fun x => (x.1, x.2.safe) := ⟨_, rfl⟩
  have HFS := Lib.hid hfs
  obtain ⟨i0, hi, hz0, hz1, hz2⟩ := info_parts3
  have H6 := Lib.hid hi; clear hi
  have H7 := Lib.hid hz0; clear hz0
  have H8 := Lib.hid hz1; clear hz1
  have H9 := Lib.hid hz2; clear hz2
  obtain ⟨af, kf, e⟩ := D.files.shape
  have hr5 := D.c5
  rw [e] at hr5
  have HE := Lib.hid e
  have hrl := D.lt
  have hlen := D.len
  have hlen' : (F.length : Int) ≤ 4096 := by omega
  obtain ⟨kk, hkk0, hkk, hkf⟩ := fresh_col c w.heap.size k
  have HKK0 := Lib.hid hkk0; clear hkk0
  have HKF := Lib.hid hkf; clear hkf hkk
  have HML := Lib.hid (show m.files.length = F.length by rw [← D.names, List.length_map])
  clear D e hfs
  unfold ptr
  go_enter Tryz.func28, Tryz.ntmps28
  go_wp2
  clear hr5
  go_loopw [5, 14] (fun vo s wr => ∃ (j : Nat) (ao : Option Addr) (capo : Nat), j ≤ F.length ∧ s = .int .i64 j ∧ vo = .slice ao j capo ∧ TInv w c kk fs j vo wr) (fun _ s _ => F.length - (intOf s).toNat)
  case atStart =>
    exact ⟨0, none, 0, Nat.zero_le _, rfl, rfl, ⟨c, [], Cx.refl _ _, World.ownsRow_nil _ _ _ _, (fun g hg => by cases hg), (fun i x hi => by simp at hi)⟩, fun S => Kp.refl _ _ _⟩
  case round =>
    obtain ⟨j, ao, capo, hj, rfl, rfl, I⟩ := hrel
    have HI := Lib.hid I; clear I
    have HDr := Lib.hid (HD.out.kp (HI.out.kp S2F) (fun _ h => h.elim) (Cx.refl _ _))
    by_cases hlt : j < F.length
    · obtain ⟨x, hx⟩ : ∃ x, F[j]? = some x := ⟨F[j], List.getElem?_eq_getElem hlt⟩
      obtain ⟨g, cap, e2, hlc, hcm, -, f0, f1, f2, -⟩ := HDr.out.files.cells hx
      rw [HE.out] at e2
      injection e2 with e3 e5 e4
      clear e5 hlc hcm
      subst e3 e4
      have hRF := HDr.out.files.each x (List.mem_of_getElem? hx)
      have hfok := HDr.out.fok (List.mem_of_getElem? hx)
      have hnok := HDr.out.nok (List.mem_of_getElem? hx)
      obtain ⟨asx, ksx, evs, -⟩ := id hRF.safe
      obtain ⟨avc, kvc, evc⟩ := own_shape hRF.chs.own
      rw [List.length_map] at evs
      have hdc := fun W hW => data_c (c := c) k x W hW hfok (by have := HO.out; omega) hnok
      have hsafe := hRF.safe
      rw [evs] at f1 hdc hsafe
      rw [evc] at f2 hdc
      have HDC := Lib.hid hdc
      have HSF := Lib.hid hsafe
      have HRF := Lib.hid hRF
      have HSL := Lib.hid (lim_file hfok.safe)
      have hgl : g < wr.heap.size := World.block_lt_of_cell? _ _ f1
      have hrl2 : r < wr.heap.size := HDr.out.lt
      unfold str at f0
      have HX := Lib.hid (show fs[j]? = some (x.n, x.f.safe) by rw [HFS.out, ← HD.out.names, List.getElem?_map, List.getElem?_map, hx]; rfl)
      clear hRF hfok hnok evs evc hdc hsafe hx
      obtain ⟨c3, xs, hcx, hown, hcol, hdat⟩ := HI.out.ex
      have HCX := Lib.hid hcx; clear hcx
      have HOW := Lib.hid hown; clear hown
      have HCO := Lib.hid hcol; clear hcol
      have HDT := Lib.hid hdat; clear hdat
      have k5 : j + 1 ≤ maxLen ∧ (j + 1) * 40 ≤ 140737488355328 := by unfold maxLen; omega
      have K5 := Lib.hid k5; clear k5
      obtain ⟨W, hW⟩ : ∃ W, W = wr.alloc (.cells #[.string ⟨x.n.toArray⟩, .slice asx x.f.safe.length ksx, .slice avc x.L.length kvc] 148) := ⟨_, rfl⟩
      have HBW := Lib.hid (show Below wr.heap.size wr W by rw [hW]; exact (Below.refl _ wr).alloc (Nat.le_refl _) _)
      have HPW := Lib.hid (show W.heap[wr.heap.size]? = some (.cells #[.string ⟨x.n.toArray⟩, .slice asx x.f.safe.length ksx, .slice avc x.L.length kvc] 148 (0, 0)) by rw [hW]; exact heap_alloc_new _ _)
      have HW := Lib.hid hW; clear hW
      go_wp2_with (first
        | (go_at_call 80; rw [← HW.out]; refine (rtwinc _ _ (HSF.out.kp (S := S2F) (Kp.of_below HBW.out) (fun h => h) (Cx.refl _ _)) HSL.out).mono ?_; rintro e w3 ⟨v3, rfl, hown3, hb3⟩; obtain ⟨a3, cap3, rfl⟩ := own_shape hown3; have HO3 := Lib.hid (own_below hown3 HBW.out.size); have HB3 := Lib.hid (HBW.out.trans (hb3.mono HBW.out.size)); have HP3 := Lib.hid ((hb3.block wr.heap.size (lt_of_heap HPW.out)).trans HPW.out); clear hown3 hb3; have p0 : w3.cell? ⟨wr.heap.size, 0, none⟩ = some (.string ⟨x.n.toArray⟩) := cell_of_heap HP3.out 0; have p1 : w3.cell? ⟨wr.heap.size, 1, none⟩ = some (.slice asx x.f.safe.length ksx) := cell_of_heap HP3.out 1; have p2 : w3.cell? ⟨wr.heap.size, 2, none⟩ = some (.slice avc x.L.length kvc) := cell_of_heap HP3.out 2)
        | (go_at_call 78; refine (HDC.out _ (HRF.out.kp (S := S2F) (Kp.of_below HB3.out) (fun h => h) (fun _ _ h => h) (Cx.refl _ _))).mono ?_; rintro e w4 ⟨v4, rfl, hown4, hb4⟩; obtain ⟨a4, cap4, rfl⟩ := own_shape hown4; have HO4 := Lib.hid (own_below hown4 HB3.out.size); have HB4 := Lib.hid (HB3.out.trans (hb4.mono HB3.out.size)); have HP4 := Lib.hid ((hb4.block wr.heap.size (lt_of_heap HP3.out)).trans HP3.out); clear hown4 hb4 p0 p1 p2; have p0 : w4.cell? ⟨wr.heap.size, 0, none⟩ = some (.string ⟨x.n.toArray⟩) := cell_of_heap HP4.out 0)
        | (at_builtin; refine wpList_append3 rfl _ _ _ rfl 108 i0 (.agg #[.string ⟨#[]⟩, .slice none 0 0]) 2 40 Tryz.underlying55 H6.out H7.out H8.out H9.out rfl (by decide) _ j xs rfl (owns_alloc (owns_below HOW.out HB3.out) _) ⟨_, 0, none⟩ 1 1 [str x.n, .slice a3 x.f.safe.length cap3] rfl rfl (two_new _ _ _ _) (by simp [Value.oneCell', str]) K5.out.1 K5.out.2 ?_))
      intro v6 w6 hown6 hg6 hb6
      have hg6 : World.grownBy _ w6 (Value.slice ao j capo).ownBlock := hg6
      have hb6 : ∀ g, v6.ownBlock = some g → (Value.slice ao j capo).ownBlock = some g ∨ _ ≤ g := hb6
      obtain ⟨g6, cap6, rfl⟩ := own_succ hown6
      have HB6 := Lib.hid hb6; clear hb6
      have HG6 := Lib.hid hg6; clear hg6
      have HO6 := Lib.hid hown6; clear hown6
      go_wp2
      go_roundw
      case rel =>
        refine ⟨j + 1, some ⟨g6, 0, none⟩, cap6, by omega, by go_num, rfl, ?_⟩
        exact told_step HKK0.out HKF.out HI.out.kp HCX.out HCO.out HOW.out HDT.out HX.out HB3.out HO3.out ((Below.refl _ w3).alloc (Nat.le_refl _) _) HO6.out HG6.out (fun g hg => (HB6.out g hg).imp id (fun h => by simpa using h))
      case measure => simp [intOf]; omega
    · obtain rfl : j = F.length := by omega
      have hfl : fs.length = F.length := by rw [HFS.out, List.length_map, HML.out]
      have hr7 := HDr.out.c7
      have I := HI.out
      obtain ⟨c3, hc3, hF⟩ := told_end hfl I HKF.out
      have HF := Lib.hid hF; clear hF
      have HC3 := Lib.hid hc3; clear hc3
      have HII := Lib.hid I; clear I
      have HFL := Lib.hid hfl; clear hfl
      cases hd : m.dead with
      | true =>
        rw [hd] at hr7
        have HDE := Lib.hid hd; clear hd
        go_wp2
        go_ret
        have e : Dk.safe m = fs := by rw [HFS.out]; rfl
        rw [e]
        exact ⟨ao, F.length, capo, c3, rfl, HFL.out.symm, HC3.out, HII.out.kp, HF.out⟩
      | false =>
        rw [hd] at hr7
        have HDE := Lib.hid hd; clear hd
        go_wp2
        go_ret
        have e : Dk.safe m = fs := by rw [HFS.out]; rfl
        rw [e]
        exact ⟨ao, F.length, capo, c3, rfl, HFL.out.symm, HC3.out, HII.out.kp, HF.out⟩
end Go.Proofs.YtnifmoigalmcmaaGreat
