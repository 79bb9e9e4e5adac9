import Derived.Test.YtepphepcaphlkaaDr
import Derived.Test.YtepphepcaphlkaaAl
import Derived.Test.YtepphepcaphlkaaWw
namespace Go.Proofs.Ytepphepcaphlkaa
open Go Go.RowKit Go.MapKept Go.Maps
open Dk
variable {c c' : Col} {w w' : World}
structure DAInv (w : World) (c : Col) (k d : Nat) (P : APlan) (i : Nat) (wr : World) : Prop where
  ex : ∃ ci mi, Cx w c ci ∧ Kp c (fun q => q.1 = k) w wr ∧ DiskAt wr ci k d mi ∧ AllInv P mi i
theorem DAInv.end {k d : Nat} {P : APlan} {i : Nat} {wr : World} (h : DAInv w c k d P i wr) (hkf : ∀ b, b < w.heap.size → (c b).1 ≠ k) (S : Nat × Nat → Prop) : Kp c S w wr := by
  obtain ⟨ci, mi, hc, hk, D, _⟩ := h.ex
  exact ⟨hk.os, hk.output, hk.size, fun b hb _ => hk.block b hb (hkf b hb)⟩
theorem DAInv.skip {k d : Nat} {P : APlan} {i : Nat} {wr : World} (h : DAInv w c k d P i wr) (o : Obj) : DAInv w c k d P (i + 1) (wr.alloc o) := by
  obtain ⟨ci, mi, hc, hk, D, R⟩ := h.ex
  exact ⟨ci, mi, hc, hk.alloc _, D.kp ((Kp.refl ci (fun _ => False) wr).alloc _) (fun _ h => h.elim) (Cx.refl _ _), R.crash, R.plan, R.dead, R.fold, R.ops0, by have := R.ops; omega⟩
theorem DAInv.ww {k d : Nat} {P : APlan} {i : Nat} {wr : World} (h : DAInv w c k d P i wr) : ∃ mi, WW w c k d mi [] wr ∧ AllInv P mi i := by
  obtain ⟨ci, mi, hc, hk, D, R⟩ := h.ex
  exact ⟨mi, ⟨ci, hc, hk, D, (fun x hx => by cases hx)⟩, R⟩
theorem daT (k : Nat) (hk0 : k ≠ 0) (w0 : World) (o : Obj) (h0 : ∀ S, Kp c S w w0) : Calls Try.prog 11 #[.agg #[.int .i64 0, .slice (some ⟨w0.heap.size + 1, 0, none⟩) 1 1, .slice none 0 0, .slice none 0 0, .int .i64 0]] ((w0.alloc o).alloc (.cells #[.int .i64 (-1)] 3)) fun e w' => ∃ d, e = .returned (.pointer (some ⟨d, 0, none⟩)) ∧ DAInv w c k d (allPlan true) 0 w' := by
  have HS : Sc ((w0.alloc o).alloc (.cells #[.int .i64 (-1)] 3)) c (c (w0.alloc o).heap.size) (.slice (some ⟨(w0.alloc o).heap.size, 0, none⟩) 1 1) ([(-1 : Int)].map iv) := sc_new _ _ _ _
  rw [World.size_alloc] at HS
  refine (new_c k ⟨0, [-1], [], [], 0⟩ (.slice (some ⟨w0.heap.size + 1, 0, none⟩) 1 1) (.slice none 0 0) (.slice none 0 0) _ HS (Sc.nil _ _ _) (Sc.nil _ _ _) (by simp [lim]) (by simp [lim]) (by simp [lim]) hk0).mono fun e w' h => ?_
  obtain ⟨d, c1, he, hcx, hkp, hdd, _⟩ := h
  have hs := (h0 (fun _ => False)).size
  exact ⟨d, he, c1, _, fun b hb => hcx b (by simp; omega), (((h0 _).alloc _).alloc _).trans (hkp _) (Cx.refl _ _), hdd, rfl, rfl, rfl, (fun x hx => by cases hx), by simp [new_], by simp [new_]⟩
theorem daF (k : Nat) (hk0 : k ≠ 0) (w0 : World) (o : Obj) (h0 : ∀ S, Kp c S w w0) : Calls Try.prog 11 #[.agg #[.int .i64 0, .slice none 0 0, .slice none 0 0, .slice none 0 0, .int .i64 0]] (w0.alloc o) fun e w' => ∃ d, e = .returned (.pointer (some ⟨d, 0, none⟩)) ∧ DAInv w c k d (allPlan false) 0 w' := by
  refine (new_c k ⟨0, [], [], [], 0⟩ (.slice none 0 0) (.slice none 0 0) (.slice none 0 0) _ (q := (0, 0)) (c := c) (Sc.nil _ _ _) (Sc.nil _ _ _) (Sc.nil _ _ _) (by simp [lim]) (by simp [lim]) (by simp [lim]) hk0).mono fun e w' h => ?_
  obtain ⟨d, c1, he, hcx, hkp, hdd, _⟩ := h
  have hs := (h0 (fun _ => False)).size
  exact ⟨d, he, c1, _, fun b hb => hcx b (by simp; omega), ((h0 _).alloc _).trans (hkp _) (Cx.refl _ _), hdd, rfl, rfl, rfl, (fun x hx => by cases hx), by simp [new_], by simp [new_]⟩
set_option maxHeartbeats 8000000 in
theorem diskAll_c (all : Bool) (v : Value) (l : List AOp) (w : World) (h : OpsAt w c v l) :
    Calls Try.prog 4 #[v, .bool all] w fun e w' => e = .returned (.bool true) ∧ ∀ S, Kp c S w w' := by
  obtain ⟨k, hk0, -, hkf⟩ := fresh_col c w.heap.size 0
  have HK0 := Lib.hid hk0; clear hk0
  have HKF := Lib.hid hkf; clear hkf
  have HOP := Lib.hid h
  obtain ⟨a, cap, rfl, hm, hn, hop⟩ := h
  have hlen : (l.length : Int) ≤ 9223372036854775807 := by unfold maxLen at hm; omega
  clear hm hn hop
  cases all with
  | true =>
    go_enter Try.func4, Try.ntmps4
    go_wp2_with (first
      | (go_at_call 9; refine (awake_c (c := c) _).mono ?_; rintro e w1 ⟨rfl, ha⟩; have HA := Lib.hid ha; clear ha)
      | (go_at_call 10; refine (few_c (c := c) _ _ _ (HOP.out.kp (HA.out S2F) (fun h => h) (Cx.refl _ _))).mono ?_; rintro e w2 ⟨b, rfl, hb, hf⟩; have HB := Lib.hid hb; have HF := Lib.hid hf; clear hb hf)
      | (go_at_call 11; refine (daT (c := c) (w := w) k HK0.out _ _ (fun S => (HA.out S).trans (HB.out S) (Cx.refl _ _))).mono ?_; rintro e w3 ⟨d, rfl, hd⟩; have HD := Lib.hid hd; clear hd))
    · go_ret
      exact ⟨rfl, fun S => (HA.out S).trans (HB.out S) (Cx.refl _ _)⟩
    · have hbt : (!b) = false := by assumption
      have hbt : b = true := by simpa using hbt
      obtain ⟨hl60, hsm⟩ := HF.out hbt
      have HSM := Lib.hid hsm; clear hsm hbt
      have HL := Lib.hid hl60; clear hl60
      go_loopw [25] (fun s wr => ∃ i : Nat, i ≤ l.length ∧ s = .int .i64 i ∧ DAInv w c k d (allPlan true) i wr) (fun s _ => l.length - (intOf s).toNat)
      case atStart =>
        exact ⟨0, Nat.zero_le _, rfl, HD.out⟩
      case round =>
        obtain ⟨i, hi, rfl, I⟩ := hrel
        have HI := Lib.hid I
        by_cases hlt : i < l.length
        · obtain ⟨ci, mi, hc, hk, D, R⟩ := I.ex
          clear I
          obtain ⟨o, ho⟩ : ∃ o, l[i]? = some o := ⟨l[i], List.getElem?_eq_getElem hlt⟩
          obtain ⟨a', cap', he, hm, hn, hop⟩ := HOP.out.kp hk (fun h => HK0.out h.symm) hc
          injection he with he1 he2 he3
          subst he1
          subst he3
          clear he2
          cases a with
          | none => rw [hn rfl] at hlt; cases hlt
          | some ad =>
            obtain ⟨b, off, sp⟩ := ad
            have hop := hop _ rfl
            obtain ⟨hsp, vd, vk, vf, vu, O⟩ := hop i o ho
            cases hsp
            obtain ⟨ad, kd, rfl, -⟩ := O.data
            obtain ⟨ak, kk, rfl, -⟩ := O.plan.keep
            obtain ⟨af, kf, rfl, -⟩ := O.plan.fail
            obtain ⟨au, ku, rfl, -⟩ := O.plan.full
            simp only [List.length_map] at O
            have g0 : wr.cell? ⟨b, off + i * 11, none⟩ = some (.int .i64 o.kind) := O.cells 0 _ rfl
            have g1 : wr.cell? ⟨b, off + i * 11 + 1, none⟩ = some (.string ⟨o.name.toArray⟩) := O.cells 1 _ rfl
            have g2 : wr.cell? ⟨b, off + i * 11 + 2, none⟩ = some (.string ⟨o.to.toArray⟩) := O.cells 2 _ rfl
            have g3 : wr.cell? ⟨b, off + i * 11 + 3, none⟩ = some (.int .i64 o.at_) := O.cells 3 _ rfl
            have g4 : wr.cell? ⟨b, off + i * 11 + 4, none⟩ = some (.int .i64 o.long) := O.cells 4 _ rfl
            have g5 : wr.cell? ⟨b, off + i * 11 + 5, none⟩ = some (.slice ad o.data.length kd) := O.cells 5 _ rfl
            have g6 : wr.cell? ⟨b, off + i * 11 + 6, none⟩ = some (.int .i64 o.plan.crash) := O.cells 6 _ rfl
            have g7 : wr.cell? ⟨b, off + i * 11 + 7, none⟩ = some (.slice ak o.plan.keep.length kk) := O.cells 7 _ rfl
            have g8 : wr.cell? ⟨b, off + i * 11 + 8, none⟩ = some (.slice af o.plan.fail.length kf) := O.cells 8 _ rfl
            have g9 : wr.cell? ⟨b, off + i * 11 + 9, none⟩ = some (.slice au o.plan.full.length ku) := O.cells 9 _ rfl
            have g10 : wr.cell? ⟨b, off + i * 11 + 10, none⟩ = some (.int .i64 o.plan.room) := O.cells 10 _ rfl
            have HO := Lib.hid O; clear O hop hn hm
            have HCI := Lib.hid hc; clear hc
            have HKI := Lib.hid hk; clear hk
            have HDI := Lib.hid D; clear D
            have HRI := Lib.hid R; clear R
            by_cases h7 : o.kind = 7
            · rw [h7] at g0
              go_wp2
              go_roundw
              case rel => exact ⟨i + 1, by omega, by go_num, HI.out.skip _⟩
              case measure => simp [intOf]; omega
            · have H7 := Lib.hid h7
              go_wp2_with (go_at_call 12; refine (do_any7 k d mi o _ _ _ _ _ (HDI.out.kp ((Kp.refl ci (fun _ => False) wr).alloc _) (fun _ h => h.elim) (Cx.refl _ _)) HK0.out (by have := HRI.out.ops; have := HL.out; omega) (HO.out.kp ((Kp.refl ci (fun _ => False) wr).alloc _) (fun h => h) (Cx.refl _ _)) H7.out).mono ?_; rintro e w4 ⟨rfl, c4, hc4, hk4, D4⟩; have HC4 := Lib.hid hc4; have HK4 := Lib.hid hk4; have HD4 := Lib.hid D4; clear hc4 hk4 D4)
              clear g0 g1 g2 g3 g4 g5 g6 g7 g8 g9 g10 h7
              have hcc : Cx w c c4 := HCI.out.trans HC4.out (by have := HKI.out.size; simp; omega)
              have hD : DAInv w c k d (allPlan true) (i + 1) w4 := ⟨c4, (doOp mi o).2, hcc, (HKI.out.alloc _).trans HK4.out HCI.out, HD4.out, doOp_all HRI.out o H7.out⟩
              go_roundw
              case rel => exact ⟨i + 1, by omega, by go_num, hD⟩
              case measure => simp [intOf]; omega
        · obtain rfl : i = l.length := by omega
          obtain ⟨mi, h0, R⟩ := I.ww
          clear I hlt
          have HW0 := Lib.hid h0; clear h0
          have HAS := Lib.hid (all_start R P1)
          have HRI := Lib.hid R; clear R
          go_wp2_with (first
            | (go_at_call 14; refine (ww_safe HW0.out HK0.out).mono ?_; rintro e w5 ⟨a5, cap5, rfl, h⟩; clear HW0; have HW1 := Lib.hid h; clear h)
            | (go_at_call 13; refine (ww_files HW1.out HK0.out).mono ?_; rintro e w6 ⟨a6, cap6, rfl, h⟩; clear HW1; have HW2 := Lib.hid h; clear h)
            | (go_at_call 15; refine (ww_start0 HW2.out HK0.out (by have := HRI.out.ops; have := HL.out; omega) (fun e => by rw [HRI.out.dead] at e; cases e)).mono ?_; rintro e w7 ⟨rfl, h⟩; clear HW2; have HW3 := Lib.hid h; clear h)
            | (go_at_call 13; refine (ww_files HW3.out HK0.out).mono ?_; rintro e w8 ⟨a8, cap8, rfl, h⟩; clear HW3; have HW4 := Lib.hid h; clear h)
            | (go_at_call 16; refine (ww_same HW4.out HK0.out (f1 := Dk.files (Dk.start mi P1)) (f2 := Dk.files mi) (.head _) (.tail _ (.head _)) (files_len (ww_ok HW4.out)) (decide_eq_true HAS.out.1)).mono ?_; rintro e w9 ⟨rfl, h⟩; clear HW4; have HW5 := Lib.hid h; clear h)
            | (go_at_call 14; refine (ww_safe HW5.out HK0.out).mono ?_; rintro e wa ⟨aa, capa, rfl, h⟩; clear HW5; have HW6 := Lib.hid h; clear h)
            | (go_at_call 16; refine (ww_same HW6.out HK0.out (f1 := Dk.safe (Dk.start mi P1)) (f2 := Dk.files mi) (.head _) (.tail _ (.tail _ (.head _))) (safe_len (ww_ok HW6.out)) (decide_eq_true HAS.out.2.1)).mono ?_; rintro e wb ⟨rfl, h⟩; clear HW6; have HW7 := Lib.hid h; clear h)
            | (go_at_call 17; refine (ww_ops HW7.out).mono ?_; rintro e w' ⟨rfl, rfl⟩; rw [HAS.out.2.2.1]))
          go_ret
          exact ⟨rfl, fun S => HW7.out.end HKF.out S⟩
  | false =>
    go_enter Try.func4, Try.ntmps4
    go_wp2_with (first
      | (go_at_call 9; refine (awake_c (c := c) _).mono ?_; rintro e w1 ⟨rfl, ha⟩; have HA := Lib.hid ha; clear ha)
      | (go_at_call 10; refine (few_c (c := c) _ _ _ (HOP.out.kp (HA.out S2F) (fun h => h) (Cx.refl _ _))).mono ?_; rintro e w2 ⟨b, rfl, hb, hf⟩; have HB := Lib.hid hb; have HF := Lib.hid hf; clear hb hf)
      | (go_at_call 11; refine (daF (c := c) (w := w) k HK0.out _ _ (fun S => (HA.out S).trans (HB.out S) (Cx.refl _ _))).mono ?_; rintro e w3 ⟨d, rfl, hd⟩; have HD := Lib.hid hd; clear hd))
    · go_ret
      exact ⟨rfl, fun S => (HA.out S).trans (HB.out S) (Cx.refl _ _)⟩
    · have hbt : (!b) = false := by assumption
      have hbt : b = true := by simpa using hbt
      obtain ⟨hl60, hsm⟩ := HF.out hbt
      have HSM := Lib.hid hsm; clear hsm hbt
      have HL := Lib.hid hl60; clear hl60
      go_loopw [25] (fun s wr => ∃ i : Nat, i ≤ l.length ∧ s = .int .i64 i ∧ DAInv w c k d (allPlan false) i wr) (fun s _ => l.length - (intOf s).toNat)
      case atStart =>
        exact ⟨0, Nat.zero_le _, rfl, HD.out⟩
      case round =>
        obtain ⟨i, hi, rfl, I⟩ := hrel
        have HI := Lib.hid I
        by_cases hlt : i < l.length
        · obtain ⟨ci, mi, hc, hk, D, R⟩ := I.ex
          clear I
          obtain ⟨o, ho⟩ : ∃ o, l[i]? = some o := ⟨l[i], List.getElem?_eq_getElem hlt⟩
          obtain ⟨a', cap', he, hm, hn, hop⟩ := HOP.out.kp hk (fun h => HK0.out h.symm) hc
          injection he with he1 he2 he3
          subst he1
          subst he3
          clear he2
          cases a with
          | none => rw [hn rfl] at hlt; cases hlt
          | some ad =>
            obtain ⟨b, off, sp⟩ := ad
            have hop := hop _ rfl
            obtain ⟨hsp, vd, vk, vf, vu, O⟩ := hop i o ho
            cases hsp
            obtain ⟨ad, kd, rfl, -⟩ := O.data
            obtain ⟨ak, kk, rfl, -⟩ := O.plan.keep
            obtain ⟨af, kf, rfl, -⟩ := O.plan.fail
            obtain ⟨au, ku, rfl, -⟩ := O.plan.full
            simp only [List.length_map] at O
            have g0 : wr.cell? ⟨b, off + i * 11, none⟩ = some (.int .i64 o.kind) := O.cells 0 _ rfl
            have g1 : wr.cell? ⟨b, off + i * 11 + 1, none⟩ = some (.string ⟨o.name.toArray⟩) := O.cells 1 _ rfl
            have g2 : wr.cell? ⟨b, off + i * 11 + 2, none⟩ = some (.string ⟨o.to.toArray⟩) := O.cells 2 _ rfl
            have g3 : wr.cell? ⟨b, off + i * 11 + 3, none⟩ = some (.int .i64 o.at_) := O.cells 3 _ rfl
            have g4 : wr.cell? ⟨b, off + i * 11 + 4, none⟩ = some (.int .i64 o.long) := O.cells 4 _ rfl
            have g5 : wr.cell? ⟨b, off + i * 11 + 5, none⟩ = some (.slice ad o.data.length kd) := O.cells 5 _ rfl
            have g6 : wr.cell? ⟨b, off + i * 11 + 6, none⟩ = some (.int .i64 o.plan.crash) := O.cells 6 _ rfl
            have g7 : wr.cell? ⟨b, off + i * 11 + 7, none⟩ = some (.slice ak o.plan.keep.length kk) := O.cells 7 _ rfl
            have g8 : wr.cell? ⟨b, off + i * 11 + 8, none⟩ = some (.slice af o.plan.fail.length kf) := O.cells 8 _ rfl
            have g9 : wr.cell? ⟨b, off + i * 11 + 9, none⟩ = some (.slice au o.plan.full.length ku) := O.cells 9 _ rfl
            have g10 : wr.cell? ⟨b, off + i * 11 + 10, none⟩ = some (.int .i64 o.plan.room) := O.cells 10 _ rfl
            have HO := Lib.hid O; clear O hop hn hm
            have HCI := Lib.hid hc; clear hc
            have HKI := Lib.hid hk; clear hk
            have HDI := Lib.hid D; clear D
            have HRI := Lib.hid R; clear R
            by_cases h7 : o.kind = 7
            · rw [h7] at g0
              go_wp2
              go_roundw
              case rel => exact ⟨i + 1, by omega, by go_num, HI.out.skip _⟩
              case measure => simp [intOf]; omega
            · have H7 := Lib.hid h7
              go_wp2_with (go_at_call 12; refine (do_any7 k d mi o _ _ _ _ _ (HDI.out.kp ((Kp.refl ci (fun _ => False) wr).alloc _) (fun _ h => h.elim) (Cx.refl _ _)) HK0.out (by have := HRI.out.ops; have := HL.out; omega) (HO.out.kp ((Kp.refl ci (fun _ => False) wr).alloc _) (fun h => h) (Cx.refl _ _)) H7.out).mono ?_; rintro e w4 ⟨rfl, c4, hc4, hk4, D4⟩; have HC4 := Lib.hid hc4; have HK4 := Lib.hid hk4; have HD4 := Lib.hid D4; clear hc4 hk4 D4)
              clear g0 g1 g2 g3 g4 g5 g6 g7 g8 g9 g10 h7
              have hcc : Cx w c c4 := HCI.out.trans HC4.out (by have := HKI.out.size; simp; omega)
              have hD : DAInv w c k d (allPlan false) (i + 1) w4 := ⟨c4, (doOp mi o).2, hcc, (HKI.out.alloc _).trans HK4.out HCI.out, HD4.out, doOp_all HRI.out o H7.out⟩
              go_roundw
              case rel => exact ⟨i + 1, by omega, by go_num, hD⟩
              case measure => simp [intOf]; omega
        · obtain rfl : i = l.length := by omega
          obtain ⟨mi, h0, R⟩ := I.ww
          clear I hlt
          have HW0 := Lib.hid h0; clear h0
          have HAS := Lib.hid (all_start R P1)
          have HRI := Lib.hid R; clear R
          go_wp2_with (first
            | (go_at_call 14; refine (ww_safe HW0.out HK0.out).mono ?_; rintro e w5 ⟨a5, cap5, rfl, h⟩; clear HW0; have HW1 := Lib.hid h; clear h)
            | (go_at_call 15; refine (ww_start0 HW1.out HK0.out (by have := HRI.out.ops; have := HL.out; omega) (fun e => by rw [HRI.out.dead] at e; cases e)).mono ?_; rintro e w7 ⟨rfl, h⟩; clear HW1; have HW3 := Lib.hid h; clear h)
            | (go_at_call 13; refine (ww_files HW3.out HK0.out).mono ?_; rintro e w8 ⟨a8, cap8, rfl, h⟩; clear HW3; have HW4 := Lib.hid h; clear h)
            | (go_at_call 16; refine (ww_same HW4.out HK0.out (f1 := Dk.files (Dk.start mi P1)) (f2 := Dk.safe mi) (.head _) (.tail _ (.head _)) (files_len (ww_ok HW4.out)) (decide_eq_true HAS.out.1)).mono ?_; rintro e w9 ⟨rfl, h⟩; clear HW4; have HW5 := Lib.hid h; clear h)
            | (go_at_call 14; refine (ww_safe HW5.out HK0.out).mono ?_; rintro e wa ⟨aa, capa, rfl, h⟩; clear HW5; have HW6 := Lib.hid h; clear h)
            | (go_at_call 16; refine (ww_same HW6.out HK0.out (f1 := Dk.safe (Dk.start mi P1)) (f2 := Dk.safe mi) (.head _) (.tail _ (.tail _ (.head _))) (safe_len (ww_ok HW6.out)) (decide_eq_true HAS.out.2.1)).mono ?_; rintro e wb ⟨rfl, h⟩; clear HW6; have HW7 := Lib.hid h; clear h)
            | (go_at_call 17; refine (ww_ops HW7.out).mono ?_; rintro e w' ⟨rfl, rfl⟩; rw [HAS.out.2.2.1]))
          go_ret
          exact ⟨rfl, fun S => HW7.out.end HKF.out S⟩
end Go.Proofs.Ytepphepcaphlkaa
