/- WalDoes' walk. -/
import Derived.Test.YtnifmoigalmcmaaGreatWo
namespace Go.Proofs.YtnifmoigalmcmaaGreat
open Go Go.RowKit Dk
open Wl
set_option maxRecDepth 20000 in
set_option maxHeartbeats 8000000 in
theorem walDoes_c (p : APlan) {ak af au : Option Addr} {nk nf nu : Nat} (vl : Value) (l : List AStep) (w : World) (hp : PlanW w c00 (.slice ak p.keep.length nk) (.slice af p.fail.length nf) (.slice au p.full.length nu) p) (lk : p.keep.length ≤ lim) (lf : p.fail.length ≤ lim) (lu : p.full.length ≤ lim)
    (hv : StepsAt w c00 vl l) (hlen : l.length ≤ 1048576) :
    Calls Tryz.prog 3 #[.agg #[.int .i64 p.crash, .slice ak p.keep.length nk, .slice af p.fail.length nf, .slice au p.full.length nu, .int .i64 p.room], vl] w fun e w' => e = .returned (.bool true) ∧ ∀ c S, Kp c S w w' := by
  obtain ⟨ad, cap, rfl, hc1, hc2, hsp⟩ := id hv
  have HP := Lib.hid hp; have HV := Lib.hid hv; have HSP := Lib.hid hsp
  clear hp hv hsp
  obtain ⟨i1, hi1, hz0, hz1, hz2⟩ := info_parts info_u8
  have J6 := Lib.hid hi1; have J7 := Lib.hid hz0; have J8 := Lib.hid hz1; have J9 := Lib.hid hz2; clear hi1 hz0 hz1 hz2
  unfold maxLen at hc2
  by_cases hF : (decide (stot l ≤ 20000) && decide (l.length ≤ 40)) = true
  · have hl40 : l.length ≤ 40 := by simp at hF; exact hF.2
    go_enter Tryz.func3, Tryz.ntmps3
    go_wp2_with (first
      | (go_at_call 9; refine (wawake_c _).mono ?_; rintro _ w1 ⟨rfl, hk⟩; have HB1 := Lib.hid ((hk c00 (fun _ => False)).heap (heap_alloc_new w _) (fun h => h)); have HK1 := Lib.hid (fun c S => ((Kp.refl c S w).alloc _).alloc_trans (hk c S)); clear hk)
      | (go_at_call 10; refine (few_c _ l _ (HV.out.kp (HK1.out c00 (fun _ => False)) (fun h => h) (Cx.refl _ _)) hlen).mono ?_; rintro _ w2 ⟨rfl, hk⟩; rw [hF]; have HB2 := Lib.hid ((hk c00 (fun _ => False)).heap HB1.out (fun h => h)); have HK2 := Lib.hid (fun c S => (HK1.out c S).alloc_trans (hk c S)); clear hk))
    have hS0 := Lib.hid (show (fun X : World => X.heap[w.heap.size]? = some (.cells #[.int .i64 p.crash, .slice ak p.keep.length nk, .slice af p.fail.length nf, .slice au p.full.length nu, .int .i64 p.room] 24 (0, 0))) w2.drew from HB2.out)
    refine wp_region_G (fun X : World => X.heap[w.heap.size]? = some (.cells #[.int .i64 p.crash, .slice ak p.keep.length nk, .slice af p.fail.length nf, .slice au p.full.length nu, .int .i64 p.room] 24 (0, 0))) 4 rfl ?_
    refine wpAnyG_take (i := 0) (oi := _) (v := .agg #[.int .i64 p.crash, .slice ak p.keep.length nk, .slice af p.fail.length nf, .slice au p.full.length nu, .int .i64 p.room]) rfl (by kernel_rfl) (by kernel_rfl) (by kernel_rfl) (by kernel_rfl) (by kernel_rfl) (by kernel_rfl) (fun _ _ _ h => h) (Or.inl ⟨by rfl, fun X hX => ?_⟩) hS0.out ?_
    · have x1 := hX
      (have y0 := cell_of_heap x1 0; have y1 := cell_of_heap x1 1; have y2 := cell_of_heap x1 2; have y3 := cell_of_heap x1 3; have y4 := cell_of_heap x1 4; go_simp)
    simp only [Act.put, List.setIfInBounds_toArray]
    refine wpAnyG_take (i := 3) (oi := _) (v := .agg #[.int .i64 p.crash, .slice ak p.keep.length nk, .slice af p.fail.length nf, .slice au p.full.length nu, .int .i64 p.room]) rfl (by kernel_rfl) (by kernel_rfl) (by kernel_rfl) (by kernel_rfl) (by kernel_rfl) (by kernel_rfl) (fun _ _ _ h => h) (Or.inl ⟨by rfl, fun X hX => ?_⟩) hS0.out ?_
    · have x1 := hX
      (have y0 := cell_of_heap x1 0; have y1 := cell_of_heap x1 1; have y2 := cell_of_heap x1 2; have y3 := cell_of_heap x1 3; have y4 := cell_of_heap x1 4; go_simp)
    simp only [Act.put]
    have HKD : Hid (∀ c S, Kp c S w w2.drew) := fun c S => (HK2.out c S).drew
    refine wpAnyG_one (i := 1) (by kernel_rfl) rfl (fun K' hK' => ?_)
    go_simp
    refine (rtwin_y (HP.out.kp (HKD.out c00 (fun _ => False)) (fun h => h) (Cx.refl _ _)) lk lf lu).mono ?_
    rintro _ w3 ⟨b1, l1, b2, l2, b3, l3, c3, rfl, hc3, hk3, hp3⟩
    have HK3 : Hid (∀ c S, Kp c S w w3) := fun c S => (HKD.out c S).alloc_trans (kp_any (hk3 (fun _ => False)) c S)
    have HP3 := Lib.hid hp3
    have HC3 := Lib.hid (show Cx w c00 c3 from (Cx.refl w c00).trans hc3 (HKD.out c00 (fun _ => False)).size)
    have hS1 := Lib.hid (show (fun X : World => X.heap[w.heap.size]? = some (.cells #[.int .i64 p.crash, .slice ak p.keep.length nk, .slice af p.fail.length nf, .slice au p.full.length nu, .int .i64 p.room] 24 (0, 0))) w3 from (hk3 (fun _ => False)).heap hS0.out (fun h => h))
    clear hp3 hc3 hk3 hS0
    refine hK'.out _ _ (fun _ => hS1.out) ?_
    refine wpAnyG_one (i := 2) (by kernel_rfl) rfl (fun K' hK' => ?_)
    go_simp
    refine (new_c (c := c3) (q := (0, 0)) 1 p _ _ _ w3 HP3.out.keep HP3.out.fail HP3.out.full lk lf lu (by decide)).mono ?_
    rintro _ w4 ⟨d, c4, rfl, hc4, hk4, hd4, -⟩
    have HK4 : Hid (∀ c S, Kp c S w w4) := fun c S => (HK3.out c S).alloc_trans (kp_any (hk4 (fun _ => False)) c S)
    have HC4 := Lib.hid (show Cx w c00 c4 from HC3.out.trans hc4 (HK3.out c00 (fun _ => False)).size)
    have HD4 := Lib.hid hd4
    have hS2 := Lib.hid (show (fun X : World => X.heap[w.heap.size]? = some (.cells #[.int .i64 p.crash, .slice ak p.keep.length nk, .slice af p.fail.length nf, .slice au p.full.length nu, .int .i64 p.room] 24 (0, 0))) w4 from (hk4 (fun _ => False)).heap hS1.out (fun h => h))
    clear hd4 hc4 hk4 hS1
    unfold ptr
    refine hK'.out _ _ (fun _ => hS2.out) ?_
    refine wpAnyG_one (i := 4) (by kernel_rfl) rfl (fun K' hK' => ?_)
    go_simp
    refine (rnew_c (c := c4) 2 p w4 (HP.out.kp' (HK4.out c00 (fun _ => False)) (fun h => h) HC4.out) lk lf lu (by decide)).mono ?_
    rintro _ w5 ⟨r, c5, rfl, hc5, hk5, hr5, -⟩
    have HS := Lib.hid (ws_start HK4.out HC4.out HD4.out hc5 hk5 hr5)
    clear hc5 hk5 hr5 hS2 HD4 HC4 HP3 HC3
    unfold ptr
    refine hK'.out _ _ (fun h => absurd h (by decide)) ?_
    refine wpAnyG_one (i := 5) (by kernel_rfl) rfl (fun K' hK' => ?_)
    go_simp
    refine hK'.out _ _ (fun h => absurd h (by decide)) ?_
    refine wpAnyG_one (i := 6) (by kernel_rfl) rfl (fun K' hK' => ?_)
    go_simp
    refine hK'.out _ _ (fun h => absurd h (by decide)) ?_
    refine wpAnyG_done (by kernel_rfl) ?_
    have HI0 := Lib.hid (lopen_inv (n := LOGn) (new_inv p))
    have HG0 := Lib.hid (lopen_ok (n := LOGn) HS.out.ok)
    have hn0 : (new_ p).ops < 899980 := by show (0 : Int) < 899980; decide
    generalize hA0 : new_ p = A0 at *
    generalize hR0 : lopen A0 LOGn = R0 at *
    go_wp2_with (first
      | (go_at_call 14; refine (ws_xopen HS.out hn0).mono ?_; rintro _ w6 ⟨lx, rfl, hs⟩; rw [hR0] at hs ⊢; have HS := Lib.hid hs; clear hs; obtain ⟨vx, hvx⟩ : ∃ vx, vx = ptrO (lnew lx R0) := ⟨_, rfl⟩; rw [← hvx]; have ex : ∀ W, (binOp .eql 33 vx (.pointer none)).run Tryz.prog W = .ok (.bool (R0.1 != 0)) W := fun W => (by rw [hvx]; exact eql_x lx R0 W); have gx : ∀ W, (eqGuard .eql 33 (.tmp 40) (.const (.pointer none)) vx (.pointer none)).run Tryz.prog W = .ok () W := fun W => (by rw [hvx]; exact grd_x lx R0 W); have HVX := Lib.hid hvx; clear hvx)
      | (go_at_call 15; refine (ws_yopen HS.out hn0).mono ?_; rintro _ w7 ⟨ly, rfl, hs⟩; rw [hR0] at hs ⊢; have HS := Lib.hid hs; clear hs; obtain ⟨vy, hvy⟩ : ∃ vy, vy = ptrO (lnew ly R0) := ⟨_, rfl⟩; rw [← hvy]; have ey : ∀ W, (binOp .eql 37 vy (.pointer none)).run Tryz.prog W = .ok (.bool (R0.1 != 0)) W := fun W => (by rw [hvy]; exact eql_y ly R0 W); have gy : ∀ W, (eqGuard .eql 37 (.tmp 42) (.const (.pointer none)) vy (.pointer none)).run Tryz.prog W = .ok () W := fun W => (by rw [hvy]; exact grd_y ly R0 W); have HVY := Lib.hid hvy; clear hvy))
    have HPR0 := Lib.hid (pr_new (lx := lx) (ly := ly) HG0.out)
    clear ex gx ey gy hA0 hR0 HG0 HK4 HK3 HKD HK2 HK1 HB1 HB2
    go_loopw [7, 9, 48] (fun vx vy z wr => ∃ (i : Nat) (A : ADisk) (xo yo : Option (Nat × Lg)), i ≤ l.length ∧ z = .int .i64 i ∧ vx = ptrO xo ∧ vy = ptrO yo ∧ Pr i xo yo ∧ OpsInv A (2 + 7 * i) ∧ WS w d r A A xo yo [] wr) (fun _ _ z _ => l.length - (intOf z).toNat)
    case atStart => exact ⟨0, _, _, _, Nat.zero_le _, rfl, HVX.out, HVY.out, HPR0.out, HI0.out, HS.out⟩
    case round =>
      clear HS HI0 HPR0
      obtain ⟨i, A, xo, yo, hi, rfl, rfl, rfl, hpr, hinv, hws⟩ := hrel
      have HS0 := Lib.hid hws; have HI := Lib.hid hinv; have HPR := Lib.hid hpr
      clear hws hinv hpr
      by_cases hlt : i < l.length
      · obtain ⟨b, o, rfl, hxx⟩ := HSP.out (by omega)
        obtain ⟨vb, vk, vf, vu, vy, T⟩ := hxx i hlt
        obtain ⟨s, hs⟩ : ∃ s, s = l[i] := ⟨_, rfl⟩
        rw [← hs] at T
        clear hxx hs
        obtain ⟨ak2, nk2, rfl, -⟩ := id T.plan.keep
        obtain ⟨af2, nf2, rfl, -⟩ := id T.plan.fail
        obtain ⟨au2, nu2, rfl, -⟩ := id T.plan.full
        obtain ⟨ay, ny, rfl, -⟩ := id T.bytes
        obtain ⟨xsb, ⟨abt, kbt, hvb, -⟩, hxl, -⟩ := id T.batch
        rw [hxl] at hvb
        subst hvb
        clear hxl
        simp only [List.length_map] at T
        have HT := Lib.hid T
        have hkw := HS0.out.kp (fun _ => False)
        obtain ⟨kd, hkd⟩ : ∃ kd, kd = s.kind := ⟨_, rfl⟩
        have g0 : wr.cell? ⟨b, o + i * 8, none⟩ = some (.int .i64 kd) := by rw [hkd]; exact hkw.cell (T.cells 0 _ rfl) (fun h => h)
        have g1 : wr.cell? ⟨b, o + i * 8 + 1, none⟩ = some (.slice abt s.batch.length kbt) := hkw.cell (T.cells 1 _ rfl) (fun h => h)
        have g2 : wr.cell? ⟨b, o + i * 8 + 2, none⟩ = some (.int .i64 s.plan.crash) := hkw.cell (T.cells 2 _ rfl) (fun h => h)
        have g3 : wr.cell? ⟨b, o + i * 8 + 3, none⟩ = some (.slice ak2 s.plan.keep.length nk2) := hkw.cell (T.cells 3 _ rfl) (fun h => h)
        have g4 : wr.cell? ⟨b, o + i * 8 + 4, none⟩ = some (.slice af2 s.plan.fail.length nf2) := hkw.cell (T.cells 4 _ rfl) (fun h => h)
        have g5 : wr.cell? ⟨b, o + i * 8 + 5, none⟩ = some (.slice au2 s.plan.full.length nu2) := hkw.cell (T.cells 5 _ rfl) (fun h => h)
        have g6 : wr.cell? ⟨b, o + i * 8 + 6, none⟩ = some (.int .i64 s.plan.room) := hkw.cell (T.cells 6 _ rfl) (fun h => h)
        have g7 : wr.cell? ⟨b, o + i * 8 + 7, none⟩ = some (.slice ay s.bytes.length ny) := hkw.cell (T.cells 7 _ rfl) (fun h => h)
        have HFW := Lib.hid T.few
        clear T hkw hkd
        by_cases k0 : kd = 0
        · subst k0
          rcases HPR.out with ⟨rfl, rfl⟩ | ⟨lx, ly, g, rfl, rfl, hg⟩
          · simp only [ptrO]
            go_wp2_with (fail)
            obtain ⟨W5, hW5⟩ : ∃ W5, W5 = wr.alloc (.cells #[.int .i64 0, .slice abt s.batch.length kbt, .int .i64 s.plan.crash, .slice ak2 s.plan.keep.length nk2, .slice af2 s.plan.fail.length nf2, .slice au2 s.plan.full.length nu2, .int .i64 s.plan.room, .slice ay s.bytes.length ny] 43) := ⟨_, rfl⟩
            have HS := Lib.hid (show WS w d r A A none none [.box wr.heap.size (.cells #[.int .i64 0, .slice abt s.batch.length kbt, .int .i64 s.plan.crash, .slice ak2 s.plan.keep.length nk2, .slice af2 s.plan.fail.length nf2, .slice au2 s.plan.full.length nu2, .int .i64 s.plan.room, .slice ay s.bytes.length ny] 43 (0, 0))] W5 by rw [hW5]; exact HS0.out.alloc _ _)
            rw [← hW5]
            clear hW5 g0 g1 g2 g3 g4 g5 g6 g7
            have q0 := cell_of_heap (HS.out.get (o := .cells #[.int .i64 0, .slice abt s.batch.length kbt, .int .i64 s.plan.crash, .slice ak2 s.plan.keep.length nk2, .slice af2 s.plan.fail.length nf2, .slice au2 s.plan.full.length nu2, .int .i64 s.plan.room, .slice ay s.bytes.length ny] 43 (0, 0)) (b := wr.heap.size) (by simp)) 0
            have q1 := cell_of_heap (HS.out.get (o := .cells #[.int .i64 0, .slice abt s.batch.length kbt, .int .i64 s.plan.crash, .slice ak2 s.plan.keep.length nk2, .slice af2 s.plan.fail.length nf2, .slice au2 s.plan.full.length nu2, .int .i64 s.plan.room, .slice ay s.bytes.length ny] 43 (0, 0)) (b := wr.heap.size) (by simp)) 1
            go_wp2_with (first
              | (go_at_call 16; refine (ws_mine' HS.out HT.out.batch (by have := HFW.out.1; omega) (fun r hr => by have := HFW.out.2.1 r hr; unfold lim; omega)).mono ?_; rintro _ w6 ⟨a6, k6, rfl, hs⟩; clear q1; have HS := Lib.hid hs; clear hs))
            go_roundw
            case rel => exact ⟨i + 1, A, none, none, by omega, by go_num, rfl, rfl, pr_none _, HI.out.mono (by omega), HS.out.sub (fun t ht => by cases ht)⟩
            case measure => simp [intOf]; omega
          · obtain ⟨wo, rfl⟩ : ∃ wo, wo = wr := ⟨_, rfl⟩
            simp only [ptrO]
            have HG := Lib.hid hg; clear hg
            go_wp2_with (fail)
            obtain ⟨W5, hW5⟩ : ∃ W5, W5 = wo.alloc (.cells #[.int .i64 0, .slice abt s.batch.length kbt, .int .i64 s.plan.crash, .slice ak2 s.plan.keep.length nk2, .slice af2 s.plan.fail.length nf2, .slice au2 s.plan.full.length nu2, .int .i64 s.plan.room, .slice ay s.bytes.length ny] 43) := ⟨_, rfl⟩
            have HS := Lib.hid (show WS w d r A A (some (lx, g)) (some (ly, g)) [.box wo.heap.size (.cells #[.int .i64 0, .slice abt s.batch.length kbt, .int .i64 s.plan.crash, .slice ak2 s.plan.keep.length nk2, .slice af2 s.plan.fail.length nf2, .slice au2 s.plan.full.length nu2, .int .i64 s.plan.room, .slice ay s.bytes.length ny] 43 (0, 0))] W5 by rw [hW5]; exact HS0.out.alloc _ _)
            rw [← hW5]
            clear hW5 g0 g1 g2 g3 g4 g5 g6 g7
            have q0 := cell_of_heap (HS.out.get (o := .cells #[.int .i64 0, .slice abt s.batch.length kbt, .int .i64 s.plan.crash, .slice ak2 s.plan.keep.length nk2, .slice af2 s.plan.fail.length nf2, .slice au2 s.plan.full.length nu2, .int .i64 s.plan.room, .slice ay s.bytes.length ny] 43 (0, 0)) (b := wo.heap.size) (by simp)) 0
            have q1 := cell_of_heap (HS.out.get (o := .cells #[.int .i64 0, .slice abt s.batch.length kbt, .int .i64 s.plan.crash, .slice ak2 s.plan.keep.length nk2, .slice af2 s.plan.fail.length nf2, .slice au2 s.plan.full.length nu2, .int .i64 s.plan.room, .slice ay s.bytes.length ny] 43 (0, 0)) (b := wo.heap.size) (by simp)) 1
            go_wp2_with (first
              | (go_at_call 16; refine (ws_mine' HS.out HT.out.batch (by have := HFW.out.1; omega) (fun r hr => by have := HFW.out.2.1 r hr; unfold lim; omega)).mono ?_; rintro _ w6 ⟨a6, k6, rfl, hs⟩; clear q1; have HS := Lib.hid hs; clear hs))
            have HS := Lib.hid HS.out.drew
            have hS0 := Lib.hid (show (fun X : World => X.heap[wo.heap.size]? = some (.cells #[.int .i64 0, .slice abt s.batch.length kbt, .int .i64 s.plan.crash, .slice ak2 s.plan.keep.length nk2, .slice af2 s.plan.fail.length nf2, .slice au2 s.plan.full.length nu2, .int .i64 s.plan.room, .slice ay s.bytes.length ny] 43 (0, 0))) w6.drew from HS.out.get (by simp))
            refine wp_region_G (fun X : World => X.heap[wo.heap.size]? = some (.cells #[.int .i64 0, .slice abt s.batch.length kbt, .int .i64 s.plan.crash, .slice ak2 s.plan.keep.length nk2, .slice af2 s.plan.fail.length nf2, .slice au2 s.plan.full.length nu2, .int .i64 s.plan.room, .slice ay s.bytes.length ny] 43 (0, 0))) 8 rfl ?_
            refine wpAnyG_take (i := 0) (oi := _) (v := .pointer (some ⟨lx, 0, none⟩)) rfl (by kernel_rfl) (by kernel_rfl) (by kernel_rfl) (by kernel_rfl) (by kernel_rfl) (by kernel_rfl) (fun _ _ _ h => h) (Or.inl ⟨by rfl, fun X hX => ?_⟩) hS0.out ?_
            · have x1 := hX
              go_simp
            simp only [Act.put, List.setIfInBounds_toArray]
            refine wpAnyG_take (i := 1) (oi := _) (v := .slice a6 s.batch.length k6) rfl (by kernel_rfl) (by kernel_rfl) (by kernel_rfl) (by kernel_rfl) (by kernel_rfl) (by kernel_rfl) (fun _ _ _ h => h) (Or.inl ⟨by rfl, fun X hX => ?_⟩) hS0.out ?_
            · have x1 := hX
              go_simp
            simp only [Act.put]
            refine wpAnyG_take (i := 3) (oi := _) (v := .pointer (some ⟨ly, 0, none⟩)) rfl (by kernel_rfl) (by kernel_rfl) (by kernel_rfl) (by kernel_rfl) (by kernel_rfl) (by kernel_rfl) (fun _ _ _ h => h) (Or.inl ⟨by rfl, fun X hX => ?_⟩) hS0.out ?_
            · have x1 := hX
              go_simp
            simp only [Act.put]
            refine wpAnyG_take (i := 4) (oi := _) (v := .pointer (some ⟨wo.heap.size, 1, none⟩)) rfl (by kernel_rfl) (by kernel_rfl) (by kernel_rfl) (by kernel_rfl) (by kernel_rfl) (by kernel_rfl) (fun _ _ _ h => h) (Or.inl ⟨by rfl, fun X hX => ?_⟩) hS0.out ?_
            · have x1 := hX
              go_simp
            simp only [Act.put]
            refine wpAnyG_take (i := 5) (oi := _) (v := .slice abt s.batch.length kbt) rfl (by kernel_rfl) (by kernel_rfl) (by kernel_rfl) (by kernel_rfl) (by kernel_rfl) (by kernel_rfl) (fun _ _ _ h => h) (Or.inl ⟨by rfl, fun X hX => ?_⟩) hS0.out ?_
            · have x1 := hX
              (have y1 := cell_of_heap x1 1; go_simp)
            simp only [Act.put]
            refine wpAnyG_one (i := 2) (by kernel_rfl) rfl (fun K' hK' => ?_)
            go_simp
            refine (ws_xapp HS.out (.head _) (by have := HI.out.ops; omega) (by have := HG.out.size; omega) (by have := HG.out.len; omega) (by have := HFW.out.1; omega) (fun r hr => by have := HFW.out.2.1 r hr; omega)).mono ?_
            rintro _ w7 ⟨rfl, hs⟩
            have HS := Lib.hid hs; clear hs
            have hS0 := Lib.hid (show (fun X : World => X.heap[wo.heap.size]? = some (.cells #[.int .i64 0, .slice abt s.batch.length kbt, .int .i64 s.plan.crash, .slice ak2 s.plan.keep.length nk2, .slice af2 s.plan.fail.length nf2, .slice au2 s.plan.full.length nu2, .int .i64 s.plan.room, .slice ay s.bytes.length ny] 43 (0, 0))) _ from HS.out.get (by simp))
            refine hK'.out _ _ (fun _ => hS0.out) ?_
            refine wpAnyG_one (i := 6) (by kernel_rfl) rfl (fun K' hK' => ?_)
            go_simp
            refine (ws_bat HS.out HT.out.batch (by have := HFW.out.1; omega) (fun r hr => by have := HFW.out.2.1 r hr; unfold lim; omega)).mono ?_
            rintro _ w8 ⟨v8, rfl, hs⟩
            have HS := Lib.hid hs; clear hs
            have hS0 := Lib.hid (show (fun X : World => X.heap[wo.heap.size]? = some (.cells #[.int .i64 0, .slice abt s.batch.length kbt, .int .i64 s.plan.crash, .slice ak2 s.plan.keep.length nk2, .slice af2 s.plan.fail.length nf2, .slice au2 s.plan.full.length nu2, .int .i64 s.plan.room, .slice ay s.bytes.length ny] 43 (0, 0))) _ from HS.out.get (by simp))
            refine hK'.out _ _ (fun _ => hS0.out) ?_
            refine wpAnyG_one (i := 7) (by kernel_rfl) rfl (fun K' hK' => ?_)
            go_simp
            refine (ws_yapp HS.out (.head _) (by have := HI.out.ops; omega) (by have := HG.out.size; omega) (by have := HG.out.len; omega) (by have := HFW.out.1; omega) (fun r hr => by have := HFW.out.2.1 r hr; omega)).mono ?_
            rintro _ w9 ⟨rfl, hs⟩
            have HS := Lib.hid hs; clear hs
            have hS0 := Lib.hid (show (fun X : World => X.heap[wo.heap.size]? = some (.cells #[.int .i64 0, .slice abt s.batch.length kbt, .int .i64 s.plan.crash, .slice ak2 s.plan.keep.length nk2, .slice af2 s.plan.fail.length nf2, .slice au2 s.plan.full.length nu2, .int .i64 s.plan.room, .slice ay s.bytes.length ny] 43 (0, 0))) _ from HS.out.get (by simp))
            refine hK'.out _ _ (fun _ => hS0.out) ?_
            have HI2 := Lib.hid (lapp_inv (n := LOGn) (g := g) (b := s.batch) HI.out)
            have HG2 := Lib.hid (lapp_ok (m := A) (n := LOGn) (b := s.batch) HG.out)
            generalize hP : lapp A LOGn g s.batch = P at *
            clear hP
            obtain ⟨e2, A2, g2⟩ := P
            refine wpAnyG_one (i := 8) (by kernel_rfl) rfl (fun K' hK' => ?_)
            go_simp
            refine hK'.out _ _ (fun _ => hS0.out) ?_
            refine wpAnyG_done (by kernel_rfl) ?_
            have HS := Lib.hid (HS.out.sub (Ts' := [.xo (.slice a6 s.batch.length k6) (s.batch.map List.length), .box wo.heap.size (.cells #[.int .i64 0, .slice abt s.batch.length kbt, .int .i64 s.plan.crash, .slice ak2 s.plan.keep.length nk2, .slice af2 s.plan.fail.length nf2, .slice au2 s.plan.full.length nu2, .int .i64 s.plan.room, .slice ay s.bytes.length ny] 43 (0, 0))]) (fun t ht => by
              rcases List.mem_cons.1 ht with rfl | ht
              · exact List.mem_cons_of_mem _ (List.mem_cons_of_mem _ (List.mem_cons_self ..))
              · rw [List.mem_singleton.1 ht]; exact List.mem_cons_of_mem _ (List.mem_cons_of_mem _ (List.mem_cons_of_mem _ (List.mem_cons_self ..)))))
            clear hS0
            go_wp2
            have HFWB := Lib.hid HFW.out.1
            have hnb : s.batch.length ≤ 1048576 := HFW.out.1
            go_loopw [116] (fun z wj => ∃ j : Nat, j ≤ s.batch.length ∧ z = .int .i64 j ∧ WS w d r A2 A2 (some (lx, g2)) (some (ly, g2)) [.xo (.slice a6 s.batch.length k6) (s.batch.map List.length), .box wo.heap.size (.cells #[.int .i64 0, .slice abt s.batch.length kbt, .int .i64 s.plan.crash, .slice ak2 s.plan.keep.length nk2, .slice af2 s.plan.fail.length nf2, .slice au2 s.plan.full.length nu2, .int .i64 s.plan.room, .slice ay s.bytes.length ny] 43 (0, 0))] wj) (fun z _ => s.batch.length - (intOf z).toNat)
            case atStart => exact ⟨0, Nat.zero_le _, rfl, HS.out⟩
            case round =>
              clear HS
              obtain ⟨j, hj, rfl, hs⟩ := hrel
              have HS := Lib.hid hs; clear hs
              by_cases hjl : j < s.batch.length
              · obtain ⟨m, hm⟩ : ∃ m, (s.batch.map List.length)[j]? = some m := ⟨_, List.getElem?_eq_getElem (by rw [List.length_map]; exact hjl)⟩
                obtain ⟨g1, ad1, cp1, rfl, gc⟩ := ws_elem HS.out (.head _) hm
                have hmb : m ≤ 1048576 := by
                  rw [List.getElem?_map] at hm
                  obtain ⟨rr, h1, rfl⟩ := Option.map_eq_some_iff.1 hm
                  exact HFW.out.2.1 rr (List.mem_of_getElem? h1)
                have HM := Lib.hid hm; clear hm
                go_wp2
                go_loopw [124] (fun z wk => ∃ k : Nat, k ≤ m ∧ z = .int .i64 k ∧ WS w d r A2 A2 (some (lx, g2)) (some (ly, g2)) [.xo (.slice (some ⟨g1, 0, none⟩) s.batch.length k6) (s.batch.map List.length), .box wo.heap.size (.cells #[.int .i64 0, .slice abt s.batch.length kbt, .int .i64 s.plan.crash, .slice ak2 s.plan.keep.length nk2, .slice af2 s.plan.fail.length nf2, .slice au2 s.plan.full.length nu2, .int .i64 s.plan.room, .slice ay s.bytes.length ny] 43 (0, 0))] wk) (fun z _ => m - (intOf z).toNat)
                case atStart => exact ⟨0, Nat.zero_le _, rfl, HS.out⟩
                case round =>
                  clear HS gc
                  obtain ⟨k, hk, rfl, hs⟩ := hrel
                  have HS := Lib.hid hs; clear hs
                  by_cases hkl : k < m
                  · obtain ⟨g3, g4, cp2, u, ha, c1, c2, c3, hturn⟩ := ws_byte (Us := [.box wo.heap.size (.cells #[.int .i64 0, .slice abt s.batch.length kbt, .int .i64 s.plan.crash, .slice ak2 s.plan.keep.length nk2, .slice af2 s.plan.fail.length nf2, .slice au2 s.plan.full.length nu2, .int .i64 s.plan.room, .slice ay s.bytes.length ny] 43 (0, 0))]) HS.out (.head _) (fun t ht => ⟨List.mem_cons_of_mem _ ht, by rw [List.mem_singleton.1 ht]; exact ⟨_, _, rfl⟩⟩) HM.out hkl
                    injection ha with ha
                    injection ha with ha _ _
                    subst ha
                    have HTN := Lib.hid hturn; clear hturn
                    have hub : (u.toNat : Int) < 256 := by have := UInt8.toNat_lt u; omega
                    go_wp2
                    go_roundw
                    case rel => exact ⟨k + 1, by omega, by go_num, xor_turn HTN.out (xor_byte u)⟩
                    case measure => simp [intOf]; omega
                  · obtain rfl : k = m := by omega
                    go_wp2
                    go_roundw
                    case rel => exact ⟨j + 1, by omega, by go_num, HS.out⟩
                    case measure => simp [intOf]; omega
              · obtain rfl : j = s.batch.length := by omega
                go_wp2_with (first
                  | (go_at_call 25; refine (ws_looks HS.out HG2.out (by omega)).mono ?_; rintro _ wk ⟨rfl, hs⟩; have HS := Lib.hid hs; clear hs)
                  | (go_at_call 27; refine (ws_files HS.out).mono ?_; rintro _ wf ⟨vf1, rfl, hs⟩; have HFL := Lib.hid (files_le HS.out); have HS := Lib.hid hs; clear hs)
                  | (go_at_call 28; refine (ws_all HS.out (by have := HI2.out.ops; omega)).mono ?_; rintro _ wa ⟨vf2, rfl, hs⟩; have HS := Lib.hid hs; clear hs)
                  | (go_at_call 26; refine (ws_same HS.out (.tail _ (.head _)) (.head _) HFL.out).mono ?_; rintro _ wz ⟨rfl, hs⟩; have HS := Lib.hid hs; clear hs))
                go_roundw
                case rel => exact ⟨i + 1, A2, some (lx, g2), some (ly, g2), by omega, by go_num, rfl, rfl, pr_some HG2.out, HI2.out.mono (by omega), HS.out.sub (fun t ht => by cases ht)⟩
                case measure => simp [intOf]; omega
        · by_cases k1 : kd = 1
          · subst k1
            rcases HPR.out with ⟨rfl, rfl⟩ | ⟨lx, ly, g, rfl, rfl, hg⟩
            · simp only [ptrO]
              go_wp2_with (fail)
              obtain ⟨W5, hW5⟩ : ∃ W5, W5 = wr.alloc (.cells #[.int .i64 1, .slice abt s.batch.length kbt, .int .i64 s.plan.crash, .slice ak2 s.plan.keep.length nk2, .slice af2 s.plan.fail.length nf2, .slice au2 s.plan.full.length nu2, .int .i64 s.plan.room, .slice ay s.bytes.length ny] 43) := ⟨_, rfl⟩
              have HS := Lib.hid (show WS w d r A A none none [.box wr.heap.size (.cells #[.int .i64 1, .slice abt s.batch.length kbt, .int .i64 s.plan.crash, .slice ak2 s.plan.keep.length nk2, .slice af2 s.plan.fail.length nf2, .slice au2 s.plan.full.length nu2, .int .i64 s.plan.room, .slice ay s.bytes.length ny] 43 (0, 0))] W5 by rw [hW5]; exact HS0.out.alloc _ _)
              rw [← hW5]
              clear hW5 g0 g1 g2 g3 g4 g5 g6 g7
              have q0 := cell_of_heap (HS.out.get (o := .cells #[.int .i64 1, .slice abt s.batch.length kbt, .int .i64 s.plan.crash, .slice ak2 s.plan.keep.length nk2, .slice af2 s.plan.fail.length nf2, .slice au2 s.plan.full.length nu2, .int .i64 s.plan.room, .slice ay s.bytes.length ny] 43 (0, 0)) (b := wr.heap.size) (by simp)) 0
              go_wp2_with (first
                | (go_at_call 27; refine (ws_files HS.out).mono ?_; rintro _ wf ⟨vf1, rfl, hs⟩; have HFL := Lib.hid (files_le HS.out); have HS := Lib.hid hs; clear hs)
                | (go_at_call 28; refine (ws_all HS.out (by have := HI.out.ops; omega)).mono ?_; rintro _ wa ⟨vf2, rfl, hs⟩; have HS := Lib.hid hs; clear hs)
                | (go_at_call 26; refine (ws_same HS.out (.tail _ (.head _)) (.head _) HFL.out).mono ?_; rintro _ wz ⟨rfl, hs⟩; have HS := Lib.hid hs; clear hs))
              go_roundw
              case rel => exact ⟨i + 1, A, none, none, by omega, by go_num, rfl, rfl, pr_none _, HI.out.mono (by omega), HS.out.sub (fun t ht => by cases ht)⟩
              case measure => simp [intOf]; omega
            · simp only [ptrO]
              have HG := Lib.hid hg; clear hg
              have HI2 := Lib.hid (lreset_inv (n := LOGn) (g := g) HI.out)
              have HG2 := Lib.hid ((lreset_ok (m := A) (n := LOGn) HG.out).mono (Nat.le_succ _))
              go_wp2_with (fail)
              obtain ⟨W5, hW5⟩ : ∃ W5, W5 = wr.alloc (.cells #[.int .i64 1, .slice abt s.batch.length kbt, .int .i64 s.plan.crash, .slice ak2 s.plan.keep.length nk2, .slice af2 s.plan.fail.length nf2, .slice au2 s.plan.full.length nu2, .int .i64 s.plan.room, .slice ay s.bytes.length ny] 43) := ⟨_, rfl⟩
              have HS := Lib.hid (show WS w d r A A (some (lx, g)) (some (ly, g)) [.box wr.heap.size (.cells #[.int .i64 1, .slice abt s.batch.length kbt, .int .i64 s.plan.crash, .slice ak2 s.plan.keep.length nk2, .slice af2 s.plan.fail.length nf2, .slice au2 s.plan.full.length nu2, .int .i64 s.plan.room, .slice ay s.bytes.length ny] 43 (0, 0))] W5 by rw [hW5]; exact HS0.out.alloc _ _)
              rw [← hW5]
              clear hW5 g0 g1 g2 g3 g4 g5 g6 g7
              have q0 := cell_of_heap (HS.out.get (o := .cells #[.int .i64 1, .slice abt s.batch.length kbt, .int .i64 s.plan.crash, .slice ak2 s.plan.keep.length nk2, .slice af2 s.plan.fail.length nf2, .slice au2 s.plan.full.length nu2, .int .i64 s.plan.room, .slice ay s.bytes.length ny] 43 (0, 0)) (b := wr.heap.size) (by simp)) 0
              go_wp2_with (first
                | (go_at_call 19; refine (ws_xreset HS.out (by have := HI.out.ops; omega)).mono ?_; rintro _ w7 ⟨rfl, hs⟩; have HS := Lib.hid hs; clear hs)
                | (go_at_call 20; refine (ws_yreset HS.out (by have := HI.out.ops; omega)).mono ?_; rintro _ w8 ⟨rfl, hs⟩; have HS := Lib.hid hs; clear hs)
                | (go_at_call 25; refine (ws_looks HS.out HG2.out (by omega)).mono ?_; rintro _ wk ⟨rfl, hs⟩; have HS := Lib.hid hs; clear hs)
                | (go_at_call 27; refine (ws_files HS.out).mono ?_; rintro _ wf ⟨vf1, rfl, hs⟩; have HFL := Lib.hid (files_le HS.out); have HS := Lib.hid hs; clear hs)
                | (go_at_call 28; refine (ws_all HS.out (by have := HI2.out.ops; omega)).mono ?_; rintro _ wa ⟨vf2, rfl, hs⟩; have HS := Lib.hid hs; clear hs)
                | (go_at_call 26; refine (ws_same HS.out (.tail _ (.head _)) (.head _) HFL.out).mono ?_; rintro _ wz ⟨rfl, hs⟩; have HS := Lib.hid hs; clear hs))
              go_roundw
              case rel => exact ⟨i + 1, _, some (lx, _), some (ly, _), by omega, by go_num, rfl, rfl, pr_some HG2.out, HI2.out.mono (by omega), HS.out.sub (fun t ht => by cases ht)⟩
              case measure => simp [intOf]; omega
          · by_cases k3 : kd = 3
            · subst k3
              have HI1 := Lib.hid (append_inv HI.out LOGn s.bytes)
              have HI2 := Lib.hid (lopen_inv (n := LOGn) HI1.out)
              by_cases hE : (lopen ((append A LOGn s.bytes).2) LOGn).1 = 0
              · have HS := Lib.hid (HS0.out.alloc #[.int .i64 3, .slice abt s.batch.length kbt, .int .i64 s.plan.crash, .slice ak2 s.plan.keep.length nk2, .slice af2 s.plan.fail.length nf2, .slice au2 s.plan.full.length nu2, .int .i64 s.plan.room, .slice ay s.bytes.length ny] 43)
                go_wp2_with (first
                  | (at_builtin; refine wpList_appendW (c := c00) (q := (0, 0)) rfl _ _ _ rfl 5 i1 (.int .u8 0) 1 Tryz.underlying41 J6.out J7.out J8.out J9.out rfl (.slice none 0 0) 0 [] rfl (World.ownsRow_nil _ _ _ _) (.slice ay s.bytes.length ny) (s.bytes.map bv) rfl (HT.out.bytes.kp (HS.out.kp (fun _ => False)) (fun h => h) (Cx.refl _ _)) (one_bv s.bytes) (by rw [List.length_map]; have := HFW.out.2.2; unfold maxLen; omega) (by rw [List.length_map]; have := HFW.out.2.2; omega) ?_; intro v9 w9 ho9 hg9 hf9; rw [List.length_map, Nat.zero_add, List.nil_append] at ho9; have HS := Lib.hid (ws_row HS.out ho9 (fun g hg => (hf9 g hg).elim (fun e => by cases e) id) (fun c S => Kp.of_grown hg9 (fun g hg => by cases hg))); clear ho9 hg9 hf9; have hbx := HS.out.get (o := .cells #[.int .i64 3, .slice abt s.batch.length kbt, .int .i64 s.plan.crash, .slice ak2 s.plan.keep.length nk2, .slice af2 s.plan.fail.length nf2, .slice au2 s.plan.full.length nu2, .int .i64 s.plan.room, .slice ay s.bytes.length ny] 43 (0, 0)) (b := wr.heap.size) (by simp); have q0 := cell_of_heap hbx 0; have q7 := cell_of_heap hbx 7; clear hbx)
                  | (go_at_call 21; refine (ws_dapp HS.out (.head _) (by have := HI.out.ops; omega) (by have := HFW.out.2.2; unfold lim; omega)).mono ?_; rintro _ w10 ⟨rfl, hs⟩; have HS := Lib.hid hs; clear hs; have HG2 := Lib.hid ((lopen_ok (n := LOGn) HS.out.ok).mono (j := i + 1) (Nat.zero_le _)); clear q0 q7; have hbx := HS.out.get (o := .cells #[.int .i64 3, .slice abt s.batch.length kbt, .int .i64 s.plan.crash, .slice ak2 s.plan.keep.length nk2, .slice af2 s.plan.fail.length nf2, .slice au2 s.plan.full.length nu2, .int .i64 s.plan.room, .slice ay s.bytes.length ny] 43 (0, 0)) (b := wr.heap.size) (by simp); have q0 := cell_of_heap hbx 0; have q7 := cell_of_heap hbx 7; clear hbx)
                  | (go_at_call 22; refine (ws_rapp HS.out HT.out.bytes (by have := HI.out.ops; omega) (by have := HFW.out.2.2; unfold lim; omega)).mono ?_; rintro _ w11 ⟨rfl, hs⟩; have HS := Lib.hid hs; clear hs; clear q0 q7; have hbx := HS.out.get (o := .cells #[.int .i64 3, .slice abt s.batch.length kbt, .int .i64 s.plan.crash, .slice ak2 s.plan.keep.length nk2, .slice af2 s.plan.fail.length nf2, .slice au2 s.plan.full.length nu2, .int .i64 s.plan.room, .slice ay s.bytes.length ny] 43 (0, 0)) (b := wr.heap.size) (by simp); have q0 := cell_of_heap hbx 0; clear hbx)
                  | (go_at_call 14; refine (ws_xopen_ok HS.out (by have := HI1.out.ops; omega) hE).mono ?_; rintro _ w7 ⟨lx, rfl, hs⟩; have HS := Lib.hid hs; clear hs)
                  | (go_at_call 15; refine (ws_yopen_ok HS.out (by have := HI1.out.ops; omega) hE).mono ?_; rintro _ w8 ⟨ly, rfl, hs⟩; have HS := Lib.hid hs; clear hs)
                  | (go_at_call 25; refine (ws_looks HS.out HG2.out (by omega)).mono ?_; rintro _ wk ⟨rfl, hs⟩; have HS := Lib.hid hs; clear hs)
                  | (go_at_call 27; refine (ws_files HS.out).mono ?_; rintro _ wf ⟨vf1, rfl, hs⟩; have HFL := Lib.hid (files_le HS.out); have HS := Lib.hid hs; clear hs)
                  | (go_at_call 28; refine (ws_all HS.out (by have := HI2.out.ops; omega)).mono ?_; rintro _ wa ⟨vf2, rfl, hs⟩; have HS := Lib.hid hs; clear hs)
                  | (go_at_call 26; refine (ws_same HS.out (.tail _ (.head _)) (.head _) HFL.out).mono ?_; rintro _ wz ⟨rfl, hs⟩; have HS := Lib.hid hs; clear hs))
                go_roundw
                case rel => exact ⟨i + 1, _, some (lx, _), some (ly, _), by omega, by go_num, rfl, rfl, pr_some HG2.out, HI2.out.mono (by omega), HS.out.sub (fun t ht => by cases ht)⟩
                case measure => simp [intOf]; omega
              · have HS := Lib.hid (HS0.out.alloc #[.int .i64 3, .slice abt s.batch.length kbt, .int .i64 s.plan.crash, .slice ak2 s.plan.keep.length nk2, .slice af2 s.plan.fail.length nf2, .slice au2 s.plan.full.length nu2, .int .i64 s.plan.room, .slice ay s.bytes.length ny] 43)
                go_wp2_with (first
                  | (at_builtin; refine wpList_appendW (c := c00) (q := (0, 0)) rfl _ _ _ rfl 5 i1 (.int .u8 0) 1 Tryz.underlying41 J6.out J7.out J8.out J9.out rfl (.slice none 0 0) 0 [] rfl (World.ownsRow_nil _ _ _ _) (.slice ay s.bytes.length ny) (s.bytes.map bv) rfl (HT.out.bytes.kp (HS.out.kp (fun _ => False)) (fun h => h) (Cx.refl _ _)) (one_bv s.bytes) (by rw [List.length_map]; have := HFW.out.2.2; unfold maxLen; omega) (by rw [List.length_map]; have := HFW.out.2.2; omega) ?_; intro v9 w9 ho9 hg9 hf9; rw [List.length_map, Nat.zero_add, List.nil_append] at ho9; have HS := Lib.hid (ws_row HS.out ho9 (fun g hg => (hf9 g hg).elim (fun e => by cases e) id) (fun c S => Kp.of_grown hg9 (fun g hg => by cases hg))); clear ho9 hg9 hf9; have hbx := HS.out.get (o := .cells #[.int .i64 3, .slice abt s.batch.length kbt, .int .i64 s.plan.crash, .slice ak2 s.plan.keep.length nk2, .slice af2 s.plan.fail.length nf2, .slice au2 s.plan.full.length nu2, .int .i64 s.plan.room, .slice ay s.bytes.length ny] 43 (0, 0)) (b := wr.heap.size) (by simp); have q0 := cell_of_heap hbx 0; have q7 := cell_of_heap hbx 7; clear hbx)
                  | (go_at_call 21; refine (ws_dapp HS.out (.head _) (by have := HI.out.ops; omega) (by have := HFW.out.2.2; unfold lim; omega)).mono ?_; rintro _ w10 ⟨rfl, hs⟩; have HS := Lib.hid hs; clear hs; have HG2 := Lib.hid ((lopen_ok (n := LOGn) HS.out.ok).mono (j := i + 1) (Nat.zero_le _)); clear q0 q7; have hbx := HS.out.get (o := .cells #[.int .i64 3, .slice abt s.batch.length kbt, .int .i64 s.plan.crash, .slice ak2 s.plan.keep.length nk2, .slice af2 s.plan.fail.length nf2, .slice au2 s.plan.full.length nu2, .int .i64 s.plan.room, .slice ay s.bytes.length ny] 43 (0, 0)) (b := wr.heap.size) (by simp); have q0 := cell_of_heap hbx 0; have q7 := cell_of_heap hbx 7; clear hbx)
                  | (go_at_call 22; refine (ws_rapp HS.out HT.out.bytes (by have := HI.out.ops; omega) (by have := HFW.out.2.2; unfold lim; omega)).mono ?_; rintro _ w11 ⟨rfl, hs⟩; have HS := Lib.hid hs; clear hs; clear q0 q7; have hbx := HS.out.get (o := .cells #[.int .i64 3, .slice abt s.batch.length kbt, .int .i64 s.plan.crash, .slice ak2 s.plan.keep.length nk2, .slice af2 s.plan.fail.length nf2, .slice au2 s.plan.full.length nu2, .int .i64 s.plan.room, .slice ay s.bytes.length ny] 43 (0, 0)) (b := wr.heap.size) (by simp); have q0 := cell_of_heap hbx 0; clear hbx)
                  | (go_at_call 14; refine (ws_xopen_no HS.out (by have := HI1.out.ops; omega) hE).mono ?_; rintro _ w7 ⟨rfl, hs⟩; have HS := Lib.hid hs; clear hs)
                  | (go_at_call 15; refine (ws_yopen_no HS.out (by have := HI1.out.ops; omega) hE).mono ?_; rintro _ w8 ⟨rfl, hs⟩; have HS := Lib.hid hs; clear hs)
                  | (go_at_call 27; refine (ws_files HS.out).mono ?_; rintro _ wf ⟨vf1, rfl, hs⟩; have HFL := Lib.hid (files_le HS.out); have HS := Lib.hid hs; clear hs)
                  | (go_at_call 28; refine (ws_all HS.out (by have := HI2.out.ops; omega)).mono ?_; rintro _ wa ⟨vf2, rfl, hs⟩; have HS := Lib.hid hs; clear hs)
                  | (go_at_call 26; refine (ws_same HS.out (.tail _ (.head _)) (.head _) HFL.out).mono ?_; rintro _ wz ⟨rfl, hs⟩; have HS := Lib.hid hs; clear hs))
                go_roundw
                case rel => exact ⟨i + 1, _, none, none, by omega, by go_num, rfl, rfl, pr_none _, HI2.out.mono (by omega), HS.out.sub (fun t ht => by cases ht)⟩
                case measure => simp [intOf]; omega
            · by_cases k2 : kd = 2
              · subst k2
                have HI1 := Lib.hid (start_inv HI.out s.plan)
                have HI2 := Lib.hid (lopen_inv (n := LOGn) HI1.out)
                by_cases hE : (lopen (Dk.start A s.plan) LOGn).1 = 0
                · have HS := Lib.hid (HS0.out.alloc #[.int .i64 2, .slice abt s.batch.length kbt, .int .i64 s.plan.crash, .slice ak2 s.plan.keep.length nk2, .slice af2 s.plan.fail.length nf2, .slice au2 s.plan.full.length nu2, .int .i64 s.plan.room, .slice ay s.bytes.length ny] 43)
                  go_wp2_with (first
                    | (go_at_call 12; refine (ws_twin HS.out HT.out.plan HT.out.fits.1 HT.out.fits.2.1 HT.out.fits.2.2).mono ?_; rintro _ w9 ⟨b1, l1, b2, l2, b3, l3, rfl, hs⟩; have HS := Lib.hid hs; clear hs; have hbx := HS.out.get (o := .cells #[.int .i64 2, .slice abt s.batch.length kbt, .int .i64 s.plan.crash, .slice ak2 s.plan.keep.length nk2, .slice af2 s.plan.fail.length nf2, .slice au2 s.plan.full.length nu2, .int .i64 s.plan.room, .slice ay s.bytes.length ny] 43 (0, 0)) (b := wr.heap.size) (by simp); have q0 := cell_of_heap hbx 0; have q2 := cell_of_heap hbx 2; have q3 := cell_of_heap hbx 3; have q4 := cell_of_heap hbx 4; have q5 := cell_of_heap hbx 5; have q6 := cell_of_heap hbx 6; clear hbx)
                    | (go_at_call 23; refine (ws_dstart HS.out HI.out (by omega) (.head _) HT.out.fits.1 HT.out.fits.2.1 HT.out.fits.2.2).mono ?_; rintro _ w10 ⟨rfl, hs⟩; have HS := Lib.hid hs; clear hs; have HG2 := Lib.hid ((lopen_ok (n := LOGn) HS.out.ok).mono (j := i + 1) (Nat.zero_le _)); clear q0 q2 q3 q4 q5 q6; have hbx := HS.out.get (o := .cells #[.int .i64 2, .slice abt s.batch.length kbt, .int .i64 s.plan.crash, .slice ak2 s.plan.keep.length nk2, .slice af2 s.plan.fail.length nf2, .slice au2 s.plan.full.length nu2, .int .i64 s.plan.room, .slice ay s.bytes.length ny] 43 (0, 0)) (b := wr.heap.size) (by simp); have q0 := cell_of_heap hbx 0; have q2 := cell_of_heap hbx 2; have q3 := cell_of_heap hbx 3; have q4 := cell_of_heap hbx 4; have q5 := cell_of_heap hbx 5; have q6 := cell_of_heap hbx 6; clear hbx)
                    | (go_at_call 24; refine (ws_rstart HS.out HI.out (by omega) HT.out.plan HT.out.fits.1 HT.out.fits.2.1 HT.out.fits.2.2).mono ?_; rintro _ w11 ⟨rfl, hs⟩; have HS := Lib.hid hs; clear hs; clear q0 q2 q3 q4 q5 q6; have hbx := HS.out.get (o := .cells #[.int .i64 2, .slice abt s.batch.length kbt, .int .i64 s.plan.crash, .slice ak2 s.plan.keep.length nk2, .slice af2 s.plan.fail.length nf2, .slice au2 s.plan.full.length nu2, .int .i64 s.plan.room, .slice ay s.bytes.length ny] 43 (0, 0)) (b := wr.heap.size) (by simp); have q0 := cell_of_heap hbx 0; have q2 := cell_of_heap hbx 2; have q3 := cell_of_heap hbx 3; have q4 := cell_of_heap hbx 4; have q5 := cell_of_heap hbx 5; have q6 := cell_of_heap hbx 6; clear hbx)
                    | (go_at_call 14; refine (ws_xopen_ok HS.out (by have := HI1.out.ops; omega) hE).mono ?_; rintro _ w7 ⟨lx, rfl, hs⟩; have HS := Lib.hid hs; clear hs)
                    | (go_at_call 15; refine (ws_yopen_ok HS.out (by have := HI1.out.ops; omega) hE).mono ?_; rintro _ w8 ⟨ly, rfl, hs⟩; have HS := Lib.hid hs; clear hs)
                    | (go_at_call 25; refine (ws_looks HS.out HG2.out (by omega)).mono ?_; rintro _ wk ⟨rfl, hs⟩; have HS := Lib.hid hs; clear hs)
                    | (go_at_call 27; refine (ws_files HS.out).mono ?_; rintro _ wf ⟨vf1, rfl, hs⟩; have HFL := Lib.hid (files_le HS.out); have HS := Lib.hid hs; clear hs)
                    | (go_at_call 28; refine (ws_all HS.out (by have := HI2.out.ops; omega)).mono ?_; rintro _ wa ⟨vf2, rfl, hs⟩; have HS := Lib.hid hs; clear hs)
                    | (go_at_call 26; refine (ws_same HS.out (.tail _ (.head _)) (.head _) HFL.out).mono ?_; rintro _ wz ⟨rfl, hs⟩; have HS := Lib.hid hs; clear hs))
                  go_roundw
                  case rel => exact ⟨i + 1, _, some (lx, _), some (ly, _), by omega, by go_num, rfl, rfl, pr_some HG2.out, HI2.out.mono (by omega), HS.out.sub (fun t ht => by cases ht)⟩
                  case measure => simp [intOf]; omega
                · have HS := Lib.hid (HS0.out.alloc #[.int .i64 2, .slice abt s.batch.length kbt, .int .i64 s.plan.crash, .slice ak2 s.plan.keep.length nk2, .slice af2 s.plan.fail.length nf2, .slice au2 s.plan.full.length nu2, .int .i64 s.plan.room, .slice ay s.bytes.length ny] 43)
                  go_wp2_with (first
                    | (go_at_call 12; refine (ws_twin HS.out HT.out.plan HT.out.fits.1 HT.out.fits.2.1 HT.out.fits.2.2).mono ?_; rintro _ w9 ⟨b1, l1, b2, l2, b3, l3, rfl, hs⟩; have HS := Lib.hid hs; clear hs; have hbx := HS.out.get (o := .cells #[.int .i64 2, .slice abt s.batch.length kbt, .int .i64 s.plan.crash, .slice ak2 s.plan.keep.length nk2, .slice af2 s.plan.fail.length nf2, .slice au2 s.plan.full.length nu2, .int .i64 s.plan.room, .slice ay s.bytes.length ny] 43 (0, 0)) (b := wr.heap.size) (by simp); have q0 := cell_of_heap hbx 0; have q2 := cell_of_heap hbx 2; have q3 := cell_of_heap hbx 3; have q4 := cell_of_heap hbx 4; have q5 := cell_of_heap hbx 5; have q6 := cell_of_heap hbx 6; clear hbx)
                    | (go_at_call 23; refine (ws_dstart HS.out HI.out (by omega) (.head _) HT.out.fits.1 HT.out.fits.2.1 HT.out.fits.2.2).mono ?_; rintro _ w10 ⟨rfl, hs⟩; have HS := Lib.hid hs; clear hs; have HG2 := Lib.hid ((lopen_ok (n := LOGn) HS.out.ok).mono (j := i + 1) (Nat.zero_le _)); clear q0 q2 q3 q4 q5 q6; have hbx := HS.out.get (o := .cells #[.int .i64 2, .slice abt s.batch.length kbt, .int .i64 s.plan.crash, .slice ak2 s.plan.keep.length nk2, .slice af2 s.plan.fail.length nf2, .slice au2 s.plan.full.length nu2, .int .i64 s.plan.room, .slice ay s.bytes.length ny] 43 (0, 0)) (b := wr.heap.size) (by simp); have q0 := cell_of_heap hbx 0; have q2 := cell_of_heap hbx 2; have q3 := cell_of_heap hbx 3; have q4 := cell_of_heap hbx 4; have q5 := cell_of_heap hbx 5; have q6 := cell_of_heap hbx 6; clear hbx)
                    | (go_at_call 24; refine (ws_rstart HS.out HI.out (by omega) HT.out.plan HT.out.fits.1 HT.out.fits.2.1 HT.out.fits.2.2).mono ?_; rintro _ w11 ⟨rfl, hs⟩; have HS := Lib.hid hs; clear hs; clear q0 q2 q3 q4 q5 q6; have hbx := HS.out.get (o := .cells #[.int .i64 2, .slice abt s.batch.length kbt, .int .i64 s.plan.crash, .slice ak2 s.plan.keep.length nk2, .slice af2 s.plan.fail.length nf2, .slice au2 s.plan.full.length nu2, .int .i64 s.plan.room, .slice ay s.bytes.length ny] 43 (0, 0)) (b := wr.heap.size) (by simp); have q0 := cell_of_heap hbx 0; have q2 := cell_of_heap hbx 2; have q3 := cell_of_heap hbx 3; have q4 := cell_of_heap hbx 4; have q5 := cell_of_heap hbx 5; have q6 := cell_of_heap hbx 6; clear hbx)
                    | (go_at_call 14; refine (ws_xopen_no HS.out (by have := HI1.out.ops; omega) hE).mono ?_; rintro _ w7 ⟨rfl, hs⟩; have HS := Lib.hid hs; clear hs)
                    | (go_at_call 15; refine (ws_yopen_no HS.out (by have := HI1.out.ops; omega) hE).mono ?_; rintro _ w8 ⟨rfl, hs⟩; have HS := Lib.hid hs; clear hs)
                    | (go_at_call 27; refine (ws_files HS.out).mono ?_; rintro _ wf ⟨vf1, rfl, hs⟩; have HFL := Lib.hid (files_le HS.out); have HS := Lib.hid hs; clear hs)
                    | (go_at_call 28; refine (ws_all HS.out (by have := HI2.out.ops; omega)).mono ?_; rintro _ wa ⟨vf2, rfl, hs⟩; have HS := Lib.hid hs; clear hs)
                    | (go_at_call 26; refine (ws_same HS.out (.tail _ (.head _)) (.head _) HFL.out).mono ?_; rintro _ wz ⟨rfl, hs⟩; have HS := Lib.hid hs; clear hs))
                  go_roundw
                  case rel => exact ⟨i + 1, _, none, none, by omega, by go_num, rfl, rfl, pr_none _, HI2.out.mono (by omega), HS.out.sub (fun t ht => by cases ht)⟩
                  case measure => simp [intOf]; omega
              · have HOK := Lib.hid HS0.out.ok
                have HI1 := Lib.hid (HI.out.mono (j := 2 + 7 * i + 1) (by omega))
                have HI2 := Lib.hid (lopen_inv (n := LOGn) HI1.out)
                by_cases hE : (lopen (A) LOGn).1 = 0
                · have HS := Lib.hid (HS0.out.alloc #[.int .i64 kd, .slice abt s.batch.length kbt, .int .i64 s.plan.crash, .slice ak2 s.plan.keep.length nk2, .slice af2 s.plan.fail.length nf2, .slice au2 s.plan.full.length nu2, .int .i64 s.plan.room, .slice ay s.bytes.length ny] 43)
                  have HG2 := Lib.hid ((lopen_ok (n := LOGn) (m := A) HOK.out).mono (j := i + 1) (Nat.zero_le _))
                  go_wp2_with (first
                    | (go_at_call 14; refine (ws_xopen_ok HS.out (by have := HI1.out.ops; omega) hE).mono ?_; rintro _ w7 ⟨lx, rfl, hs⟩; have HS := Lib.hid hs; clear hs)
                    | (go_at_call 15; refine (ws_yopen_ok HS.out (by have := HI1.out.ops; omega) hE).mono ?_; rintro _ w8 ⟨ly, rfl, hs⟩; have HS := Lib.hid hs; clear hs)
                    | (go_at_call 25; refine (ws_looks HS.out HG2.out (by omega)).mono ?_; rintro _ wk ⟨rfl, hs⟩; have HS := Lib.hid hs; clear hs)
                    | (go_at_call 27; refine (ws_files HS.out).mono ?_; rintro _ wf ⟨vf1, rfl, hs⟩; have HFL := Lib.hid (files_le HS.out); have HS := Lib.hid hs; clear hs)
                    | (go_at_call 28; refine (ws_all HS.out (by have := HI2.out.ops; omega)).mono ?_; rintro _ wa ⟨vf2, rfl, hs⟩; have HS := Lib.hid hs; clear hs)
                    | (go_at_call 26; refine (ws_same HS.out (.tail _ (.head _)) (.head _) HFL.out).mono ?_; rintro _ wz ⟨rfl, hs⟩; have HS := Lib.hid hs; clear hs))
                  go_roundw
                  case rel => exact ⟨i + 1, _, some (lx, _), some (ly, _), by omega, by go_num, rfl, rfl, pr_some HG2.out, HI2.out.mono (by omega), HS.out.sub (fun t ht => by cases ht)⟩
                  case measure => simp [intOf]; omega
                · have HS := Lib.hid (HS0.out.alloc #[.int .i64 kd, .slice abt s.batch.length kbt, .int .i64 s.plan.crash, .slice ak2 s.plan.keep.length nk2, .slice af2 s.plan.fail.length nf2, .slice au2 s.plan.full.length nu2, .int .i64 s.plan.room, .slice ay s.bytes.length ny] 43)
                  go_wp2_with (first
                    | (go_at_call 14; refine (ws_xopen_no HS.out (by have := HI1.out.ops; omega) hE).mono ?_; rintro _ w7 ⟨rfl, hs⟩; have HS := Lib.hid hs; clear hs)
                    | (go_at_call 15; refine (ws_yopen_no HS.out (by have := HI1.out.ops; omega) hE).mono ?_; rintro _ w8 ⟨rfl, hs⟩; have HS := Lib.hid hs; clear hs)
                    | (go_at_call 27; refine (ws_files HS.out).mono ?_; rintro _ wf ⟨vf1, rfl, hs⟩; have HFL := Lib.hid (files_le HS.out); have HS := Lib.hid hs; clear hs)
                    | (go_at_call 28; refine (ws_all HS.out (by have := HI2.out.ops; omega)).mono ?_; rintro _ wa ⟨vf2, rfl, hs⟩; have HS := Lib.hid hs; clear hs)
                    | (go_at_call 26; refine (ws_same HS.out (.tail _ (.head _)) (.head _) HFL.out).mono ?_; rintro _ wz ⟨rfl, hs⟩; have HS := Lib.hid hs; clear hs))
                  go_roundw
                  case rel => exact ⟨i + 1, _, none, none, by omega, by go_num, rfl, rfl, pr_none _, HI2.out.mono (by omega), HS.out.sub (fun t ht => by cases ht)⟩
                  case measure => simp [intOf]; omega
      · obtain rfl : i = l.length := by omega
        have HIL := Lib.hid hl40
        clear hlt hi
        go_wp2
        have HS := Lib.hid HS0.out.drew
        have hS0 := Lib.hid (show (fun X : World => X.cell? ⟨r, 6, none⟩ = some (.int .i64 A.ops)) wr.drew from HS.out.r6)
        have HSL := Lib.hid (safe_le HS.out)
        refine wp_region_G (fun X : World => X.cell? ⟨r, 6, none⟩ = some (.int .i64 A.ops)) 14 rfl ?_
        refine wpAnyG_take (i := 0) (oi := _) (v := .pointer (some ⟨d, 0, none⟩)) rfl (by kernel_rfl) (by kernel_rfl) (by kernel_rfl) (by kernel_rfl) (by kernel_rfl) (by kernel_rfl) (fun _ _ _ h => h) (Or.inl ⟨by rfl, fun X hX => ?_⟩) hS0.out ?_
        · have x1 := hX
          go_simp
        simp only [Act.put, List.setIfInBounds_toArray]
        refine wpAnyG_take (i := 2) (oi := _) (v := .pointer (some ⟨r, 0, none⟩)) rfl (by kernel_rfl) (by kernel_rfl) (by kernel_rfl) (by kernel_rfl) (by kernel_rfl) (by kernel_rfl) (fun _ _ _ h => h) (Or.inl ⟨by rfl, fun X hX => ?_⟩) hS0.out ?_
        · have x1 := hX
          go_simp
        simp only [Act.put]
        refine wpAnyG_one (i := 1) (by kernel_rfl) rfl (fun K' hK' => ?_)
        go_simp
        refine (ws_safe HS.out).mono ?_
        rintro _ w3 ⟨v3, rfl, hs⟩
        have HS := Lib.hid hs; clear hs
        have hS0 := Lib.hid (show (fun X : World => X.cell? ⟨r, 6, none⟩ = some (.int .i64 A.ops)) _ from HS.out.r6)
        refine hK'.out _ _ (fun _ => hS0.out) ?_
        refine wpAnyG_one (i := 3) (by kernel_rfl) rfl (fun K' hK' => ?_)
        go_simp
        refine (ws_allS HS.out (by have := HI.out.ops; have := HIL.out; omega)).mono ?_
        rintro _ w4 ⟨v4, rfl, hs⟩
        have HS := Lib.hid hs; clear hs
        have hS0 := Lib.hid (show (fun X : World => X.cell? ⟨r, 6, none⟩ = some (.int .i64 A.ops)) _ from HS.out.r6)
        refine hK'.out _ _ (fun _ => hS0.out) ?_
        refine wpAnyG_one (i := 4) (by kernel_rfl) rfl (fun K' hK' => ?_)
        go_simp
        refine (ws_same HS.out (.tail _ (.head _)) (.head _) HSL.out).mono ?_
        rintro _ w5 ⟨rfl, hs⟩
        have HS := Lib.hid hs; clear hs
        have hS0 := Lib.hid (show (fun X : World => X.cell? ⟨r, 6, none⟩ = some (.int .i64 A.ops)) _ from HS.out.r6)
        refine hK'.out _ _ (fun _ => hS0.out) ?_
        refine wpAnyG_take (i := 5) (oi := _) (v := .bool true) rfl (by kernel_rfl) (by kernel_rfl) (by kernel_rfl) (by kernel_rfl) (by kernel_rfl) (by kernel_rfl) (fun _ _ _ h => h) (Or.inl ⟨by rfl, fun X hX => ?_⟩) hS0.out ?_
        · have x1 := hX
          go_simp
        simp only [Act.put]
        refine wpAnyG_take (i := 6) (oi := _) (v := .pointer (some ⟨d, 0, none⟩)) rfl (by kernel_rfl) (by kernel_rfl) (by kernel_rfl) (by kernel_rfl) (by kernel_rfl) (by kernel_rfl) (fun _ _ _ h => h) (Or.inl ⟨by rfl, fun X hX => ?_⟩) hS0.out ?_
        · have x1 := hX
          go_simp
        simp only [Act.put]
        refine wpAnyG_take (i := 8) (oi := _) (v := .pointer (some ⟨r, 0, none⟩)) rfl (by kernel_rfl) (by kernel_rfl) (by kernel_rfl) (by kernel_rfl) (by kernel_rfl) (by kernel_rfl) (fun _ _ _ h => h) (Or.inl ⟨by rfl, fun X hX => ?_⟩) hS0.out ?_
        · have x1 := hX
          go_simp
        simp only [Act.put]
        refine wpAnyG_take (i := 9) (oi := _) (v := .pointer (some ⟨r, 0, none⟩)) rfl (by kernel_rfl) (by kernel_rfl) (by kernel_rfl) (by kernel_rfl) (by kernel_rfl) (by kernel_rfl) (fun _ _ _ h => h) (Or.inl ⟨by rfl, fun X hX => ?_⟩) hS0.out ?_
        · have x1 := hX
          go_simp
        simp only [Act.put]
        refine wpAnyG_take (i := 10) (oi := _) (v := .pointer (some ⟨r, 6, none⟩)) rfl (by kernel_rfl) (by kernel_rfl) (by kernel_rfl) (by kernel_rfl) (by kernel_rfl) (by kernel_rfl) (fun _ _ _ h => h) (Or.inl ⟨by rfl, fun X hX => ?_⟩) hS0.out ?_
        · have x1 := hX
          go_simp
        simp only [Act.put]
        refine wpAnyG_take (i := 11) (oi := _) (v := .int .i64 A.ops) rfl (by kernel_rfl) (by kernel_rfl) (by kernel_rfl) (by kernel_rfl) (by kernel_rfl) (by kernel_rfl) (fun _ _ _ h => h) (Or.inl ⟨by rfl, fun X hX => ?_⟩) hS0.out ?_
        · have x1 := hX
          go_simp
        simp only [Act.put]
        refine wpAnyG_one (i := 7) (by kernel_rfl) rfl (fun K' hK' => ?_)
        go_simp
        refine (ws_ops HS.out).mono ?_
        rintro _ w6 ⟨rfl, rfl⟩
        refine hK'.out _ _ (fun _ => hS0.out) ?_
        refine wpAnyG_take (i := 12) (oi := _) (v := .bool true) rfl (by kernel_rfl) (by kernel_rfl) (by kernel_rfl) (by kernel_rfl) (by kernel_rfl) (by kernel_rfl) (fun _ _ _ h => h) (Or.inl ⟨by rfl, fun X hX => ?_⟩) hS0.out ?_
        · have x1 := hX
          go_simp
        simp only [Act.put]
        refine wpAnyG_take (i := 13) (oi := _) (v := .bool true) rfl (by kernel_rfl) (by kernel_rfl) (by kernel_rfl) (by kernel_rfl) (by kernel_rfl) (by kernel_rfl) (fun _ _ _ h => h) (Or.inl ⟨by rfl, fun X hX => ?_⟩) hS0.out ?_
        · have x1 := hX
          go_simp
        simp only [Act.put]
        refine wpAnyG_one (i := 14) (by kernel_rfl) rfl (fun K' hK' => ?_)
        go_simp
        refine hK'.out _ _ (fun _ => hS0.out) ?_
        refine wpAnyG_done (by kernel_rfl) ?_
        go_wp2
        go_ret
        exact ⟨rfl, fun c S => kp_any (HS.out.kp (fun _ => False)) c S⟩
  · go_enter Tryz.func3, Tryz.ntmps3
    have hF : (decide (stot l ≤ 20000) && decide (l.length ≤ 40)) = false := by simpa using hF
    go_wp2_with (first
      | (go_at_call 9; refine (wawake_c _).mono ?_; rintro _ w1 ⟨rfl, hk⟩; have HB1 := Lib.hid ((hk c00 (fun _ => False)).heap (heap_alloc_new w _) (fun h => h)); have HK1 := Lib.hid (fun c S => ((Kp.refl c S w).alloc _).alloc_trans (hk c S)); clear hk)
      | (go_at_call 10; refine (few_c _ l _ (HV.out.kp (HK1.out c00 (fun _ => False)) (fun h => h) (Cx.refl _ _)) hlen).mono ?_; rintro _ w2 ⟨rfl, hk⟩; rw [hF]; have HB2 := Lib.hid ((hk c00 (fun _ => False)).heap HB1.out (fun h => h)); have HK2 := Lib.hid (fun c S => (HK1.out c S).alloc_trans (hk c S)); clear hk))
    go_ret
    exact ⟨rfl, HK2.out⟩
end Go.Proofs.YtnifmoigalmcmaaGreat
