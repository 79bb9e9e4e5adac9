import Derived.Test.YtepphepcaphlkaaI
import Derived.Test.YtepphepcaphlkaaJ
namespace Go.Proofs.Ytepphepcaphlkaa
open Go Go.RowKit Go.MapKept Go.Maps
open Dk
variable {c c' : Col} {w w' : World}
section
variable {k d : Nat} {m m' : ADisk} {vk vf vu vk' vf' vu' : Value} {mb : Nat} {es : Array MapEntry} {ck : Nat} {fb : Nm → Nat}
theorem DiskAt'.mb_ne (D : DiskAt' w c k d m vk vf vu mb es ck fb) : mb ≠ d := by
  intro e
  have h1 := D.heap
  have h2 := D.map.heap
  rw [e, h1] at h2; cases h2
/-- The disk's own block turned. -/
theorem DiskAt'.redo (D : DiskAt' w c k d m vk vf vu mb es ck fb) (hk0 : k ≠ 0) (hw : Kp c (fun q => q = (k, 0)) w w') (hd : w'.heap[d]? = some (.cells (diskCells m' vk' vf' vu' mb) 65 (0, 0))) (hmb : w'.heap[mb]? = w.heap[mb]?)
    (hf : m'.files = m.files) (hp : PlanAt w' c' vk' vf' vu' m'.plan) (hok : m'.ok) (hc : Cx w c c') : DiskAt' w' c' k d m' vk' vf' vu' mb es ck fb :=
  ⟨hok, hd, (hc _ D.lt).trans D.col, hp, by rw [hf]; exact D.map.mid hw hmb (fun q hq => ⟨.inl hq, by rw [hq]; simp; exact hk0⟩) hc⟩
theorem ok_ops {o : Int} (h : m.ok) (ho : m.ops ≤ o) : ({ m with ops := o } : ADisk).ok :=
  ⟨by have := h.ops0; show 0 ≤ o; omega, fun x hx => ⟨(h.files x hx).safe, (h.files x hx).now, (h.files x hx).chs, by have := (h.files x hx).many; show _ ≤ o.toNat; omega⟩, h.many, h.names, h.rising⟩
theorem DiskAt'.set_ops (D : DiskAt' w c k d m vk vf vu mb es ck fb) (hk0 : k ≠ 0) (o : Int) (ho : m.ops ≤ o) : DiskAt' (w.setCell ⟨d, 6, none⟩ (.int .i64 o)) c k d { m with ops := o } vk vf vu mb es ck fb := by
  have hw : Kp c (fun q => q = (k, 0)) w (w.setCell ⟨d, 6, none⟩ (.int .i64 o)) := (Kp.refl _ _ _).setCell (fun _ => D.col) _
  refine D.redo hk0 hw ?_ (Below.heap_setCell _ _ _ _ D.mb_ne) rfl (D.plan.kp hw (by simp; exact fun h => hk0 h.symm) (Cx.refl _ _)) (ok_ops D.ok ho) (Cx.refl _ _)
  have := heap_setCell D.heap 6 (.int .i64 o)
  simpa [diskCells] using this
theorem DiskAt'.drewN (D : DiskAt' w c k d m vk vf vu mb es ck fb) (n : Nat) : DiskAt' (w.drewN n) c k d m vk vf vu mb es ck fb :=
  D.kp (S := fun _ => False) ((Kp.refl _ _ _).drewN n) (fun _ h => h.elim) (Cx.refl _ _)
theorem DiskAt'.setKp (D : DiskAt' w c k d m vk vf vu mb es ck fb) (i : Nat) (v : Value) : Kp c (fun q => q.1 = k) w (w.setCell ⟨d, i, none⟩ v) :=
  (Kp.refl _ _ _).setCell (fun _ => by rw [D.col]) _
end
theorem begin_c (k d : Nat) (m : ADisk) (w : World) (DD : DiskAt w c k d m) (hk0 : k ≠ 0) (hops : m.ops < 900000) :
    Calls Try.prog 60 #[ptr d] w fun e w' => e = .returned (.int .i64 (begin_ m).1) ∧ ∃ c', Cx w c c' ∧ Kp c (fun q => q.1 = k) w w' ∧ DiskAt w' c' k d (begin_ m).2 := by
  obtain ⟨vk, vf, vu, mb, es, ck, fb, D⟩ := DD
  have hc0 := D.c0
  have hc1 := D.c1
  have hc3 := D.c3
  have hc6 := D.c6
  have hc7 := D.c7
  have hff := D.fz
  have ho0 := D.ok.ops0
  have ho1 : m.ops + 1 ≤ 900000 := by omega
  have HD := Lib.hid D; clear D
  have HK := Lib.hid hk0; clear hk0
  unfold ptr
  by_cases hdead : m.dead = true
  · rw [hdead] at hc7
    have HDE := Lib.hid hdead; clear hdead
    go_enter Try.func60, Try.ntmps60
    go_wp2_with (go_at_call 37; refine (is_one _ _ hc0).mono ?_; rintro e w' ⟨rfl, rfl⟩)
    go_ret
    refine ⟨ret_int ?_, c, Cx.refl _ _, Kp.refl _ _ _, vk, vf, vu, mb, es, ck, fb, ?_⟩
    · unfold begin_; rw [if_pos HDE.out]
    · unfold begin_; rw [if_pos HDE.out]; exact HD.out
  · have hdead : m.dead = false := by simpa using hdead
    rw [hdead] at hc7
    have HDE := Lib.hid hdead; clear hdead
    have HD1 := Lib.hid (HD.out.set_ops HK.out (m.ops + 1) (by omega))
    have HKP := Lib.hid (HD.out.setKp 6 (.int .i64 (m.ops + 1)))
    by_cases hcr : m.ops + 1 = m.plan.crash
    · have hcr' : (m.ops + 1 == m.plan.crash) = true := by simpa using hcr
      have HCR := Lib.hid hcr; clear hcr
      go_enter Try.func60, Try.ntmps60
      go_wp2_with (go_at_call 37; refine (is_one _ _ hc0).mono ?_; rintro e w' ⟨rfl, rfl⟩)
      go_quiet (fail)
      go_wp2_with (go_at_call 41; refine (die_c k d _ vk vf vu mb es ck fb _ (HD1.out.drewN nq) HK.out (by show m.ops + 1 < _; omega)).mono ?_; rintro e w' ⟨rfl, c2, hc2, hk2, hd2⟩)
      go_ret
      have e : begin_ m = (10, Dk.die { m with ops := m.ops + 1 }) := by
        unfold begin_; rw [if_neg (by rw [HDE.out]; simp)]; simp only []; rw [if_pos HCR.out]
      rw [e]
      have hs1 : Kp c (fun q => q.1 = k) w ((w.setCell ⟨d, 6, none⟩ (.int .i64 (m.ops + 1))).drewN nq) := HKP.out.drewN nq
      have hc2' : Cx w c c2 := fun b hb => hc2 b (by simpa using hb)
      exact ⟨rfl, c2, hc2', hs1.trans hk2 (Cx.refl _ _), vk, vf, vu, mb, es, ck, fb, hd2⟩
    · have hcr' : (m.ops + 1 == m.plan.crash) = false := by simpa using hcr
      have HCR := Lib.hid hcr; clear hcr
      by_cases hin : m.ops + 1 ∈ m.plan.fail
      · have hd : decide (m.ops + 1 ∈ m.plan.fail) = true := by simpa using hin
        have HI := Lib.hid hin; clear hin
        go_enter Try.func60, Try.ntmps60
        go_wp2_with (go_at_call 37; refine (is_one _ _ hc0).mono ?_; rintro e w' ⟨rfl, rfl⟩)
        go_quiet (fail)
        go_wp2
        obtain ⟨w1, hw1⟩ : ∃ w1, w1 = (w.setCell ⟨d, 6, none⟩ (.int .i64 (m.ops + 1))).drewN nq := ⟨_, rfl⟩
        have D1 : DiskAt' w1 c k d { m with ops := m.ops + 1 } vk vf vu mb es ck fb := by rw [hw1]; exact HD1.out.drewN nq
        have K1 : Kp c (fun q => q.1 = k) w w1 := by rw [hw1]; exact HKP.out.drewN nq
        have g3 := D1.c3
        have g6 := D1.c6
        have g6 : w1.cell? ⟨d, 6, none⟩ = some (.int .i64 (m.ops + 1)) := g6
        have HD2 := Lib.hid D1; clear D1
        have HK2 := Lib.hid K1; clear K1
        have hq : ∀ n, Calls Try.prog 77 #[vf, .int .i64 (m.ops + 1)] (w1.drewN n) fun e w' => e = .returned (.bool (decide (m.ops + 1 ∈ m.plan.fail))) ∧ w' = w1.drewN n :=
          fun n => (containsI _ _ _ (HD2.out.drewN n).plan.fail).mono fun e w' h => ⟨h.1, h.2.symm⟩
        have HQ := Lib.hid hq; clear hq
        rw [← hw1]
        clear hw1 hc0 hc1 hc3 hc6 hc7 hff
        go_quiet ((go_at_call 77; exact Calls.quiet_of_same (HQ.out _)))
        go_wp2
        go_ret
        have e : begin_ m = (11, { m with ops := m.ops + 1 }) := by
          unfold begin_; rw [if_neg (by rw [HDE.out]; simp)]; simp only []; rw [if_neg HCR.out, if_pos HI.out]
        rw [e]
        exact ⟨rfl, c, Cx.refl _ _, HK2.out.drewN _, vk, vf, vu, mb, es, ck, fb, HD2.out.drewN _⟩
      · have hd : decide (m.ops + 1 ∈ m.plan.fail) = false := by simpa using hin
        have HI := Lib.hid hin; clear hin
        go_enter Try.func60, Try.ntmps60
        go_wp2_with (go_at_call 37; refine (is_one _ _ hc0).mono ?_; rintro e w' ⟨rfl, rfl⟩)
        go_quiet (fail)
        go_wp2
        obtain ⟨w1, hw1⟩ : ∃ w1, w1 = (w.setCell ⟨d, 6, none⟩ (.int .i64 (m.ops + 1))).drewN nq := ⟨_, rfl⟩
        have D1 : DiskAt' w1 c k d { m with ops := m.ops + 1 } vk vf vu mb es ck fb := by rw [hw1]; exact HD1.out.drewN nq
        have K1 : Kp c (fun q => q.1 = k) w w1 := by rw [hw1]; exact HKP.out.drewN nq
        have g3 := D1.c3
        have g6 := D1.c6
        have g6 : w1.cell? ⟨d, 6, none⟩ = some (.int .i64 (m.ops + 1)) := g6
        have HD2 := Lib.hid D1; clear D1
        have HK2 := Lib.hid K1; clear K1
        have hq : ∀ n, Calls Try.prog 77 #[vf, .int .i64 (m.ops + 1)] (w1.drewN n) fun e w' => e = .returned (.bool (decide (m.ops + 1 ∈ m.plan.fail))) ∧ w' = w1.drewN n :=
          fun n => (containsI _ _ _ (HD2.out.drewN n).plan.fail).mono fun e w' h => ⟨h.1, h.2.symm⟩
        have HQ := Lib.hid hq; clear hq
        rw [← hw1]
        clear hw1 hc0 hc1 hc3 hc6 hc7 hff
        go_quiet ((go_at_call 77; exact Calls.quiet_of_same (HQ.out _)))
        go_wp2
        go_ret
        have e : begin_ m = (0, { m with ops := m.ops + 1 }) := by
          unfold begin_; rw [if_neg (by rw [HDE.out]; simp)]; simp only []; rw [if_neg HCR.out, if_neg HI.out]
        rw [e]
        exact ⟨rfl, c, Cx.refl _ _, HK2.out.drewN _, vk, vf, vu, mb, es, ck, fb, HD2.out.drewN _⟩
end Go.Proofs.Ytepphepcaphlkaa
