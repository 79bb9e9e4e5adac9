/- The document's disk: what an operation answers ahead of what it names. -/
import Derived.Test.YtnifmoigalmcmaaGreatRk
import Derived.Test.YtnifmoigalmcmaaGreatQ
import Derived.Test.YtnifmoigalmcmaaGreatRh
import Derived.Deep.AppendLies
namespace Go.Proofs.YtnifmoigalmcmaaGreat
open Go Go.RowKit Go.MapKept Go.Maps
open Dk
variable {c c' : Col} {S : Nat × Nat → Prop} {w w' : World} {q : Nat × Nat}
/-- What an operation on the document's disk answers and leaves. -/
def RPost (k r : Nat) (p : Int × ADisk) (c : Col) (w : World) (e : Ending) (w' : World) : Prop :=
  e = .returned (.int .i64 p.1) ∧ ∃ c', Cx w c c' ∧ Kp c (fun q => q.1 = k) w w' ∧ RD w' c' k r p.2
section
variable {k r : Nat} {m m' : ADisk} {vk vf vu vk' vf' vu' vF : Value} {F : List RFl}
/-- The disk's own block turned. -/
theorem RD'.redo (D : RD' w c k r m vk vf vu vF F) (hk0 : k ≠ 0) (hw : Kp c (fun q => q = (k, 0)) w w') (hd : w'.heap[r]? = some (.cells (rdCells m' vk' vf' vu' vF) 60 (0, 0)))
    (hf : m'.files = m.files) (hp : PlanAt w' c' vk' vf' vu' m'.plan) (hok : m'.ok) (hc : Cx w c c') : RD' w' c' k r m' vk' vf' vu' vF F :=
  ⟨hok, hd, (hc _ D.lt).trans D.col, hp, by rw [hf]; exact D.names, D.files.kp hw (fun q hq => ⟨.inl hq, by rw [hq]; simp; exact hk0⟩) hc⟩
theorem RD'.set_ops (D : RD' w c k r m vk vf vu vF F) (hk0 : k ≠ 0) (o : Int) (ho : m.ops ≤ o) : RD' (w.setCell ⟨r, 6, none⟩ (.int .i64 o)) c k r { m with ops := o } vk vf vu vF F := by
  have hw : Kp c (fun q => q = (k, 0)) w (w.setCell ⟨r, 6, none⟩ (.int .i64 o)) := (Kp.refl _ _ _).setCell (fun _ => D.col) _
  refine D.redo hk0 hw ?_ rfl (D.plan.kp hw (by simp; exact fun h => hk0 h.symm) (Cx.refl _ _)) (ok_ops D.ok ho) (Cx.refl _ _)
  have := heap_setCell D.heap 6 (.int .i64 o)
  simpa [rdCells] using this
theorem RD'.drewN (D : RD' w c k r m vk vf vu vF F) (n : Nat) : RD' (w.drewN n) c k r m vk vf vu vF F :=
  D.kp (S := fun _ => False) ((Kp.refl _ _ _).drewN n) (fun _ h => h.elim) (Cx.refl _ _)
theorem RD'.setKp (D : RD' w c k r m vk vf vu vF F) (i : Nat) (v : Value) : Kp c (fun q => q.1 = k) w (w.setCell ⟨r, i, none⟩ v) :=
  (Kp.refl _ _ _).setCell (fun _ => by rw [D.col]) _
end
theorem rbegin_c (k r : Nat) (m : ADisk) (w : World) (DD : RD w c k r m) (hk0 : k ≠ 0) (hops : m.ops < 900000) :
    Calls Tryz.prog 76 #[ptr r] w (RPost k r (begin_ m) c w) := by
  obtain ⟨vk, vf, vu, vF, F, D⟩ := DD
  have hc0 := D.c0
  have hc2 := D.c2
  have hc6 := D.c6
  have hc7 := D.c7
  have hff := D.fz
  have ho0 := D.ok.ops0
  have ho1 : m.ops + 1 ≤ 900000 := by omega
  have HD := Lib.hid D; clear D
  have HK := Lib.hid hk0; clear hk0
  unfold ptr
  by_cases hdead : m.dead = true
  · rw [hdead] at hc7
    have HDE := Lib.hid hdead; clear hdead
    go_enter Tryz.func76, Tryz.ntmps76
    go_wp2
    go_ret
    refine ⟨ret_int ?_, c, Cx.refl _ _, Kp.refl _ _ _, vk, vf, vu, vF, F, ?_⟩
    · unfold begin_; rw [if_pos HDE.out]
    · unfold begin_; rw [if_pos HDE.out]; exact HD.out
  · have hdead : m.dead = false := by simpa using hdead
    rw [hdead] at hc7
    have HDE := Lib.hid hdead; clear hdead
    have HD1 := Lib.hid (HD.out.set_ops HK.out (m.ops + 1) (by omega))
    have HKP := Lib.hid (HD.out.setKp 6 (.int .i64 (m.ops + 1)))
    by_cases hcr : m.ops + 1 = m.plan.crash
    · have hcr' : (m.ops + 1 == m.plan.crash) = true := by simpa using hcr
      have HCR := Lib.hid hcr; clear hcr
      go_enter Tryz.func76, Tryz.ntmps76
      go_wp2
      go_quiet (fail)
      go_wp2_with (go_at_call 83; refine (rdie_c k r _ vk vf vu vF F _ (HD1.out.drewN nq) HK.out (by show m.ops + 1 ≤ _; omega)).mono ?_; rintro e w' ⟨rfl, c2, hc2, hk2, hd2⟩)
      go_ret
      have e : begin_ m = (10, Dk.die { m with ops := m.ops + 1 }) := by
        unfold begin_; rw [if_neg (by rw [HDE.out]; simp)]; simp only []; rw [if_pos HCR.out]
      rw [e]
      have hs1 : Kp c (fun q => q.1 = k) w ((w.setCell ⟨r, 6, none⟩ (.int .i64 (m.ops + 1))).drewN nq) := HKP.out.drewN nq
      have hc2' : Cx w c c2 := fun b hb => hc2 b (by simpa using hb)
      exact ⟨rfl, c2, hc2', hs1.trans hk2 (Cx.refl _ _), hd2⟩
    · have hcr' : (m.ops + 1 == m.plan.crash) = false := by simpa using hcr
      have HCR := Lib.hid hcr; clear hcr
      by_cases hin : m.ops + 1 ∈ m.plan.fail
      · have hd : decide (m.ops + 1 ∈ m.plan.fail) = true := by simpa using hin
        have HI := Lib.hid hin; clear hin
        go_enter Tryz.func76, Tryz.ntmps76
        go_wp2
        go_quiet (fail)
        go_wp2
        obtain ⟨w1, hw1⟩ : ∃ w1, w1 = (w.setCell ⟨r, 6, none⟩ (.int .i64 (m.ops + 1))).drewN nq := ⟨_, rfl⟩
        have D1 : RD' w1 c k r { m with ops := m.ops + 1 } vk vf vu vF F := by rw [hw1]; exact HD1.out.drewN nq
        have K1 : Kp c (fun q => q.1 = k) w w1 := by rw [hw1]; exact HKP.out.drewN nq
        have g2 := D1.c2
        have g6 := D1.c6
        have g6 : w1.cell? ⟨r, 6, none⟩ = some (.int .i64 (m.ops + 1)) := g6
        have HD2 := Lib.hid D1; clear D1
        have HK2 := Lib.hid K1; clear K1
        have hq : ∀ n, Calls Tryz.prog 134 #[vf, .int .i64 (m.ops + 1)] (w1.drewN n) fun e w' => e = .returned (.bool (decide (m.ops + 1 ∈ m.plan.fail))) ∧ w' = w1.drewN n :=
          fun n => rhas _ _ _ (HD2.out.drewN n).plan.fail
        have HQ := Lib.hid hq; clear hq
        rw [← hw1]
        clear hw1 hc0 hc2 hc6 hc7 hff
        go_quiet ((go_at_call 134; exact Calls.quiet_of_same (HQ.out _)))
        go_wp2
        go_ret
        have e : begin_ m = (11, { m with ops := m.ops + 1 }) := by
          unfold begin_; rw [if_neg (by rw [HDE.out]; simp)]; simp only []; rw [if_neg HCR.out, if_pos HI.out]
        rw [e]
        exact ⟨rfl, c, Cx.refl _ _, HK2.out.drewN _, vk, vf, vu, vF, F, HD2.out.drewN _⟩
      · have hd : decide (m.ops + 1 ∈ m.plan.fail) = false := by simpa using hin
        have HI := Lib.hid hin; clear hin
        go_enter Tryz.func76, Tryz.ntmps76
        go_wp2
        go_quiet (fail)
        go_wp2
        obtain ⟨w1, hw1⟩ : ∃ w1, w1 = (w.setCell ⟨r, 6, none⟩ (.int .i64 (m.ops + 1))).drewN nq := ⟨_, rfl⟩
        have D1 : RD' w1 c k r { m with ops := m.ops + 1 } vk vf vu vF F := by rw [hw1]; exact HD1.out.drewN nq
        have K1 : Kp c (fun q => q.1 = k) w w1 := by rw [hw1]; exact HKP.out.drewN nq
        have g2 := D1.c2
        have g6 := D1.c6
        have g6 : w1.cell? ⟨r, 6, none⟩ = some (.int .i64 (m.ops + 1)) := g6
        have HD2 := Lib.hid D1; clear D1
        have HK2 := Lib.hid K1; clear K1
        have hq : ∀ n, Calls Tryz.prog 134 #[vf, .int .i64 (m.ops + 1)] (w1.drewN n) fun e w' => e = .returned (.bool (decide (m.ops + 1 ∈ m.plan.fail))) ∧ w' = w1.drewN n :=
          fun n => rhas _ _ _ (HD2.out.drewN n).plan.fail
        have HQ := Lib.hid hq; clear hq
        rw [← hw1]
        clear hw1 hc0 hc2 hc6 hc7 hff
        go_quiet ((go_at_call 134; exact Calls.quiet_of_same (HQ.out _)))
        go_wp2
        go_ret
        have e : begin_ m = (0, { m with ops := m.ops + 1 }) := by
          unfold begin_; rw [if_neg (by rw [HDE.out]; simp)]; simp only []; rw [if_neg HCR.out, if_neg HI.out]
        rw [e]
        exact ⟨rfl, c, Cx.refl _ _, HK2.out.drewN _, vk, vf, vu, vF, F, HD2.out.drewN _⟩
end Go.Proofs.YtnifmoigalmcmaaGreat
/- The document's disk: room. -/
namespace Go.Proofs.YtnifmoigalmcmaaGreat
open Go Go.RowKit Go.MapKept Go.Maps
open Dk
variable {c c' : Col} {S : Nat × Nat → Prop} {w w' : World} {q : Nat × Nat}
def rroom (m : ADisk) (more : Int) : Bool := !decide (m.ops ∈ m.plan.full) && (decide (m.plan.room ≤ 0) || decide (more ≤ 0) || decide ((total m : Int) + more ≤ m.plan.room))
theorem rroom_room (m : ADisk) (had has : Int) : room_ m had has = if rroom m (has - had) = true then 0 else 12 := by
  unfold room_ rroom
  by_cases h1 : m.ops ∈ m.plan.full
  · rw [if_pos h1]; simp [h1]
  · rw [if_neg h1]
    by_cases h2 : m.plan.room ≤ 0
    · rw [if_pos (.inl h2)]; simp [h1, h2]
    · by_cases h3 : has ≤ had
      · rw [if_pos (.inr h3)]; have : has - had ≤ 0 := by omega
        simp [h1, this]
      · rw [if_neg (by omega)]
        have : ¬ has - had ≤ 0 := by omega
        by_cases h4 : m.plan.room < has - had + (total m : Int)
        · rw [if_pos h4]; have : ¬ ((total m : Int) + (has - had) ≤ m.plan.room) := by omega
          simp [*]
        · rw [if_neg h4]; have : ((total m : Int) + (has - had) ≤ m.plan.room) := by omega
          simp [*]
def rsumTo (m : ADisk) (j : Nat) : Nat := ((m.files.take j).map fun x => x.2.now.length).sum
theorem rsumTo_succ {m : ADisk} {j : Nat} {x : Nm × AFile} (h : m.files[j]? = some x) : rsumTo m (j + 1) = rsumTo m j + x.2.now.length := by
  unfold rsumTo; rw [List.take_add_one, h]; simp
theorem rsumTo_le {m : ADisk} (h : m.ok) (j : Nat) : rsumTo m j ≤ 1099511627776 := by
  have h1 := total_le (fs := m.files.take j) (k := m.ops.toNat) fun x hx => h.files x (List.mem_of_mem_take hx)
  have h2 := h.many
  have h3 : (m.files.take j).length ≤ 4096 := by rw [List.length_take]; omega
  unfold rsumTo; omega
theorem rsumTo_all (m : ADisk) : rsumTo m m.files.length = total m := by unfold rsumTo total; rw [List.take_length]
set_option maxRecDepth 20000 in
set_option maxHeartbeats 4000000 in
theorem rroom_c (k r : Nat) (m : ADisk) (vk vf vu vF : Value) (F : List RFl) (w : World) (D : RD' w c k r m vk vf vu vF F) (hops : m.ops ≤ 1000000) (more : Int) (h1 : -1099511627776 ≤ more) (h2 : more ≤ 1099511627776) :
    Calls Tryz.prog 126 #[ptr r, .int .i64 more] w fun e w' => e = .returned (.bool (rroom m more)) ∧ Below w.heap.size w w' := by
  have hc3 := D.c3
  have hc4 := D.c4
  have hc5 := D.c5
  have hc6 := D.c6
  have hlen := D.len
  have hrl := D.lt
  have HD := Lib.hid D
  have HO := Lib.hid hops; clear hops
  obtain ⟨af, kf, e⟩ := D.files.shape
  rw [e] at hc5
  have HE := Lib.hid e; clear e
  clear D
  unfold ptr
  have hlen' : (F.length : Int) ≤ 4096 := by omega
  have HQ := Lib.hid fun (n : Nat) => rhas (w := w.drewN n) _ _ m.ops (HD.out.drewN n).plan.full
  by_cases hin : m.ops ∈ m.plan.full
  · have hd : decide (m.ops ∈ m.plan.full) = true := by simpa using hin
    have HI := Lib.hid hin; clear hin
    go_enter Tryz.func126, Tryz.ntmps126
    go_wp2
    go_quiet ((go_at_call 134; exact Calls.quiet_of_same (HQ.out _)))
    go_wp2
    go_ret
    refine ⟨ret_bool ?_, bdrewN (Below.refl _ _) _⟩
    unfold rroom; simp [HI.out]
  · have hd : decide (m.ops ∈ m.plan.full) = false := by simpa using hin
    have HQ := Lib.hid fun (n : Nat) => (HQ.out n).mono (R' := fun e w' => e = .returned (.bool false) ∧ w' = w.drewN n) fun e w' h => ⟨by rw [h.1, hd], h.2⟩
    have HI := Lib.hid hin; clear hin hd
    go_enter Tryz.func126, Tryz.ntmps126
    go_wp2
    go_quiet ((go_at_call 134; exact Calls.quiet_of_same (HQ.out _)))
    go_wp2
    have HB0 := Lib.hid (bdrewN (Below.refl w.heap.size w) nq)
    go_loopw [5, 23] (fun s i wr => ∃ j : Nat, j ≤ F.length ∧ i = .int .i64 j ∧ s = .int .i64 (rsumTo m j) ∧ Below w.heap.size w wr) (fun _ i _ => F.length - (intOf i).toNat)
    case atStart => exact ⟨0, Nat.zero_le _, rfl, rfl, HB0.out⟩
    case round =>
      obtain ⟨j, hj, rfl, rfl, hb⟩ := hrel
      have HB := Lib.hid hb; clear hb
      have hs0 := rsumTo_le HD.out.ok j
      have hs1 : (rsumTo m j : Int) ≤ 1099511627776 := by omega
      clear hs0
      have hD : RD' wr c k r m vk vf vu vF F := HD.out.kp (S := S2F) (Kp.of_below HB.out) (fun _ h => h.elim) (Cx.refl _ _)
      have HDr := Lib.hid hD; clear hD
      by_cases hlt : j < F.length
      · obtain ⟨x, hx⟩ : ∃ x, F[j]? = some x := ⟨F[j], List.getElem?_eq_getElem hlt⟩
        obtain ⟨g, cap, e2, hlc, hcm, -, f0, f1, f2, -⟩ := HDr.out.files.cells hx
        rw [HE.out] at e2
        injection e2 with e3 e5 e4
        clear e5 hlc hcm
        subst e3 e4
        have hRF := HDr.out.files.each x (List.mem_of_getElem? hx)
        have hfok := HDr.out.fok (List.mem_of_getElem? hx)
        have hnok := HDr.out.nok (List.mem_of_getElem? hx)
        have hfx : m.files[j]? = some (x.n, x.f) := by rw [← HDr.out.names, List.getElem?_map, hx]; rfl
        have hss : rsumTo m (j + 1) = rsumTo m j + x.f.now.length := rsumTo_succ hfx
        have hs2 := rsumTo_le HDr.out.ok (j + 1)
        have hs3 : (rsumTo m j : Int) + (x.f.now.length : Int) ≤ 1099511627776 := by omega
        have HSS := Lib.hid hss; clear hss hs2
        obtain ⟨asx, ksx, evs, -⟩ := id hRF.safe
        obtain ⟨avc, kvc, evc⟩ := own_shape hRF.chs.own
        rw [List.length_map] at evs
        have hdc := fun W hW => data_c (c := c) k x W hW hfok (by have := HO.out; omega) hnok
        rw [evs] at f1 hdc
        rw [evc] at f2 hdc
        have HDC := Lib.hid hdc; clear hdc evs evc
        have HX := Lib.hid hx; clear hx
        have HFX := Lib.hid hfx; clear hfx
        have HRF := Lib.hid hRF; clear hRF
        have HOK := Lib.hid hfok; clear hfok
        have HNOK := Lib.hid hnok; clear hnok
        have hgl : g < wr.heap.size := World.block_lt_of_cell? _ _ f1
        have HWS := Lib.hid HB.out.size
        unfold str at f0
        go_wp2_with (go_at_call 78; (with_reducible refine (HDC.out _ (HRF.out.kp ((Kp.refl c S2F wr).alloc _) (fun h => h) (fun _ _ h => h) (Cx.refl _ _))).mono ?_); rintro e w2 ⟨v2, rfl, hown2, hb2⟩; have HB2 := Lib.hid hb2; clear hb2; obtain ⟨a2, cap2, rfl⟩ := own_shape hown2; clear hown2)
        go_roundw
        case rel => exact ⟨j + 1, by omega, by go_num, by rw [HSS.out]; go_num, (HB.out.alloc HWS.out _).trans (HB2.out.mono (by have := HWS.out; simp; omega))⟩
        case measure => simp [intOf]; omega
      · obtain rfl : j = F.length := by omega
        have hr4 := HDr.out.c4
        have hall : rsumTo m F.length = total m := by rw [← rsumTo_all, ← HD.out.names, List.length_map]
        have HALL := Lib.hid hall; clear hall
        by_cases g1 : m.plan.room ≤ 0
        · go_wp2
          go_ret
          refine ⟨ret_bool ?_, HB.out⟩
          unfold rroom; simp [HI.out, g1]
        · by_cases g2 : more ≤ 0
          · go_wp2
            go_ret
            refine ⟨ret_bool ?_, HB.out⟩
            unfold rroom; simp [HI.out, g2]
          · by_cases g3 : (rsumTo m F.length : Int) + more ≤ m.plan.room
            all_goals
              go_wp2
              go_ret
              refine ⟨ret_bool ?_, HB.out⟩
              unfold rroom
              rw [← HALL.out]
              simp [HI.out, g1, g2, g3]
end Go.Proofs.YtnifmoigalmcmaaGreat
/- The document's disk: a file's change. -/
namespace Go.Proofs.YtnifmoigalmcmaaGreat
open Go Go.RowKit Go.MapKept Go.Maps
open Dk
variable {c c' : Col} {S : Nat × Nat → Prop} {w w' : World} {q : Nat × Nat}
theorem upd_at {fs : List (Nm × AFile)} (hr : Rising fs) {i : Nat} {n : Nm} {f : AFile} (h : fs[i]? = some (n, f)) (f' : AFile) : fs.set i (n, f') = Dk.upd fs n f' := by
  have hlt : i < fs.length := (List.getElem?_eq_some_iff.1 h).1
  have e1 : fs = fs.take i ++ (n, f) :: fs.drop (i + 1) := by
    have h1 := List.drop_eq_getElem_cons hlt
    rw [(List.getElem?_eq_some_iff.1 h).2] at h1
    rw [← h1, List.take_append_drop]
  have e2 : (fs.take i).length = i := by simp; omega
  have h3 : Rising (fs.take i ++ (n, f) :: fs.drop (i + 1)) := e1 ▸ hr
  have h2 := upd_mid (x := (n, f)) h3 f'
  rw [← e1] at h2
  rw [h2]
  conv => lhs; rw [e1]
  rw [List.set_append_right _ _ (by omega), e2, Nat.sub_self, List.set_cons_zero]
theorem nP0 {k : Nat} {v : Value} : ¬ ((0, 0) = (k, 1) ∨ ∃ g, v.ownBlock = some g ∧ ((0, 0) : Nat × Nat) = (k, g + 2)) := by
  rintro (h | ⟨g, _, h⟩) <;> simp at h
/-- One file turned, its name the same. -/
theorem RD'.file1 {k r : Nat} {m : ADisk} {vk vf vu vF : Value} {F : List RFl} (D : RD' w c k r m vk vf vu vF F) {i : Nat} {x x' : RFl} (hx : F[i]? = some x)
    (hk : Kp c (fun q => q = (k, 1) ∨ ∃ g, x.vc.ownBlock = some g ∧ q = (k, g + 2)) w w') (hc : Cx w c c') (hown : w'.ownsRow 0 148 3 vF F.length ((F.set i x').flatMap rfc)) (hx' : RF w' c' k x')
    (hap : ∀ g, x'.vc.ownBlock = some g → x.vc.ownBlock = some g ∨ w.heap.size ≤ g) (hn : x'.n = x.n) (hok : x'.f.ok m.ops.toNat) : RD' w' c' k r { m with files := Dk.upd m.files x.n x'.f } vk vf vu vF (F.set i x') := by
  have hfi : m.files[i]? = some (x.n, x.f) := by rw [← D.names, List.getElem?_map, hx]; rfl
  refine ⟨upd_ok D.ok hok (D.nok (List.mem_of_getElem? hx)), hk.heap D.heap ?_, (hc _ D.lt).trans D.col, D.plan.kp hk nP0 hc, ?_, ?_⟩
  · rw [D.col]; rintro (h | ⟨g, _, h⟩) <;> simp at h
  · rw [List.map_set, D.names, hn]
    exact upd_at D.ok.rising hfi _
  · refine D.files.put1 hx hk (fun q hq => ?_) nP0 hc hown hx' hap
    rcases hq with h | h
    · exact .inl h
    · exact .inr (.inl h)
theorem step_append_lies' {P : Program} {ops : Array Oper} {o : Oper} {a : Act} {K : Act → World → Prop} {Q : Exit → Act → World → Prop} {E : Prop} {w : World} (hgd : o.guard = none) (s x : Operand) (t : TypeId)
    (ho : o.op = .call { callee := .builtin .append, args := #[s, x], argTypes := #[t, t] })
    (e : TypeId) (i : TypeInfo) (z : Value) (size bytes : Nat) (ht : P.underlying t = some (.slice e)) (hi : P.info? e = some i) (hz : i.zero = some z)
    (hsize : i.size = size) (hby : i.bytes = bytes) (hzs : z.cells.size = size) (hsz : 0 < size)
    (v : Value) (n : Nat) (xs : List Value) (hs : a.eval s = v) (hown : w.ownsRow 0 e size v n xs)
    (ad : Addr) (m c : Nat) (news : List Value) (hx : a.eval x = .slice (some ad) m c) (hl : news.length = m * size) (hnews : ∀ j u, news[j]? = some u → w.cell? (ad.add j) = some u) (h1 : ∀ u ∈ news, u.oneCell' = true)
    (h63 : n + m ≤ maxLen) (hbytes : (n + m) * bytes ≤ 140737488355328)
    (h : ∀ a' k' w', w'.ownsRow 0 e size (.slice a' (n + m) k') (n + m) (xs ++ news) → w.grownBy w' v.ownBlock → (∀ g, (Value.slice a' (n + m) k').ownBlock = some g → v.ownBlock = some g ∨ w.heap.size ≤ g) → K (a.put o.dst (.slice a' (n + m) k')) w') :
    if Region.wanted o (yielded ops a.tmps) = true then Oper.wp P o a w K Q else E := by
  have hw : Region.wanted o (yielded ops a.tmps) = true := by simp [Region.wanted, hgd]
  rw [if_pos hw]
  obtain ⟨v', w', hrun, h2, h3, h4⟩ := run_append3 (P := P) t o.type e i z size bytes ht hi hz hsize hby hzs hsz v n xs hown ad m c news hl hnews h1 h63 hbytes
  unfold Oper.wp
  simp [execOp, ho, resolve, invoke, builtin, hs, hx, hrun, Result.andThen]
  obtain ⟨a', k', rfl⟩ := own_shape h2
  exact h a' k' w' h2 h3 h4
theorem alloc_keep {X : World} {o : Obj} {a : Addr} {v : Value} (h : X.cell? a = some v) : (X.alloc o).cell? a = some v := (World.cell?_alloc_lt X o a (World.block_lt_of_cell? _ _ h)).trans h
theorem info_rchange : (Tryz.prog.info? 152).map (fun i => (i.zero, i.size, i.bytes)) = some (some (.agg #[.bool false, .int .i64 0, .int .i64 0, .slice none 0 0]), 4, 48) := by kernel_rfl
theorem info_rfile : (Tryz.prog.info? 148).map (fun i => (i.zero, i.size, i.bytes)) = some (some (.agg #[.string ⟨#[]⟩, .slice none 0 0, .slice none 0 0]), 3, 64) := by kernel_rfl
/-- What lies behind the append and the store. -/
theorem change_end {k r i g kf : Nat} {m : ADisk} {vk vf vu : Value} {F : List RFl} {w w0 w1 w2 : World} {x : RFl} {y : Chg} {vb v' : Value} {long : Int}
    (D : RD' w c k r m vk vf vu (.slice (some ⟨g, 0, none⟩) F.length kf) F) (hx : F[i]? = some x) (hv : RCh w c (y, vb)) (hok : y.ok) (hmany : x.f.chs.length + 1 ≤ m.ops.toNat) (hroom : rroom m (long - x.f.now.length) = true)
    (h0 : Below w.heap.size w w0) (h1 : w1.ownsRow 0 152 4 v' (x.L.length + 1) (x.L.flatMap rch ++ rch (y, vb))) (hg : w0.grownBy w1 x.vc.ownBlock) (hv' : ∀ g, v'.ownBlock = some g → x.vc.ownBlock = some g ∨ w0.heap.size ≤ g)
    (h2 : w2 = w1.setCell ⟨g, i * 3 + 2, none⟩ v') : RPost k r (Dk.change m x.n x.f y long) c w (.returned (.int .i64 0)) w2 := by
  have hl1 := h0.size
  have hRF := D.files.each x (List.mem_of_getElem? hx)
  have hfok := D.fok (List.mem_of_getElem? hx)
  have hgc : c g = (k, 1) := D.files.col g rfl
  have hgl : g < w.heap.size := ownBlock_lt D.files.own g rfl
  have hroom2 : room_ m x.f.now.length long = 0 := by rw [rroom_room, hroom]; rfl
  have hxl := ownBlock_lt hRF.chs.own
  have hvg : v'.ownBlock ≠ some g := by
    intro e
    rcases hv' g e with h | h
    · have := hRF.chs.col g h; rw [hgc] at this; simp at this
    · omega
  have hxg : x.vc.ownBlock ≠ some g := fun h => by have := hRF.chs.col g h; rw [hgc] at this; simp at this
  have hK : Kp c (fun q => q = (k, 1) ∨ ∃ g, x.vc.ownBlock = some g ∧ q = (k, g + 2)) w w2 := by
    rw [h2]
    exact ((Kp.of_below h0).grown hg (fun g' hg' _ => .inr ⟨g', hg', hRF.chs.col g' hg'⟩)).setCell (fun _ => .inl hgc) _
  have e : Dk.change m x.n x.f y long = (0, { m with files := Dk.upd m.files x.n ⟨x.f.safe, x.f.chs ++ [y], y.app x.f.now⟩ }) := by
    unfold Dk.change; rw [hroom2]; rfl
  rw [e]
  obtain ⟨c', hc'⟩ : ∃ c' : Col, c' = fun b => if b < w.heap.size then c b else if v'.ownBlock = some b then (k, b + 2) else (0, 0) := ⟨_, rfl⟩
  have hcx : Cx w c c' := by intro b hb; rw [hc']; exact if_pos hb
  obtain ⟨x', hx'⟩ : ∃ x' : RFl, x' = ⟨x.n, ⟨x.f.safe, x.f.chs ++ [y], y.app x.f.now⟩, x.vs, v', x.L ++ [(y, vb)]⟩ := ⟨_, rfl⟩
  have hFo : w1.ownsRow 0 148 3 (.slice (some ⟨g, 0, none⟩) F.length kf) F.length (F.flatMap rfc) :=
    (ownsRow_kp (c := c) (q := (k, 1)) (S := S2F) D.files.own (fun g' hg' => D.files.col g' hg') (Kp.of_below h0) (fun h => h)).kept hg (.inr (fun h => hxg h.symm))
  refine ⟨rfl, c', hcx, hK.mono ?_, vk, vf, vu, .slice (some ⟨g, 0, none⟩) F.length kf, F.set i x', ?_⟩
  · rintro q (rfl | ⟨g', _, rfl⟩) <;> rfl
  have e3 : ({ m with files := Dk.upd m.files x.n ⟨x.f.safe, x.f.chs ++ [y], y.app x.f.now⟩ } : ADisk) = { m with files := Dk.upd m.files x.n x'.f } := by rw [hx']
  show RD' w2 c' k r { m with files := Dk.upd m.files x.n ⟨x.f.safe, x.f.chs ++ [y], y.app x.f.now⟩ } vk vf vu _ _
  rw [e3]
  refine D.file1 hx hK hcx ?_ ?_ ?_ (by rw [hx']) ?_
  · have := RFs.set1 hFo hx (x' := x') (by rw [hx']) (by rw [hx'])
    rw [hx'] at this ⊢
    rw [h2]; exact this
  · rw [hx']
    refine ⟨hRF.safe.kp hK nP0 hcx, ?_, ⟨?_, ?_, ?_⟩, ?_⟩
    · show (x.L ++ [(y, vb)]).map (·.1) = x.f.chs ++ [y]
      rw [List.map_append, hRF.fst]; rfl
    · show w2.ownsRow 0 152 4 v' (x.L ++ [(y, vb)]).length ((x.L ++ [(y, vb)]).flatMap rch)
      rw [h2, List.flatMap_append, List.length_append]
      have : [(y, vb)].flatMap rch = rch (y, vb) := by simp
      rw [this]
      exact ownsRow_setCell_other h1 hvg _
    · intro p hp
      rcases List.mem_append.1 hp with hp | hp
      · exact (hRF.chs.data p hp).kp hK nP0 hcx
      · rw [List.mem_singleton] at hp; subst hp
        exact hv.kp hK nP0 hcx
    · intro g' hg'
      have hg' : v'.ownBlock = some g' := hg'
      rcases hv' g' hg' with h | h
      · rw [hcx g' (hxl g' h)]; exact hRF.chs.col g' h
      · rw [hc']
        show (if g' < w.heap.size then _ else _) = _
        rw [if_neg (by omega), if_pos hg']
    · show y.app x.f.now = (x.f.chs ++ [y]).foldl _ x.f.safe
      rw [List.foldl_append, ← hRF.fold]
      rfl
  · intro g' hg'
    rw [hx'] at hg'
    rcases hv' g' hg' with h | h
    · exact .inl h
    · exact .inr (by omega)
  · rw [hx']
    refine ⟨hfok.safe, app_ok hok hfok.now, ?_, ?_⟩
    · intro y' hy'
      rcases List.mem_append.1 hy' with h | h
      · exact hfok.chs y' h
      · rw [List.mem_singleton] at h; subst h; exact hok
    · show (x.f.chs ++ [y]).length ≤ _
      rw [List.length_append]; exact hmany
set_option maxRecDepth 20000 in
set_option maxHeartbeats 4000000 in
theorem rchange_c (k r : Nat) (m : ADisk) (vk vf vu vF : Value) (F : List RFl) (w : World) (D : RD' w c k r m vk vf vu vF F) (hops : m.ops ≤ 1000000) {i : Nat} {x : RFl} (hx : F[i]? = some x) (y : Chg) (vb : Value) (hv : RCh w c (y, vb)) (hok : y.ok)
    (u0 u1 u2 u3 : Value) (hu : rch (y, vb) = [u0, u1, u2, u3]) (long : Int) (hl0 : 0 ≤ long) (hl1 : long ≤ 1073741824) (hmany : x.f.chs.length + 1 ≤ m.ops.toNat) :
    Calls Tryz.prog 79 #[ptr r, .int .i64 (i : Int), .agg #[u0, u1, u2, u3], .int .i64 long] w (RPost k r (Dk.change m x.n x.f y long) c w) := by
  have hrl := D.lt
  have hlen := D.len
  have hlt : i < F.length := (List.getElem?_eq_some_iff.1 hx).1
  have hfok := D.fok (List.mem_of_getElem? hx)
  have hnok := D.nok (List.mem_of_getElem? hx)
  obtain ⟨g, kf, e, -⟩ := own_pos D.files.own (by omega)
  subst e
  obtain ⟨b0, b1, b2, b3a, b3n, b3k, hu'⟩ := rch_cells hv
  rw [hu] at hu'
  simp only [List.cons.injEq, and_true] at hu'
  obtain ⟨rfl, rfl, rfl, rfl⟩ := hu'
  have hnl : (x.f.now.length : Int) ≤ 268435456 := by have := hfok.now; unfold maxFile at this; omega
  have hgl : g < w.heap.size := ownBlock_lt D.files.own g rfl
  have hlt' : (i : Int) < (F.length : Int) := by omega
  have hi0 : (0 : Int) ≤ (i : Int) := by omega
  have hlen' : (F.length : Int) ≤ 4096 := by omega
  have HD := Lib.hid D; clear D
  have HX := Lib.hid hx; clear hx
  have HV := Lib.hid hv; clear hv
  have HOK := Lib.hid hok; clear hok
  have HO := Lib.hid hops; clear hops
  have HU := Lib.hid hu; clear hu
  have HMANY := Lib.hid hmany; clear hmany
  have HFOK := Lib.hid hfok; clear hfok
  have HNOK := Lib.hid hnok; clear hnok
  have HDat : Hid (∀ W, Below w.heap.size w W → RD' W c k r m vk vf vu (.slice (some ⟨g, 0, none⟩) F.length kf) F) := fun W hW => HD.out.kp (S := S2F) (Kp.of_below hW) (fun _ h => h.elim) (Cx.refl _ _)
  obtain ⟨W, hW⟩ : ∃ W, W = w.alloc (.cells #[.bool b0, .int .i64 b1, .int .i64 b2, .slice b3a b3n b3k] 152) := ⟨_, rfl⟩
  have BW : Hid (Below w.heap.size w W) := by rw [hW]; exact (Below.refl _ w).alloc (Nat.le_refl _) _
  have HP : Hid (W.heap[w.heap.size]? = some (.cells #[.bool b0, .int .i64 b1, .int .i64 b2, .slice b3a b3n b3k] 152 (0, 0))) := by rw [hW]; exact heap_alloc_new _ _
  have HWs : Hid (W.heap.size = w.heap.size + 1) := by rw [hW]; simp [Hid]
  have HW := Lib.hid hW; clear hW
  have hD0 := HD.out
  have hr5 := hD0.c5
  obtain ⟨g2, cap2, e2, -, -, -, f0, f1, f2, -⟩ := hD0.files.cells HX.out
  injection e2 with e3 e5 e4
  injection e3 with e3
  injection e3 with e3 e6
  clear e5 e6 hD0
  subst e3 e4
  unfold str at f0
  have hRF := HD.out.files.each x (List.mem_of_getElem? HX.out)
  obtain ⟨asx, ksx, evs, -⟩ := id hRF.safe
  obtain ⟨avc, kvc, evc⟩ := own_shape hRF.chs.own
  rw [List.length_map] at evs
  have hdc := data_c (c := c) k x W ((HDat.out _ BW.out).files.each x (List.mem_of_getElem? HX.out)) HFOK.out (by have := HO.out; omega) HNOK.out
  rw [evs] at f1 hdc
  rw [evc] at f2 hdc
  have HDC := Lib.hid hdc; clear hdc
  have HEC := Lib.hid evc; clear evc evs hRF
  unfold ptr
  by_cases hroom : rroom m (long - (x.f.now.length : Int)) = true
  · go_enter Tryz.func79, Tryz.ntmps79
    go_wp2_with (first
      | (go_at_call 78; rw [← HW.out]; refine HDC.out.mono ?_; rintro e w2 ⟨v2, rfl, hown2, hb2⟩; have HB2 := Lib.hid (BW.out.trans (hb2.mono BW.out.size)); have HP2 := Lib.hid ((hb2.block w.heap.size (by rw [HWs.out]; omega)).trans HP.out); clear hb2; obtain ⟨a2, cap2, rfl⟩ := own_shape hown2; clear hown2; clear hr5 f0 f1 f2)
      | (go_at_call 126; refine (rroom_c k r m vk vf vu _ F _ (HDat.out _ HB2.out) HO.out _ (by omega) (by omega)).mono ?_; rintro e w3 ⟨rfl, hb3⟩; have HB3 := Lib.hid (HB2.out.trans (hb3.mono HB2.out.size)); have HP3 := Lib.hid ((hb3.block w.heap.size (lt_of_heap HP2.out)).trans HP2.out); clear hb3))
    have HRM := Lib.hid hroom; clear hroom
    obtain ⟨W3, rfl⟩ : ∃ W3, W3 = w3 := ⟨_, rfl⟩
    have hD3 := HDat.out _ (HB3.out)
    have hr5 := hD3.c5
    obtain ⟨g2, cap2, e2, -, -, -, f0, f1, f2, f3⟩ := hD3.files.cells HX.out
    injection e2 with e3 e5 e4
    injection e3 with e3
    injection e3 with e3 e6
    clear e5 e6
    subst e3 e4
    have hf2 : W3.cell? ⟨g, i * 3 + 2, none⟩ = some (.slice avc x.L.length kvc) := by rw [← HEC.out]; exact f2
    have hS0 := Lib.hid (show (fun X : World => X.cell? ⟨r, 5, none⟩ = some (.slice (some ⟨g, 0, none⟩) F.length kf) ∧ X.cell? ⟨g, i * 3 + 2, none⟩ = some (.slice avc x.L.length kvc) ∧ X.cell? ⟨w.heap.size, 0, none⟩ = some (.bool b0) ∧ X.cell? ⟨w.heap.size, 1, none⟩ = some (.int .i64 b1) ∧ X.cell? ⟨w.heap.size, 2, none⟩ = some (.int .i64 b2) ∧ X.cell? ⟨w.heap.size, 3, none⟩ = some (.slice b3a b3n b3k)) W3.drew from
      ⟨hr5, hf2, cell_of_heap HP3.out 0, cell_of_heap HP3.out 1, cell_of_heap HP3.out 2, cell_of_heap HP3.out 3⟩)
    obtain ⟨i0, hi0', hz0, hz1, hz2⟩ := info_parts info_rchange
    have HNE := Lib.hid (show ∀ g', (Value.slice avc x.L.length kvc).ownBlock = some g' → g' ≠ r ∧ g' ≠ g ∧ g' < w.heap.size by
      intro g' hg'
      rw [← HEC.out] at hg'
      have hRF := HD.out.files.each x (List.mem_of_getElem? HX.out)
      have h1 := hRF.chs.col g' hg'
      have h2 := ownBlock_lt hRF.chs.own g' hg'
      have h3 := HD.out.files.col g rfl
      refine ⟨fun e => ?_, fun e => ?_, h2⟩
      · rw [e, HD.out.col] at h1; simp at h1
      · rw [e, h3] at h1; simp at h1)
    have HF3 := Lib.hid (show ((W3.alloc (.cells #[.bool b0, .int .i64 b1, .int .i64 b2, .slice b3a b3n b3k] 152)).drew).frozen? ⟨g, i * 3 + 2, none⟩ = false from ((Below.refl W3.heap.size W3).alloc (Nat.le_refl _) _).frozen (p := ⟨g, i * 3 + 2, none⟩) (World.block_lt_of_cell? _ _ f2) |>.trans (f3 _))
    have HL3 := Lib.hid (HB3.out.size)
    have HOW := Lib.hid (show (W3.alloc (.cells #[.bool b0, .int .i64 b1, .int .i64 b2, .slice b3a b3n b3k] 152)).drew.ownsRow 0 152 4 (.slice avc x.L.length kvc) x.L.length (x.L.flatMap rch) from owns_alloc (by rw [← HEC.out]; exact (hD3.files.each x (List.mem_of_getElem? HX.out)).chs.own) _)
    have hxl : x.L.length = x.f.chs.length := by rw [← (hD3.files.each x (List.mem_of_getElem? HX.out)).fst, List.length_map]
    have hxm : x.L.length + 1 ≤ 1000000 := by have h1 := HMANY.out; have h2 := HO.out; omega
    have HB1 := Lib.hid (show x.L.length + 1 ≤ maxLen by unfold maxLen; omega)
    have HB2' := Lib.hid (show (x.L.length + 1) * 48 ≤ 140737488355328 by omega)
    clear hr5 f0 f1 f2 f3 hf2 hD3 hxl hxm
    refine wp_region_G (fun X : World => X.cell? ⟨r, 5, none⟩ = some (.slice (some ⟨g, 0, none⟩) F.length kf) ∧ X.cell? ⟨g, i * 3 + 2, none⟩ = some (.slice avc x.L.length kvc) ∧ X.cell? ⟨w.heap.size, 0, none⟩ = some (.bool b0) ∧ X.cell? ⟨w.heap.size, 1, none⟩ = some (.int .i64 b1) ∧ X.cell? ⟨w.heap.size, 2, none⟩ = some (.int .i64 b2) ∧ X.cell? ⟨w.heap.size, 3, none⟩ = some (.slice b3a b3n b3k)) 18 rfl ?_
    refine wpAnyG_take (i := 0) (oi := _) (v := .pointer (some ⟨r, 0, none⟩)) rfl (by kernel_rfl) (by kernel_rfl) (by kernel_rfl) (by kernel_rfl) (by kernel_rfl) (by kernel_rfl) (fun _ _ _ h => h) (Or.inl ⟨by rfl, fun X hX => ?_⟩) hS0.out ?_
    · obtain ⟨x1, x2, x3, x4, x5, x6⟩ := hX
      go_simp
    simp only [Act.put, List.setIfInBounds_toArray]
    refine wpAnyG_take (i := 1) (oi := _) (v := .pointer (some ⟨r, 0, none⟩)) rfl (by kernel_rfl) (by kernel_rfl) (by kernel_rfl) (by kernel_rfl) (by kernel_rfl) (by kernel_rfl) (fun _ _ _ h => h) (Or.inl ⟨by rfl, fun X hX => ?_⟩) hS0.out ?_
    · obtain ⟨x1, x2, x3, x4, x5, x6⟩ := hX
      go_simp
    simp only [Act.put]
    refine wpAnyG_take (i := 2) (oi := _) (v := .pointer (some ⟨r, 5, none⟩)) rfl (by kernel_rfl) (by kernel_rfl) (by kernel_rfl) (by kernel_rfl) (by kernel_rfl) (by kernel_rfl) (fun _ _ _ h => h) (Or.inl ⟨by rfl, fun X hX => ?_⟩) hS0.out ?_
    · obtain ⟨x1, x2, x3, x4, x5, x6⟩ := hX
      go_simp
    simp only [Act.put]
    refine wpAnyG_take (i := 3) (oi := _) (v := .slice (some ⟨g, 0, none⟩) F.length kf) rfl (by kernel_rfl) (by kernel_rfl) (by kernel_rfl) (by kernel_rfl) (by kernel_rfl) (by kernel_rfl) (fun _ _ _ h => h) (Or.inl ⟨by rfl, fun X hX => ?_⟩) hS0.out ?_
    · obtain ⟨x1, x2, x3, x4, x5, x6⟩ := hX
      go_simp
    simp only [Act.put]
    refine wpAnyG_take (i := 4) (oi := _) (v := .int .i64 (i : Int)) rfl (by kernel_rfl) (by kernel_rfl) (by kernel_rfl) (by kernel_rfl) (by kernel_rfl) (by kernel_rfl) (fun _ _ _ h => h) (Or.inl ⟨by rfl, fun X hX => ?_⟩) hS0.out ?_
    · obtain ⟨x1, x2, x3, x4, x5, x6⟩ := hX
      go_simp
    simp only [Act.put]
    refine wpAnyG_take (i := 5) (oi := _) (v := .pointer (some ⟨r, 0, none⟩)) rfl (by kernel_rfl) (by kernel_rfl) (by kernel_rfl) (by kernel_rfl) (by kernel_rfl) (by kernel_rfl) (fun _ _ _ h => h) (Or.inl ⟨by rfl, fun X hX => ?_⟩) hS0.out ?_
    · obtain ⟨x1, x2, x3, x4, x5, x6⟩ := hX
      go_simp
    simp only [Act.put]
    refine wpAnyG_take (i := 6) (oi := _) (v := .pointer (some ⟨r, 0, none⟩)) rfl (by kernel_rfl) (by kernel_rfl) (by kernel_rfl) (by kernel_rfl) (by kernel_rfl) (by kernel_rfl) (fun _ _ _ h => h) (Or.inl ⟨by rfl, fun X hX => ?_⟩) hS0.out ?_
    · obtain ⟨x1, x2, x3, x4, x5, x6⟩ := hX
      go_simp
    simp only [Act.put]
    refine wpAnyG_take (i := 7) (oi := _) (v := .pointer (some ⟨r, 5, none⟩)) rfl (by kernel_rfl) (by kernel_rfl) (by kernel_rfl) (by kernel_rfl) (by kernel_rfl) (by kernel_rfl) (fun _ _ _ h => h) (Or.inl ⟨by rfl, fun X hX => ?_⟩) hS0.out ?_
    · obtain ⟨x1, x2, x3, x4, x5, x6⟩ := hX
      go_simp
    simp only [Act.put]
    refine wpAnyG_take (i := 8) (oi := _) (v := .slice (some ⟨g, 0, none⟩) F.length kf) rfl (by kernel_rfl) (by kernel_rfl) (by kernel_rfl) (by kernel_rfl) (by kernel_rfl) (by kernel_rfl) (fun _ _ _ h => h) (Or.inl ⟨by rfl, fun X hX => ?_⟩) hS0.out ?_
    · obtain ⟨x1, x2, x3, x4, x5, x6⟩ := hX
      go_simp
    simp only [Act.put]
    refine wpAnyG_take (i := 9) (oi := _) (v := .int .i64 (i : Int)) rfl (by kernel_rfl) (by kernel_rfl) (by kernel_rfl) (by kernel_rfl) (by kernel_rfl) (by kernel_rfl) (fun _ _ _ h => h) (Or.inl ⟨by rfl, fun X hX => ?_⟩) hS0.out ?_
    · obtain ⟨x1, x2, x3, x4, x5, x6⟩ := hX
      go_simp
    simp only [Act.put]
    refine wpAnyG_take (i := 10) (oi := _) (v := .pointer (some ⟨g, i * 3, none⟩)) rfl (by kernel_rfl) (by kernel_rfl) (by kernel_rfl) (by kernel_rfl) (by kernel_rfl) (by kernel_rfl) (fun _ _ _ h => h) (Or.inl ⟨by rfl, fun X hX => ?_⟩) hS0.out ?_
    · obtain ⟨x1, x2, x3, x4, x5, x6⟩ := hX
      go_simp
    simp only [Act.put]
    refine wpAnyG_take (i := 11) (oi := _) (v := .pointer (some ⟨g, i * 3 + 2, none⟩)) rfl (by kernel_rfl) (by kernel_rfl) (by kernel_rfl) (by kernel_rfl) (by kernel_rfl) (by kernel_rfl) (fun _ _ _ h => h) (Or.inl ⟨by rfl, fun X hX => ?_⟩) hS0.out ?_
    · obtain ⟨x1, x2, x3, x4, x5, x6⟩ := hX
      go_simp
    simp only [Act.put]
    refine wpAnyG_take (i := 12) (oi := _) (v := .slice avc x.L.length kvc) rfl (by kernel_rfl) (by kernel_rfl) (by kernel_rfl) (by kernel_rfl) (by kernel_rfl) (by kernel_rfl) (fun _ _ _ h => h) (Or.inl ⟨by rfl, fun X hX => ?_⟩) hS0.out ?_
    · obtain ⟨x1, x2, x3, x4, x5, x6⟩ := hX
      go_simp
    simp only [Act.put]
    refine wpAnyG_take (i := 13) (oi := _) (v := .agg #[.bool b0, .int .i64 b1, .int .i64 b2, .slice b3a b3n b3k]) rfl (by kernel_rfl) (by kernel_rfl) (by kernel_rfl) (by kernel_rfl) (by kernel_rfl) (by kernel_rfl) (fun _ _ _ h => h) (Or.inl ⟨by rfl, fun X hX => ?_⟩) hS0.out ?_
    · obtain ⟨x1, x2, x3, x4, x5, x6⟩ := hX
      go_simp
    simp only [Act.put]
    refine wpAnyG_one (i := 14) (by kernel_rfl) rfl (fun K' hK' => ?_)
    go_simp
    have HS1 := Lib.hid (show (fun X : World => X.cell? ⟨r, 5, none⟩ = some (.slice (some ⟨g, 0, none⟩) F.length kf) ∧ X.cell? ⟨g, i * 3 + 2, none⟩ = some (.slice avc x.L.length kvc) ∧ X.cell? ⟨w.heap.size, 0, none⟩ = some (.bool b0) ∧ X.cell? ⟨w.heap.size, 1, none⟩ = some (.int .i64 b1) ∧ X.cell? ⟨w.heap.size, 2, none⟩ = some (.int .i64 b2) ∧ X.cell? ⟨w.heap.size, 3, none⟩ = some (.slice b3a b3n b3k)) (W3.alloc (.cells #[.bool b0, .int .i64 b1, .int .i64 b2, .slice b3a b3n b3k] 152)).drew from
      ⟨alloc_keep hS0.out.1, alloc_keep hS0.out.2.1, alloc_keep hS0.out.2.2.1, alloc_keep hS0.out.2.2.2.1, alloc_keep hS0.out.2.2.2.2.1, alloc_keep hS0.out.2.2.2.2.2⟩)
    refine hK'.out _ _ (fun _ => HS1.out) ?_
    refine wpAnyG_one (i := 15) (by kernel_rfl) rfl (fun K' hK' => ?_)
    refine step_append_lies' rfl (.tmp 35) (.tmp 37) 146 rfl 152 i0 (.agg #[.bool false, .int .i64 0, .int .i64 0, .slice none 0 0]) 4 48 Tryz.underlying146 hi0' hz0 hz1 hz2 rfl (by decide) (.slice avc x.L.length kvc) x.L.length (x.L.flatMap rch) (by rfl) HOW.out ⟨W3.heap.size, 0, none⟩ 1 1 [.bool b0, .int .i64 b1, .int .i64 b2, .slice b3a b3n b3k] (by rfl) rfl (World.news_of_block (cs := #[.bool b0, .int .i64 b1, .int .i64 b2, .slice b3a b3n b3k]) (t := 152) (fr := (0, 0)) (heap_alloc_new W3 _)) (by simp [Value.oneCell']) HB1.out HB2'.out (fun av kv2 w1 hown1 hgrow hv1 => ?_)
    have hne := HNE.out
    have hne2 : ∀ b, b = r ∨ b = g ∨ b = w.heap.size → some b ≠ (Value.slice avc x.L.length kvc).ownBlock := by
      intro b hb e
      have := hne b e.symm
      omega
    have hS1 := HS1.out
    have hl1 := HL3.out
    have hS0 := Lib.hid (show (fun X : World => X.cell? ⟨r, 5, none⟩ = some (.slice (some ⟨g, 0, none⟩) F.length kf) ∧ X.cell? ⟨g, i * 3 + 2, none⟩ = some (.slice avc x.L.length kvc) ∧ X.cell? ⟨w.heap.size, 0, none⟩ = some (.bool b0) ∧ X.cell? ⟨w.heap.size, 1, none⟩ = some (.int .i64 b1) ∧ X.cell? ⟨w.heap.size, 2, none⟩ = some (.int .i64 b2) ∧ X.cell? ⟨w.heap.size, 3, none⟩ = some (.slice b3a b3n b3k)) w1 from
      ⟨(hgrow.cell_far _ (World.block_lt_of_cell? _ _ hS1.1) (hne2 _ (.inl rfl))).trans hS1.1, (hgrow.cell_far _ (World.block_lt_of_cell? _ _ hS1.2.1) (hne2 _ (.inr (.inl rfl)))).trans hS1.2.1,
       (hgrow.cell_far _ (World.block_lt_of_cell? _ _ hS1.2.2.1) (hne2 _ (.inr (.inr rfl)))).trans hS1.2.2.1, (hgrow.cell_far _ (World.block_lt_of_cell? _ _ hS1.2.2.2.1) (hne2 _ (.inr (.inr rfl)))).trans hS1.2.2.2.1,
       (hgrow.cell_far _ (World.block_lt_of_cell? _ _ hS1.2.2.2.2.1) (hne2 _ (.inr (.inr rfl)))).trans hS1.2.2.2.2.1, (hgrow.cell_far _ (World.block_lt_of_cell? _ _ hS1.2.2.2.2.2) (hne2 _ (.inr (.inr rfl)))).trans hS1.2.2.2.2.2⟩)
    have hfz : w1.frozen? ⟨g, i * 3 + 2, none⟩ = false := (hgrow.frozen_far ⟨g, i * 3 + 2, none⟩ (World.block_lt_of_cell? _ _ hS1.2.1) (hne2 _ (.inr (.inl rfl)))).trans HF3.out
    have hg2 : w1.cell? ⟨g, i * 3 + 2, none⟩ = some (.slice avc x.L.length kvc) := hS0.out.2.1
    have HGR := Lib.hid hgrow
    have HOW1 := Lib.hid hown1
    have HV1 := Lib.hid hv1
    clear hgrow hown1 hv1 hne hne2 hS1 hl1
    refine hK'.out _ _ (fun _ => hS0.out) ?_
    refine wpAnyG_take (i := 16) (oi := _) (v := .pointer (some ⟨g, i * 3, none⟩)) rfl (by kernel_rfl) (by kernel_rfl) (by kernel_rfl) (by kernel_rfl) (by kernel_rfl) (by kernel_rfl) (fun _ _ _ h => h) (Or.inl ⟨by rfl, fun X hX => ?_⟩) hS0.out ?_
    · obtain ⟨x1, x2, x3, x4, x5, x6⟩ := hX
      go_simp
    simp only [Act.put]
    refine wpAnyG_take (i := 17) (oi := _) (v := .pointer (some ⟨g, i * 3 + 2, none⟩)) rfl (by kernel_rfl) (by kernel_rfl) (by kernel_rfl) (by kernel_rfl) (by kernel_rfl) (by kernel_rfl) (fun _ _ _ h => h) (Or.inl ⟨by rfl, fun X hX => ?_⟩) hS0.out ?_
    · obtain ⟨x1, x2, x3, x4, x5, x6⟩ := hX
      go_simp
    simp only [Act.put]
    refine wpAnyG_one (i := 18) (by kernel_rfl) rfl (fun K' hK' => ?_)
    go_simp
    refine hK'.out _ _ (fun h => absurd h (by decide)) ?_
    refine wpAnyG_done (by kernel_rfl) ?_
    go_wp2
    go_ret
    refine change_end (w0 := (W3.alloc (.cells #[.bool b0, .int .i64 b1, .int .i64 b2, .slice b3a b3n b3k] 152)).drew) (w1 := w1) (vb := vb) HD.out HX.out HV.out HOK.out HMANY.out HRM.out ?_ ?_ ?_ ?_ rfl
    · exact bdrewN (HB3.out.alloc HL3.out _) 1
    · rw [HU.out]; exact HOW1.out
    · rw [HEC.out]; exact HGR.out
    · rw [HEC.out]; exact HV1.out
  · have hroom : rroom m (long - (x.f.now.length : Int)) = false := by simpa using hroom
    go_enter Tryz.func79, Tryz.ntmps79
    go_wp2_with (first
      | (go_at_call 78; rw [← HW.out]; refine HDC.out.mono ?_; rintro e w2 ⟨v2, rfl, hown2, hb2⟩; have HB2 := Lib.hid (BW.out.trans (hb2.mono BW.out.size)); have HP2 := Lib.hid ((hb2.block w.heap.size (by rw [HWs.out]; omega)).trans HP.out); clear hb2; obtain ⟨a2, cap2, rfl⟩ := own_shape hown2; clear hown2; clear hr5 f0 f1 f2)
      | (go_at_call 126; refine (rroom_c k r m vk vf vu _ F _ (HDat.out _ HB2.out) HO.out _ (by omega) (by omega)).mono ?_; rintro e w3 ⟨rfl, hb3⟩; have HB3 := Lib.hid (HB2.out.trans (hb3.mono HB2.out.size)); have HP3 := Lib.hid ((hb3.block w.heap.size (lt_of_heap HP2.out)).trans HP2.out); clear hb3))
    have HRM := Lib.hid hroom; clear hroom
    go_ret
    have e : Dk.change m x.n x.f y long = (12, m) := by
      have h := rroom_room m x.f.now.length long
      rw [HRM.out] at h
      unfold Dk.change
      rw [h]; rfl
    rw [e]
    exact ⟨rfl, c, Cx.refl _ _, Kp.of_below HB3.out, vk, vf, vu, _, F, HDat.out _ HB3.out⟩
end Go.Proofs.YtnifmoigalmcmaaGreat
