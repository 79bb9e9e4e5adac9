/- The document's disk dies: what survives of each file. -/
import Derived.Test.YtnifmoigalmcmaaGreatRj
import Derived.Test.YtnifmoigalmcmaaGreatK
import Derived.Deep.DeepCutAuto
namespace Go.Proofs.YtnifmoigalmcmaaGreat
open Go Go.RowKit Go.MapKept Go.Maps
open Dk
variable {c c' : Col} {S : Nat × Nat → Prop} {w w' : World} {q : Nat × Nat}
theorem wrap_small {n : Int} (h0 : 0 ≤ n) (h : n ≤ 1099511627777) : wrap64 n = n := by unfold wrap64; omega
def DiePost (w : World) (c : Col) (k r : Nat) (m : ADisk) (e : Ending) (w' : World) : Prop :=
  e = .returned (.tuple #[]) ∧ ∃ c', Cx w c c' ∧ Kp c (fun q => q.1 = k) w w' ∧ RD w' c' k r (Dk.die m)
theorem dieFile_ok {p : APlan} {N0 : Nat} {f : AFile} {K : Nat} (h : f.ok K) (j : Nat) : (dieFile p N0 f.safe (f.chs.take j)).length ≤ maxFile :=
  dieFile_len p _ _ _ h.safe fun y hy => h.chs y (List.mem_of_mem_take hy)
theorem cnt_lim {k r : Nat} {m : ADisk} {vk vf vu vF : Value} {F : List RFl} (D : RD' w c k r m vk vf vu vF F) (hops : m.ops ≤ 1000000) (i j : Nat) (hj : j ≤ 1000000) : ((cnt (m.files.take i) + j : Nat) : Int) ≤ 1099511627776 := by
  have h1 := cnt_le (K := m.ops.toNat) (fs := m.files.take i) fun y hy => (D.ok.files y (List.mem_of_mem_take hy)).many
  have h2 : (m.files.take i).length ≤ 4096 := by rw [List.length_take]; have := D.ok.many; omega
  have h3 : m.ops.toNat ≤ 1000000 := by omega
  have h4 : (m.files.take i).length * m.ops.toNat ≤ 4096 * 1000000 := Nat.mul_le_mul h2 h3
  omega
set_option maxRecDepth 20000 in
set_option maxHeartbeats 4000000 in
theorem rdie_c (k r : Nat) (m : ADisk) (vk vf vu vF : Value) (F : List RFl) (w : World) (D : RD' w c k r m vk vf vu vF F) (hk0 : k ≠ 0) (hops : m.ops ≤ 1000000) :
    Calls Tryz.prog 83 #[ptr r] w (DiePost w c k r m) := by
  have hc5 := D.c5
  have hlen := D.len
  have hrl := D.lt
  have HK0 := Lib.hid hk0; clear hk0
  have HO := Lib.hid hops
  have HD := Lib.hid D
  obtain ⟨af, kf, e⟩ := D.files.shape
  rw [e] at hc5
  clear D
  unfold ptr
  have hlen' : (F.length : Int) ≤ 4096 := by omega
  go_enter Tryz.func83, Tryz.ntmps83
  go_wp2
  clear hc5
  go_loopw [2, 14] (fun n s wr => ∃ i : Nat, i ≤ F.length ∧ s = .int .i64 i ∧ n = .int .i64 (bx m.plan (cnt (m.files.take i))) ∧ DOut w c k m.plan m.files vF F i wr) (fun _ s _ => F.length - (intOf s).toNat)
  case atStart =>
    refine ⟨0, Nat.zero_le _, rfl, by simp [bx, cnt], ⟨⟨c, F, Cx.refl _ _, HD.out.files, rfl, rfl, ?_⟩, Kp.refl _ _ _⟩⟩
    rw [HD.out.names]; rfl
  case round =>
    obtain ⟨i, hi, rfl, rfl, I⟩ := hrel
    obtain ⟨W, rfl⟩ : ∃ W, W = wr := ⟨_, rfl⟩
    have HI := Lib.hid I; clear I
    by_cases hlt : i < F.length
    · obtain ⟨x, hx⟩ : ∃ x, F[i]? = some x := ⟨F[i], List.getElem?_eq_getElem hlt⟩
      obtain ⟨ci, Fi, hci, hfs, hfl, hdr, hfm⟩ := HI.out.ex
      have hxi : Fi[i]? = some x := by
        have h1 : (Fi.drop i)[0]? = some x := by rw [hdr, List.getElem?_drop]; exact hx
        rw [List.getElem?_drop] at h1; exact h1
      obtain ⟨g, cap, e2, hlc, hcm, hgc, f0, f1, f2, f3⟩ := hfs.cells hxi
      rw [e] at e2
      injection e2 with e3 e5 e4
      clear e5
      subst e3 e4
      have hr5 : W.cell? ⟨r, 5, none⟩ = some (.slice (some ⟨g, 0, none⟩) F.length kf) := by
        have := HI.out.kp.cell HD.out.c5 (by rw [HD.out.col]; simp)
        rwa [e] at this
      have hr1 := HI.out.kp.cell HD.out.c1 (by rw [HD.out.col]; simp)
      have hfok := HD.out.fok (List.mem_of_getElem? hx)
      have hRF := hfs.each x (List.mem_of_getElem? hxi)
      obtain ⟨asx, ksx, evs, -⟩ := id hRF.safe
      obtain ⟨avc, kvc, evc⟩ := own_shape hRF.chs.own
      have hfll : x.L.length = x.f.chs.length := by rw [← hRF.fst, List.length_map]
      rw [List.length_map] at evs
      rw [hfll] at evc
      have hmany : (x.f.chs.length : Int) ≤ 1000000 := by have := hfok.many; omega
      have hgl : g < W.heap.size := World.block_lt_of_cell? _ _ f1
      have hrl2 : r < W.heap.size := World.block_lt_of_cell? _ _ hr5
      have hns : x.f.safe.length ≤ lim := lim_file hfok.safe
      have HFI := Lib.hid (show Cx w c ci ∧ RFs W ci k vF Fi ∧ Fi.length = F.length ∧ Fi.drop i = F.drop i ∧ Fi.map (fun x => (x.n, x.f)) = dieAll m.plan 0 (m.files.take i) ++ m.files.drop i from ⟨hci, hfs, hfl, hdr, hfm⟩)
      clear hci hfs hfl hdr hfm
      have HX := Lib.hid hx; clear hx
      have HXI := Lib.hid hxi; clear hxi
      have HE := Lib.hid e; clear e
      have HOK := Lib.hid hfok; clear hfok
      have HRF := Lib.hid hRF; clear hRF
      have HFLL := Lib.hid hfll; clear hfll
      have HGC := Lib.hid hgc; clear hgc
      have HNS := Lib.hid hns; clear hns
      rw [evs] at f1
      rw [evc] at f2
      have HES := Lib.hid evs; clear evs
      have HEC := Lib.hid evc; clear evc
      clear hlc hcm f0
      go_wp2_with (go_at_call 80; refine (rtwinc _ x.f.safe (by rw [← HES.out]; exact HRF.out.safe) HNS.out).mono ?_; rintro e w1 ⟨v1, rfl, hown1, hb1⟩; have HO1 := Lib.hid hown1; have HB1 := Lib.hid hb1; (have g2 := (bcell hb1).1 g (i * 3 + 2) hgl); clear hown1 hb1)
      clear g2
      go_loopw [5, 2, 33] (fun v n s w2 => ∃ j : Nat, j ≤ x.f.chs.length ∧ s = .int .i64 j ∧ n = .int .i64 (bx m.plan (cnt (m.files.take i) + j)) ∧ DInn W m.plan (cnt (m.files.take i)) x.f v j w2) (fun _ _ s _ => x.f.chs.length - (intOf s).toNat)
      case atStart => exact ⟨0, Nat.zero_le _, rfl, rfl, HO1.out, HB1.out⟩
      case round =>
        obtain ⟨j, hj, rfl, rfl, J⟩ := hrel
        have HJ := Lib.hid J; clear J
        obtain ⟨a5, k5, rfl⟩ := own_shape HJ.out.own
        by_cases hjl : j < x.f.chs.length
        · obtain ⟨p, hp⟩ : ∃ p, x.L[j]? = some p := ⟨_, List.getElem?_eq_getElem (by have := HFLL.out; omega)⟩
          have hy : x.f.chs[j]? = some p.1 := by rw [← HRF.out.fst, List.getElem?_map, hp]; rfl
          have hRF2 : RF wr ci k x := HRF.out.kp (Kp.of_below (S := S2F) HJ.out.blw) (fun h => h) (fun _ _ h => h) (Cx.refl _ _)
          have hpd := hRF2.chs.data p (List.mem_of_getElem? hp)
          have hyk := HOK.out.chs _ (List.mem_of_getElem? hy)
          obtain ⟨gc, capc, cu, cn, cl, ad, dn, dk, ec, he, c0, c1, c2, c3⟩ := hRF2.chs.cells hp
          rw [HEC.out] at ec
          injection ec with ec1 ec3 ec2
          clear ec3
          subst ec1 ec2
          have hgcl : gc < wr.heap.size := World.block_lt_of_cell? _ _ c0
          have hr1' := (HJ.out.blw.cell (p := ⟨r, 1, none⟩) hrl2).trans hr1
          have hrl3 : r < wr.heap.size := World.block_lt_of_cell? _ _ hr1'
          have HY := Lib.hid hy; clear hy
          have HP := Lib.hid hp; clear hp
          have HYK := Lib.hid hyk; clear hyk
          clear hRF2
          have HPD := Lib.hid hpd; clear hpd
          have hcnt := cnt_lim HD.out hops i j (by omega)
          by_cases hk0 : m.plan.keep.length = 0
          · obtain ⟨ak, kk, evk, -⟩ := id HD.out.plan.keep
            rw [List.length_map, hk0] at evk
            rw [evk] at hr1'
            have hka : keepAt m.plan (cnt (m.files.take i) + j) = 0 := by unfold keepAt; rw [if_pos hk0]
            have hbx : bx m.plan (cnt (m.files.take i) + j) = 0 := by unfold bx; rw [if_pos hk0]
            have hbx2 : bx m.plan (cnt (m.files.take i) + (j + 1)) = 0 := by unfold bx; rw [if_pos hk0]
            rw [hbx]
            have HBX := Lib.hid hbx2; clear hbx hbx2
            have HKA := Lib.hid hka; clear hka
            have HEVK := Lib.hid evk; clear evk
            clear hk0 hr1 f1 f2 f3 hcnt hr5
            obtain ⟨y, vb⟩ := p
            cases y with
            | wr at_ bs =>
              simp only [rch, List.cons.injEq, and_true] at he
              obtain ⟨e1, e2, e3, e4⟩ := he
              injection e1 with e1
              injection e2 with _ e2
              injection e3 with _ e3
              subst e1 e2 e3 e4
              obtain ⟨_, _, e5, hdl, hdm, -⟩ := id HPD.out
              injection e5 with e5 e6 e7
              subst e5 e7
              rw [List.length_map] at e6 hdl
              subst e6
              have hdl' : bs.length ≤ dk := hdl
              have hdm' : (dk : Int) ≤ 9223372036854775807 := by unfold maxLen at hdm; omega
              have hbl : (bs.length : Int) ≤ 268435456 := by have := HYK.out; simp only [Chg.ok, maxFile] at this; omega
              clear hdl hdm
              have ht0 : (0 : Int).tmod ((bs.length : Int) + 1) = 0 := by simp
              have hzb : ((bs.length : Int) + 1 == 0) = false := by rw [beq_eq_false_iff_ne]; omega
              go_wp2_with fail
              go_region
              go_wp2_with fail
              go_roundw
              case rel => exact ⟨j + 1, by omega, by go_num, by rw [HBX.out], HJ.out.same HY.out (by rw [HKA.out]; simp [Chg.surv]) (show Below wr.heap.size wr (World.drew _) from bdrewN ((Below.refl _ wr).alloc (Nat.le_refl _) _) 1)⟩
              case measure => simp [intOf]; omega
            | cut long =>
              simp only [rch, List.cons.injEq, and_true] at he
              obtain ⟨e1, e2, e3, e4⟩ := he
              injection e1 with e1
              injection e2 with _ e2
              injection e3 with _ e3
              subst e1 e2 e3
              injection e4 with e4 e5 e6
              subst e4 e5 e6
              go_wp2_with fail
              go_roundw
              case rel => exact ⟨j + 1, by omega, by go_num, by rw [HBX.out], HJ.out.same HY.out (by rw [HKA.out]; simp [Chg.surv]) ((Below.refl _ wr).alloc (Nat.le_refl _) _)⟩
              case measure => simp [intOf]; omega
          · have hk1 : 0 < m.plan.keep.length := by omega
            have hmod := Nat.mod_lt (cnt (m.files.take i) + j) hk1
            obtain ⟨rr, hrr⟩ : ∃ rr, rr = (cnt (m.files.take i) + j) % m.plan.keep.length := ⟨_, rfl⟩
            obtain ⟨N, hN⟩ : ∃ N, N = cnt (m.files.take i) + j := ⟨_, rfl⟩
            obtain ⟨kv, hkv⟩ : ∃ kv, kv = keepAt m.plan (cnt (m.files.take i) + j) := ⟨_, rfl⟩
            rcases HD.out.plan.keep.cases with ⟨_, hx0⟩ | ⟨b, o, capk, evk, hkl, hkm, hkb, hkc⟩
            · have : m.plan.keep = [] := by simpa using hx0
              rw [this] at hk1; cases hk1
            rw [List.length_map] at hkl evk
            have hkcell : wr.cell? ⟨b, o + rr, none⟩ = some (.int .i64 kv) := by
              have h1 : w.cell? ⟨b, o + rr, none⟩ = some (.int .i64 kv) := hkc rr _ (by rw [hrr, hkv, List.getElem?_map, keepAt_lt m.plan _ hk1]; rfl)
              have h2 : c b = (0, 0) := hkb (by intro e; have : m.plan.keep = [] := by simpa using e
                                                rw [this] at hk1; cases hk1)
              have h3 : W.cell? ⟨b, o + rr, none⟩ = some (.int .i64 kv) := HI.out.kp.cell h1 (by show ¬ (c b = (k, 1)); rw [h2]; exact nP1)
              exact (HJ.out.blw.cell (World.block_lt_of_cell? _ _ h3)).trans h3
            have hkbl : b < wr.heap.size := World.block_lt_of_cell? _ _ hkcell
            have hklen : (m.plan.keep.length : Int) ≤ 9223372036854775807 := by unfold maxLen at hkm; omega
            have hbx : bx m.plan (cnt (m.files.take i) + j) = (N : Int) := by unfold bx; rw [if_neg hk0, hN]
            have hbx2 : bx m.plan (cnt (m.files.take i) + (j + 1)) = (N : Int) + 1 := by unfold bx; rw [if_neg hk0, hN]; omega
            have ht : ((N : Int).tmod (m.plan.keep.length : Int)) = (rr : Int) := by rw [hrr, hN, Int.tmod_eq_emod_of_nonneg (by omega)]; rfl
            have hr0 : (rr : Int) < (m.plan.keep.length : Int) := by rw [hrr]; omega
            have hr00 : (0 : Int) ≤ (rr : Int) := by omega
            have hz : ((m.plan.keep.length : Int) == 0) = false := by rw [beq_eq_false_iff_ne]; omega
            have hzp : 0 < m.plan.keep.length := hk1
            have hn1 : (N : Int) + 1 ≤ 1099511627777 := by omega
            have hcap : m.plan.keep.length ≤ capk := hkl
            rw [evk] at hr1'
            rw [hbx]
            have HBX := Lib.hid hbx2; clear hbx hbx2
            have HKV := Lib.hid hkv; clear hkv
            have HRR := Lib.hid hrr; clear hrr
            have HNN := Lib.hid hN; clear hN
            have HEVK := Lib.hid evk; clear evk
            clear hmod hkm hkl hkb hkc hk0 hk1 hr1 f1 f2 f3 hcnt hr5
            obtain ⟨y, vb⟩ := p
            cases y with
            | wr at_ bs =>
              by_cases hneg : kv < 0
              · simp only [rch, List.cons.injEq, and_true] at he
                obtain ⟨e1, e2, e3, e4⟩ := he
                injection e1 with e1
                injection e2 with _ e2
                injection e3 with _ e3
                subst e1 e2 e3 e4
                have hge : (0 ≤ kv) = False := by simp; omega
                have HNEG := Lib.hid hneg; clear hneg
                go_wp2_with fail
                go_quiet (fail)
                have HBB := Lib.hid (show Below wr.heap.size wr ((wr.alloc (.cells #[.bool false, .int .i64 (at_ : Int), .int .i64 0, .slice ad dn dk] 152)).drewN nq) from bdrewN ((Below.refl _ wr).alloc (Nat.le_refl _) _) _)
                go_wp2_with (go_at_call 135; refine (apply_c (c := ci) (.wr at_ bs, .slice ad dn dk) _ _ _ _ rfl _ _ _ (HPD.out.kp (Kp.of_below (S := S2F) HBB.out) (fun h => h) (Cx.refl _ _)) (HJ.out.sc HBB.out) (dieFile_ok HOK.out j) HYK.out).mono ?_; rintro e w2 ⟨v2, rfl, hown2, hb2⟩; have HOW := Lib.hid hown2; have HBW := Lib.hid hb2; clear hown2 hb2)
                go_roundw
                case rel => exact ⟨j + 1, by omega, by go_num, by rw [HBX.out], HJ.out.more HY.out (by rw [← HKV.out]; simp [Chg.surv, HNEG.out]) HBB.out HOW.out HBW.out⟩
                case measure => simp [intOf]; omega
              · have hkv0 : 0 ≤ kv := by omega
                clear hneg
                obtain ⟨_, _, e5, hdl, hdm, -⟩ := id HPD.out
                simp only [rch, List.cons.injEq, and_true] at he
                obtain ⟨e1, e2, e3, e4⟩ := he
                subst e4
                injection e1 with e1
                injection e2 with _ e2
                injection e3 with _ e3
                subst e1 e2 e3
                injection e5 with e5 e6 e7
                subst e5 e7
                rw [List.length_map] at e6 hdl
                subst e6
                have hdl' : bs.length ≤ dk := hdl
                have hdm' : (dk : Int) ≤ 9223372036854775807 := by unfold maxLen at hdm; omega
                have hbl : (bs.length : Int) ≤ 268435456 := by have := HYK.out; simp only [Chg.ok, maxFile] at this; omega
                clear hdl hdm
                have hq0 : 0 ≤ kv % ((bs.length : Int) + 1) := Int.emod_nonneg _ (by omega)
                have hq1 : kv % ((bs.length : Int) + 1) < (bs.length : Int) + 1 := Int.emod_lt_of_pos _ (by omega)
                obtain ⟨n, hn⟩ : ∃ n : Nat, (n : Int) = kv % ((bs.length : Int) + 1) := ⟨(kv % ((bs.length : Int) + 1)).toNat, by omega⟩
                have ht0 : kv.tmod ((bs.length : Int) + 1) = (n : Int) := by rw [hn]; exact Int.tmod_eq_emod_of_nonneg hkv0
                have hnb : (n : Int) ≤ (bs.length : Int) := by omega
                have hnd : (n : Int) ≤ (dk : Int) := by omega
                have hn2 : (kv % ((bs.length : Int) + 1)).toNat = n := by omega
                have HN2 := Lib.hid hn2; clear hn2 hn hq0 hq1
                have HKV0 := Lib.hid hkv0
                have hzb : ((bs.length : Int) + 1 == 0) = false := by rw [beq_eq_false_iff_ne]; omega
                have hsv : Hid ((Chg.wr at_ bs).surv (keepAt m.plan (cnt (m.files.take i) + j)) = if n = 0 then none else some (.wr at_ (bs.take n))) := by
                  show _ = _
                  rw [← HKV.out]
                  have := HKV0.out
                  simp only [Chg.surv]
                  rw [if_neg (by omega), HN2.out]
                by_cases hn0 : n = 0
                · subst hn0
                  go_wp2_with fail
                  go_quiet (fail)
                  go_wp2_with fail
                  go_region
                  go_wp2_with fail
                  clear ht0 hzb ht
                  go_roundw
                  case rel => exact ⟨j + 1, by omega, by go_num, by rw [HBX.out], HJ.out.same HY.out (by rw [hsv.out]; simp) ((bdrewN ((Below.refl _ wr).alloc (Nat.le_refl _) _) _).setCell (Nat.le_refl _) _)⟩
                  case measure => simp [intOf]; omega
                · have hnz : ((n : Int) == 0) = false := by rw [beq_eq_false_iff_ne]; omega
                  have hsc : Hid (Sc wr ci (0, 0) (.slice ad n dk) ((bs.take n).map bv)) := by
                    have h : Sc wr ci (0, 0) (.slice ad (bs.map bv).length dk) (bs.map bv) := by rw [List.length_map]; exact HPD.out
                    have h2 := h.take n (by rw [List.length_map]; omega)
                    rwa [← List.map_take] at h2
                  have hok2 : Hid ((Chg.wr at_ (bs.take n)).ok) := by
                    have := HYK.out
                    simp only [Chg.ok, List.length_take, Hid] at *; omega
                  go_wp2_with fail
                  go_quiet (fail)
                  go_wp2_with fail
                  go_region
                  have HBB := Lib.hid (show Below wr.heap.size wr (((wr.alloc (.cells #[.bool false, .int .i64 (at_ : Int), .int .i64 0, .slice ad bs.length dk] 152)).drewN (nq + 1)).setCell ⟨wr.heap.size, 3, none⟩ (.slice ad n dk)) from (bdrewN ((Below.refl _ wr).alloc (Nat.le_refl _) _) _).setCell (Nat.le_refl _) _)
                  clear ht
                  go_wp2_with (go_at_call 135; refine (apply_c (c := ci) (.wr at_ (bs.take n), .slice ad n dk) _ _ _ _ rfl _ _ _ (Sc.kp (c := ci) (q := (0, 0)) hsc.out (Kp.of_below (S := S2F) HBB.out) (fun h => h) (Cx.refl _ _)) (HJ.out.sc HBB.out) (dieFile_ok HOK.out j) hok2.out).mono ?_; rintro e w2 ⟨v2, rfl, hown2, hb2⟩; have HOW := Lib.hid hown2; have HBW := Lib.hid hb2; clear hown2 hb2)
                  clear ht0 hzb hnz
                  go_roundw
                  case rel => exact ⟨j + 1, by omega, by go_num, by rw [HBX.out], HJ.out.more HY.out (by rw [hsv.out, if_neg (by omega)]) HBB.out HOW.out HBW.out⟩
                  case measure => simp [intOf]; omega
            | cut long =>
              simp only [rch, List.cons.injEq, and_true] at he
              obtain ⟨e1, e2, e3, e4⟩ := he
              injection e1 with e1
              injection e2 with _ e2
              injection e3 with _ e3
              subst e1 e2 e3
              injection e4 with e4 e5 e6
              subst e4 e5 e6
              by_cases hneg : kv < 0
              · have HNEG := Lib.hid hneg
                go_wp2_with fail
                go_quiet (fail)
                have HBB := Lib.hid (show Below wr.heap.size wr ((wr.alloc (.cells #[.bool true, .int .i64 0, .int .i64 (long : Int), .slice none 0 0] 152)).drewN nq) from bdrewN ((Below.refl _ wr).alloc (Nat.le_refl _) _) _)
                go_wp2_with (go_at_call 135; refine (apply_c (c := ci) (.cut long, .slice none 0 0) _ _ _ _ rfl _ _ _ (HPD.out.kp (Kp.of_below (S := S2F) HBB.out) (fun h => h) (Cx.refl _ _)) (HJ.out.sc HBB.out) (dieFile_ok HOK.out j) HYK.out).mono ?_; rintro e w2 ⟨v2, rfl, hown2, hb2⟩; have HOW := Lib.hid hown2; have HBW := Lib.hid hb2; clear hown2 hb2)
                go_roundw
                case rel => exact ⟨j + 1, by omega, by go_num, by rw [HBX.out], HJ.out.more HY.out (by rw [← HKV.out]; simp [Chg.surv, HNEG.out]) HBB.out HOW.out HBW.out⟩
                case measure => simp [intOf]; omega
              · have hkv0 : 0 ≤ kv := by omega
                obtain ⟨z, hzz⟩ : ∃ z, z = kv % 2 := ⟨_, rfl⟩
                have htm : kv.tmod 2 = z := by rw [hzz]; exact Int.tmod_eq_emod_of_nonneg hkv0
                clear hneg
                by_cases hodd : kv % 2 = 1
                · have hb1 : (z == 1) = true := by rw [hzz]; simpa using hodd
                  have HODD := Lib.hid hodd; clear hodd hzz
                  go_wp2_with fail
                  go_quiet (fail)
                  have HBB := Lib.hid (show Below wr.heap.size wr ((wr.alloc (.cells #[.bool true, .int .i64 0, .int .i64 (long : Int), .slice none 0 0] 152)).drewN nq) from bdrewN ((Below.refl _ wr).alloc (Nat.le_refl _) _) _)
                  go_wp2_with (go_at_call 135; refine (apply_c (c := ci) (.cut long, .slice none 0 0) _ _ _ _ rfl _ _ _ (HPD.out.kp (Kp.of_below (S := S2F) HBB.out) (fun h => h) (Cx.refl _ _)) (HJ.out.sc HBB.out) (dieFile_ok HOK.out j) HYK.out).mono ?_; rintro e w2 ⟨v2, rfl, hown2, hb2⟩; have HOW := Lib.hid hown2; have HBW := Lib.hid hb2; clear hown2 hb2)
                  clear htm hb1 ht
                  go_roundw
                  case rel => exact ⟨j + 1, by omega, by go_num, by rw [HBX.out], HJ.out.more HY.out (by rw [← HKV.out]; simp [Chg.surv, HODD.out]) HBB.out HOW.out HBW.out⟩
                  case measure => simp [intOf]; omega
                · have hb1 : (z == 1) = false := by rw [hzz]; simpa using hodd
                  have HODD := Lib.hid hodd; clear hodd hzz
                  have HKV0 := Lib.hid hkv0
                  go_wp2_with fail
                  go_quiet (fail)
                  clear ht hr0 hr00 hz hzp hn1 hcap hkcell hkbl hklen hr1' c0 c1 c2 c3 hrl hrl2 hrl3 hgl hgcl hops hlen hlen'
                  go_wp2_with fail
                  clear htm hb1
                  go_roundw
                  case rel => exact ⟨j + 1, by omega, by go_num, by rw [HBX.out, wrap_small (by omega) (by have := cnt_lim HD.out HO.out i j (by omega); have := HNN.out; omega)], HJ.out.same HY.out (by rw [← HKV.out]; have h1 := HODD.out; have h2 := HKV0.out; simp only [Chg.surv]; rw [if_neg (by omega)]) (bdrewN ((Below.refl _ wr).alloc (Nat.le_refl _) _) _)⟩
                  case measure => simp [intOf]; omega
        · obtain rfl : j = x.f.chs.length := by omega
          have g1 := (HJ.out.blw.cell (p := ⟨g, i * 3 + 1, none⟩) hgl).trans f1
          have g2 := (HJ.out.blw.cell (p := ⟨g, i * 3 + 2, none⟩) hgl).trans f2
          have g3 : ∀ j, wr.frozen? ⟨g, j, none⟩ = false := fun j => ((bcell HJ.out.blw).2 g j hgl).trans (f3 j)
          clear f1 f2 f3
          go_wp2
          go_roundw
          case rel =>
            refine ⟨i + 1, by omega, by go_num, ?_, HI.out.next HD.out.names HX.out HE.out (by simpa using HJ.out)⟩
            have h3 : m.files[i]? = some (x.n, x.f) := by rw [← HD.out.names, List.getElem?_map, HX.out]; rfl
            have h4 : cnt (m.files.take (i + 1)) = cnt (m.files.take i) + x.f.chs.length := by
              rw [List.take_add_one, h3]; simp [cnt]
            rw [h4]
          case measure => simp [intOf]; omega
    · obtain rfl : i = F.length := by omega
      have hr7 := HI.out.kp.cell HD.out.c7 (by rw [HD.out.col]; simp)
      have hh7 := HI.out.kp.heap HD.out.heap (by rw [HD.out.col]; simp)
      have hfz := unfrozen_of_heap hh7
      have HH7 := Lib.hid hh7; clear hh7
      go_wp2
      go_end0
      exact ⟨rfl, HI.out.done HD.out HK0.out⟩
end Go.Proofs.YtnifmoigalmcmaaGreat
