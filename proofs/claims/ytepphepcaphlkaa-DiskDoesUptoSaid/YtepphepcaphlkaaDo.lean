import Derived.Test.YtepphepcaphlkaaOp
namespace Go.Proofs.Ytepphepcaphlkaa
open Go Go.RowKit Go.MapKept Go.Maps
open Dk
variable {c c' : Col} {w w' : World}
def XRow (w : World) (c : Col) (kk : Nat) (av : Option Addr) (n : Nat) : Prop :=
  0 < n → ∃ g cur, av = some ⟨g, 0, none⟩ ∧ c g = (kk, 0) ∧ w.heap[g]? = some (.cells cur 5 (0, 0)) ∧ ∀ j, j < n → ∃ x : UInt8, cur[j]? = some (bv x)
structure XInv (w2 : World) (c2 : Col) (kk : Nat) (av : Option Addr) (i : Nat) (wr : World) : Prop where
  kp : Kp c2 (fun q => q = (kk, 0)) w2 wr
  row : ∀ g cur, av = some ⟨g, 0, none⟩ → w2.heap[g]? = some (.cells cur 5 (0, 0)) → ∃ cur', wr.heap[g]? = some (.cells cur' 5 (0, 0)) ∧ ∀ j, i ≤ j → cur'[j]? = cur[j]?
theorem xrow_of {kk n : Nat} {av : Option Addr} {cap base : Nat} {xs : List UInt8} (h : w.ownsRow base 5 1 (.slice av n cap) n (xs.map bv)) (hc : ∀ g, (Value.slice av n cap).ownBlock = some g → c g = (kk, 0)) : XRow w c kk av n := by
  intro h0
  rcases h.2 with ⟨e, e'⟩ | ⟨g, cap', cur, e, _, hh, _, _, _, ht⟩
  · omega
  · injection e with e _ _
    subst e
    refine ⟨g, cur, rfl, hc g rfl, hh, fun j hj => ?_⟩
    have hl : xs.length = n := by have := h.1; simp at this; omega
    have h2 : (xs.map bv)[j]? = some (bv (xs[j]'(by omega))) := by rw [List.getElem?_map, List.getElem?_eq_getElem (by omega)]; rfl
    refine ⟨xs[j]'(by omega), ?_⟩
    have h3 := h.cells (g := g) rfl j _ h2
    have h4 : w.cell? ⟨g, j, none⟩ = some (bv (xs[j]'(by omega))) := by
      rw [add_eq rfl] at h3; simpa using h3
    rw [cell_of_heap hh] at h4
    exact h4
theorem XRow.kp {kk n : Nat} {av : Option Addr} {S : Nat × Nat → Prop} (h : XRow w c kk av n) (hk : Kp c S w w') (hS : ¬ S (kk, 0)) (hc : Cx w c c') : XRow w' c' kk av n := fun h0 => by
  obtain ⟨g, cur, e1, e2, e3, e4⟩ := h h0
  exact ⟨g, cur, e1, (hc _ (lt_of_heap e3)).trans e2, hk.heap e3 (by rw [e2]; exact hS), e4⟩
theorem xinv_start (w2 : World) (c2 : Col) (kk : Nat) (av : Option Addr) : XInv w2 c2 kk av 0 w2 := ⟨Kp.refl _ _ _, fun _ cur _ h => ⟨cur, h, fun _ _ => rfl⟩⟩
theorem xinv_cell {w2 wr : World} {c2 : Col} {kk n i : Nat} {av : Option Addr} (R : XRow w2 c2 kk av n) (I : XInv w2 c2 kk av i wr) (hi : i < n) :
    ∃ g x, av = some ⟨g, 0, none⟩ ∧ c2 g = (kk, 0) ∧ wr.cell? ⟨g, i, none⟩ = some (bv x) ∧ (∀ j, wr.frozen? ⟨g, j, none⟩ = false) := by
  obtain ⟨g, cur, e1, e2, e3, e4⟩ := R (by omega)
  obtain ⟨cur', h1, h2⟩ := I.row g cur e1 e3
  obtain ⟨x, hx⟩ := e4 i hi
  exact ⟨g, x, e1, e2, by rw [cell_of_heap h1, h2 i (Nat.le_refl _)]; exact hx, unfrozen_of_heap h1⟩
theorem xinv_step {w2 wr : World} {c2 : Col} {kk i g : Nat} (I : XInv w2 c2 kk (some ⟨g, 0, none⟩) i wr) (hg : c2 g = (kk, 0)) (u : Value) : XInv w2 c2 kk (some ⟨g, 0, none⟩) (i + 1) (wr.setCell ⟨g, i, none⟩ u) := by
  refine ⟨I.kp.setCell (fun _ => hg) _, fun g' cur e h => ?_⟩
  injection e with e; injection e with e
  subst e
  obtain ⟨cur', h1, h2⟩ := I.row g cur rfl h
  refine ⟨_, heap_setCell h1 i u, fun j hj => ?_⟩
  rw [Array.getElem?_setIfInBounds_ne (by omega)]
  exact h2 j (by omega)
theorem op_end {k kk d : Nat} {w1 w2 wr : World} {c1 c2 : Col} {av : Option Addr} {i : Nat} {m : ADisk} (hkk0 : kk ≠ 0) (hkk : kk ≠ k) (hkf : ∀ b, b < w.heap.size → (c b).1 ≠ kk)
    (h01 : Cx w c c1) (hk1 : ∀ S, Kp c S w w1) (h12 : Cx w1 c1 c2) (hk2 : Kp c1 (fun q => q.1 = k) w1 w2) (D : DiskAt w2 c2 k d m) (I : XInv w2 c2 kk av i wr) :
    ∃ c', Cx w c c' ∧ Kp c (fun q => q.1 = k) w wr ∧ DiskAt wr c' k d m := by
  have hC : Cx w c c2 := h01.trans h12 (hk1 (fun _ => False)).size
  have hK := (hk1 (fun q => q.1 = k)).trans hk2 h01
  refine ⟨c2, hC, ⟨I.kp.os.trans hK.os, I.kp.tape.trans hK.tape, I.kp.output.trans hK.output, Nat.le_trans hK.size I.kp.size, fun b hb hn => ?_⟩, D.kp I.kp (fun q hq => by rw [hq]; exact ⟨hkk, by simp; exact hkk0⟩) (Cx.refl _ _)⟩
  refine (I.kp.block b (Nat.lt_of_lt_of_le hb hK.size) (fun hs => ?_)).trans (hK.block b hb hn)
  rw [hC b hb] at hs
  exact hkf b hb (by rw [hs])
set_option maxHeartbeats 8000000 in
theorem do_create (k d : Nat) (m : ADisk) (o : AOp) (vd vk vf vu : Value) (w : World) (DD : DiskAt w c k d m) (hk0 : k ≠ 0) (hops : m.ops < 900000) (hn : o.name.length ≤ maxLen) (hnt : o.to.length ≤ maxLen) (hv : Sw w c (0, 0) vd (o.data.map bv)) (hb : o.data.length ≤ lim)
    (hat : -9223372036854775808 ≤ o.at_ ∧ o.at_ ≤ 9223372036854775807) (hlo : -9223372036854775808 ≤ o.long ∧ o.long ≤ 9223372036854775807) (hvk : vk.oneCell' = true) (hvf : vf.oneCell' = true) (hvu : vu.oneCell' = true) (hkind : o.kind = 0) :
    Calls Try.prog 12 #[ptr d, opV o vd vk vf vu] w (OpPost k d (doOp m o) c w) := by
  have e0 : doOp m o = create m o.name := by unfold doOp; simp [hkind]
  rw [e0]
  obtain ⟨ad, capd, rfl, -⟩ := id hv
  obtain ⟨kk, hkk0, hkk, hkf⟩ := fresh_col c w.heap.size k
  obtain ⟨W, hW⟩ : ∃ W, W = w.alloc (.cells #[.int .i64 0, .string ⟨o.name.toArray⟩, .string ⟨o.to.toArray⟩, .int .i64 o.at_, .int .i64 o.long, .slice ad o.data.length capd, .int .i64 o.plan.crash, vk, vf, vu, .int .i64 o.plan.room] 32) := ⟨_, rfl⟩
  have KW : Hid (∀ S, Kp c S w W) := by intro S; rw [hW]; exact (Kp.refl c S w).alloc _
  have HOP : Hid (W.heap[w.heap.size]? = some (.cells #[.int .i64 0, .string ⟨o.name.toArray⟩, .string ⟨o.to.toArray⟩, .int .i64 o.at_, .int .i64 o.long, .slice ad o.data.length capd, .int .i64 o.plan.crash, vk, vf, vu, .int .i64 o.plan.room] 32 (0, 0))) := by rw [hW]; exact heap_alloc_new _ _
  have hWs : W.heap.size = w.heap.size + 1 := by rw [hW]; simp
  have c0 := cell_of_heap HOP.out 0
  obtain ⟨cW, hcW⟩ : ∃ cW : Col, cW = fun b => if b < w.heap.size then c b else (0, 0) := ⟨_, rfl⟩
  have HCW : Hid (Cx w c cW) := by intro b hb; rw [hcW]; exact if_pos hb
  have HC0 : Hid (cW w.heap.size = (0, 0)) := by rw [hcW]; exact if_neg (by omega)
  clear hcW
  have HV := Lib.hid (hv.kp (KW.out S2F) (fun h => h) HCW.out); clear hv
  have HD := Lib.hid (DD.kp (KW.out S2F) (fun _ h => h.elim) HCW.out); clear DD
  have HK0 := Lib.hid hk0; clear hk0
  have HO := Lib.hid hops; clear hops
  have HN := Lib.hid hn; clear hn
  have HNT := Lib.hid hnt; clear hnt
  have HB := Lib.hid hb; clear hb
  have HAT := Lib.hid hat; clear hat
  have HLO := Lib.hid hlo; clear hlo
  have HKK0 := Lib.hid hkk0; clear hkk0
  have HKK := Lib.hid hkk; clear hkk
  have HKF := Lib.hid hkf; clear hkf
  have HVK := Lib.hid hvk; clear hvk
  have HVF := Lib.hid hvf; clear hvf
  have HVU := Lib.hid hvu; clear hvu
  have HWs := Lib.hid hWs; clear hWs
  have HW := Lib.hid hW; clear hW
  clear e0
  unfold opV str ptr
  rw [hkind]; clear hkind
  simp only [List.length_map] at HV ⊢
  go_enter Try.func12, Try.ntmps12
  go_wp2_with (first
    | (go_at_call 32; rw [← HW.out]; refine (ltwin _ _ HV.out (one_bv _) (by rw [List.length_map]; exact HB.out)).mono ?_; rintro e w1 ⟨v1, rfl, hown1, hb1⟩; (obtain ⟨av, cap, rfl, -⟩ := Sc.of_owns (c := fun _ => (0, 0)) (q := (0, 0)) hown1 (fun _ _ => rfl)); rw [List.length_map] at hown1 ⊢; have HOW := Lib.hid hown1; have HB1 := Lib.hid hb1; clear hown1 hb1; (obtain ⟨c1, hc1⟩ : ∃ c1 : Col, c1 = fun b => if b < W.heap.size then cW b else (kk, 0) := ⟨_, rfl⟩); have HX1 : Hid (Cx W cW c1) := (fun b hb => by rw [hc1]; exact if_pos hb); have HG1 : Hid (∀ g, (Value.slice av o.data.length cap).ownBlock = some g → c1 g = (kk, 0)) := (fun g hg => by rw [hc1]; exact if_neg (Nat.not_lt.2 (own_base HOW.out g hg))); clear hc1; have HD1 := Lib.hid (HD.out.kp (Kp.of_below (S := S2F) HB1.out) (fun _ h => h.elim) HX1.out); have HV1 := Lib.hid (Sc.of_owns HOW.out HG1.out); have HR1 := Lib.hid (xrow_of HOW.out HG1.out); have HP1 := Lib.hid ((HB1.out.block _ (by rw [HWs.out]; omega)).trans HOP.out); have p0 := cell_of_heap HP1.out 0; have p1 := cell_of_heap HP1.out 1; have p2 := cell_of_heap HP1.out 2; have p3 := cell_of_heap HP1.out 3; have p4 := cell_of_heap HP1.out 4)
    | (go_at_call 29; refine (create_c k d m o.name w1 HD1.out HK0.out HO.out HN.out).mono ?_; rintro e w2 ⟨rfl, c2, hcx2, hkp2, hd2⟩; have HX2 := Lib.hid hcx2; have HK2 := Lib.hid hkp2; have HD2 := Lib.hid hd2; clear hcx2 hkp2 hd2; have HR2 := Lib.hid (HR1.out.kp HK2.out HKK.out HX2.out)))
  clear p0 p1 p2 p3 p4 c0
  have hlen : (o.data.length : Int) ≤ 9223372036854775807 := by have := HB.out; unfold lim at this; omega
  go_loopw [83] (fun s wr => ∃ i : Nat, i ≤ o.data.length ∧ s = .int .i64 i ∧ XInv w2 c2 kk av i wr) (fun s _ => o.data.length - (intOf s).toNat)
  case atStart => exact ⟨0, Nat.zero_le _, rfl, xinv_start _ _ _ _⟩
  case round =>
    obtain ⟨i, hi, rfl, I⟩ := hrel
    have HI := Lib.hid I; clear I
    by_cases hlt : i < o.data.length
    · obtain ⟨g, x, rfl, hg, hcell, hfz⟩ := xinv_cell HR2.out HI.out hlt
      have HG := Lib.hid hg; clear hg
      unfold bv at hcell
      go_wp2
      go_roundw
      case rel => exact ⟨i + 1, by omega, by go_num, xinv_step HI.out HG.out _⟩
      case measure => simp [intOf]; omega
    · obtain rfl : i = o.data.length := by omega
      go_wp2
      go_ret
      exact ⟨rfl, op_end HKK0.out HKK.out HKF.out (HCW.out.trans HX1.out (KW.out S2F).size) (fun S => (KW.out S).below HB1.out (by rw [HWs.out]; omega)) HX2.out HK2.out HD2.out HI.out⟩
set_option maxHeartbeats 8000000 in
theorem do_append (k d : Nat) (m : ADisk) (o : AOp) (vd vk vf vu : Value) (w : World) (DD : DiskAt w c k d m) (hk0 : k ≠ 0) (hops : m.ops < 900000) (hn : o.name.length ≤ maxLen) (hnt : o.to.length ≤ maxLen) (hv : Sw w c (0, 0) vd (o.data.map bv)) (hb : o.data.length ≤ lim)
    (hat : -9223372036854775808 ≤ o.at_ ∧ o.at_ ≤ 9223372036854775807) (hlo : -9223372036854775808 ≤ o.long ∧ o.long ≤ 9223372036854775807) (hvk : vk.oneCell' = true) (hvf : vf.oneCell' = true) (hvu : vu.oneCell' = true) (hkind : o.kind = 1) :
    Calls Try.prog 12 #[ptr d, opV o vd vk vf vu] w (OpPost k d (doOp m o) c w) := by
  have e0 : doOp m o = Dk.append m o.name o.data := by unfold doOp; simp [hkind]
  rw [e0]
  obtain ⟨ad, capd, rfl, -⟩ := id hv
  obtain ⟨kk, hkk0, hkk, hkf⟩ := fresh_col c w.heap.size k
  obtain ⟨W, hW⟩ : ∃ W, W = w.alloc (.cells #[.int .i64 1, .string ⟨o.name.toArray⟩, .string ⟨o.to.toArray⟩, .int .i64 o.at_, .int .i64 o.long, .slice ad o.data.length capd, .int .i64 o.plan.crash, vk, vf, vu, .int .i64 o.plan.room] 32) := ⟨_, rfl⟩
  have KW : Hid (∀ S, Kp c S w W) := by intro S; rw [hW]; exact (Kp.refl c S w).alloc _
  have HOP : Hid (W.heap[w.heap.size]? = some (.cells #[.int .i64 1, .string ⟨o.name.toArray⟩, .string ⟨o.to.toArray⟩, .int .i64 o.at_, .int .i64 o.long, .slice ad o.data.length capd, .int .i64 o.plan.crash, vk, vf, vu, .int .i64 o.plan.room] 32 (0, 0))) := by rw [hW]; exact heap_alloc_new _ _
  have hWs : W.heap.size = w.heap.size + 1 := by rw [hW]; simp
  have c0 := cell_of_heap HOP.out 0
  obtain ⟨cW, hcW⟩ : ∃ cW : Col, cW = fun b => if b < w.heap.size then c b else (0, 0) := ⟨_, rfl⟩
  have HCW : Hid (Cx w c cW) := by intro b hb; rw [hcW]; exact if_pos hb
  have HC0 : Hid (cW w.heap.size = (0, 0)) := by rw [hcW]; exact if_neg (by omega)
  clear hcW
  have HV := Lib.hid (hv.kp (KW.out S2F) (fun h => h) HCW.out); clear hv
  have HD := Lib.hid (DD.kp (KW.out S2F) (fun _ h => h.elim) HCW.out); clear DD
  have HK0 := Lib.hid hk0; clear hk0
  have HO := Lib.hid hops; clear hops
  have HN := Lib.hid hn; clear hn
  have HNT := Lib.hid hnt; clear hnt
  have HB := Lib.hid hb; clear hb
  have HAT := Lib.hid hat; clear hat
  have HLO := Lib.hid hlo; clear hlo
  have HKK0 := Lib.hid hkk0; clear hkk0
  have HKK := Lib.hid hkk; clear hkk
  have HKF := Lib.hid hkf; clear hkf
  have HVK := Lib.hid hvk; clear hvk
  have HVF := Lib.hid hvf; clear hvf
  have HVU := Lib.hid hvu; clear hvu
  have HWs := Lib.hid hWs; clear hWs
  have HW := Lib.hid hW; clear hW
  clear e0
  unfold opV str ptr
  rw [hkind]; clear hkind
  simp only [List.length_map] at HV ⊢
  go_enter Try.func12, Try.ntmps12
  go_wp2_with (first
    | (go_at_call 32; rw [← HW.out]; refine (ltwin _ _ HV.out (one_bv _) (by rw [List.length_map]; exact HB.out)).mono ?_; rintro e w1 ⟨v1, rfl, hown1, hb1⟩; (obtain ⟨av, cap, rfl, -⟩ := Sc.of_owns (c := fun _ => (0, 0)) (q := (0, 0)) hown1 (fun _ _ => rfl)); rw [List.length_map] at hown1 ⊢; have HOW := Lib.hid hown1; have HB1 := Lib.hid hb1; clear hown1 hb1; (obtain ⟨c1, hc1⟩ : ∃ c1 : Col, c1 = fun b => if b < W.heap.size then cW b else (kk, 0) := ⟨_, rfl⟩); have HX1 : Hid (Cx W cW c1) := (fun b hb => by rw [hc1]; exact if_pos hb); have HG1 : Hid (∀ g, (Value.slice av o.data.length cap).ownBlock = some g → c1 g = (kk, 0)) := (fun g hg => by rw [hc1]; exact if_neg (Nat.not_lt.2 (own_base HOW.out g hg))); clear hc1; have HD1 := Lib.hid (HD.out.kp (Kp.of_below (S := S2F) HB1.out) (fun _ h => h.elim) HX1.out); have HV1 := Lib.hid (Sc.of_owns HOW.out HG1.out); have HR1 := Lib.hid (xrow_of HOW.out HG1.out); have HP1 := Lib.hid ((HB1.out.block _ (by rw [HWs.out]; omega)).trans HOP.out); have p0 := cell_of_heap HP1.out 0; have p1 := cell_of_heap HP1.out 1; have p2 := cell_of_heap HP1.out 2; have p3 := cell_of_heap HP1.out 3; have p4 := cell_of_heap HP1.out 4)
    | (go_at_call 30; refine (append_c k d m o.name (.slice av o.data.length cap) o.data w1 HD1.out HK0.out HO.out HN.out (q := (kk, 0)) HV1.out HKK.out HB.out).mono ?_; rintro e w2 ⟨rfl, c2, hcx2, hkp2, hd2⟩; have HX2 := Lib.hid hcx2; have HK2 := Lib.hid hkp2; have HD2 := Lib.hid hd2; clear hcx2 hkp2 hd2; have HR2 := Lib.hid (HR1.out.kp HK2.out HKK.out HX2.out)))
  clear p0 p1 p2 p3 p4 c0
  have hlen : (o.data.length : Int) ≤ 9223372036854775807 := by have := HB.out; unfold lim at this; omega
  go_loopw [83] (fun s wr => ∃ i : Nat, i ≤ o.data.length ∧ s = .int .i64 i ∧ XInv w2 c2 kk av i wr) (fun s _ => o.data.length - (intOf s).toNat)
  case atStart => exact ⟨0, Nat.zero_le _, rfl, xinv_start _ _ _ _⟩
  case round =>
    obtain ⟨i, hi, rfl, I⟩ := hrel
    have HI := Lib.hid I; clear I
    by_cases hlt : i < o.data.length
    · obtain ⟨g, x, rfl, hg, hcell, hfz⟩ := xinv_cell HR2.out HI.out hlt
      have HG := Lib.hid hg; clear hg
      unfold bv at hcell
      go_wp2
      go_roundw
      case rel => exact ⟨i + 1, by omega, by go_num, xinv_step HI.out HG.out _⟩
      case measure => simp [intOf]; omega
    · obtain rfl : i = o.data.length := by omega
      go_wp2
      go_ret
      exact ⟨rfl, op_end HKK0.out HKK.out HKF.out (HCW.out.trans HX1.out (KW.out S2F).size) (fun S => (KW.out S).below HB1.out (by rw [HWs.out]; omega)) HX2.out HK2.out HD2.out HI.out⟩
set_option maxHeartbeats 8000000 in
theorem do_writeAt (k d : Nat) (m : ADisk) (o : AOp) (vd vk vf vu : Value) (w : World) (DD : DiskAt w c k d m) (hk0 : k ≠ 0) (hops : m.ops < 900000) (hn : o.name.length ≤ maxLen) (hnt : o.to.length ≤ maxLen) (hv : Sw w c (0, 0) vd (o.data.map bv)) (hb : o.data.length ≤ lim)
    (hat : -9223372036854775808 ≤ o.at_ ∧ o.at_ ≤ 9223372036854775807) (hlo : -9223372036854775808 ≤ o.long ∧ o.long ≤ 9223372036854775807) (hvk : vk.oneCell' = true) (hvf : vf.oneCell' = true) (hvu : vu.oneCell' = true) (hkind : o.kind = 2) :
    Calls Try.prog 12 #[ptr d, opV o vd vk vf vu] w (OpPost k d (doOp m o) c w) := by
  have e0 : doOp m o = Dk.writeAt m o.name o.at_ o.data := by unfold doOp; simp [hkind]
  rw [e0]
  obtain ⟨ad, capd, rfl, -⟩ := id hv
  obtain ⟨kk, hkk0, hkk, hkf⟩ := fresh_col c w.heap.size k
  obtain ⟨W, hW⟩ : ∃ W, W = w.alloc (.cells #[.int .i64 2, .string ⟨o.name.toArray⟩, .string ⟨o.to.toArray⟩, .int .i64 o.at_, .int .i64 o.long, .slice ad o.data.length capd, .int .i64 o.plan.crash, vk, vf, vu, .int .i64 o.plan.room] 32) := ⟨_, rfl⟩
  have KW : Hid (∀ S, Kp c S w W) := by intro S; rw [hW]; exact (Kp.refl c S w).alloc _
  have HOP : Hid (W.heap[w.heap.size]? = some (.cells #[.int .i64 2, .string ⟨o.name.toArray⟩, .string ⟨o.to.toArray⟩, .int .i64 o.at_, .int .i64 o.long, .slice ad o.data.length capd, .int .i64 o.plan.crash, vk, vf, vu, .int .i64 o.plan.room] 32 (0, 0))) := by rw [hW]; exact heap_alloc_new _ _
  have hWs : W.heap.size = w.heap.size + 1 := by rw [hW]; simp
  have c0 := cell_of_heap HOP.out 0
  obtain ⟨cW, hcW⟩ : ∃ cW : Col, cW = fun b => if b < w.heap.size then c b else (0, 0) := ⟨_, rfl⟩
  have HCW : Hid (Cx w c cW) := by intro b hb; rw [hcW]; exact if_pos hb
  have HC0 : Hid (cW w.heap.size = (0, 0)) := by rw [hcW]; exact if_neg (by omega)
  clear hcW
  have HV := Lib.hid (hv.kp (KW.out S2F) (fun h => h) HCW.out); clear hv
  have HD := Lib.hid (DD.kp (KW.out S2F) (fun _ h => h.elim) HCW.out); clear DD
  have HK0 := Lib.hid hk0; clear hk0
  have HO := Lib.hid hops; clear hops
  have HN := Lib.hid hn; clear hn
  have HNT := Lib.hid hnt; clear hnt
  have HB := Lib.hid hb; clear hb
  have HAT := Lib.hid hat; clear hat
  have HLO := Lib.hid hlo; clear hlo
  have HKK0 := Lib.hid hkk0; clear hkk0
  have HKK := Lib.hid hkk; clear hkk
  have HKF := Lib.hid hkf; clear hkf
  have HVK := Lib.hid hvk; clear hvk
  have HVF := Lib.hid hvf; clear hvf
  have HVU := Lib.hid hvu; clear hvu
  have HWs := Lib.hid hWs; clear hWs
  have HW := Lib.hid hW; clear hW
  clear e0
  unfold opV str ptr
  rw [hkind]; clear hkind
  simp only [List.length_map] at HV ⊢
  go_enter Try.func12, Try.ntmps12
  go_wp2_with (first
    | (go_at_call 32; rw [← HW.out]; refine (ltwin _ _ HV.out (one_bv _) (by rw [List.length_map]; exact HB.out)).mono ?_; rintro e w1 ⟨v1, rfl, hown1, hb1⟩; (obtain ⟨av, cap, rfl, -⟩ := Sc.of_owns (c := fun _ => (0, 0)) (q := (0, 0)) hown1 (fun _ _ => rfl)); rw [List.length_map] at hown1 ⊢; have HOW := Lib.hid hown1; have HB1 := Lib.hid hb1; clear hown1 hb1; (obtain ⟨c1, hc1⟩ : ∃ c1 : Col, c1 = fun b => if b < W.heap.size then cW b else (kk, 0) := ⟨_, rfl⟩); have HX1 : Hid (Cx W cW c1) := (fun b hb => by rw [hc1]; exact if_pos hb); have HG1 : Hid (∀ g, (Value.slice av o.data.length cap).ownBlock = some g → c1 g = (kk, 0)) := (fun g hg => by rw [hc1]; exact if_neg (Nat.not_lt.2 (own_base HOW.out g hg))); clear hc1; have HD1 := Lib.hid (HD.out.kp (Kp.of_below (S := S2F) HB1.out) (fun _ h => h.elim) HX1.out); have HV1 := Lib.hid (Sc.of_owns HOW.out HG1.out); have HR1 := Lib.hid (xrow_of HOW.out HG1.out); have HP1 := Lib.hid ((HB1.out.block _ (by rw [HWs.out]; omega)).trans HOP.out); have p0 := cell_of_heap HP1.out 0; have p1 := cell_of_heap HP1.out 1; have p2 := cell_of_heap HP1.out 2; have p3 := cell_of_heap HP1.out 3; have p4 := cell_of_heap HP1.out 4)
    | (go_at_call 33; refine (writeAt_c k d m o.name o.at_ (.slice av o.data.length cap) o.data w1 HD1.out HK0.out HO.out HN.out (q := (kk, 0)) HV1.out HKK.out HB.out).mono ?_; rintro e w2 ⟨rfl, c2, hcx2, hkp2, hd2⟩; have HX2 := Lib.hid hcx2; have HK2 := Lib.hid hkp2; have HD2 := Lib.hid hd2; clear hcx2 hkp2 hd2; have HR2 := Lib.hid (HR1.out.kp HK2.out HKK.out HX2.out)))
  clear p0 p1 p2 p3 p4 c0
  have hlen : (o.data.length : Int) ≤ 9223372036854775807 := by have := HB.out; unfold lim at this; omega
  go_loopw [83] (fun s wr => ∃ i : Nat, i ≤ o.data.length ∧ s = .int .i64 i ∧ XInv w2 c2 kk av i wr) (fun s _ => o.data.length - (intOf s).toNat)
  case atStart => exact ⟨0, Nat.zero_le _, rfl, xinv_start _ _ _ _⟩
  case round =>
    obtain ⟨i, hi, rfl, I⟩ := hrel
    have HI := Lib.hid I; clear I
    by_cases hlt : i < o.data.length
    · obtain ⟨g, x, rfl, hg, hcell, hfz⟩ := xinv_cell HR2.out HI.out hlt
      have HG := Lib.hid hg; clear hg
      unfold bv at hcell
      go_wp2
      go_roundw
      case rel => exact ⟨i + 1, by omega, by go_num, xinv_step HI.out HG.out _⟩
      case measure => simp [intOf]; omega
    · obtain rfl : i = o.data.length := by omega
      go_wp2
      go_ret
      exact ⟨rfl, op_end HKK0.out HKK.out HKF.out (HCW.out.trans HX1.out (KW.out S2F).size) (fun S => (KW.out S).below HB1.out (by rw [HWs.out]; omega)) HX2.out HK2.out HD2.out HI.out⟩
set_option maxHeartbeats 8000000 in
theorem do_truncate (k d : Nat) (m : ADisk) (o : AOp) (vd vk vf vu : Value) (w : World) (DD : DiskAt w c k d m) (hk0 : k ≠ 0) (hops : m.ops < 900000) (hn : o.name.length ≤ maxLen) (hnt : o.to.length ≤ maxLen) (hv : Sw w c (0, 0) vd (o.data.map bv)) (hb : o.data.length ≤ lim)
    (hat : -9223372036854775808 ≤ o.at_ ∧ o.at_ ≤ 9223372036854775807) (hlo : -9223372036854775808 ≤ o.long ∧ o.long ≤ 9223372036854775807) (hvk : vk.oneCell' = true) (hvf : vf.oneCell' = true) (hvu : vu.oneCell' = true) (hkind : o.kind = 3) :
    Calls Try.prog 12 #[ptr d, opV o vd vk vf vu] w (OpPost k d (doOp m o) c w) := by
  have e0 : doOp m o = Dk.truncate m o.name o.long := by unfold doOp; simp [hkind]
  rw [e0]
  obtain ⟨ad, capd, rfl, -⟩ := id hv
  obtain ⟨kk, hkk0, hkk, hkf⟩ := fresh_col c w.heap.size k
  obtain ⟨W, hW⟩ : ∃ W, W = w.alloc (.cells #[.int .i64 3, .string ⟨o.name.toArray⟩, .string ⟨o.to.toArray⟩, .int .i64 o.at_, .int .i64 o.long, .slice ad o.data.length capd, .int .i64 o.plan.crash, vk, vf, vu, .int .i64 o.plan.room] 32) := ⟨_, rfl⟩
  have KW : Hid (∀ S, Kp c S w W) := by intro S; rw [hW]; exact (Kp.refl c S w).alloc _
  have HOP : Hid (W.heap[w.heap.size]? = some (.cells #[.int .i64 3, .string ⟨o.name.toArray⟩, .string ⟨o.to.toArray⟩, .int .i64 o.at_, .int .i64 o.long, .slice ad o.data.length capd, .int .i64 o.plan.crash, vk, vf, vu, .int .i64 o.plan.room] 32 (0, 0))) := by rw [hW]; exact heap_alloc_new _ _
  have hWs : W.heap.size = w.heap.size + 1 := by rw [hW]; simp
  have c0 := cell_of_heap HOP.out 0
  obtain ⟨cW, hcW⟩ : ∃ cW : Col, cW = fun b => if b < w.heap.size then c b else (0, 0) := ⟨_, rfl⟩
  have HCW : Hid (Cx w c cW) := by intro b hb; rw [hcW]; exact if_pos hb
  have HC0 : Hid (cW w.heap.size = (0, 0)) := by rw [hcW]; exact if_neg (by omega)
  clear hcW
  have HV := Lib.hid (hv.kp (KW.out S2F) (fun h => h) HCW.out); clear hv
  have HD := Lib.hid (DD.kp (KW.out S2F) (fun _ h => h.elim) HCW.out); clear DD
  have HK0 := Lib.hid hk0; clear hk0
  have HO := Lib.hid hops; clear hops
  have HN := Lib.hid hn; clear hn
  have HNT := Lib.hid hnt; clear hnt
  have HB := Lib.hid hb; clear hb
  have HAT := Lib.hid hat; clear hat
  have HLO := Lib.hid hlo; clear hlo
  have HKK0 := Lib.hid hkk0; clear hkk0
  have HKK := Lib.hid hkk; clear hkk
  have HKF := Lib.hid hkf; clear hkf
  have HVK := Lib.hid hvk; clear hvk
  have HVF := Lib.hid hvf; clear hvf
  have HVU := Lib.hid hvu; clear hvu
  have HWs := Lib.hid hWs; clear hWs
  have HW := Lib.hid hW; clear hW
  clear e0
  unfold opV str ptr
  rw [hkind]; clear hkind
  simp only [List.length_map] at HV ⊢
  go_enter Try.func12, Try.ntmps12
  go_wp2_with (first
    | (go_at_call 32; rw [← HW.out]; refine (ltwin _ _ HV.out (one_bv _) (by rw [List.length_map]; exact HB.out)).mono ?_; rintro e w1 ⟨v1, rfl, hown1, hb1⟩; (obtain ⟨av, cap, rfl, -⟩ := Sc.of_owns (c := fun _ => (0, 0)) (q := (0, 0)) hown1 (fun _ _ => rfl)); rw [List.length_map] at hown1 ⊢; have HOW := Lib.hid hown1; have HB1 := Lib.hid hb1; clear hown1 hb1; (obtain ⟨c1, hc1⟩ : ∃ c1 : Col, c1 = fun b => if b < W.heap.size then cW b else (kk, 0) := ⟨_, rfl⟩); have HX1 : Hid (Cx W cW c1) := (fun b hb => by rw [hc1]; exact if_pos hb); have HG1 : Hid (∀ g, (Value.slice av o.data.length cap).ownBlock = some g → c1 g = (kk, 0)) := (fun g hg => by rw [hc1]; exact if_neg (Nat.not_lt.2 (own_base HOW.out g hg))); clear hc1; have HD1 := Lib.hid (HD.out.kp (Kp.of_below (S := S2F) HB1.out) (fun _ h => h.elim) HX1.out); have HV1 := Lib.hid (Sc.of_owns HOW.out HG1.out); have HR1 := Lib.hid (xrow_of HOW.out HG1.out); have HP1 := Lib.hid ((HB1.out.block _ (by rw [HWs.out]; omega)).trans HOP.out); have p0 := cell_of_heap HP1.out 0; have p1 := cell_of_heap HP1.out 1; have p2 := cell_of_heap HP1.out 2; have p3 := cell_of_heap HP1.out 3; have p4 := cell_of_heap HP1.out 4)
    | (go_at_call 34; refine (truncate_c k d m o.name o.long w1 HD1.out HK0.out HO.out HN.out).mono ?_; rintro e w2 ⟨rfl, c2, hcx2, hkp2, hd2⟩; have HX2 := Lib.hid hcx2; have HK2 := Lib.hid hkp2; have HD2 := Lib.hid hd2; clear hcx2 hkp2 hd2; have HR2 := Lib.hid (HR1.out.kp HK2.out HKK.out HX2.out)))
  clear p0 p1 p2 p3 p4 c0
  have hlen : (o.data.length : Int) ≤ 9223372036854775807 := by have := HB.out; unfold lim at this; omega
  go_loopw [83] (fun s wr => ∃ i : Nat, i ≤ o.data.length ∧ s = .int .i64 i ∧ XInv w2 c2 kk av i wr) (fun s _ => o.data.length - (intOf s).toNat)
  case atStart => exact ⟨0, Nat.zero_le _, rfl, xinv_start _ _ _ _⟩
  case round =>
    obtain ⟨i, hi, rfl, I⟩ := hrel
    have HI := Lib.hid I; clear I
    by_cases hlt : i < o.data.length
    · obtain ⟨g, x, rfl, hg, hcell, hfz⟩ := xinv_cell HR2.out HI.out hlt
      have HG := Lib.hid hg; clear hg
      unfold bv at hcell
      go_wp2
      go_roundw
      case rel => exact ⟨i + 1, by omega, by go_num, xinv_step HI.out HG.out _⟩
      case measure => simp [intOf]; omega
    · obtain rfl : i = o.data.length := by omega
      go_wp2
      go_ret
      exact ⟨rfl, op_end HKK0.out HKK.out HKF.out (HCW.out.trans HX1.out (KW.out S2F).size) (fun S => (KW.out S).below HB1.out (by rw [HWs.out]; omega)) HX2.out HK2.out HD2.out HI.out⟩
set_option maxHeartbeats 8000000 in
theorem do_sync (k d : Nat) (m : ADisk) (o : AOp) (vd vk vf vu : Value) (w : World) (DD : DiskAt w c k d m) (hk0 : k ≠ 0) (hops : m.ops < 900000) (hn : o.name.length ≤ maxLen) (hnt : o.to.length ≤ maxLen) (hv : Sw w c (0, 0) vd (o.data.map bv)) (hb : o.data.length ≤ lim)
    (hat : -9223372036854775808 ≤ o.at_ ∧ o.at_ ≤ 9223372036854775807) (hlo : -9223372036854775808 ≤ o.long ∧ o.long ≤ 9223372036854775807) (hvk : vk.oneCell' = true) (hvf : vf.oneCell' = true) (hvu : vu.oneCell' = true) (hkind : o.kind = 4) :
    Calls Try.prog 12 #[ptr d, opV o vd vk vf vu] w (OpPost k d (doOp m o) c w) := by
  have e0 : doOp m o = Dk.sync m o.name := by unfold doOp; simp [hkind]
  rw [e0]
  obtain ⟨ad, capd, rfl, -⟩ := id hv
  obtain ⟨kk, hkk0, hkk, hkf⟩ := fresh_col c w.heap.size k
  obtain ⟨W, hW⟩ : ∃ W, W = w.alloc (.cells #[.int .i64 4, .string ⟨o.name.toArray⟩, .string ⟨o.to.toArray⟩, .int .i64 o.at_, .int .i64 o.long, .slice ad o.data.length capd, .int .i64 o.plan.crash, vk, vf, vu, .int .i64 o.plan.room] 32) := ⟨_, rfl⟩
  have KW : Hid (∀ S, Kp c S w W) := by intro S; rw [hW]; exact (Kp.refl c S w).alloc _
  have HOP : Hid (W.heap[w.heap.size]? = some (.cells #[.int .i64 4, .string ⟨o.name.toArray⟩, .string ⟨o.to.toArray⟩, .int .i64 o.at_, .int .i64 o.long, .slice ad o.data.length capd, .int .i64 o.plan.crash, vk, vf, vu, .int .i64 o.plan.room] 32 (0, 0))) := by rw [hW]; exact heap_alloc_new _ _
  have hWs : W.heap.size = w.heap.size + 1 := by rw [hW]; simp
  have c0 := cell_of_heap HOP.out 0
  obtain ⟨cW, hcW⟩ : ∃ cW : Col, cW = fun b => if b < w.heap.size then c b else (0, 0) := ⟨_, rfl⟩
  have HCW : Hid (Cx w c cW) := by intro b hb; rw [hcW]; exact if_pos hb
  have HC0 : Hid (cW w.heap.size = (0, 0)) := by rw [hcW]; exact if_neg (by omega)
  clear hcW
  have HV := Lib.hid (hv.kp (KW.out S2F) (fun h => h) HCW.out); clear hv
  have HD := Lib.hid (DD.kp (KW.out S2F) (fun _ h => h.elim) HCW.out); clear DD
  have HK0 := Lib.hid hk0; clear hk0
  have HO := Lib.hid hops; clear hops
  have HN := Lib.hid hn; clear hn
  have HNT := Lib.hid hnt; clear hnt
  have HB := Lib.hid hb; clear hb
  have HAT := Lib.hid hat; clear hat
  have HLO := Lib.hid hlo; clear hlo
  have HKK0 := Lib.hid hkk0; clear hkk0
  have HKK := Lib.hid hkk; clear hkk
  have HKF := Lib.hid hkf; clear hkf
  have HVK := Lib.hid hvk; clear hvk
  have HVF := Lib.hid hvf; clear hvf
  have HVU := Lib.hid hvu; clear hvu
  have HWs := Lib.hid hWs; clear hWs
  have HW := Lib.hid hW; clear hW
  clear e0
  unfold opV str ptr
  rw [hkind]; clear hkind
  simp only [List.length_map] at HV ⊢
  go_enter Try.func12, Try.ntmps12
  go_wp2_with (first
    | (go_at_call 32; rw [← HW.out]; refine (ltwin _ _ HV.out (one_bv _) (by rw [List.length_map]; exact HB.out)).mono ?_; rintro e w1 ⟨v1, rfl, hown1, hb1⟩; (obtain ⟨av, cap, rfl, -⟩ := Sc.of_owns (c := fun _ => (0, 0)) (q := (0, 0)) hown1 (fun _ _ => rfl)); rw [List.length_map] at hown1 ⊢; have HOW := Lib.hid hown1; have HB1 := Lib.hid hb1; clear hown1 hb1; (obtain ⟨c1, hc1⟩ : ∃ c1 : Col, c1 = fun b => if b < W.heap.size then cW b else (kk, 0) := ⟨_, rfl⟩); have HX1 : Hid (Cx W cW c1) := (fun b hb => by rw [hc1]; exact if_pos hb); have HG1 : Hid (∀ g, (Value.slice av o.data.length cap).ownBlock = some g → c1 g = (kk, 0)) := (fun g hg => by rw [hc1]; exact if_neg (Nat.not_lt.2 (own_base HOW.out g hg))); clear hc1; have HD1 := Lib.hid (HD.out.kp (Kp.of_below (S := S2F) HB1.out) (fun _ h => h.elim) HX1.out); have HV1 := Lib.hid (Sc.of_owns HOW.out HG1.out); have HR1 := Lib.hid (xrow_of HOW.out HG1.out); have HP1 := Lib.hid ((HB1.out.block _ (by rw [HWs.out]; omega)).trans HOP.out); have p0 := cell_of_heap HP1.out 0; have p1 := cell_of_heap HP1.out 1; have p2 := cell_of_heap HP1.out 2; have p3 := cell_of_heap HP1.out 3; have p4 := cell_of_heap HP1.out 4)
    | (go_at_call 20; refine (sync_c k d m o.name w1 HD1.out HK0.out HO.out HN.out).mono ?_; rintro e w2 ⟨rfl, c2, hcx2, hkp2, hd2⟩; have HX2 := Lib.hid hcx2; have HK2 := Lib.hid hkp2; have HD2 := Lib.hid hd2; clear hcx2 hkp2 hd2; have HR2 := Lib.hid (HR1.out.kp HK2.out HKK.out HX2.out)))
  clear p0 p1 p2 p3 p4 c0
  have hlen : (o.data.length : Int) ≤ 9223372036854775807 := by have := HB.out; unfold lim at this; omega
  go_loopw [83] (fun s wr => ∃ i : Nat, i ≤ o.data.length ∧ s = .int .i64 i ∧ XInv w2 c2 kk av i wr) (fun s _ => o.data.length - (intOf s).toNat)
  case atStart => exact ⟨0, Nat.zero_le _, rfl, xinv_start _ _ _ _⟩
  case round =>
    obtain ⟨i, hi, rfl, I⟩ := hrel
    have HI := Lib.hid I; clear I
    by_cases hlt : i < o.data.length
    · obtain ⟨g, x, rfl, hg, hcell, hfz⟩ := xinv_cell HR2.out HI.out hlt
      have HG := Lib.hid hg; clear hg
      unfold bv at hcell
      go_wp2
      go_roundw
      case rel => exact ⟨i + 1, by omega, by go_num, xinv_step HI.out HG.out _⟩
      case measure => simp [intOf]; omega
    · obtain rfl : i = o.data.length := by omega
      go_wp2
      go_ret
      exact ⟨rfl, op_end HKK0.out HKK.out HKF.out (HCW.out.trans HX1.out (KW.out S2F).size) (fun S => (KW.out S).below HB1.out (by rw [HWs.out]; omega)) HX2.out HK2.out HD2.out HI.out⟩
set_option maxHeartbeats 8000000 in
theorem do_rename (k d : Nat) (m : ADisk) (o : AOp) (vd vk vf vu : Value) (w : World) (DD : DiskAt w c k d m) (hk0 : k ≠ 0) (hops : m.ops < 900000) (hn : o.name.length ≤ maxLen) (hnt : o.to.length ≤ maxLen) (hv : Sw w c (0, 0) vd (o.data.map bv)) (hb : o.data.length ≤ lim)
    (hat : -9223372036854775808 ≤ o.at_ ∧ o.at_ ≤ 9223372036854775807) (hlo : -9223372036854775808 ≤ o.long ∧ o.long ≤ 9223372036854775807) (hvk : vk.oneCell' = true) (hvf : vf.oneCell' = true) (hvu : vu.oneCell' = true) (hkind : o.kind = 5) :
    Calls Try.prog 12 #[ptr d, opV o vd vk vf vu] w (OpPost k d (doOp m o) c w) := by
  have e0 : doOp m o = Dk.rename m o.name o.to := by unfold doOp; simp [hkind]
  rw [e0]
  obtain ⟨ad, capd, rfl, -⟩ := id hv
  obtain ⟨kk, hkk0, hkk, hkf⟩ := fresh_col c w.heap.size k
  obtain ⟨W, hW⟩ : ∃ W, W = w.alloc (.cells #[.int .i64 5, .string ⟨o.name.toArray⟩, .string ⟨o.to.toArray⟩, .int .i64 o.at_, .int .i64 o.long, .slice ad o.data.length capd, .int .i64 o.plan.crash, vk, vf, vu, .int .i64 o.plan.room] 32) := ⟨_, rfl⟩
  have KW : Hid (∀ S, Kp c S w W) := by intro S; rw [hW]; exact (Kp.refl c S w).alloc _
  have HOP : Hid (W.heap[w.heap.size]? = some (.cells #[.int .i64 5, .string ⟨o.name.toArray⟩, .string ⟨o.to.toArray⟩, .int .i64 o.at_, .int .i64 o.long, .slice ad o.data.length capd, .int .i64 o.plan.crash, vk, vf, vu, .int .i64 o.plan.room] 32 (0, 0))) := by rw [hW]; exact heap_alloc_new _ _
  have hWs : W.heap.size = w.heap.size + 1 := by rw [hW]; simp
  have c0 := cell_of_heap HOP.out 0
  obtain ⟨cW, hcW⟩ : ∃ cW : Col, cW = fun b => if b < w.heap.size then c b else (0, 0) := ⟨_, rfl⟩
  have HCW : Hid (Cx w c cW) := by intro b hb; rw [hcW]; exact if_pos hb
  have HC0 : Hid (cW w.heap.size = (0, 0)) := by rw [hcW]; exact if_neg (by omega)
  clear hcW
  have HV := Lib.hid (hv.kp (KW.out S2F) (fun h => h) HCW.out); clear hv
  have HD := Lib.hid (DD.kp (KW.out S2F) (fun _ h => h.elim) HCW.out); clear DD
  have HK0 := Lib.hid hk0; clear hk0
  have HO := Lib.hid hops; clear hops
  have HN := Lib.hid hn; clear hn
  have HNT := Lib.hid hnt; clear hnt
  have HB := Lib.hid hb; clear hb
  have HAT := Lib.hid hat; clear hat
  have HLO := Lib.hid hlo; clear hlo
  have HKK0 := Lib.hid hkk0; clear hkk0
  have HKK := Lib.hid hkk; clear hkk
  have HKF := Lib.hid hkf; clear hkf
  have HVK := Lib.hid hvk; clear hvk
  have HVF := Lib.hid hvf; clear hvf
  have HVU := Lib.hid hvu; clear hvu
  have HWs := Lib.hid hWs; clear hWs
  have HW := Lib.hid hW; clear hW
  clear e0
  unfold opV str ptr
  rw [hkind]; clear hkind
  simp only [List.length_map] at HV ⊢
  go_enter Try.func12, Try.ntmps12
  go_wp2_with (first
    | (go_at_call 32; rw [← HW.out]; refine (ltwin _ _ HV.out (one_bv _) (by rw [List.length_map]; exact HB.out)).mono ?_; rintro e w1 ⟨v1, rfl, hown1, hb1⟩; (obtain ⟨av, cap, rfl, -⟩ := Sc.of_owns (c := fun _ => (0, 0)) (q := (0, 0)) hown1 (fun _ _ => rfl)); rw [List.length_map] at hown1 ⊢; have HOW := Lib.hid hown1; have HB1 := Lib.hid hb1; clear hown1 hb1; (obtain ⟨c1, hc1⟩ : ∃ c1 : Col, c1 = fun b => if b < W.heap.size then cW b else (kk, 0) := ⟨_, rfl⟩); have HX1 : Hid (Cx W cW c1) := (fun b hb => by rw [hc1]; exact if_pos hb); have HG1 : Hid (∀ g, (Value.slice av o.data.length cap).ownBlock = some g → c1 g = (kk, 0)) := (fun g hg => by rw [hc1]; exact if_neg (Nat.not_lt.2 (own_base HOW.out g hg))); clear hc1; have HD1 := Lib.hid (HD.out.kp (Kp.of_below (S := S2F) HB1.out) (fun _ h => h.elim) HX1.out); have HV1 := Lib.hid (Sc.of_owns HOW.out HG1.out); have HR1 := Lib.hid (xrow_of HOW.out HG1.out); have HP1 := Lib.hid ((HB1.out.block _ (by rw [HWs.out]; omega)).trans HOP.out); have p0 := cell_of_heap HP1.out 0; have p1 := cell_of_heap HP1.out 1; have p2 := cell_of_heap HP1.out 2; have p3 := cell_of_heap HP1.out 3; have p4 := cell_of_heap HP1.out 4)
    | (go_at_call 35; refine (rename_c k d m o.name o.to w1 HD1.out HK0.out HO.out HN.out HNT.out).mono ?_; rintro e w2 ⟨rfl, c2, hcx2, hkp2, hd2⟩; have HX2 := Lib.hid hcx2; have HK2 := Lib.hid hkp2; have HD2 := Lib.hid hd2; clear hcx2 hkp2 hd2; have HR2 := Lib.hid (HR1.out.kp HK2.out HKK.out HX2.out)))
  clear p0 p1 p2 p3 p4 c0
  have hlen : (o.data.length : Int) ≤ 9223372036854775807 := by have := HB.out; unfold lim at this; omega
  go_loopw [83] (fun s wr => ∃ i : Nat, i ≤ o.data.length ∧ s = .int .i64 i ∧ XInv w2 c2 kk av i wr) (fun s _ => o.data.length - (intOf s).toNat)
  case atStart => exact ⟨0, Nat.zero_le _, rfl, xinv_start _ _ _ _⟩
  case round =>
    obtain ⟨i, hi, rfl, I⟩ := hrel
    have HI := Lib.hid I; clear I
    by_cases hlt : i < o.data.length
    · obtain ⟨g, x, rfl, hg, hcell, hfz⟩ := xinv_cell HR2.out HI.out hlt
      have HG := Lib.hid hg; clear hg
      unfold bv at hcell
      go_wp2
      go_roundw
      case rel => exact ⟨i + 1, by omega, by go_num, xinv_step HI.out HG.out _⟩
      case measure => simp [intOf]; omega
    · obtain rfl : i = o.data.length := by omega
      go_wp2
      go_ret
      exact ⟨rfl, op_end HKK0.out HKK.out HKF.out (HCW.out.trans HX1.out (KW.out S2F).size) (fun S => (KW.out S).below HB1.out (by rw [HWs.out]; omega)) HX2.out HK2.out HD2.out HI.out⟩
set_option maxHeartbeats 8000000 in
theorem do_remove (k d : Nat) (m : ADisk) (o : AOp) (vd vk vf vu : Value) (w : World) (DD : DiskAt w c k d m) (hk0 : k ≠ 0) (hops : m.ops < 900000) (hn : o.name.length ≤ maxLen) (hnt : o.to.length ≤ maxLen) (hv : Sw w c (0, 0) vd (o.data.map bv)) (hb : o.data.length ≤ lim)
    (hat : -9223372036854775808 ≤ o.at_ ∧ o.at_ ≤ 9223372036854775807) (hlo : -9223372036854775808 ≤ o.long ∧ o.long ≤ 9223372036854775807) (hvk : vk.oneCell' = true) (hvf : vf.oneCell' = true) (hvu : vu.oneCell' = true) (hkind : o.kind = 6) :
    Calls Try.prog 12 #[ptr d, opV o vd vk vf vu] w (OpPost k d (doOp m o) c w) := by
  have e0 : doOp m o = Dk.remove m o.name := by unfold doOp; simp [hkind]
  rw [e0]
  obtain ⟨ad, capd, rfl, -⟩ := id hv
  obtain ⟨kk, hkk0, hkk, hkf⟩ := fresh_col c w.heap.size k
  obtain ⟨W, hW⟩ : ∃ W, W = w.alloc (.cells #[.int .i64 6, .string ⟨o.name.toArray⟩, .string ⟨o.to.toArray⟩, .int .i64 o.at_, .int .i64 o.long, .slice ad o.data.length capd, .int .i64 o.plan.crash, vk, vf, vu, .int .i64 o.plan.room] 32) := ⟨_, rfl⟩
  have KW : Hid (∀ S, Kp c S w W) := by intro S; rw [hW]; exact (Kp.refl c S w).alloc _
  have HOP : Hid (W.heap[w.heap.size]? = some (.cells #[.int .i64 6, .string ⟨o.name.toArray⟩, .string ⟨o.to.toArray⟩, .int .i64 o.at_, .int .i64 o.long, .slice ad o.data.length capd, .int .i64 o.plan.crash, vk, vf, vu, .int .i64 o.plan.room] 32 (0, 0))) := by rw [hW]; exact heap_alloc_new _ _
  have hWs : W.heap.size = w.heap.size + 1 := by rw [hW]; simp
  have c0 := cell_of_heap HOP.out 0
  obtain ⟨cW, hcW⟩ : ∃ cW : Col, cW = fun b => if b < w.heap.size then c b else (0, 0) := ⟨_, rfl⟩
  have HCW : Hid (Cx w c cW) := by intro b hb; rw [hcW]; exact if_pos hb
  have HC0 : Hid (cW w.heap.size = (0, 0)) := by rw [hcW]; exact if_neg (by omega)
  clear hcW
  have HV := Lib.hid (hv.kp (KW.out S2F) (fun h => h) HCW.out); clear hv
  have HD := Lib.hid (DD.kp (KW.out S2F) (fun _ h => h.elim) HCW.out); clear DD
  have HK0 := Lib.hid hk0; clear hk0
  have HO := Lib.hid hops; clear hops
  have HN := Lib.hid hn; clear hn
  have HNT := Lib.hid hnt; clear hnt
  have HB := Lib.hid hb; clear hb
  have HAT := Lib.hid hat; clear hat
  have HLO := Lib.hid hlo; clear hlo
  have HKK0 := Lib.hid hkk0; clear hkk0
  have HKK := Lib.hid hkk; clear hkk
  have HKF := Lib.hid hkf; clear hkf
  have HVK := Lib.hid hvk; clear hvk
  have HVF := Lib.hid hvf; clear hvf
  have HVU := Lib.hid hvu; clear hvu
  have HWs := Lib.hid hWs; clear hWs
  have HW := Lib.hid hW; clear hW
  clear e0
  unfold opV str ptr
  rw [hkind]; clear hkind
  simp only [List.length_map] at HV ⊢
  go_enter Try.func12, Try.ntmps12
  go_wp2_with (first
    | (go_at_call 32; rw [← HW.out]; refine (ltwin _ _ HV.out (one_bv _) (by rw [List.length_map]; exact HB.out)).mono ?_; rintro e w1 ⟨v1, rfl, hown1, hb1⟩; (obtain ⟨av, cap, rfl, -⟩ := Sc.of_owns (c := fun _ => (0, 0)) (q := (0, 0)) hown1 (fun _ _ => rfl)); rw [List.length_map] at hown1 ⊢; have HOW := Lib.hid hown1; have HB1 := Lib.hid hb1; clear hown1 hb1; (obtain ⟨c1, hc1⟩ : ∃ c1 : Col, c1 = fun b => if b < W.heap.size then cW b else (kk, 0) := ⟨_, rfl⟩); have HX1 : Hid (Cx W cW c1) := (fun b hb => by rw [hc1]; exact if_pos hb); have HG1 : Hid (∀ g, (Value.slice av o.data.length cap).ownBlock = some g → c1 g = (kk, 0)) := (fun g hg => by rw [hc1]; exact if_neg (Nat.not_lt.2 (own_base HOW.out g hg))); clear hc1; have HD1 := Lib.hid (HD.out.kp (Kp.of_below (S := S2F) HB1.out) (fun _ h => h.elim) HX1.out); have HV1 := Lib.hid (Sc.of_owns HOW.out HG1.out); have HR1 := Lib.hid (xrow_of HOW.out HG1.out); have HP1 := Lib.hid ((HB1.out.block _ (by rw [HWs.out]; omega)).trans HOP.out); have p0 := cell_of_heap HP1.out 0; have p1 := cell_of_heap HP1.out 1; have p2 := cell_of_heap HP1.out 2; have p3 := cell_of_heap HP1.out 3; have p4 := cell_of_heap HP1.out 4)
    | (go_at_call 36; refine (remove_c k d m o.name w1 HD1.out HK0.out HO.out HN.out).mono ?_; rintro e w2 ⟨rfl, c2, hcx2, hkp2, hd2⟩; have HX2 := Lib.hid hcx2; have HK2 := Lib.hid hkp2; have HD2 := Lib.hid hd2; clear hcx2 hkp2 hd2; have HR2 := Lib.hid (HR1.out.kp HK2.out HKK.out HX2.out)))
  clear p0 p1 p2 p3 p4 c0
  have hlen : (o.data.length : Int) ≤ 9223372036854775807 := by have := HB.out; unfold lim at this; omega
  go_loopw [83] (fun s wr => ∃ i : Nat, i ≤ o.data.length ∧ s = .int .i64 i ∧ XInv w2 c2 kk av i wr) (fun s _ => o.data.length - (intOf s).toNat)
  case atStart => exact ⟨0, Nat.zero_le _, rfl, xinv_start _ _ _ _⟩
  case round =>
    obtain ⟨i, hi, rfl, I⟩ := hrel
    have HI := Lib.hid I; clear I
    by_cases hlt : i < o.data.length
    · obtain ⟨g, x, rfl, hg, hcell, hfz⟩ := xinv_cell HR2.out HI.out hlt
      have HG := Lib.hid hg; clear hg
      unfold bv at hcell
      go_wp2
      go_roundw
      case rel => exact ⟨i + 1, by omega, by go_num, xinv_step HI.out HG.out _⟩
      case measure => simp [intOf]; omega
    · obtain rfl : i = o.data.length := by omega
      go_wp2
      go_ret
      exact ⟨rfl, op_end HKK0.out HKK.out HKF.out (HCW.out.trans HX1.out (KW.out S2F).size) (fun S => (KW.out S).below HB1.out (by rw [HWs.out]; omega)) HX2.out HK2.out HD2.out HI.out⟩
set_option maxHeartbeats 8000000 in
theorem do_read (k d : Nat) (m : ADisk) (o : AOp) (vd vk vf vu : Value) (w : World) (DD : DiskAt w c k d m) (hk0 : k ≠ 0) (hops : m.ops < 900000) (hn : o.name.length ≤ maxLen) (hnt : o.to.length ≤ maxLen) (hv : Sw w c (0, 0) vd (o.data.map bv)) (hb : o.data.length ≤ lim)
    (hat : -9223372036854775808 ≤ o.at_ ∧ o.at_ ≤ 9223372036854775807) (hlo : -9223372036854775808 ≤ o.long ∧ o.long ≤ 9223372036854775807) (hvk : vk.oneCell' = true) (hvf : vf.oneCell' = true) (hvu : vu.oneCell' = true) (h0 : o.kind ≠ 0) (h1 : o.kind ≠ 1) (h2 : o.kind ≠ 2) (h3 : o.kind ≠ 3) (h4 : o.kind ≠ 4) (h5 : o.kind ≠ 5) (h6 : o.kind ≠ 6) (h7 : o.kind ≠ 7) :
    Calls Try.prog 12 #[ptr d, opV o vd vk vf vu] w (OpPost k d (doOp m o) c w) := by
  have e0 : doOp m o = ((read m o.name o.at_ o.long).2, m) := by unfold doOp; simp [h0, h1, h2, h3, h4, h5, h6, h7]
  rw [e0]
  obtain ⟨ad, capd, rfl, -⟩ := id hv
  obtain ⟨kk, hkk0, hkk, hkf⟩ := fresh_col c w.heap.size k
  obtain ⟨W, hW⟩ : ∃ W, W = w.alloc (.cells #[.int .i64 o.kind, .string ⟨o.name.toArray⟩, .string ⟨o.to.toArray⟩, .int .i64 o.at_, .int .i64 o.long, .slice ad o.data.length capd, .int .i64 o.plan.crash, vk, vf, vu, .int .i64 o.plan.room] 32) := ⟨_, rfl⟩
  have KW : Hid (∀ S, Kp c S w W) := by intro S; rw [hW]; exact (Kp.refl c S w).alloc _
  have HOP : Hid (W.heap[w.heap.size]? = some (.cells #[.int .i64 o.kind, .string ⟨o.name.toArray⟩, .string ⟨o.to.toArray⟩, .int .i64 o.at_, .int .i64 o.long, .slice ad o.data.length capd, .int .i64 o.plan.crash, vk, vf, vu, .int .i64 o.plan.room] 32 (0, 0))) := by rw [hW]; exact heap_alloc_new _ _
  have hWs : W.heap.size = w.heap.size + 1 := by rw [hW]; simp
  have c0 := cell_of_heap HOP.out 0
  obtain ⟨cW, hcW⟩ : ∃ cW : Col, cW = fun b => if b < w.heap.size then c b else (0, 0) := ⟨_, rfl⟩
  have HCW : Hid (Cx w c cW) := by intro b hb; rw [hcW]; exact if_pos hb
  have HC0 : Hid (cW w.heap.size = (0, 0)) := by rw [hcW]; exact if_neg (by omega)
  clear hcW
  have HV := Lib.hid (hv.kp (KW.out S2F) (fun h => h) HCW.out); clear hv
  have HD := Lib.hid (DD.kp (KW.out S2F) (fun _ h => h.elim) HCW.out); clear DD
  have HK0 := Lib.hid hk0; clear hk0
  have HO := Lib.hid hops; clear hops
  have HN := Lib.hid hn; clear hn
  have HNT := Lib.hid hnt; clear hnt
  have HB := Lib.hid hb; clear hb
  have HAT := Lib.hid hat; clear hat
  have HLO := Lib.hid hlo; clear hlo
  have HKK0 := Lib.hid hkk0; clear hkk0
  have HKK := Lib.hid hkk; clear hkk
  have HKF := Lib.hid hkf; clear hkf
  have HVK := Lib.hid hvk; clear hvk
  have HVF := Lib.hid hvf; clear hvf
  have HVU := Lib.hid hvu; clear hvu
  have HWs := Lib.hid hWs; clear hWs
  have HW := Lib.hid hW; clear hW
  clear e0
  unfold opV str ptr
  
  simp only [List.length_map] at HV ⊢
  go_enter Try.func12, Try.ntmps12
  go_wp2_with (first
    | (go_at_call 32; rw [← HW.out]; refine (ltwin _ _ HV.out (one_bv _) (by rw [List.length_map]; exact HB.out)).mono ?_; rintro e w1 ⟨v1, rfl, hown1, hb1⟩; (obtain ⟨av, cap, rfl, -⟩ := Sc.of_owns (c := fun _ => (0, 0)) (q := (0, 0)) hown1 (fun _ _ => rfl)); rw [List.length_map] at hown1 ⊢; have HOW := Lib.hid hown1; have HB1 := Lib.hid hb1; clear hown1 hb1; (obtain ⟨c1, hc1⟩ : ∃ c1 : Col, c1 = fun b => if b < W.heap.size then cW b else (kk, 0) := ⟨_, rfl⟩); have HX1 : Hid (Cx W cW c1) := (fun b hb => by rw [hc1]; exact if_pos hb); have HG1 : Hid (∀ g, (Value.slice av o.data.length cap).ownBlock = some g → c1 g = (kk, 0)) := (fun g hg => by rw [hc1]; exact if_neg (Nat.not_lt.2 (own_base HOW.out g hg))); clear hc1; have HD1 := Lib.hid (HD.out.kp (Kp.of_below (S := S2F) HB1.out) (fun _ h => h.elim) HX1.out); have HV1 := Lib.hid (Sc.of_owns HOW.out HG1.out); have HR1 := Lib.hid (xrow_of HOW.out HG1.out); have HP1 := Lib.hid ((HB1.out.block _ (by rw [HWs.out]; omega)).trans HOP.out); have p0 := cell_of_heap HP1.out 0; have p1 := cell_of_heap HP1.out 1; have p2 := cell_of_heap HP1.out 2; have p3 := cell_of_heap HP1.out 3; have p4 := cell_of_heap HP1.out 4)
    | (go_at_call 21; refine (read_c k d m o.name o.at_ o.long w1 HD1.out HN.out HAT.out HLO.out).mono ?_; rintro e w2 ⟨vr, c2, rfl, hcx2, hkp2, -⟩; have hd2 := HD1.out.kp (hkp2 S2F) (fun _ h => h.elim) hcx2; have hkp2 := hkp2 (fun q => q.1 = k); have HX2 := Lib.hid hcx2; have HK2 := Lib.hid hkp2; have HD2 := Lib.hid hd2; clear hcx2 hkp2 hd2; have HR2 := Lib.hid (HR1.out.kp HK2.out HKK.out HX2.out)))
  clear p0 p1 p2 p3 p4 c0
  have hlen : (o.data.length : Int) ≤ 9223372036854775807 := by have := HB.out; unfold lim at this; omega
  go_loopw [83] (fun s wr => ∃ i : Nat, i ≤ o.data.length ∧ s = .int .i64 i ∧ XInv w2 c2 kk av i wr) (fun s _ => o.data.length - (intOf s).toNat)
  case atStart => exact ⟨0, Nat.zero_le _, rfl, xinv_start _ _ _ _⟩
  case round =>
    obtain ⟨i, hi, rfl, I⟩ := hrel
    have HI := Lib.hid I; clear I
    by_cases hlt : i < o.data.length
    · obtain ⟨g, x, rfl, hg, hcell, hfz⟩ := xinv_cell HR2.out HI.out hlt
      have HG := Lib.hid hg; clear hg
      unfold bv at hcell
      go_wp2
      go_roundw
      case rel => exact ⟨i + 1, by omega, by go_num, xinv_step HI.out HG.out _⟩
      case measure => simp [intOf]; omega
    · obtain rfl : i = o.data.length := by omega
      go_wp2
      go_ret
      exact ⟨rfl, op_end HKK0.out HKK.out HKF.out (HCW.out.trans HX1.out (KW.out S2F).size) (fun S => (KW.out S).below HB1.out (by rw [HWs.out]; omega)) HX2.out HK2.out HD2.out HI.out⟩
end Go.Proofs.Ytepphepcaphlkaa
