/- The document's Open. -/
import Derived.Test.YtnifmoigalmcmaaGreatWa
namespace Go.Proofs.YtnifmoigalmcmaaGreat
open Go Go.RowKit Dk
open Wl
variable {c c' : Col} {w w' : World} {S : Nat × Nat → Prop} {q : Nat × Nat}
variable {kl lb r k : Nat} {nm : Nm} {vl vb : Value} {m : ADisk} {g : Lg} {batch : List Bs}
/-- How a call on the document's log ends. -/
def RLPost (k kl r lb : Nat) (n : Nm) (R : Int × ADisk × Lg) (c : Col) (w : World) (e : Ending) (w' : World) : Prop :=
  e = .returned (.int .i64 R.1) ∧ ∃ c', Cx w c c' ∧ Kp c (fun q => q.1 = k ∨ q.1 = kl) w w' ∧ RD w' c' k r R.2.1 ∧ ∃ vl', RLogAt w' c' kl lb r n vl' R.2.2.ls R.2.2.size R.2.2.dirty
/-- How the document's Open ends. -/
def ROPost (k kl r : Nat) (n : Nm) (R : Int × ADisk × Lg) (c : Col) (w : World) (e : Ending) (w' : World) : Prop :=
  ∃ c', Cx w c c' ∧ Kp c (fun q => q.1 = k) w w' ∧ RD w' c' k r R.2.1 ∧
    (R.1 = 0 → ∃ lb vl, e = .returned (.tuple #[ptr lb, .int .i64 0]) ∧ w.heap.size ≤ lb ∧ RLogAt w' c' kl lb r n vl R.2.2.ls R.2.2.size R.2.2.dirty) ∧
    (R.1 ≠ 0 → e = .returned (.tuple #[.pointer none, .int .i64 R.1]))
theorem RD.okk {k r : Nat} {m : ADisk} (h : RD w c k r m) : m.ok := by
  obtain ⟨_, _, _, _, _, h⟩ := h
  exact h.ok
set_option maxRecDepth 20000 in
theorem ropen_dead (n : Nm) (w : World) (DD : RD w c k r m) (hops : m.ops < 899980) (hd : m.dead = true) :
    Calls Tryz.prog 15 #[ptr r, str n] w (ROPost k kl r n (10, m, ⟨[], 0, false⟩) c w) := by
  have hcol : Cx w c (newCol w c (0, 0)) := newCol_cx _ _ _
  obtain ⟨o, ho⟩ : ∃ o, o = Obj.cells #[ptr r, str n, .slice none 0 0, .int .i64 0, .bool false] 126 := ⟨_, rfl⟩
  have D1 := DD.kp ((Kp.refl c (fun _ => False) w).alloc o) (fun _ h => h.elim) hcol
  have hs := rsize_c k r m n (w.alloc o) D1 (by omega)
  rw [size_dead hd] at hs
  have HS := Lib.hid hs; have HO := Lib.hid ho; have HD1 := Lib.hid D1; have HCOL := Lib.hid hcol
  clear hs D1 DD hd hcol
  unfold ptr str at *
  go_enter Tryz.func15, Tryz.ntmps15
  rw [HO.out] at HS
  go_wp2_with (go_at_call 61; refine HS.out.mono ?_; rintro _ w1 ⟨rfl, hk1⟩; have HK1 := Lib.hid hk1; clear hk1)
  go_ret2
  have k0 : Kp c (fun q => q.1 = k) w w1 := ((Kp.refl c _ w).alloc _).trans (HK1.out _) HCOL.out
  exact ⟨_, HCOL.out, k0, (HO.out ▸ HD1.out : RD (w.alloc _) _ k r m).kp (HK1.out (fun _ => False)) (fun _ h => h.elim) (Cx.refl _ _), fun h => absurd (show (10 : Int) = 0 from h) (by decide), fun _ => rfl⟩
theorem rlog_new (kl r : Nat) (n : Nm) (w : World) (c : Col) : RLogAt (w.alloc (.cells #[ptr r, str n, .slice none 0 0, .int .i64 0, .bool false] 126)) (newCol w c (kl, 0)) kl w.heap.size r n (.slice none 0 0) [] 0 false :=
  ⟨heap_alloc_new _ _, if_neg (Nat.lt_irrefl _), ⟨[], World.ownsRow_nil _ _ _ _, fun i x y hi => by simp at hi⟩, fun g hg => by cases hg⟩
set_option maxRecDepth 20000 in
theorem ropen_none (n : Nm) (w : World) (DD : RD w c k r m) (hk0 : k ≠ 0) (hkl : kl ≠ k) (hops : m.ops < 899980) (hn : n.length ≤ maxLen) (hd : m.dead = false) (hg : get m.files n = none) :
    Calls Tryz.prog 15 #[ptr r, str n] w (ROPost k kl r n ((create m n).1, (create m n).2, ⟨[], 0, false⟩) c w) := by
  obtain ⟨p, hp⟩ : ∃ p, p = create m n := ⟨_, rfl⟩
  have hcol : Cx w c (newCol w c (kl, 0)) := newCol_cx _ _ _
  obtain ⟨o, ho⟩ : ∃ o, o = Obj.cells #[ptr r, str n, .slice none 0 0, .int .i64 0, .bool false] 126 := ⟨_, rfl⟩
  have D1 := DD.kp ((Kp.refl c (fun _ => False) w).alloc o) (fun _ h => h.elim) hcol
  have hs := rsize_c k r m n (w.alloc o) D1 (by omega)
  rw [size_none hd hg] at hs
  have hcr := fun W (hW : ∀ S, Kp (newCol w c (kl, 0)) S (w.alloc o) W) => rcreate_c k r m n W (D1.kp (hW (fun _ => False)) (fun _ h => h.elim) (Cx.refl _ _)) hk0 (by omega) hn
  simp only [← hp] at hcr ⊢
  have HS := Lib.hid hs; have HCR := Lib.hid hcr; have HO := Lib.hid ho; have HCOL := Lib.hid hcol
  clear hs hcr hp D1 DD hd hg hcol
  obtain ⟨e0, m2⟩ := p
  have L0 := rlog_new kl r n w c
  have HL0 := Lib.hid L0; clear L0
  unfold ptr str at *
  by_cases h0 : e0 = 0
  · subst h0
    go_enter Tryz.func15, Tryz.ntmps15
    rw [HO.out] at HS HCR
    go_wp2_with (first
      | (go_at_call 61; refine HS.out.mono ?_; rintro _ w1 ⟨rfl, hk1⟩; have HK1 := Lib.hid hk1; clear hk1)
      | (go_at_call 62; refine (HCR.out _ HK1.out).mono ?_; rintro _ w2 ⟨rfl, c2, hc2, hk2, hd2⟩; have HC2 := Lib.hid hc2; have HK2 := Lib.hid hk2; have HD2 := Lib.hid hd2; clear hc2 hk2 hd2))
    go_ret2
    have k0 : Kp c (fun q => q.1 = k) w w2 := (((Kp.refl c _ w).alloc _).trans (HK1.out _) HCOL.out).trans HK2.out HCOL.out
    have cx : Cx w c c2 := HCOL.out.trans HC2.out (by have := (HK1.out (fun _ => False)).size; simp at this; omega)
    have L2 := (HL0.out.kp (HK1.out (fun _ => False)) (fun h => h) (fun h => h) (fun h => h) (Cx.refl _ _)).kp HK2.out (by simp; exact hkl) (by simp; exact hkl) (by simp; exact fun h => hk0 h.symm) HC2.out
    exact ⟨c2, cx, k0, HD2.out, fun _ => ⟨w.heap.size, _, rfl, Nat.le_refl _, L2⟩, fun h => absurd rfl h⟩
  · have hb : (e0 == 0) = false := by simpa using h0
    go_enter Tryz.func15, Tryz.ntmps15
    rw [HO.out] at HS HCR
    go_wp2_with (first
      | (go_at_call 61; refine HS.out.mono ?_; rintro _ w1 ⟨rfl, hk1⟩; have HK1 := Lib.hid hk1; clear hk1)
      | (go_at_call 62; refine (HCR.out _ HK1.out).mono ?_; rintro _ w2 ⟨rfl, c2, hc2, hk2, hd2⟩; have HC2 := Lib.hid hc2; have HK2 := Lib.hid hk2; have HD2 := Lib.hid hd2; clear hc2 hk2 hd2))
    go_ret2
    have k0 : Kp c (fun q => q.1 = k) w w2 := (((Kp.refl c _ w).alloc _).trans (HK1.out _) HCOL.out).trans HK2.out HCOL.out
    have cx : Cx w c c2 := HCOL.out.trans HC2.out (by have := (HK1.out (fun _ => False)).size; simp at this; omega)
    exact ⟨c2, cx, k0, HD2.out, fun h => absurd h h0, fun _ => rfl⟩
end Go.Proofs.YtnifmoigalmcmaaGreat
/- The document's Open on a disk that has such a file. -/
namespace Go.Proofs.YtnifmoigalmcmaaGreat
open Go Go.RowKit Dk
open Wl
variable {c c' : Col} {w w' : World} {S : Nat × Nat → Prop} {q : Nat × Nat}
variable {kl lb r k : Nat} {nm : Nm} {vl vb : Value} {m : ADisk} {g : Lg} {batch : List Bs}
theorem ropen_log {w1 w2 : World} {c1 cf : Col} {v : Value} {ls : List (List Bs)} {s : Nat} (hh : w1.heap[lb]? = some (.cells #[ptr r, str nm, .slice none 0 0, .int .i64 0, .bool false] 126 (0, 0))) (hcl : c1 lb = (kl, 0)) (hkl0 : kl ≠ 0)
    (G : Grow QL w1.heap.size w2 40 v cf ls) (hk : ∀ c S, Kp c S w1 w2) :
    RLogAt ((w2.setCell ⟨lb, 2, none⟩ v).setCell ⟨lb, 3, none⟩ (.int .i64 (s : Int))) (readCol w1 c1 cf kl) kl lb r nm v ls s false ∧
      Kp (readCol w1 c1 cf kl) (· = (kl, 0)) w2 ((w2.setCell ⟨lb, 2, none⟩ v).setCell ⟨lb, 3, none⟩ (.int .i64 (s : Int))) := by
  obtain ⟨⟨xs, ho, hx⟩, hc, hold, hs⟩ := G
  have hlt : lb < w1.heap.size := lt_of_heap hh
  have hcb : readCol w1 c1 cf kl lb = (kl, 0) := (if_pos hlt).trans hcl
  have hk3 : Kp (readCol w1 c1 cf kl) (· = (kl, 0)) w2 ((w2.setCell ⟨lb, 2, none⟩ v).setCell ⟨lb, 3, none⟩ (.int .i64 (s : Int))) := ((Kp.refl _ _ _).setCell (fun _ => hcb) _).setCell (fun _ => hcb) _
  have hov : ∀ g, v.ownBlock = some g → readCol w1 c1 cf kl g = (kl, 1) := fun g hg => by
    have h1 := hc g hg
    have h2 : ¬ g < w1.heap.size := fun hlt => by rw [hold g hlt] at h1; cases h1
    unfold readCol
    rw [if_neg h2, if_pos h1]
  have hz : ∀ b, cf b = (0, 0) → readCol w1 c1 cf kl b = (0, 0) := fun b hb => by
    have h2 : ¬ b < w1.heap.size := fun hlt => by rw [hold b hlt] at hb; cases hb
    unfold readCol
    rw [if_neg h2, if_neg (by rw [hb]; decide)]
  refine ⟨⟨?_, hcb, ⟨xs, ownsRow_kp ho hov hk3 (by simp), fun i x y hi hj => QL.stays.stay (Bat.recol (hx i x y hi hj) hz hz) hk3 (by simp; exact fun h => hkl0 h.symm) (Cx.refl _ _)⟩, hov⟩, hk3⟩
  have := heap_setCell (heap_setCell ((hk c1 (fun _ => False)).heap hh (fun h => h)) 2 v) 3 (.int .i64 (s : Int))
  rw [this]
  simp
set_option maxRecDepth 20000 in
set_option maxHeartbeats 2000000 in
theorem ropen_some (n : Nm) (f : AFile) (w : World) (DD : RD w c k r m) (hk0 : k ≠ 0) (hkl : kl ≠ k) (hkl0 : kl ≠ 0) (hops : m.ops < 899980) (hd : m.dead = false) (hg : get m.files n = some f) (hf : f.now.length ≤ 1000000000)
    (R : List (List Bs) × Nat) (hR : R = Wl.read kec f.now) :
    Calls Tryz.prog 15 #[ptr r, str n] w (ROPost k kl r n ((if R.2 < f.now.length then trimD m n R.2 else (0, m)).1, (if R.2 < f.now.length then trimD m n R.2 else (0, m)).2, ⟨R.1, R.2, false⟩) c w) := by
  have hcol : Cx w c (newCol w c (kl, 0)) := newCol_cx _ _ _
  obtain ⟨ca, hca⟩ : ∃ ca, ca = newCol w c (kl, 0) := ⟨_, rfl⟩
  have hcl : ca w.heap.size = (kl, 0) := by rw [hca]; exact if_neg (Nat.lt_irrefl _)
  rw [← hca] at hcol
  obtain ⟨o, ho⟩ : ∃ o, o = Obj.cells #[ptr r, str n, .slice none 0 0, .int .i64 0, .bool false] 126 := ⟨_, rfl⟩
  have D1 := DD.kp ((Kp.refl c (fun _ => False) w).alloc o) (fun _ h => h.elim) hcol
  have hs := rsize_c k r m n (w.alloc o) D1 (by omega)
  rw [size_some hd hg] at hs
  have hrd := fun W (hW : ∀ S, Kp ca S (w.alloc o) W) => rread_c k r m n 0 (f.now.length : Int) W (D1.kp (hW (fun _ => False)) (fun _ h => h.elim) (Cx.refl _ _)) (by omega) (by omega) (by omega)
  unfold ReadPost at hrd
  simp only [read_some hd hg] at hrd
  obtain ⟨X, hX⟩ : ∃ X, X = f.now := ⟨_, rfl⟩
  rw [← hX] at hf hR hs ⊢
  simp only [← hX] at hrd
  have HS := Lib.hid hs; have HRD := Lib.hid hrd; have HO := Lib.hid ho; have HR := Lib.hid hR; have HCL := Lib.hid hcl; have HCOL := Lib.hid hcol; have HD1 := Lib.hid D1
  have hh0 := heap_alloc_new w o
  have HH0 := Lib.hid hh0
  have hto := truncate_ops m n R.2
  obtain ⟨T, hT⟩ : ∃ T, T = truncate m n R.2 := ⟨_, rfl⟩
  rw [← hT] at hto
  have htr := fun W cW (hW : RD W cW k r m) => rtruncate_c k r m n R.2 W hW hk0 (by omega)
  have hsy := fun W cW (hW : RD W cW k r T.2) => rsync_c k r T.2 n W hW hk0 (by omega)
  unfold RPost at htr hsy
  simp only [← hT] at htr
  have hte : trimD m n R.2 = if T.1 = 0 then sync T.2 n else T := by rw [hT]; rfl
  obtain ⟨Y, hY⟩ : ∃ Y, Y = sync T.2 n := ⟨_, rfl⟩
  rw [← hY] at hte
  simp only [← hY] at hsy
  rw [hte]
  have HT := Lib.hid htr; have HY := Lib.hid hsy
  clear hs hrd D1 DD hd hg hcl hca hcol hR hh0 hX htr hsy hto hT hY hte
  clear ho
  obtain ⟨t1, m1⟩ := T
  obtain ⟨y1, m2⟩ := Y
  unfold ptr str at *
  by_cases hsz : R.2 < X.length
  · rw [if_pos hsz]
    by_cases ht : t1 = 0
    · subst ht
      rw [if_pos rfl]
      by_cases hy : y1 = 0
      · subst hy
        go_enter Tryz.func15, Tryz.ntmps15
        rw [HO.out] at HS HRD HH0 HD1
        go_wp2_with (first
          | (go_at_call 61; refine HS.out.mono ?_; rintro _ w1 ⟨rfl, hk1⟩; have HK1 := Lib.hid hk1; clear hk1)
          | (go_at_call 63; refine (HRD.out _ HK1.out).mono ?_; rintro _ w2 ⟨v2, c2, rfl, hc2, hk2, hs2⟩; have hh2 := (hk2 (fun _ => False)).heap ((HK1.out (fun _ => False)).heap HH0.out (fun h => h)) (fun h => h); have HH2 := Lib.hid hh2; have HC2 := Lib.hid hc2; have HK2 := Lib.hid hk2; have HS2 := Lib.hid hs2; clear hc2 hk2 hs2 hh2)
          | (go_at_call 64; refine (wrread_c _ _ X HS2.out.wide hf).mono ?_; rintro _ w3 ⟨v3, cf3, rfl, hg3, hk3⟩; rw [← HR.out] at hg3 ⊢; obtain ⟨xb, hxb, -⟩ := hg3.own; obtain ⟨a3, k3', rfl⟩ := own_shape1 hxb; have hh3 := (hk3 c2 (fun _ => False)).heap HH2.out (fun h => h); have g0 : w3.cell? ⟨w.heap.size, 0, none⟩ = some (.pointer (some ⟨r, 0, none⟩)) := cell_of_heap hh3 0; have g1 : w3.cell? ⟨w.heap.size, 1, none⟩ = some (.string ⟨n.toArray⟩) := cell_of_heap hh3 1; have g2 : w3.cell? ⟨w.heap.size, 2, none⟩ = some (.slice none 0 0) := cell_of_heap hh3 2; have g3 : w3.cell? ⟨w.heap.size, 3, none⟩ = some (.int .i64 0) := cell_of_heap hh3 3; have gf := unfrozen_of_heap hh3; have HG3 := Lib.hid hg3; have HK3 := Lib.hid hk3; clear hg3 hk3 hxb hh3)
          | (go_at_call 65; obtain ⟨L4, K4⟩ := ropen_log (s := R.2) (r := r) (nm := n) (kl := kl) HH2.out ((HC2.out _ (Nat.lt_of_lt_of_le (by simp) (HK1.out (fun _ => False)).size)).trans HCL.out) hkl0 HG3.out HK3.out; have hcx := readCol_cx w2 c2 cf3 kl; have D2 := (HD1.out.kp (HK1.out (fun _ => False)) (fun _ h => h.elim) (Cx.refl _ _)).kp (HK2.out (fun _ => False)) (fun _ h => h.elim) HC2.out; have D4 := (D2.kp (HK3.out c2 (fun _ => False)) (fun _ h => h.elim) hcx).kp K4 (fun q hq => by rw [hq]; exact ⟨hkl, by simp; exact hkl0⟩) (Cx.refl _ _); refine (HT.out _ _ D4).mono ?_; rintro _ w5 ⟨rfl, c5, hc5, hk5, hd5⟩; have L5 := L4.kp hk5 (by simp; exact hkl) (by simp; exact hkl) (by simp; exact fun h => hk0 h.symm) hc5; have z0 := L5.c0; have z1 := L5.c1; unfold ptr at z0; unfold str at z1; have HC5 := Lib.hid hc5; have HK5 := Lib.hid hk5; have HD5 := Lib.hid hd5; have HL5 := Lib.hid L5; clear hc5 hk5 hd5 L4 K4 hcx D2 D4 L5)
          | (go_at_call 66; refine (HY.out _ _ HD5.out).mono ?_; rintro _ w6 ⟨rfl, c6, hc6, hk6, hd6⟩; have L6 := HL5.out.kp hk6 (by simp; exact hkl) (by simp; exact hkl) (by simp; exact fun h => hk0 h.symm) hc6; have HC6 := Lib.hid hc6; have HK6 := Lib.hid hk6; have HD6 := Lib.hid hd6; have HL6 := Lib.hid L6; clear hc6 hk6 hd6 L6))
        go_ret2
        obtain ⟨L4, K4⟩ := ropen_log (s := R.2) (r := r) (nm := n) (kl := kl) HH2.out ((HC2.out _ (Nat.lt_of_lt_of_le (by simp) (HK1.out (fun _ => False)).size)).trans HCL.out) hkl0 HG3.out HK3.out
        have hcx := readCol_cx w2 c2 cf3 kl
        have D2 := (HD1.out.kp (HK1.out (fun _ => False)) (fun _ h => h.elim) (Cx.refl _ _)).kp (HK2.out (fun _ => False)) (fun _ h => h.elim) HC2.out
        have D4 := (D2.kp (HK3.out c2 (fun _ => False)) (fun _ h => h.elim) hcx).kp K4 (fun q hq => by rw [hq]; exact ⟨hkl, by simp; exact hkl0⟩) (Cx.refl _ _)
        have k3 : Kp c (fun q => q.1 = k) w w3 := ((((Kp.refl c _ w).alloc _).trans (HK1.out _) HCOL.out).trans (HK2.out _) HCOL.out).trans (HK3.out _ _) (HCOL.out.trans HC2.out (Nat.le_trans (by simp) (HK1.out (fun _ => False)).size))
        have k4 : Kp c (fun q => q.1 = k) w ((w3.setCell ⟨w.heap.size, 2, none⟩ (.slice a3 R.1.length k3')).setCell ⟨w.heap.size, 3, none⟩ (.int .i64 (R.2 : Int))) := (k3.setCell (fun h => absurd h (Nat.lt_irrefl _)) _).setCell (fun h => absurd h (Nat.lt_irrefl _)) _
        have cx4 : Cx w c (readCol w2 c2 cf3 kl) := (HCOL.out.trans HC2.out (Nat.le_trans (by simp) (HK1.out (fun _ => False)).size)).trans hcx (Nat.le_trans (Nat.le_trans (by simp) (HK1.out (fun _ => False)).size) (HK2.out (fun _ => False)).size)
        have s4 := k4.size
        exact ⟨c6, (cx4.trans HC5.out s4).trans HC6.out (Nat.le_trans s4 HK5.out.size), (k4.trans HK5.out cx4).trans HK6.out (cx4.trans HC5.out s4), HD6.out, fun _ => ⟨w.heap.size, _, rfl, Nat.le_refl _, HL6.out⟩, fun h => absurd rfl h⟩
      · have hb : (y1 == 0) = false := by simpa using hy
        go_enter Tryz.func15, Tryz.ntmps15
        rw [HO.out] at HS HRD HH0 HD1
        go_wp2_with (first
          | (go_at_call 61; refine HS.out.mono ?_; rintro _ w1 ⟨rfl, hk1⟩; have HK1 := Lib.hid hk1; clear hk1)
          | (go_at_call 63; refine (HRD.out _ HK1.out).mono ?_; rintro _ w2 ⟨v2, c2, rfl, hc2, hk2, hs2⟩; have hh2 := (hk2 (fun _ => False)).heap ((HK1.out (fun _ => False)).heap HH0.out (fun h => h)) (fun h => h); have HH2 := Lib.hid hh2; have HC2 := Lib.hid hc2; have HK2 := Lib.hid hk2; have HS2 := Lib.hid hs2; clear hc2 hk2 hs2 hh2)
          | (go_at_call 64; refine (wrread_c _ _ X HS2.out.wide hf).mono ?_; rintro _ w3 ⟨v3, cf3, rfl, hg3, hk3⟩; rw [← HR.out] at hg3 ⊢; obtain ⟨xb, hxb, -⟩ := hg3.own; obtain ⟨a3, k3', rfl⟩ := own_shape1 hxb; have hh3 := (hk3 c2 (fun _ => False)).heap HH2.out (fun h => h); have g0 : w3.cell? ⟨w.heap.size, 0, none⟩ = some (.pointer (some ⟨r, 0, none⟩)) := cell_of_heap hh3 0; have g1 : w3.cell? ⟨w.heap.size, 1, none⟩ = some (.string ⟨n.toArray⟩) := cell_of_heap hh3 1; have g2 : w3.cell? ⟨w.heap.size, 2, none⟩ = some (.slice none 0 0) := cell_of_heap hh3 2; have g3 : w3.cell? ⟨w.heap.size, 3, none⟩ = some (.int .i64 0) := cell_of_heap hh3 3; have gf := unfrozen_of_heap hh3; have HG3 := Lib.hid hg3; have HK3 := Lib.hid hk3; clear hg3 hk3 hxb hh3)
          | (go_at_call 65; obtain ⟨L4, K4⟩ := ropen_log (s := R.2) (r := r) (nm := n) (kl := kl) HH2.out ((HC2.out _ (Nat.lt_of_lt_of_le (by simp) (HK1.out (fun _ => False)).size)).trans HCL.out) hkl0 HG3.out HK3.out; have hcx := readCol_cx w2 c2 cf3 kl; have D2 := (HD1.out.kp (HK1.out (fun _ => False)) (fun _ h => h.elim) (Cx.refl _ _)).kp (HK2.out (fun _ => False)) (fun _ h => h.elim) HC2.out; have D4 := (D2.kp (HK3.out c2 (fun _ => False)) (fun _ h => h.elim) hcx).kp K4 (fun q hq => by rw [hq]; exact ⟨hkl, by simp; exact hkl0⟩) (Cx.refl _ _); refine (HT.out _ _ D4).mono ?_; rintro _ w5 ⟨rfl, c5, hc5, hk5, hd5⟩; have L5 := L4.kp hk5 (by simp; exact hkl) (by simp; exact hkl) (by simp; exact fun h => hk0 h.symm) hc5; have z0 := L5.c0; have z1 := L5.c1; unfold ptr at z0; unfold str at z1; have HC5 := Lib.hid hc5; have HK5 := Lib.hid hk5; have HD5 := Lib.hid hd5; have HL5 := Lib.hid L5; clear hc5 hk5 hd5 L4 K4 hcx D2 D4 L5)
          | (go_at_call 66; refine (HY.out _ _ HD5.out).mono ?_; rintro _ w6 ⟨rfl, c6, hc6, hk6, hd6⟩; have L6 := HL5.out.kp hk6 (by simp; exact hkl) (by simp; exact hkl) (by simp; exact fun h => hk0 h.symm) hc6; have HC6 := Lib.hid hc6; have HK6 := Lib.hid hk6; have HD6 := Lib.hid hd6; have HL6 := Lib.hid L6; clear hc6 hk6 hd6 L6))
        go_ret2
        obtain ⟨L4, K4⟩ := ropen_log (s := R.2) (r := r) (nm := n) (kl := kl) HH2.out ((HC2.out _ (Nat.lt_of_lt_of_le (by simp) (HK1.out (fun _ => False)).size)).trans HCL.out) hkl0 HG3.out HK3.out
        have hcx := readCol_cx w2 c2 cf3 kl
        have D2 := (HD1.out.kp (HK1.out (fun _ => False)) (fun _ h => h.elim) (Cx.refl _ _)).kp (HK2.out (fun _ => False)) (fun _ h => h.elim) HC2.out
        have D4 := (D2.kp (HK3.out c2 (fun _ => False)) (fun _ h => h.elim) hcx).kp K4 (fun q hq => by rw [hq]; exact ⟨hkl, by simp; exact hkl0⟩) (Cx.refl _ _)
        have k3 : Kp c (fun q => q.1 = k) w w3 := ((((Kp.refl c _ w).alloc _).trans (HK1.out _) HCOL.out).trans (HK2.out _) HCOL.out).trans (HK3.out _ _) (HCOL.out.trans HC2.out (Nat.le_trans (by simp) (HK1.out (fun _ => False)).size))
        have k4 : Kp c (fun q => q.1 = k) w ((w3.setCell ⟨w.heap.size, 2, none⟩ (.slice a3 R.1.length k3')).setCell ⟨w.heap.size, 3, none⟩ (.int .i64 (R.2 : Int))) := (k3.setCell (fun h => absurd h (Nat.lt_irrefl _)) _).setCell (fun h => absurd h (Nat.lt_irrefl _)) _
        have cx4 : Cx w c (readCol w2 c2 cf3 kl) := (HCOL.out.trans HC2.out (Nat.le_trans (by simp) (HK1.out (fun _ => False)).size)).trans hcx (Nat.le_trans (Nat.le_trans (by simp) (HK1.out (fun _ => False)).size) (HK2.out (fun _ => False)).size)
        have s4 := k4.size
        exact ⟨c6, (cx4.trans HC5.out s4).trans HC6.out (Nat.le_trans s4 HK5.out.size), (k4.trans HK5.out cx4).trans HK6.out (cx4.trans HC5.out s4), HD6.out, fun h => absurd h hy, fun _ => rfl⟩
    · rw [if_neg ht]
      have hb : (t1 == 0) = false := by simpa using ht
      go_enter Tryz.func15, Tryz.ntmps15
      rw [HO.out] at HS HRD HH0 HD1
      go_wp2_with (first
        | (go_at_call 61; refine HS.out.mono ?_; rintro _ w1 ⟨rfl, hk1⟩; have HK1 := Lib.hid hk1; clear hk1)
        | (go_at_call 63; refine (HRD.out _ HK1.out).mono ?_; rintro _ w2 ⟨v2, c2, rfl, hc2, hk2, hs2⟩; have hh2 := (hk2 (fun _ => False)).heap ((HK1.out (fun _ => False)).heap HH0.out (fun h => h)) (fun h => h); have HH2 := Lib.hid hh2; have HC2 := Lib.hid hc2; have HK2 := Lib.hid hk2; have HS2 := Lib.hid hs2; clear hc2 hk2 hs2 hh2)
        | (go_at_call 64; refine (wrread_c _ _ X HS2.out.wide hf).mono ?_; rintro _ w3 ⟨v3, cf3, rfl, hg3, hk3⟩; rw [← HR.out] at hg3 ⊢; obtain ⟨xb, hxb, -⟩ := hg3.own; obtain ⟨a3, k3', rfl⟩ := own_shape1 hxb; have hh3 := (hk3 c2 (fun _ => False)).heap HH2.out (fun h => h); have g0 : w3.cell? ⟨w.heap.size, 0, none⟩ = some (.pointer (some ⟨r, 0, none⟩)) := cell_of_heap hh3 0; have g1 : w3.cell? ⟨w.heap.size, 1, none⟩ = some (.string ⟨n.toArray⟩) := cell_of_heap hh3 1; have g2 : w3.cell? ⟨w.heap.size, 2, none⟩ = some (.slice none 0 0) := cell_of_heap hh3 2; have g3 : w3.cell? ⟨w.heap.size, 3, none⟩ = some (.int .i64 0) := cell_of_heap hh3 3; have gf := unfrozen_of_heap hh3; have HG3 := Lib.hid hg3; have HK3 := Lib.hid hk3; clear hg3 hk3 hxb hh3)
        | (go_at_call 65; obtain ⟨L4, K4⟩ := ropen_log (s := R.2) (r := r) (nm := n) (kl := kl) HH2.out ((HC2.out _ (Nat.lt_of_lt_of_le (by simp) (HK1.out (fun _ => False)).size)).trans HCL.out) hkl0 HG3.out HK3.out; have hcx := readCol_cx w2 c2 cf3 kl; have D2 := (HD1.out.kp (HK1.out (fun _ => False)) (fun _ h => h.elim) (Cx.refl _ _)).kp (HK2.out (fun _ => False)) (fun _ h => h.elim) HC2.out; have D4 := (D2.kp (HK3.out c2 (fun _ => False)) (fun _ h => h.elim) hcx).kp K4 (fun q hq => by rw [hq]; exact ⟨hkl, by simp; exact hkl0⟩) (Cx.refl _ _); refine (HT.out _ _ D4).mono ?_; rintro _ w5 ⟨rfl, c5, hc5, hk5, hd5⟩; have L5 := L4.kp hk5 (by simp; exact hkl) (by simp; exact hkl) (by simp; exact fun h => hk0 h.symm) hc5; have z0 := L5.c0; have z1 := L5.c1; unfold ptr at z0; unfold str at z1; have HC5 := Lib.hid hc5; have HK5 := Lib.hid hk5; have HD5 := Lib.hid hd5; have HL5 := Lib.hid L5; clear hc5 hk5 hd5 L4 K4 hcx D2 D4 L5))
      go_ret2
      obtain ⟨L4, K4⟩ := ropen_log (s := R.2) (r := r) (nm := n) (kl := kl) HH2.out ((HC2.out _ (Nat.lt_of_lt_of_le (by simp) (HK1.out (fun _ => False)).size)).trans HCL.out) hkl0 HG3.out HK3.out
      have hcx := readCol_cx w2 c2 cf3 kl
      have D2 := (HD1.out.kp (HK1.out (fun _ => False)) (fun _ h => h.elim) (Cx.refl _ _)).kp (HK2.out (fun _ => False)) (fun _ h => h.elim) HC2.out
      have D4 := (D2.kp (HK3.out c2 (fun _ => False)) (fun _ h => h.elim) hcx).kp K4 (fun q hq => by rw [hq]; exact ⟨hkl, by simp; exact hkl0⟩) (Cx.refl _ _)
      have k3 : Kp c (fun q => q.1 = k) w w3 := ((((Kp.refl c _ w).alloc _).trans (HK1.out _) HCOL.out).trans (HK2.out _) HCOL.out).trans (HK3.out _ _) (HCOL.out.trans HC2.out (Nat.le_trans (by simp) (HK1.out (fun _ => False)).size))
      have k4 : Kp c (fun q => q.1 = k) w ((w3.setCell ⟨w.heap.size, 2, none⟩ (.slice a3 R.1.length k3')).setCell ⟨w.heap.size, 3, none⟩ (.int .i64 (R.2 : Int))) := (k3.setCell (fun h => absurd h (Nat.lt_irrefl _)) _).setCell (fun h => absurd h (Nat.lt_irrefl _)) _
      have cx4 : Cx w c (readCol w2 c2 cf3 kl) := (HCOL.out.trans HC2.out (Nat.le_trans (by simp) (HK1.out (fun _ => False)).size)).trans hcx (Nat.le_trans (Nat.le_trans (by simp) (HK1.out (fun _ => False)).size) (HK2.out (fun _ => False)).size)
      have s4 := k4.size
      exact ⟨c5, cx4.trans HC5.out s4, k4.trans HK5.out cx4, HD5.out, fun h => absurd h ht, fun _ => rfl⟩
  · rw [if_neg hsz]
    go_enter Tryz.func15, Tryz.ntmps15
    rw [HO.out] at HS HRD HH0 HD1
    go_wp2_with (first
      | (go_at_call 61; refine HS.out.mono ?_; rintro _ w1 ⟨rfl, hk1⟩; have HK1 := Lib.hid hk1; clear hk1)
      | (go_at_call 63; refine (HRD.out _ HK1.out).mono ?_; rintro _ w2 ⟨v2, c2, rfl, hc2, hk2, hs2⟩; have hh2 := (hk2 (fun _ => False)).heap ((HK1.out (fun _ => False)).heap HH0.out (fun h => h)) (fun h => h); have HH2 := Lib.hid hh2; have HC2 := Lib.hid hc2; have HK2 := Lib.hid hk2; have HS2 := Lib.hid hs2; clear hc2 hk2 hs2 hh2)
      | (go_at_call 64; refine (wrread_c _ _ X HS2.out.wide hf).mono ?_; rintro _ w3 ⟨v3, cf3, rfl, hg3, hk3⟩; rw [← HR.out] at hg3 ⊢; obtain ⟨xb, hxb, -⟩ := hg3.own; obtain ⟨a3, k3', rfl⟩ := own_shape1 hxb; have hh3 := (hk3 c2 (fun _ => False)).heap HH2.out (fun h => h); have g0 : w3.cell? ⟨w.heap.size, 0, none⟩ = some (.pointer (some ⟨r, 0, none⟩)) := cell_of_heap hh3 0; have g1 : w3.cell? ⟨w.heap.size, 1, none⟩ = some (.string ⟨n.toArray⟩) := cell_of_heap hh3 1; have g2 : w3.cell? ⟨w.heap.size, 2, none⟩ = some (.slice none 0 0) := cell_of_heap hh3 2; have g3 : w3.cell? ⟨w.heap.size, 3, none⟩ = some (.int .i64 0) := cell_of_heap hh3 3; have gf := unfrozen_of_heap hh3; have HG3 := Lib.hid hg3; have HK3 := Lib.hid hk3; clear hg3 hk3 hxb hh3))
    go_ret2
    obtain ⟨L4, K4⟩ := ropen_log (s := R.2) (r := r) (nm := n) (kl := kl) HH2.out ((HC2.out _ (Nat.lt_of_lt_of_le (by simp) (HK1.out (fun _ => False)).size)).trans HCL.out) hkl0 HG3.out HK3.out
    have hcx := readCol_cx w2 c2 cf3 kl
    have D2 := (HD1.out.kp (HK1.out (fun _ => False)) (fun _ h => h.elim) (Cx.refl _ _)).kp (HK2.out (fun _ => False)) (fun _ h => h.elim) HC2.out
    have D4 := (D2.kp (HK3.out c2 (fun _ => False)) (fun _ h => h.elim) hcx).kp K4 (fun q hq => by rw [hq]; exact ⟨hkl, by simp; exact hkl0⟩) (Cx.refl _ _)
    have k3 : Kp c (fun q => q.1 = k) w w3 := ((((Kp.refl c _ w).alloc _).trans (HK1.out _) HCOL.out).trans (HK2.out _) HCOL.out).trans (HK3.out _ _) (HCOL.out.trans HC2.out (Nat.le_trans (by simp) (HK1.out (fun _ => False)).size))
    have k4 : Kp c (fun q => q.1 = k) w ((w3.setCell ⟨w.heap.size, 2, none⟩ (.slice a3 R.1.length k3')).setCell ⟨w.heap.size, 3, none⟩ (.int .i64 (R.2 : Int))) := (k3.setCell (fun h => absurd h (Nat.lt_irrefl _)) _).setCell (fun h => absurd h (Nat.lt_irrefl _)) _
    have cx4 : Cx w c (readCol w2 c2 cf3 kl) := (HCOL.out.trans HC2.out (Nat.le_trans (by simp) (HK1.out (fun _ => False)).size)).trans hcx (Nat.le_trans (Nat.le_trans (by simp) (HK1.out (fun _ => False)).size) (HK2.out (fun _ => False)).size)
    have s4 := k4.size
    exact ⟨_, cx4, k4, D4, fun _ => ⟨w.heap.size, _, rfl, Nat.le_refl _, L4⟩, fun h => absurd rfl h⟩
theorem ropen_c (n : Nm) (w : World) (DD : RD w c k r m) (hk0 : k ≠ 0) (hkl : kl ≠ k) (hkl0 : kl ≠ 0) (hops : m.ops < 899980) (hn : n.length ≤ maxLen) :
    Calls Tryz.prog 15 #[ptr r, str n] w (ROPost k kl r n (lopen m n) c w) := by
  unfold lopen
  cases hd : m.dead with
  | true => simp only [if_true]; exact ropen_dead n w DD hops hd
  | false =>
    simp only [Bool.false_eq_true, if_false]
    rcases get_or m.files n with hg | ⟨f, hg⟩
    · rw [hg]
      exact ropen_none n w DD hk0 hkl hops hn hd hg
    · rw [hg]
      have hf := get_ok DD.okk hg
      unfold maxFile at hf
      exact ropen_some n f w DD hk0 hkl hkl0 hops hd hg (by omega) _ rfl
end Go.Proofs.YtnifmoigalmcmaaGreat
/- The document's log: a batch joins it. -/
namespace Go.Proofs.YtnifmoigalmcmaaGreat
open Go Go.RowKit Dk
open Wl
variable {c c' : Col} {w w' : World} {S : Nat × Nat → Prop} {q : Nat × Nat}
variable {kl lb r k : Nat} {nm : Nm} {vl vb : Value} {m : ADisk} {g : Lg} {ls : List (List Bs)} {size : Nat} {torn : Bool} {batch : List Bs}
theorem rlog_push {w6 w8 w9 : World} {v7 v9 : Value} {xs : List Value} {n : Nat} (L : RLogAt w6 c kl lb r nm vl ls size torn) (hkl : kl ≠ 0) (hq : QL w6 c v7 batch) (hk8 : ∀ c S, Kp c S w6 w8)
    (hown : w8.ownsRow 0 40 1 vl ls.length xs) (ho2 : w9.ownsRow 0 40 1 v9 (ls.length + 1) (xs ++ [v7])) (hg : w8.grownBy w9 vl.ownBlock) (hf : ∀ g, v9.ownBlock = some g → vl.ownBlock = some g ∨ w8.heap.size ≤ g) :
    Cx w6 c (newCol w8 c (kl, 1)) ∧ Kp c (fun q => q.1 = kl) w6 ((w9.setCell ⟨lb, 2, none⟩ v9).setCell ⟨lb, 3, none⟩ (.int .i64 ((size : Int) + n))) ∧
      RLogAt ((w9.setCell ⟨lb, 2, none⟩ v9).setCell ⟨lb, 3, none⟩ (.int .i64 ((size : Int) + n))) (newCol w8 c (kl, 1)) kl lb r nm v9 (ls ++ [batch]) (size + n) torn := by
  have hs8 : w6.heap.size ≤ w8.heap.size := HK5s hk8
  have hcB := newCol_cx w8 c (kl, 1)
  obtain ⟨cB, hcBe⟩ : ∃ cB, cB = newCol w8 c (kl, 1) := ⟨_, rfl⟩
  rw [← hcBe] at hcB ⊢
  have L8 := L.kp (hk8 c (fun _ => False)) (fun h => h) (fun h => h) (fun h => h) (Cx.refl _ _)
  have q8 : QL w8 c v7 batch := QL.stays.stay hq (hk8 c (fun _ => False)) (fun h => h) (Cx.refl _ _)
  have hz : ¬ ((0, 0) : Nat × Nat) = (kl, 0) := by simp; exact fun h => hkl h.symm
  have hz1 : ¬ ((0, 0) : Nat × Nat) = (kl, 1) := by simp
  have k89 : Kp c (· = (kl, 1)) w8 w9 := Kp.of_grown hg (fun g hg _ => L8.ocol g hg)
  have hpl : cB lb = (kl, 0) := (hcB lb (lt_of_heap L8.heap)).trans L8.col
  obtain ⟨ys, hys, hyq⟩ := L8.own
  obtain rfl := ownsRow_same hys hown
  have hlen : ys.length = ls.length := by simpa using hys.1
  have hp9 : ∀ g, v9.ownBlock = some g → cB g = (kl, 1) := fun g hg' => by
    rcases hf g hg' with h | h
    · exact (hcB g (ownBlock_lt hys g h)).trans (L8.ocol g h)
    · rw [hcBe]; exact if_neg (Nat.not_lt.2 h)
  have kst : Kp cB (· = (kl, 0)) w9 ((w9.setCell ⟨lb, 2, none⟩ v9).setCell ⟨lb, 3, none⟩ (.int .i64 ((size : Int) + n))) := ((Kp.refl _ _ _).setCell (fun _ => hpl) _).setCell (fun _ => hpl) _
  have hh9 : w9.heap[lb]? = some (.cells #[ptr r, str nm, vl, .int .i64 size, .bool torn] 126 (0, 0)) :=
    k89.heap L8.heap (by rw [L8.col]; simp)
  refine ⟨fun b hb => hcB b (Nat.lt_of_lt_of_le hb hs8), ?_, ?_⟩
  · refine ((((hk8 c _).trans ((k89.mono fun q h => by rw [h]) : Kp c (fun q => q.1 = kl) w8 w9) (Cx.refl _ _)).setCell (fun _ => by rw [L.col]) _).setCell (fun _ => by rw [L.col]) _)
  · refine ⟨?_, hpl, ⟨ys ++ [v7], ?_, fun i x y hi hj => ?_⟩, hp9⟩
    · have := heap_setCell (heap_setCell hh9 2 v9) 3 (.int .i64 ((size : Int) + n))
      rw [this]
      simp
    · have := ownsRow_kp (c := cB) (q := (kl, 1)) (S := (· = (kl, 0))) ho2 hp9 kst (by simp)
      rw [List.length_append]
      exact this
    · have hst : ∀ x y, QL w8 c x y → QL ((w9.setCell ⟨lb, 2, none⟩ v9).setCell ⟨lb, 3, none⟩ (.int .i64 ((size : Int) + n))) cB x y := fun x y h =>
        QL.stays.stay (QL.stays.stay h k89 hz1 hcB) kst hz (Cx.refl _ _)
      by_cases hlt : i < ys.length
      · rw [List.getElem?_append_left hlt] at hi
        rw [List.getElem?_append_left (by omega)] at hj
        exact hst _ _ (hyq i x y hi hj)
      · rw [List.getElem?_append_right (by omega)] at hi
        rw [List.getElem?_append_right (by omega)] at hj
        have h0 : i - ys.length = 0 := by
          cases hd : i - ys.length with
          | zero => rfl
          | succ d => rw [hd] at hi; simp at hi
        rw [h0] at hi
        rw [show i - ls.length = 0 by omega] at hj
        simp at hi hj
        subst hi hj
        exact hst _ _ q8
end Go.Proofs.YtnifmoigalmcmaaGreat
