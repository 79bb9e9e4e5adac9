/- wal.Open on a disk that has such a file. -/
import Derived.Test.YtnifmoigalmcmaaVb
namespace Go.Proofs.Ytnifmoigalmcmaa
open Go Go.RowKit Dk
open Wl
variable {c c' : Col} {w w' : World} {S : Nat × Nat → Prop} {q : Nat × Nat}
theorem size_some {m : ADisk} {n : Nm} {f : AFile} (hd : m.dead = false) (hg : get m.files n = some f) : size m n = ((f.now.length : Int), 0) := by
  unfold size; rw [hd, hg]; rfl
theorem read_some {m : ADisk} {n : Nm} {f : AFile} (hd : m.dead = false) (hg : get m.files n = some f) : read m n 0 (f.now.length : Int) = (f.now, 0) := by
  unfold Dk.read
  rw [hd, hg]
  simp
/-- The colours behind a log that was read. -/
def readCol (w1 : World) (c1 cf : Col) (kl : Nat) : Col := fun b => if b < w1.heap.size then c1 b else if cf b = (1, 0) then (kl, 1) else (0, 0)
theorem readCol_cx (w1 : World) (c1 cf : Col) (kl : Nat) : Cx w1 c1 (readCol w1 c1 cf kl) := fun _ hb => if_pos hb
theorem open_log {w1 w2 : World} {c1 cf : Col} {kl lb d : Nat} {nm : Nm} {v : Value} {ls : List (List Bs)} {s : Nat} (hh : w1.heap[lb]? = some (.cells #[.int .i64 1, ptr d, str nm, .slice none 0 0, .int .i64 0, .int .i64 0] 57 (0, 0))) (hcl : c1 lb = (kl, 0)) (hkl0 : kl ≠ 0)
    (G : Grow QL w1.heap.size w2 22 v cf ls) (hk : ∀ c S, Kp c S w1 w2) :
    LogAt ((w2.setCell ⟨lb, 3, none⟩ v).setCell ⟨lb, 4, none⟩ (.int .i64 (s : Int))) (readCol w1 c1 cf kl) kl lb d nm v ls s false ∧
      Kp (readCol w1 c1 cf kl) (· = (kl, 0)) w2 ((w2.setCell ⟨lb, 3, none⟩ v).setCell ⟨lb, 4, none⟩ (.int .i64 (s : Int))) := by
  obtain ⟨⟨xs, ho, hx⟩, hc, hold, hs⟩ := G
  have hlt : lb < w1.heap.size := lt_of_heap hh
  have hcb : readCol w1 c1 cf kl lb = (kl, 0) := (if_pos hlt).trans hcl
  have hk3 : Kp (readCol w1 c1 cf kl) (· = (kl, 0)) w2 ((w2.setCell ⟨lb, 3, none⟩ v).setCell ⟨lb, 4, none⟩ (.int .i64 (s : Int))) := ((Kp.refl _ _ _).setCell (fun _ => hcb) _).setCell (fun _ => hcb) _
  have hov : ∀ g, v.ownBlock = some g → readCol w1 c1 cf kl g = (kl, 1) := fun g hg => by
    have h1 := hc g hg
    have h2 : ¬ g < w1.heap.size := fun hlt => by rw [hold g hlt] at h1; cases h1
    unfold readCol
    rw [if_neg h2, if_pos h1]
  have hz : ∀ b, cf b = (0, 0) → readCol w1 c1 cf kl b = (0, 0) := fun b hb => by
    have h2 : ¬ b < w1.heap.size := fun hlt => by rw [hold b hlt] at hb; cases hb
    unfold readCol
    rw [if_neg h2, if_neg (by rw [hb]; decide)]
  refine ⟨⟨?_, hcb, ⟨xs, ownsRow_kp ho hov hk3 (by simp), fun i x y hi hj => QL.stays.stay (Bat.recol (hx i x y hi hj) hz hz) hk3 (by simp; exact fun h => hkl0 h.symm) (Cx.refl _ _)⟩, hov⟩, hk3⟩
  have := heap_setCell (heap_setCell ((hk c1 (fun _ => False)).heap hh (fun h => h)) 3 v) 4 (.int .i64 (s : Int))
  rw [this]
  simp [nth]
set_option maxRecDepth 20000 in
set_option maxHeartbeats 2000000 in
theorem open_some (k kl d : Nat) (m : ADisk) (n : Nm) (f : AFile) (w : World) (DD : DiskAt w c k d m) (hk0 : k ≠ 0) (hkl : kl ≠ k) (hkl0 : kl ≠ 0) (hops : m.ops < 899999) (hn : n.length ≤ maxLen) (hd : m.dead = false) (hg : get m.files n = some f) (hf : f.now.length ≤ 1000000000)
    (R : List (List Bs) × Nat) (hR : R = Wl.read kec f.now) (e1 : Int) (m1 : ADisk) (he : (if R.2 < f.now.length then trimD m n R.2 else (0, m)) = (e1, m1)) :
    Calls Try.prog 18 #[ptr d, str n] w fun e w' => ∃ c', Cx w c c' ∧ Kp c (fun q => q.1 = k) w w' ∧ DiskAt w' c' k d m1 ∧
      (e1 = 0 → ∃ lb vl, e = .returned (.tuple #[ptr lb, .int .i64 0]) ∧ w.heap.size ≤ lb ∧ LogAt w' c' kl lb d n vl R.1 R.2 false) ∧
      (e1 ≠ 0 → e = .returned (.tuple #[.pointer none, .int .i64 e1])) := by
  have hcol : Cx w c (newCol w c (kl, 0)) := newCol_cx _ _ _
  obtain ⟨ca, hca⟩ : ∃ ca, ca = newCol w c (kl, 0) := ⟨_, rfl⟩
  have hcl : ca w.heap.size = (kl, 0) := by rw [hca]; exact if_neg (Nat.lt_irrefl _)
  rw [← hca] at hcol
  obtain ⟨o, ho⟩ : ∃ o, o = Obj.cells #[.int .i64 1, ptr d, str n, .slice none 0 0, .int .i64 0, .int .i64 0] 57 := ⟨_, rfl⟩
  have D1 := DD.kp ((Kp.refl c (fun _ => False) w).alloc o) (fun _ h => h.elim) hcol
  have hs := size_c k d m n (w.alloc o) D1 hn
  rw [size_some hd hg] at hs
  have hrd := read_c k d m n 0 (f.now.length : Int) (w.alloc o) D1 hn (by omega) (by omega)
  unfold ReadPost at hrd
  rw [read_some hd hg] at hrd
  obtain ⟨X, hX⟩ : ∃ X, X = f.now := ⟨_, rfl⟩
  rw [← hX] at hf hR he hs hrd
  have HS := Lib.hid hs; have HRD := Lib.hid hrd; have HO := Lib.hid ho; have HR := Lib.hid hR; have HE := Lib.hid he; have HCL := Lib.hid hcl; have HCOL := Lib.hid hcol; have HD1 := Lib.hid D1
  have hh0 := heap_alloc_new w o
  have HH0 := Lib.hid hh0
  clear hs hrd D1 DD hd hg hcl hca hcol hR he hh0 hX
  clear ho
  unfold ptr str at HS HRD HO ⊢
  by_cases hsz : R.2 < X.length
  · have he := HE.out
    rw [if_pos hsz] at he
    have HT := Lib.hid he; clear he HE
    by_cases h0 : e1 = 0
    · subst h0
      go_enter Try.func18, Try.ntmps18
      rw [HO.out] at HS HRD HH0 HD1
      go_wp2_with (first
        | (go_at_call 35; refine HS.out.mono ?_; rintro _ w1 ⟨rfl, rfl⟩)
        | (go_at_call 37; refine HRD.out.mono ?_; rintro _ w2 ⟨v2, c2, rfl, hc2, hk2, hs2⟩; have hh2 := (hk2 (fun _ => False)).heap HH0.out (fun h => h); have HH2 := Lib.hid hh2; have HC2 := Lib.hid hc2; have HK2 := Lib.hid hk2; have HS2 := Lib.hid hs2; clear hc2 hk2 hs2 hh2)
        | (go_at_call 12; refine (wread_c _ _ X HS2.out hf).mono ?_; rintro _ w3 ⟨v3, cf3, rfl, hg3, hk3⟩; rw [← HR.out] at hg3 ⊢; obtain ⟨xb, hxb, -⟩ := hg3.own; obtain ⟨a3, k3', rfl⟩ := own_shape1 hxb; have hh3 := (hk3 c2 (fun _ => False)).heap HH2.out (fun h => h); have g3 : w3.cell? ⟨w.heap.size, 3, none⟩ = some (.slice none 0 0) := cell_of_heap hh3 3; have g4 : w3.cell? ⟨w.heap.size, 4, none⟩ = some (.int .i64 0) := cell_of_heap hh3 4; have gf := unfrozen_of_heap hh3; have HG3 := Lib.hid hg3; have HK3 := Lib.hid hk3; clear hg3 hk3 hxb hh3)
        | (go_at_call 38; obtain ⟨L4, K4⟩ := open_log (s := R.2) (d := d) (nm := n) (kl := kl) HH2.out ((HC2.out _ (by simp)).trans HCL.out) hkl0 HG3.out HK3.out; have hcx := readCol_cx w2 c2 cf3 kl; have D2 := HD1.out.kp (HK2.out (fun _ => False)) (fun _ h => h.elim) HC2.out; have D4 := (D2.kp (HK3.out c2 (fun _ => False)) (fun _ h => h.elim) hcx).kp K4 (fun q hq => by rw [hq]; exact ⟨hkl, by simp; exact hkl0⟩) (Cx.refl _ _); have htr := trim_c k m _ L4 D4 hk0 hkl hops hn; rw [HT.out] at htr; unfold ptr at htr; refine htr.mono ?_; rintro _ w5 ⟨rfl, c5, hc5, hk5, hd5, hl5⟩; have HC5 := Lib.hid hc5; have HK5 := Lib.hid hk5; have HD5 := Lib.hid hd5; have HL5 := Lib.hid hl5; clear hc5 hk5 hd5 hl5 L4 K4 hcx D2 D4 htr))
      go_ret2
      obtain ⟨L4, K4⟩ := open_log (s := R.2) (d := d) (nm := n) (kl := kl) HH2.out ((HC2.out _ (by simp)).trans HCL.out) hkl0 HG3.out HK3.out
      have hcx := readCol_cx w2 c2 cf3 kl
      have D2 := HD1.out.kp (HK2.out (fun _ => False)) (fun _ h => h.elim) HC2.out
      have D3 := D2.kp (HK3.out c2 (fun _ => False)) (fun _ h => h.elim) hcx
      have D4 := D3.kp K4 (fun q hq => by rw [hq]; exact ⟨hkl, by simp; exact hkl0⟩) (Cx.refl _ _)
      have k3 : Kp c (fun q => q.1 = k) w w3 := (((Kp.refl c _ w).alloc _).trans (HK2.out _) HCOL.out).trans (HK3.out _ _) (HCOL.out.trans HC2.out (by simp))
      have k4 : Kp c (fun q => q.1 = k) w ((w3.setCell ⟨w.heap.size, 3, none⟩ (.slice a3 R.1.length k3')).setCell ⟨w.heap.size, 4, none⟩ (.int .i64 (R.2 : Int))) := (k3.setCell (fun h => absurd h (Nat.lt_irrefl _)) _).setCell (fun h => absurd h (Nat.lt_irrefl _)) _
      have cx4 : Cx w c (readCol w2 c2 cf3 kl) := (HCOL.out.trans HC2.out (by simp)).trans hcx (Nat.le_trans (by simp) (HK2.out (fun _ => False)).size)
      have s4 := k4.size
      refine ⟨c5, cx4.trans HC5.out s4, k4.trans HK5.out cx4, HD5.out, fun _ => ⟨w.heap.size, _, rfl, Nat.le_refl _, HL5.out⟩, fun h => absurd rfl h⟩
    · have hb : (e1 == 0) = false := by simpa using h0
      go_enter Try.func18, Try.ntmps18
      rw [HO.out] at HS HRD HH0 HD1
      go_wp2_with (first
        | (go_at_call 35; refine HS.out.mono ?_; rintro _ w1 ⟨rfl, rfl⟩)
        | (go_at_call 37; refine HRD.out.mono ?_; rintro _ w2 ⟨v2, c2, rfl, hc2, hk2, hs2⟩; have hh2 := (hk2 (fun _ => False)).heap HH0.out (fun h => h); have HH2 := Lib.hid hh2; have HC2 := Lib.hid hc2; have HK2 := Lib.hid hk2; have HS2 := Lib.hid hs2; clear hc2 hk2 hs2 hh2)
        | (go_at_call 12; refine (wread_c _ _ X HS2.out hf).mono ?_; rintro _ w3 ⟨v3, cf3, rfl, hg3, hk3⟩; rw [← HR.out] at hg3 ⊢; obtain ⟨xb, hxb, -⟩ := hg3.own; obtain ⟨a3, k3', rfl⟩ := own_shape1 hxb; have hh3 := (hk3 c2 (fun _ => False)).heap HH2.out (fun h => h); have g3 : w3.cell? ⟨w.heap.size, 3, none⟩ = some (.slice none 0 0) := cell_of_heap hh3 3; have g4 : w3.cell? ⟨w.heap.size, 4, none⟩ = some (.int .i64 0) := cell_of_heap hh3 4; have gf := unfrozen_of_heap hh3; have HG3 := Lib.hid hg3; have HK3 := Lib.hid hk3; clear hg3 hk3 hxb hh3)
        | (go_at_call 38; obtain ⟨L4, K4⟩ := open_log (s := R.2) (d := d) (nm := n) (kl := kl) HH2.out ((HC2.out _ (by simp)).trans HCL.out) hkl0 HG3.out HK3.out; have hcx := readCol_cx w2 c2 cf3 kl; have D2 := HD1.out.kp (HK2.out (fun _ => False)) (fun _ h => h.elim) HC2.out; have D4 := (D2.kp (HK3.out c2 (fun _ => False)) (fun _ h => h.elim) hcx).kp K4 (fun q hq => by rw [hq]; exact ⟨hkl, by simp; exact hkl0⟩) (Cx.refl _ _); have htr := trim_c k m _ L4 D4 hk0 hkl hops hn; rw [HT.out] at htr; unfold ptr at htr; refine htr.mono ?_; rintro _ w5 ⟨rfl, c5, hc5, hk5, hd5, hl5⟩; have HC5 := Lib.hid hc5; have HK5 := Lib.hid hk5; have HD5 := Lib.hid hd5; have HL5 := Lib.hid hl5; clear hc5 hk5 hd5 hl5 L4 K4 hcx D2 D4 htr))
      go_ret2
      obtain ⟨L4, K4⟩ := open_log (s := R.2) (d := d) (nm := n) (kl := kl) HH2.out ((HC2.out _ (by simp)).trans HCL.out) hkl0 HG3.out HK3.out
      have hcx := readCol_cx w2 c2 cf3 kl
      have D2 := HD1.out.kp (HK2.out (fun _ => False)) (fun _ h => h.elim) HC2.out
      have D3 := D2.kp (HK3.out c2 (fun _ => False)) (fun _ h => h.elim) hcx
      have D4 := D3.kp K4 (fun q hq => by rw [hq]; exact ⟨hkl, by simp; exact hkl0⟩) (Cx.refl _ _)
      have k3 : Kp c (fun q => q.1 = k) w w3 := (((Kp.refl c _ w).alloc _).trans (HK2.out _) HCOL.out).trans (HK3.out _ _) (HCOL.out.trans HC2.out (by simp))
      have k4 : Kp c (fun q => q.1 = k) w ((w3.setCell ⟨w.heap.size, 3, none⟩ (.slice a3 R.1.length k3')).setCell ⟨w.heap.size, 4, none⟩ (.int .i64 (R.2 : Int))) := (k3.setCell (fun h => absurd h (Nat.lt_irrefl _)) _).setCell (fun h => absurd h (Nat.lt_irrefl _)) _
      have cx4 : Cx w c (readCol w2 c2 cf3 kl) := (HCOL.out.trans HC2.out (by simp)).trans hcx (Nat.le_trans (by simp) (HK2.out (fun _ => False)).size)
      have s4 := k4.size
      refine ⟨c5, cx4.trans HC5.out s4, k4.trans HK5.out cx4, HD5.out, fun h => absurd h h0, fun _ => rfl⟩
  · have he := HE.out
    rw [if_neg hsz] at he
    obtain ⟨rfl, rfl⟩ := Prod.mk.inj he
    clear he HE
    go_enter Try.func18, Try.ntmps18
    rw [HO.out] at HS HRD HH0 HD1
    go_wp2_with (first
      | (go_at_call 35; refine HS.out.mono ?_; rintro _ w1 ⟨rfl, rfl⟩)
      | (go_at_call 37; refine HRD.out.mono ?_; rintro _ w2 ⟨v2, c2, rfl, hc2, hk2, hs2⟩; have hh2 := (hk2 (fun _ => False)).heap HH0.out (fun h => h); have HH2 := Lib.hid hh2; have HC2 := Lib.hid hc2; have HK2 := Lib.hid hk2; have HS2 := Lib.hid hs2; clear hc2 hk2 hs2 hh2)
      | (go_at_call 12; refine (wread_c _ _ X HS2.out hf).mono ?_; rintro _ w3 ⟨v3, cf3, rfl, hg3, hk3⟩; rw [← HR.out] at hg3 ⊢; obtain ⟨xb, hxb, -⟩ := hg3.own; obtain ⟨a3, k3', rfl⟩ := own_shape1 hxb; have hh3 := (hk3 c2 (fun _ => False)).heap HH2.out (fun h => h); have g3 : w3.cell? ⟨w.heap.size, 3, none⟩ = some (.slice none 0 0) := cell_of_heap hh3 3; have g4 : w3.cell? ⟨w.heap.size, 4, none⟩ = some (.int .i64 0) := cell_of_heap hh3 4; have gf := unfrozen_of_heap hh3; have HG3 := Lib.hid hg3; have HK3 := Lib.hid hk3; clear hg3 hk3 hxb hh3))
    go_ret2
    obtain ⟨L4, K4⟩ := open_log (s := R.2) (d := d) (nm := n) (kl := kl) HH2.out ((HC2.out _ (by simp)).trans HCL.out) hkl0 HG3.out HK3.out
    have hcx := readCol_cx w2 c2 cf3 kl
    have D2 := HD1.out.kp (HK2.out (fun _ => False)) (fun _ h => h.elim) HC2.out
    have D3 := D2.kp (HK3.out c2 (fun _ => False)) (fun _ h => h.elim) hcx
    have D4 := D3.kp K4 (fun q hq => by rw [hq]; exact ⟨hkl, by simp; exact hkl0⟩) (Cx.refl _ _)
    have k3 : Kp c (fun q => q.1 = k) w w3 := (((Kp.refl c _ w).alloc _).trans (HK2.out _) HCOL.out).trans (HK3.out _ _) (HCOL.out.trans HC2.out (by simp))
    have k4 : Kp c (fun q => q.1 = k) w ((w3.setCell ⟨w.heap.size, 3, none⟩ (.slice a3 R.1.length k3')).setCell ⟨w.heap.size, 4, none⟩ (.int .i64 (R.2 : Int))) := (k3.setCell (fun h => absurd h (Nat.lt_irrefl _)) _).setCell (fun h => absurd h (Nat.lt_irrefl _)) _
    have cx4 : Cx w c (readCol w2 c2 cf3 kl) := (HCOL.out.trans HC2.out (by simp)).trans hcx (Nat.le_trans (by simp) (HK2.out (fun _ => False)).size)
    exact ⟨_, cx4, k4, D4, fun _ => ⟨w.heap.size, _, rfl, Nat.le_refl _, L4⟩, fun h => absurd rfl h⟩
end Go.Proofs.Ytnifmoigalmcmaa
