/- wal.Open on a disk that has such a file. -/
import Derived.Test.YtnifmoigalmcmaaGreatVb
namespace Go.Proofs.YtnifmoigalmcmaaGreat
open Go Go.RowKit Dk
open Wl
variable {c c' : Col} {w w' : World} {S : Nat × Nat → Prop} {q : Nat × Nat}
theorem size_some {m : ADisk} {n : Nm} {f : AFile} (hd : m.dead = false) (hg : get m.files n = some f) : size m n = ((f.now.length : Int), 0) := by
  unfold size; rw [hd, hg]; rfl
theorem read_some {m : ADisk} {n : Nm} {f : AFile} (hd : m.dead = false) (hg : get m.files n = some f) : read m n 0 (f.now.length : Int) = (f.now, 0) := by
  unfold Dk.read
  rw [hd, hg]
  simp
/-- The colours behind a log that was read. -/
def readCol (w1 : World) (c1 cf : Col) (kl : Nat) : Col := fun b => if b < w1.heap.size then c1 b else if cf b = (1, 0) then (kl, 1) else (0, 0)
theorem readCol_cx (w1 : World) (c1 cf : Col) (kl : Nat) : Cx w1 c1 (readCol w1 c1 cf kl) := fun _ hb => if_pos hb
theorem open_log {w1 w2 : World} {c1 cf : Col} {kl lb d : Nat} {nm : Nm} {v : Value} {ls : List (List Bs)} {s : Nat} (hh : w1.heap[lb]? = some (.cells #[.int .i64 1, ptr d, str nm, .slice none 0 0, .int .i64 0, .int .i64 0] 121 (0, 0))) (hcl : c1 lb = (kl, 0)) (hkl0 : kl ≠ 0)
    (G : Grow QL w1.heap.size w2 40 v cf ls) (hk : ∀ c S, Kp c S w1 w2) :
    LogAt ((w2.setCell ⟨lb, 3, none⟩ v).setCell ⟨lb, 4, none⟩ (.int .i64 (s : Int))) (readCol w1 c1 cf kl) kl lb d nm v ls s false ∧
      Kp (readCol w1 c1 cf kl) (· = (kl, 0)) w2 ((w2.setCell ⟨lb, 3, none⟩ v).setCell ⟨lb, 4, none⟩ (.int .i64 (s : Int))) := by
  obtain ⟨⟨xs, ho, hx⟩, hc, hold, hs⟩ := G
  have hlt : lb < w1.heap.size := lt_of_heap hh
  have hcb : readCol w1 c1 cf kl lb = (kl, 0) := (if_pos hlt).trans hcl
  have hk3 : Kp (readCol w1 c1 cf kl) (· = (kl, 0)) w2 ((w2.setCell ⟨lb, 3, none⟩ v).setCell ⟨lb, 4, none⟩ (.int .i64 (s : Int))) := ((Kp.refl _ _ _).setCell (fun _ => hcb) _).setCell (fun _ => hcb) _
  have hov : ∀ g, v.ownBlock = some g → readCol w1 c1 cf kl g = (kl, 1) := fun g hg => by
    have h1 := hc g hg
    have h2 : ¬ g < w1.heap.size := fun hlt => by rw [hold g hlt] at h1; cases h1
    unfold readCol
    rw [if_neg h2, if_pos h1]
  have hz : ∀ b, cf b = (0, 0) → readCol w1 c1 cf kl b = (0, 0) := fun b hb => by
    have h2 : ¬ b < w1.heap.size := fun hlt => by rw [hold b hlt] at hb; cases hb
    unfold readCol
    rw [if_neg h2, if_neg (by rw [hb]; decide)]
  refine ⟨⟨?_, hcb, ⟨xs, ownsRow_kp ho hov hk3 (by simp), fun i x y hi hj => QL.stays.stay (Bat.recol (hx i x y hi hj) hz hz) hk3 (by simp; exact fun h => hkl0 h.symm) (Cx.refl _ _)⟩, hov⟩, hk3⟩
  have := heap_setCell (heap_setCell ((hk c1 (fun _ => False)).heap hh (fun h => h)) 3 v) 4 (.int .i64 (s : Int))
  rw [this]
  simp [nth]
set_option maxRecDepth 20000 in
set_option maxHeartbeats 2000000 in
theorem open_some (k kl d : Nat) (m : ADisk) (n : Nm) (f : AFile) (w : World) (DD : DiskAt w c k d m) (hk0 : k ≠ 0) (hkl : kl ≠ k) (hkl0 : kl ≠ 0) (hops : m.ops < 899999) (hn : n.length ≤ maxLen) (hd : m.dead = false) (hg : get m.files n = some f) (hf : f.now.length ≤ 1000000000)
    (R : List (List Bs) × Nat) (hR : R = Wl.read kec f.now) (e1 : Int) (m1 : ADisk) (he : (if R.2 < f.now.length then trimD m n R.2 else (0, m)) = (e1, m1)) :
    Calls Tryz.prog 14 #[ptr d, str n] w fun e w' => ∃ c', Cx w c c' ∧ Kp c (fun q => q.1 = k) w w' ∧ DiskAt w' c' k d m1 ∧
      (e1 = 0 → ∃ lb vl, e = .returned (.tuple #[ptr lb, .int .i64 0]) ∧ w.heap.size ≤ lb ∧ LogAt w' c' kl lb d n vl R.1 R.2 false) ∧
      (e1 ≠ 0 → e = .returned (.tuple #[.pointer none, .int .i64 e1])) := by
  have hcol : Cx w c (newCol w c (kl, 0)) := newCol_cx _ _ _
  obtain ⟨ca, hca⟩ : ∃ ca, ca = newCol w c (kl, 0) := ⟨_, rfl⟩
  have hcl : ca w.heap.size = (kl, 0) := by rw [hca]; exact if_neg (Nat.lt_irrefl _)
  rw [← hca] at hcol
  obtain ⟨o, ho⟩ : ∃ o, o = Obj.cells #[.int .i64 1, ptr d, str n, .slice none 0 0, .int .i64 0, .int .i64 0] 121 := ⟨_, rfl⟩
  have D1 := DD.kp ((Kp.refl c (fun _ => False) w).alloc o) (fun _ h => h.elim) hcol
  have hs := size_c k d m n (w.alloc o) D1 hn
  rw [size_some hd hg] at hs
  have hrd := read_c k d m n 0 (f.now.length : Int) (w.alloc o) D1 hn (by omega) (by omega)
  unfold ReadPost at hrd
  rw [read_some hd hg] at hrd
  obtain ⟨X, hX⟩ : ∃ X, X = f.now := ⟨_, rfl⟩
  rw [← hX] at hf hR he hs hrd
  have HS := Lib.hid hs; have HRD := Lib.hid hrd; have HO := Lib.hid ho; have HR := Lib.hid hR; have HE := Lib.hid he; have HCL := Lib.hid hcl; have HCOL := Lib.hid hcol; have HD1 := Lib.hid D1
  have hh0 := heap_alloc_new w o
  have HH0 := Lib.hid hh0
  clear hs hrd D1 DD hd hg hcl hca hcol hR he hh0 hX
  clear ho
  unfold ptr str at HS HRD HO ⊢
  by_cases hsz : R.2 < X.length
  · have he := HE.out
    rw [if_pos hsz] at he
    have HT := Lib.hid he; clear he HE
    by_cases h0 : e1 = 0
    · subst h0
      go_enter Tryz.func14, Tryz.ntmps14
      rw [HO.out] at HS HRD HH0 HD1
      go_wp2_with (first
        | (go_at_call 58; refine HS.out.mono ?_; rintro _ w1 ⟨rfl, rfl⟩)
        | (go_at_call 59; refine HRD.out.mono ?_; rintro _ w2 ⟨v2, c2, rfl, hc2, hk2, hs2⟩; have hh2 := (hk2 (fun _ => False)).heap HH0.out (fun h => h); have HH2 := Lib.hid hh2; have HC2 := Lib.hid hc2; have HK2 := Lib.hid hk2; have HS2 := Lib.hid hs2; clear hc2 hk2 hs2 hh2)
        | (go_at_call 54; refine (wread_c _ _ X HS2.out hf).mono ?_; rintro _ w3 ⟨v3, cf3, rfl, hg3, hk3⟩; rw [← HR.out] at hg3 ⊢; obtain ⟨xb, hxb, -⟩ := hg3.own; obtain ⟨a3, k3', rfl⟩ := own_shape1 hxb; have hh3 := (hk3 c2 (fun _ => False)).heap HH2.out (fun h => h); have g3 : w3.cell? ⟨w.heap.size, 3, none⟩ = some (.slice none 0 0) := cell_of_heap hh3 3; have g4 : w3.cell? ⟨w.heap.size, 4, none⟩ = some (.int .i64 0) := cell_of_heap hh3 4; have gf := unfrozen_of_heap hh3; have HG3 := Lib.hid hg3; have HK3 := Lib.hid hk3; clear hg3 hk3 hxb hh3)
        | (go_at_call 60; obtain ⟨L4, K4⟩ := open_log (s := R.2) (d := d) (nm := n) (kl := kl) HH2.out ((HC2.out _ (by simp)).trans HCL.out) hkl0 HG3.out HK3.out; have hcx := readCol_cx w2 c2 cf3 kl; have D2 := HD1.out.kp (HK2.out (fun _ => False)) (fun _ h => h.elim) HC2.out; have D4 := (D2.kp (HK3.out c2 (fun _ => False)) (fun _ h => h.elim) hcx).kp K4 (fun q hq => by rw [hq]; exact ⟨hkl, by simp; exact hkl0⟩) (Cx.refl _ _); have htr := trim_c k m _ L4 D4 hk0 hkl hops hn; rw [HT.out] at htr; unfold ptr at htr; refine htr.mono ?_; rintro _ w5 ⟨rfl, c5, hc5, hk5, hd5, hl5⟩; have HC5 := Lib.hid hc5; have HK5 := Lib.hid hk5; have HD5 := Lib.hid hd5; have HL5 := Lib.hid hl5; clear hc5 hk5 hd5 hl5 L4 K4 hcx D2 D4 htr))
      go_ret2
      obtain ⟨L4, K4⟩ := open_log (s := R.2) (d := d) (nm := n) (kl := kl) HH2.out ((HC2.out _ (by simp)).trans HCL.out) hkl0 HG3.out HK3.out
      have hcx := readCol_cx w2 c2 cf3 kl
      have D2 := HD1.out.kp (HK2.out (fun _ => False)) (fun _ h => h.elim) HC2.out
      have D3 := D2.kp (HK3.out c2 (fun _ => False)) (fun _ h => h.elim) hcx
      have D4 := D3.kp K4 (fun q hq => by rw [hq]; exact ⟨hkl, by simp; exact hkl0⟩) (Cx.refl _ _)
      have k3 : Kp c (fun q => q.1 = k) w w3 := (((Kp.refl c _ w).alloc _).trans (HK2.out _) HCOL.out).trans (HK3.out _ _) (HCOL.out.trans HC2.out (by simp))
      have k4 : Kp c (fun q => q.1 = k) w ((w3.setCell ⟨w.heap.size, 3, none⟩ (.slice a3 R.1.length k3')).setCell ⟨w.heap.size, 4, none⟩ (.int .i64 (R.2 : Int))) := (k3.setCell (fun h => absurd h (Nat.lt_irrefl _)) _).setCell (fun h => absurd h (Nat.lt_irrefl _)) _
      have cx4 : Cx w c (readCol w2 c2 cf3 kl) := (HCOL.out.trans HC2.out (by simp)).trans hcx (Nat.le_trans (by simp) (HK2.out (fun _ => False)).size)
      have s4 := k4.size
      refine ⟨c5, cx4.trans HC5.out s4, k4.trans HK5.out cx4, HD5.out, fun _ => ⟨w.heap.size, _, rfl, Nat.le_refl _, HL5.out⟩, fun h => absurd rfl h⟩
    · have hb : (e1 == 0) = false := by simpa using h0
      go_enter Tryz.func14, Tryz.ntmps14
      rw [HO.out] at HS HRD HH0 HD1
      go_wp2_with (first
        | (go_at_call 58; refine HS.out.mono ?_; rintro _ w1 ⟨rfl, rfl⟩)
        | (go_at_call 59; refine HRD.out.mono ?_; rintro _ w2 ⟨v2, c2, rfl, hc2, hk2, hs2⟩; have hh2 := (hk2 (fun _ => False)).heap HH0.out (fun h => h); have HH2 := Lib.hid hh2; have HC2 := Lib.hid hc2; have HK2 := Lib.hid hk2; have HS2 := Lib.hid hs2; clear hc2 hk2 hs2 hh2)
        | (go_at_call 54; refine (wread_c _ _ X HS2.out hf).mono ?_; rintro _ w3 ⟨v3, cf3, rfl, hg3, hk3⟩; rw [← HR.out] at hg3 ⊢; obtain ⟨xb, hxb, -⟩ := hg3.own; obtain ⟨a3, k3', rfl⟩ := own_shape1 hxb; have hh3 := (hk3 c2 (fun _ => False)).heap HH2.out (fun h => h); have g3 : w3.cell? ⟨w.heap.size, 3, none⟩ = some (.slice none 0 0) := cell_of_heap hh3 3; have g4 : w3.cell? ⟨w.heap.size, 4, none⟩ = some (.int .i64 0) := cell_of_heap hh3 4; have gf := unfrozen_of_heap hh3; have HG3 := Lib.hid hg3; have HK3 := Lib.hid hk3; clear hg3 hk3 hxb hh3)
        | (go_at_call 60; obtain ⟨L4, K4⟩ := open_log (s := R.2) (d := d) (nm := n) (kl := kl) HH2.out ((HC2.out _ (by simp)).trans HCL.out) hkl0 HG3.out HK3.out; have hcx := readCol_cx w2 c2 cf3 kl; have D2 := HD1.out.kp (HK2.out (fun _ => False)) (fun _ h => h.elim) HC2.out; have D4 := (D2.kp (HK3.out c2 (fun _ => False)) (fun _ h => h.elim) hcx).kp K4 (fun q hq => by rw [hq]; exact ⟨hkl, by simp; exact hkl0⟩) (Cx.refl _ _); have htr := trim_c k m _ L4 D4 hk0 hkl hops hn; rw [HT.out] at htr; unfold ptr at htr; refine htr.mono ?_; rintro _ w5 ⟨rfl, c5, hc5, hk5, hd5, hl5⟩; have HC5 := Lib.hid hc5; have HK5 := Lib.hid hk5; have HD5 := Lib.hid hd5; have HL5 := Lib.hid hl5; clear hc5 hk5 hd5 hl5 L4 K4 hcx D2 D4 htr))
      go_ret2
      obtain ⟨L4, K4⟩ := open_log (s := R.2) (d := d) (nm := n) (kl := kl) HH2.out ((HC2.out _ (by simp)).trans HCL.out) hkl0 HG3.out HK3.out
      have hcx := readCol_cx w2 c2 cf3 kl
      have D2 := HD1.out.kp (HK2.out (fun _ => False)) (fun _ h => h.elim) HC2.out
      have D3 := D2.kp (HK3.out c2 (fun _ => False)) (fun _ h => h.elim) hcx
      have D4 := D3.kp K4 (fun q hq => by rw [hq]; exact ⟨hkl, by simp; exact hkl0⟩) (Cx.refl _ _)
      have k3 : Kp c (fun q => q.1 = k) w w3 := (((Kp.refl c _ w).alloc _).trans (HK2.out _) HCOL.out).trans (HK3.out _ _) (HCOL.out.trans HC2.out (by simp))
      have k4 : Kp c (fun q => q.1 = k) w ((w3.setCell ⟨w.heap.size, 3, none⟩ (.slice a3 R.1.length k3')).setCell ⟨w.heap.size, 4, none⟩ (.int .i64 (R.2 : Int))) := (k3.setCell (fun h => absurd h (Nat.lt_irrefl _)) _).setCell (fun h => absurd h (Nat.lt_irrefl _)) _
      have cx4 : Cx w c (readCol w2 c2 cf3 kl) := (HCOL.out.trans HC2.out (by simp)).trans hcx (Nat.le_trans (by simp) (HK2.out (fun _ => False)).size)
      have s4 := k4.size
      refine ⟨c5, cx4.trans HC5.out s4, k4.trans HK5.out cx4, HD5.out, fun h => absurd h h0, fun _ => rfl⟩
  · have he := HE.out
    rw [if_neg hsz] at he
    obtain ⟨rfl, rfl⟩ := Prod.mk.inj he
    clear he HE
    go_enter Tryz.func14, Tryz.ntmps14
    rw [HO.out] at HS HRD HH0 HD1
    go_wp2_with (first
      | (go_at_call 58; refine HS.out.mono ?_; rintro _ w1 ⟨rfl, rfl⟩)
      | (go_at_call 59; refine HRD.out.mono ?_; rintro _ w2 ⟨v2, c2, rfl, hc2, hk2, hs2⟩; have hh2 := (hk2 (fun _ => False)).heap HH0.out (fun h => h); have HH2 := Lib.hid hh2; have HC2 := Lib.hid hc2; have HK2 := Lib.hid hk2; have HS2 := Lib.hid hs2; clear hc2 hk2 hs2 hh2)
      | (go_at_call 54; refine (wread_c _ _ X HS2.out hf).mono ?_; rintro _ w3 ⟨v3, cf3, rfl, hg3, hk3⟩; rw [← HR.out] at hg3 ⊢; obtain ⟨xb, hxb, -⟩ := hg3.own; obtain ⟨a3, k3', rfl⟩ := own_shape1 hxb; have hh3 := (hk3 c2 (fun _ => False)).heap HH2.out (fun h => h); have g3 : w3.cell? ⟨w.heap.size, 3, none⟩ = some (.slice none 0 0) := cell_of_heap hh3 3; have g4 : w3.cell? ⟨w.heap.size, 4, none⟩ = some (.int .i64 0) := cell_of_heap hh3 4; have gf := unfrozen_of_heap hh3; have HG3 := Lib.hid hg3; have HK3 := Lib.hid hk3; clear hg3 hk3 hxb hh3))
    go_ret2
    obtain ⟨L4, K4⟩ := open_log (s := R.2) (d := d) (nm := n) (kl := kl) HH2.out ((HC2.out _ (by simp)).trans HCL.out) hkl0 HG3.out HK3.out
    have hcx := readCol_cx w2 c2 cf3 kl
    have D2 := HD1.out.kp (HK2.out (fun _ => False)) (fun _ h => h.elim) HC2.out
    have D3 := D2.kp (HK3.out c2 (fun _ => False)) (fun _ h => h.elim) hcx
    have D4 := D3.kp K4 (fun q hq => by rw [hq]; exact ⟨hkl, by simp; exact hkl0⟩) (Cx.refl _ _)
    have k3 : Kp c (fun q => q.1 = k) w w3 := (((Kp.refl c _ w).alloc _).trans (HK2.out _) HCOL.out).trans (HK3.out _ _) (HCOL.out.trans HC2.out (by simp))
    have k4 : Kp c (fun q => q.1 = k) w ((w3.setCell ⟨w.heap.size, 3, none⟩ (.slice a3 R.1.length k3')).setCell ⟨w.heap.size, 4, none⟩ (.int .i64 (R.2 : Int))) := (k3.setCell (fun h => absurd h (Nat.lt_irrefl _)) _).setCell (fun h => absurd h (Nat.lt_irrefl _)) _
    have cx4 : Cx w c (readCol w2 c2 cf3 kl) := (HCOL.out.trans HC2.out (by simp)).trans hcx (Nat.le_trans (by simp) (HK2.out (fun _ => False)).size)
    exact ⟨_, cx4, k4, D4, fun _ => ⟨w.heap.size, _, rfl, Nat.le_refl _, L4⟩, fun h => absurd rfl h⟩
end Go.Proofs.YtnifmoigalmcmaaGreat
/- wal.Batches of a log. -/
namespace Go.Proofs.YtnifmoigalmcmaaGreat
open Go Go.RowKit Dk
open Wl
variable {c c' : Col} {w w' : World} {S : Nat × Nat → Prop} {q : Nat × Nat}
theorem QL.shape {x : Value} {y : List Bs} (h : QL w c x y) : ∃ a k, x = .slice a y.length k := by
  obtain ⟨xs, ⟨a, k, rfl, _⟩, hl, _⟩ := h
  exact ⟨a, k, by rw [hl]⟩
set_option maxRecDepth 20000 in
set_option maxHeartbeats 1000000 in
theorem mapped_l (v : Value) (ls : List (List Bs)) (h : ∃ xs, w.ownsRow 0 40 1 v ls.length xs ∧ ∀ (i : Nat) x y, xs[i]? = some x → ls[i]? = some y → QL w c x y) (hl : ls.length ≤ 100000000) (hb : ∀ y ∈ ls, y.length ≤ 1000000000 ∧ ∀ r ∈ y, r.length ≤ lim) :
    Calls Tryz.prog 138 #[v, .func (.func 69) #[] #[]] w fun e w' => ∃ v' cf, e = .returned v' ∧ Grow QL w.heap.size w' 40 v' cf ls ∧ ∀ c S, Kp c S w w' := by
  obtain ⟨i0, hi, hz0, hz1, hz2⟩ := info_batch
  have H6 := Lib.hid hi; have H7 := Lib.hid hz0; have H8 := Lib.hid hz1; have H9 := Lib.hid hz2; clear hi hz0 hz1 hz2
  obtain ⟨xs, ho, hx⟩ := h
  by_cases h0 : ls.length = 0
  · obtain ⟨a, k, rfl⟩ := own_shape1 ho
    have hls : ls = [] := List.eq_nil_of_length_eq_zero h0
    subst hls
    clear ho hx hb h0 hl
    simp only [List.length_nil]
    go_enter Tryz.func138, Tryz.ntmps138
    go_wp2
    refine wp_loop_rounds 1 ?_
    rw [rounds_succ]
    go_wp2
    go_ret
    exact ⟨_, _, rfl, Grow.start _ (Nat.le_refl _), fun c S => Kp.refl c S w⟩
  · obtain ⟨g, cap, rfl, hc1, hc2⟩ := own_pos1 ho (by omega)
    have hcs := own_cells ho
    have hlen : xs.length = ls.length := by simpa using ho.1
    have HX := Lib.hid hx; have HB := Lib.hid hb; have HCS := Lib.hid hcs; have HLN := Lib.hid hlen; clear hx hb ho hcs hlen
    unfold maxLen at hc2
    go_enter Tryz.func138, Tryz.ntmps138
    go_wp2
    go_loopw [5, 10] (fun v s wr => ∃ i : Nat, i ≤ ls.length ∧ s = .int .i64 i ∧ (∃ cf, Grow QL w.heap.size wr 40 v cf (ls.take i)) ∧ ∀ c S, Kp c S w wr) (fun _ s _ => ls.length - (intOf s).toNat)
    case atStart => exact ⟨0, by omega, rfl, ⟨_, Grow.start _ (Nat.le_refl _)⟩, fun c S => Kp.refl c S w⟩
    case round =>
      obtain ⟨i, hi, rfl, ⟨cf, G⟩, hK⟩ := hrel
      have HG := Lib.hid G; have HK := Lib.hid hK; clear G hK
      by_cases hlt : i < ls.length
      · obtain ⟨x, hxe⟩ : ∃ x, xs[i]? = some x := ⟨_, List.getElem?_eq_getElem (by rw [HLN.out]; exact hlt)⟩
        have hql := HX.out i x ls[i] hxe (List.getElem?_eq_getElem hlt)
        have gc := (HK.out c (fun _ => False)).cell (HCS.out i x hxe) (fun h => h)
        have hbl := HB.out ls[i] (List.getElem_mem hlt)
        have htk := List.take_succ_eq_append_getElem hlt
        obtain ⟨r, hr⟩ : ∃ r, r = ls[i] := ⟨_, rfl⟩
        rw [← hr] at hql hbl htk
        obtain ⟨a, k, rfl⟩ := hql.shape
        have g0 : wr.cell? ⟨g, i, none⟩ = some (.slice a r.length k) := by rw [Nat.zero_add] at gc; exact gc
        have HQ := Lib.hid (QL.stays.stay hql (HK.out c (fun _ => False)) (fun h => h) (Cx.refl _ _)); have HTK := Lib.hid htk; have HBL := Lib.hid hbl; clear gc hxe hql hr htk hbl
        obtain ⟨L, hL⟩ : ∃ L, L = ls.take i := ⟨_, rfl⟩
        have hLl : L.length = i := by rw [hL, List.length_take]; omega
        rw [← hL] at HG HTK
        have HLL := Lib.hid hLl; clear hL hLl
        go_wp2_with (first
          | (at_builtin; refine wpList_append2 rfl _ _ _ rfl 40 i0 (.slice none 0 0) 24 Tryz.underlying114 H6.out H7.out H8.out H9.out rfl u5 L.length xs5 rfl HO5.out ⟨w4.heap.size, 0, none⟩ 1 1 [.slice a4 m4 k4] rfl rfl (one_new _ _ _) (fun u hu => by rw [List.mem_singleton.1 hu]; exact QL.stays.one HQ5.out) (by rw [HLL.out]; unfold maxLen; omega) (by rw [HLL.out]; omega) ?_; intro v6 w6 hown6 hg6 hf6; have G6 := Lib.hid (HG5.out.push QL.stays HO5.out HQ5.out hown6 hg6 hf6); have HK6 := Lib.hid (fun c S => ((HK4.out c S).alloc _).grown hg6 (fun g hg hlt => absurd (HG5.out.fresh g hg) (by omega))); clear hown6 hg6 hf6)
          | (go_at_call 69; refine (twin_b (0, 0) (0, 0) (.slice a r.length k) r HQ.out HBL.out.1 HBL.out.2).mono ?_; rintro _ w4 ⟨v4, cb, rfl, hgb, hk⟩; obtain ⟨xb, hxb, _⟩ := hgb.own; obtain ⟨a4, m4, k4, rfl⟩ := own_slice hxb; obtain ⟨cg, xs5, g5, o5, q5⟩ := grow_join HG.out hgb hk (.cells #[.slice a4 m4 k4] 40); have HG5 := Lib.hid g5; have HO5 := Lib.hid o5; have HQ5 := Lib.hid q5; have HK4 := Lib.hid (fun c S => (HK.out c S).alloc_trans (hk c S)); clear g5 o5 q5 hk hgb hxb))
        go_roundw
        case rel => exact ⟨i + 1, by omega, by go_num, ⟨_, by rw [HTK.out]; exact G6.out⟩, HK6.out⟩
        case measure => simp [intOf]; omega
      · obtain rfl : i = ls.length := by omega
        go_wp2
        go_ret
        have := HG.out
        rw [List.take_length] at this
        exact ⟨_, _, rfl, this, HK.out⟩
theorem wbatches_c {kl lb d : Nat} {nm : Nm} {vl : Value} {ls : List (List Bs)} {size : Nat} {dirty : Bool} (L : LogAt w c kl lb d nm vl ls size dirty) (hl : ls.length ≤ 100000000) (hb : ∀ y ∈ ls, y.length ≤ 1000000000 ∧ ∀ r ∈ y, r.length ≤ lim) :
    Calls Tryz.prog 85 #[ptr lb] w fun e w' => ∃ v' cf, e = .returned v' ∧ Grow QL w.heap.size w' 40 v' cf ls ∧ ∀ c S, Kp c S w w' := by
  have e0 := L.c0; have e3 := L.c3
  have HIS := Lib.hid (wis_one w lb e0)
  have HM := Lib.hid (mapped_l vl ls L.own hl hb)
  clear L hb hl
  unfold ptr at HIS ⊢
  go_enter Tryz.func85, Tryz.ntmps85
  go_wp2_with (first
    | (go_at_call 67; refine HIS.out.mono ?_; rintro _ w1 ⟨rfl, rfl⟩)
    | (go_at_call 138; refine HM.out.mono ?_; rintro _ w2 ⟨v2, cf, rfl, hg, hk⟩; have HG := Lib.hid hg; have HK := Lib.hid hk; clear hg hk))
  go_ret
  exact ⟨_, _, rfl, HG.out, HK.out⟩
end Go.Proofs.YtnifmoigalmcmaaGreat
