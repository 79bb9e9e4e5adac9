/- wal.Log in memory; its functions on a log that nobody opened. -/
import Derived.Test.YtnifmoigalmcmaaGreatQ
import Derived.Test.YtnifmoigalmcmaaGreatOp
import Derived.Test.YtnifmoigalmcmaaGreatSt
namespace Go.Proofs.YtnifmoigalmcmaaGreat
open Go Go.RowKit
open Wl
variable {c c' : Col} {w w' : World} {S : Nat × Nat → Prop} {q : Nat × Nat}
theorem wis_one (w : World) (b : Nat) (h : w.cell? ⟨b, 0, none⟩ = some (.int .i64 1)) : Calls Tryz.prog 67 #[ptr b] w fun e w' => e = .returned (.bool true) ∧ w = w' := by
  unfold ptr
  go_enter Tryz.func67, Tryz.ntmps67
  go_wp2
  go_ret
  exact ⟨rfl, rfl⟩
theorem count_c (w : World) (b : Nat) (h : w.cell? ⟨b, 0, none⟩ = some (.int .i64 1)) {a : Option Addr} {n k : Nat} (hb : w.cell? ⟨b, 3, none⟩ = some (.slice a n k)) : Calls Tryz.prog 55 #[ptr b] w fun e w' => e = .returned (.int .i64 n) ∧ w = w' := by
  have H := Lib.hid (wis_one w b h)
  unfold ptr at H ⊢
  go_enter Tryz.func55, Tryz.ntmps55
  go_wp2_with (go_at_call 67; refine H.out.mono ?_; rintro _ w1 ⟨rfl, rfl⟩)
  go_ret
  exact ⟨rfl, rfl⟩
theorem wsize_c (w : World) (b : Nat) (h : w.cell? ⟨b, 0, none⟩ = some (.int .i64 1)) {n : Int} (hb : w.cell? ⟨b, 4, none⟩ = some (.int .i64 n)) : Calls Tryz.prog 56 #[ptr b] w fun e w' => e = .returned (.int .i64 n) ∧ w = w' := by
  have H := Lib.hid (wis_one w b h)
  unfold ptr at H ⊢
  go_enter Tryz.func56, Tryz.ntmps56
  go_wp2_with (go_at_call 67; refine H.out.mono ?_; rintro _ w1 ⟨rfl, rfl⟩)
  go_ret
  exact ⟨rfl, rfl⟩
end Go.Proofs.YtnifmoigalmcmaaGreat
/- wal.Log in memory; Open on a disk that has no such file. -/
namespace Go.Proofs.YtnifmoigalmcmaaGreat
open Go Go.RowKit Dk
open Wl
variable {c c' : Col} {w w' : World} {S : Nat × Nat → Prop} {q : Nat × Nat}
abbrev nth (d : Bool) : Int := if d then 1 else 0
/-- A log: its own block, its list of batches. -/
structure LogAt (w : World) (c : Col) (kl lb d : Nat) (nm : Nm) (vl : Value) (ls : List (List Bs)) (size : Nat) (dirty : Bool) : Prop where
  heap : w.heap[lb]? = some (.cells #[.int .i64 1, ptr d, str nm, vl, .int .i64 size, .int .i64 (nth dirty)] 121 (0, 0))
  col : c lb = (kl, 0)
  own : ∃ xs, w.ownsRow 0 40 1 vl ls.length xs ∧ ∀ (i : Nat) x y, xs[i]? = some x → ls[i]? = some y → QL w c x y
  ocol : ∀ g, vl.ownBlock = some g → c g = (kl, 1)
theorem LogAt.kp {kl lb d : Nat} {nm : Nm} {vl : Value} {ls : List (List Bs)} {size : Nat} {dirty : Bool} (h : LogAt w c kl lb d nm vl ls size dirty) (hk : Kp c S w w') (h0 : ¬ S (kl, 0)) (h1 : ¬ S (kl, 1)) (hz : ¬ S (0, 0)) (hc : Cx w c c') : LogAt w' c' kl lb d nm vl ls size dirty := by
  obtain ⟨a, b, ⟨xs, ho, hx⟩, e⟩ := h
  exact ⟨hk.heap a (by rw [b]; exact h0), (hc _ (lt_of_heap a)).trans b, ⟨xs, ownsRow_kp ho e hk h1, fun i x y hi hj => QL.stays.stay (hx i x y hi hj) hk hz hc⟩, fun g hg => (hc g (ownBlock_lt ho g hg)).trans (e g hg)⟩
theorem size_none {m : ADisk} {n : Nm} (hd : m.dead = false) (hg : get m.files n = none) : size m n = (0, 13) := by
  unfold size; rw [hd, hg]; rfl
set_option maxRecDepth 20000 in
theorem open_none (k kl d : Nat) (m : ADisk) (n : Nm) (w : World) (DD : DiskAt w c k d m) (hk0 : k ≠ 0) (hkl : kl ≠ k) (hops : m.ops < 900000) (hn : n.length ≤ maxLen) (hd : m.dead = false) (hg : get m.files n = none) :
    Calls Tryz.prog 14 #[ptr d, str n] w fun e w' => ∃ c', Cx w c c' ∧ Kp c (fun q => q.1 = k) w w' ∧ DiskAt w' c' k d (create m n).2 ∧
      ((create m n).1 = 0 → ∃ lb, e = .returned (.tuple #[ptr lb, .int .i64 0]) ∧ w.heap.size ≤ lb ∧ LogAt w' c' kl lb d n (.slice none 0 0) [] 0 false) ∧
      ((create m n).1 ≠ 0 → e = .returned (.tuple #[.pointer none, .int .i64 (create m n).1])) := by
  obtain ⟨r, hr⟩ : ∃ r, r = create m n := ⟨_, rfl⟩
  have hcol : Cx w c (newCol w c (kl, 0)) := newCol_cx _ _ _
  have hal : ∀ o, Kp c (fun q => q.1 = k) w (w.alloc o) := fun o => (Kp.refl _ _ _).alloc o
  obtain ⟨o, ho⟩ : ∃ o, o = Obj.cells #[.int .i64 1, ptr d, str n, .slice none 0 0, .int .i64 0, .int .i64 0] 121 := ⟨_, rfl⟩
  have D1 := DD.kp ((Kp.refl c (fun _ => False) w).alloc o) (fun _ h => h.elim) hcol
  have hs := size_c k d m n (w.alloc o) D1 hn
  rw [size_none hd hg] at hs
  have hcr := create_c k d m n (w.alloc o) D1 hk0 hops hn
  rw [← hr] at hcr ⊢
  have HS := Lib.hid hs; have HCR := Lib.hid hcr; have HO := Lib.hid ho
  clear hs hcr hr D1 DD hal hd hg
  obtain ⟨e0, m2⟩ := r
  unfold ptr str at HS HCR HO ⊢
  by_cases h0 : e0 = 0
  · subst h0
    go_enter Tryz.func14, Tryz.ntmps14
    rw [HO.out] at HS HCR
    go_wp2_with (first
      | (go_at_call 58; refine HS.out.mono ?_; rintro _ w1 ⟨rfl, rfl⟩)
      | (go_at_call 51; refine HCR.out.mono ?_; rintro _ w2 ⟨rfl, c2, hc2, hk2, hd2⟩; have HC2 := Lib.hid hc2; have HK2 := Lib.hid hk2; have HD2 := Lib.hid hd2; clear hc2 hk2 hd2))
    go_ret2
    have L0 : LogAt (w.alloc (.cells #[.int .i64 1, ptr d, str n, .slice none 0 0, .int .i64 0, .int .i64 0] 121)) (newCol w c (kl, 0)) kl w.heap.size d n (.slice none 0 0) [] 0 false :=
      ⟨heap_alloc_new _ _, if_neg (Nat.lt_irrefl _), ⟨[], World.ownsRow_nil _ _ _ _, fun i x y hi => by simp at hi⟩, fun g hg => by cases hg⟩
    exact ⟨c2, hcol.trans HC2.out (by simp), ((Kp.refl c _ w).alloc _).trans HK2.out hcol, HD2.out, fun _ => ⟨w.heap.size, rfl, Nat.le_refl _, L0.kp HK2.out (by simp; exact hkl) (by simp; exact hkl) (by simp; exact fun h => hk0 h.symm) HC2.out⟩, fun h => absurd rfl h⟩
  · have hb : (e0 == 0) = false := by simpa using h0
    go_enter Tryz.func14, Tryz.ntmps14
    rw [HO.out] at HS HCR
    go_wp2_with (first
      | (go_at_call 58; refine HS.out.mono ?_; rintro _ w1 ⟨rfl, rfl⟩)
      | (go_at_call 51; refine HCR.out.mono ?_; rintro _ w2 ⟨rfl, c2, hc2, hk2, hd2⟩; have HC2 := Lib.hid hc2; have HK2 := Lib.hid hk2; have HD2 := Lib.hid hd2; clear hc2 hk2 hd2))
    go_ret2
    exact ⟨c2, hcol.trans HC2.out (by simp), ((Kp.refl c _ w).alloc _).trans HK2.out hcol, HD2.out, fun h => absurd h h0, fun _ => rfl⟩
end Go.Proofs.YtnifmoigalmcmaaGreat
/- wal.trim. -/
namespace Go.Proofs.YtnifmoigalmcmaaGreat
open Go Go.RowKit Dk
open Wl
variable {c c' : Col} {w w' : World} {S : Nat × Nat → Prop} {q : Nat × Nat}
def trimD (m : ADisk) (n : Nm) (size : Nat) : Int × ADisk := if (truncate m n size).1 = 0 then sync (truncate m n size).2 n else truncate m n size
theorem begin_ops1 (m : ADisk) : (begin_ m).2.ops ≤ m.ops + 1 := by
  unfold begin_ Dk.die
  split
  · simp only; omega
  · simp only
    split
    · simp
    · split <;> simp
theorem truncate_ops (m : ADisk) (n : Nm) (i : Int) : (truncate m n i).2.ops ≤ m.ops + 1 := by
  have h := begin_ops1 m
  unfold truncate
  generalize begin_ m = r at h ⊢
  obtain ⟨e, d⟩ := r
  simp only at h ⊢
  split
  · exact h
  · split
    · exact h
    · split
      · exact h
      · split
        · exact h
        · unfold change
          split
          · exact h
          · exact h
theorem append_ops (m : ADisk) (n : Nm) (b : List UInt8) : (append m n b).2.ops ≤ m.ops + 1 := by
  have h := begin_ops1 m
  unfold append
  generalize begin_ m = r at h ⊢
  obtain ⟨e, d⟩ := r
  simp only at h ⊢
  split
  · exact h
  · split
    · exact h
    · split
      · exact h
      · unfold change
        split
        · exact h
        · exact h
theorem sync_ops (m : ADisk) (n : Nm) : (sync m n).2.ops ≤ m.ops + 1 := by
  have h := begin_ops1 m
  unfold sync
  generalize begin_ m = r at h ⊢
  obtain ⟨e, d⟩ := r
  simp only at h ⊢
  split
  · exact h
  · split
    · exact h
    · exact h
section
variable {kl lb d : Nat} {nm : Nm} {vl : Value} {ls : List (List Bs)} {size : Nat} {dirty : Bool}
theorem LogAt.c0 (h : LogAt w c kl lb d nm vl ls size dirty) : w.cell? ⟨lb, 0, none⟩ = some (.int .i64 1) := cell_of_heap h.heap 0
theorem LogAt.c1 (h : LogAt w c kl lb d nm vl ls size dirty) : w.cell? ⟨lb, 1, none⟩ = some (ptr d) := cell_of_heap h.heap 1
theorem LogAt.c2 (h : LogAt w c kl lb d nm vl ls size dirty) : w.cell? ⟨lb, 2, none⟩ = some (str nm) := cell_of_heap h.heap 2
theorem LogAt.c3 (h : LogAt w c kl lb d nm vl ls size dirty) : w.cell? ⟨lb, 3, none⟩ = some vl := cell_of_heap h.heap 3
theorem LogAt.c4 (h : LogAt w c kl lb d nm vl ls size dirty) : w.cell? ⟨lb, 4, none⟩ = some (.int .i64 size) := cell_of_heap h.heap 4
theorem LogAt.c5 (h : LogAt w c kl lb d nm vl ls size dirty) : w.cell? ⟨lb, 5, none⟩ = some (.int .i64 (nth dirty)) := cell_of_heap h.heap 5
theorem LogAt.fz (h : LogAt w c kl lb d nm vl ls size dirty) (i : Nat) : w.frozen? ⟨lb, i, none⟩ = false := unfrozen_of_heap h.heap i
theorem LogAt.drew (h : LogAt w c kl lb d nm vl ls size dirty) : LogAt w.drew c kl lb d nm vl ls size dirty := h.kp (S := fun _ => False) ((Kp.refl c _ w).drew) (fun h => h) (fun h => h) (fun h => h) (Cx.refl _ _)
set_option maxRecDepth 20000 in
theorem trim_c (k : Nat) (m : ADisk) (w : World) (L : LogAt w c kl lb d nm vl ls size dirty) (DD : DiskAt w c k d m) (hk0 : k ≠ 0) (hkl : kl ≠ k) (hops : m.ops < 899999) (hn : nm.length ≤ maxLen) :
    Calls Tryz.prog 60 #[ptr lb] w fun e w' => e = .returned (.int .i64 (trimD m nm size).1) ∧ ∃ c', Cx w c c' ∧ Kp c (fun q => q.1 = k) w w' ∧ DiskAt w' c' k d (trimD m nm size).2 ∧ LogAt w' c' kl lb d nm vl ls size dirty := by
  have e1 := L.c1; have e2 := L.c2; have e4 := L.c4
  have htr := truncate_c k d m nm size w.drew (DD.kp ((Kp.refl c (fun _ => False) w).drew) (fun _ h => h.elim) (Cx.refl _ _)) hk0 (by omega) hn
  have HTR := Lib.hid htr
  have HL := Lib.hid L; have HD := Lib.hid DD; have HT2 := Lib.hid (truncate_ops m nm size)
  clear htr L DD
  unfold ptr at HTR e1 ⊢
  unfold str at HTR e2
  obtain ⟨r, hr⟩ : ∃ r, r = truncate m nm size := ⟨_, rfl⟩
  have htd : trimD m nm size = if r.1 = 0 then sync r.2 nm else r := by rw [hr]; rfl
  have HTD := Lib.hid htd
  rw [← hr] at HTR HT2
  rw [htd]
  clear htd hr
  obtain ⟨e0, m2⟩ := r
  by_cases h0 : e0 = 0
  · subst h0
    rw [if_pos rfl]
    go_enter Tryz.func60, Tryz.ntmps60
    go_wp2
    go_still_tail 12, (by kernel_rfl)
    change wpList _ _ _ _ _ w.drew
    go_wp2_with (first
      | (go_at_call 72; refine HTR.out.mono ?_; rintro _ w2 ⟨rfl, c2, hc2, hk2, hd2⟩; have HC2 := Lib.hid hc2; have HK2 := Lib.hid hk2; have HD2 := Lib.hid hd2; have L2 := HL.out.drew.kp hk2 (by simp; exact hkl) (by simp; exact hkl) (by simp; exact fun h => hk0 h.symm) hc2; have f1 := L2.c1; have f2 := L2.c2; have HL2 := Lib.hid L2; unfold ptr at f1; unfold str at f2; clear hc2 hk2 hd2 L2))
    have hsy := sync_c k d m2 nm w2.drew (HD2.out.kp ((Kp.refl c2 (fun _ => False) w2).drew) (fun _ h => h.elim) (Cx.refl _ _)) hk0 (Int.lt_of_le_of_lt (show m2.ops ≤ m.ops + 1 from HT2.out) (by omega)) hn
    have HSY := Lib.hid hsy; clear hsy
    unfold ptr str at HSY
    go_still_tail 8, (by kernel_rfl)
    change wpList _ _ _ _ _ w2.drew
    go_wp2_with (first
      | (go_at_call 68; refine HSY.out.mono ?_; rintro _ w3 ⟨rfl, c3, hc3, hk3, hd3⟩; have HC3 := Lib.hid hc3; have HK3 := Lib.hid hk3; have HD3 := Lib.hid hd3; clear hc3 hk3 hd3))
    go_ret
    have hs2 := HK2.out.size
    exact ⟨rfl, c3, HC2.out.trans HC3.out hs2, ((Kp.refl c _ w).drew.trans HK2.out (Cx.refl _ _)).drew.trans HK3.out HC2.out, HD3.out, HL2.out.drew.kp HK3.out (by simp; exact hkl) (by simp; exact hkl) (by simp; exact fun h => hk0 h.symm) HC3.out⟩
  · have hb : (e0 == 0) = false := by simpa using h0
    rw [if_neg h0]
    go_enter Tryz.func60, Tryz.ntmps60
    go_wp2
    go_still_tail 12, (by kernel_rfl)
    change wpList _ _ _ _ _ w.drew
    go_wp2_with (first
      | (go_at_call 72; refine HTR.out.mono ?_; rintro _ w2 ⟨rfl, c2, hc2, hk2, hd2⟩; have HC2 := Lib.hid hc2; have HK2 := Lib.hid hk2; have HD2 := Lib.hid hd2; have L2 := HL.out.drew.kp hk2 (by simp; exact hkl) (by simp; exact hkl) (by simp; exact fun h => hk0 h.symm) hc2; have f1 := L2.c1; have f2 := L2.c2; have HL2 := Lib.hid L2; unfold ptr at f1; unfold str at f2; clear hc2 hk2 hd2 L2))
    go_ret
    exact ⟨rfl, c2, HC2.out, (Kp.refl c _ w).drew.trans HK2.out (Cx.refl _ _), HD2.out, HL2.out⟩
end
end Go.Proofs.YtnifmoigalmcmaaGreat
