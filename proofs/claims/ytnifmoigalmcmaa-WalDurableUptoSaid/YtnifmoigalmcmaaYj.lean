/- wal.trim. -/
import Derived.Test.YtnifmoigalmcmaaYi
namespace Go.Proofs.Ytnifmoigalmcmaa
open Go Go.RowKit Dk
open Wl
variable {c c' : Col} {w w' : World} {S : Nat × Nat → Prop} {q : Nat × Nat}
def trimD (m : ADisk) (n : Nm) (size : Nat) : Int × ADisk := if (truncate m n size).1 = 0 then sync (truncate m n size).2 n else truncate m n size
theorem begin_ops1 (m : ADisk) : (begin_ m).2.ops ≤ m.ops + 1 := by
  unfold begin_ Dk.die
  split
  · simp only; omega
  · simp only
    split
    · simp
    · split <;> simp
theorem truncate_ops (m : ADisk) (n : Nm) (i : Int) : (truncate m n i).2.ops ≤ m.ops + 1 := by
  have h := begin_ops1 m
  unfold truncate
  generalize begin_ m = r at h ⊢
  obtain ⟨e, d⟩ := r
  simp only at h ⊢
  split
  · exact h
  · split
    · exact h
    · split
      · exact h
      · split
        · exact h
        · unfold change
          split
          · exact h
          · exact h
theorem append_ops (m : ADisk) (n : Nm) (b : List UInt8) : (append m n b).2.ops ≤ m.ops + 1 := by
  have h := begin_ops1 m
  unfold append
  generalize begin_ m = r at h ⊢
  obtain ⟨e, d⟩ := r
  simp only at h ⊢
  split
  · exact h
  · split
    · exact h
    · split
      · exact h
      · unfold change
        split
        · exact h
        · exact h
theorem sync_ops (m : ADisk) (n : Nm) : (sync m n).2.ops ≤ m.ops + 1 := by
  have h := begin_ops1 m
  unfold sync
  generalize begin_ m = r at h ⊢
  obtain ⟨e, d⟩ := r
  simp only at h ⊢
  split
  · exact h
  · split
    · exact h
    · exact h
section
variable {kl lb d : Nat} {nm : Nm} {vl : Value} {ls : List (List Bs)} {size : Nat} {dirty : Bool}
theorem LogAt.c0 (h : LogAt w c kl lb d nm vl ls size dirty) : w.cell? ⟨lb, 0, none⟩ = some (.int .i64 1) := cell_of_heap h.heap 0
theorem LogAt.c1 (h : LogAt w c kl lb d nm vl ls size dirty) : w.cell? ⟨lb, 1, none⟩ = some (ptr d) := cell_of_heap h.heap 1
theorem LogAt.c2 (h : LogAt w c kl lb d nm vl ls size dirty) : w.cell? ⟨lb, 2, none⟩ = some (str nm) := cell_of_heap h.heap 2
theorem LogAt.c3 (h : LogAt w c kl lb d nm vl ls size dirty) : w.cell? ⟨lb, 3, none⟩ = some vl := cell_of_heap h.heap 3
theorem LogAt.c4 (h : LogAt w c kl lb d nm vl ls size dirty) : w.cell? ⟨lb, 4, none⟩ = some (.int .i64 size) := cell_of_heap h.heap 4
theorem LogAt.c5 (h : LogAt w c kl lb d nm vl ls size dirty) : w.cell? ⟨lb, 5, none⟩ = some (.int .i64 (nth dirty)) := cell_of_heap h.heap 5
theorem LogAt.fz (h : LogAt w c kl lb d nm vl ls size dirty) (i : Nat) : w.frozen? ⟨lb, i, none⟩ = false := unfrozen_of_heap h.heap i
theorem LogAt.drew (h : LogAt w c kl lb d nm vl ls size dirty) : LogAt w.drew c kl lb d nm vl ls size dirty := h.kp (S := fun _ => False) ((Kp.refl c _ w).drew) (fun h => h) (fun h => h) (fun h => h) (Cx.refl _ _)
set_option maxRecDepth 20000 in
theorem trim_c (k : Nat) (m : ADisk) (w : World) (L : LogAt w c kl lb d nm vl ls size dirty) (DD : DiskAt w c k d m) (hk0 : k ≠ 0) (hkl : kl ≠ k) (hops : m.ops < 899999) (hn : nm.length ≤ maxLen) :
    Calls Try.prog 38 #[ptr lb] w fun e w' => e = .returned (.int .i64 (trimD m nm size).1) ∧ ∃ c', Cx w c c' ∧ Kp c (fun q => q.1 = k) w w' ∧ DiskAt w' c' k d (trimD m nm size).2 ∧ LogAt w' c' kl lb d nm vl ls size dirty := by
  have e1 := L.c1; have e2 := L.c2; have e4 := L.c4
  have htr := truncate_c k d m nm size w.drew (DD.kp ((Kp.refl c (fun _ => False) w).drew) (fun _ h => h.elim) (Cx.refl _ _)) hk0 (by omega) hn
  have HTR := Lib.hid htr
  have HL := Lib.hid L; have HD := Lib.hid DD; have HT2 := Lib.hid (truncate_ops m nm size)
  clear htr L DD
  unfold ptr at HTR e1 ⊢
  unfold str at HTR e2
  obtain ⟨r, hr⟩ : ∃ r, r = truncate m nm size := ⟨_, rfl⟩
  have htd : trimD m nm size = if r.1 = 0 then sync r.2 nm else r := by rw [hr]; rfl
  have HTD := Lib.hid htd
  rw [← hr] at HTR HT2
  rw [htd]
  clear htd hr
  obtain ⟨e0, m2⟩ := r
  by_cases h0 : e0 = 0
  · subst h0
    rw [if_pos rfl]
    go_enter Try.func38, Try.ntmps38
    go_wp2
    go_still_tail 12, (by kernel_rfl)
    change wpList _ _ _ _ _ w.drew
    go_wp2_with (first
      | (go_at_call 48; refine HTR.out.mono ?_; rintro _ w2 ⟨rfl, c2, hc2, hk2, hd2⟩; have HC2 := Lib.hid hc2; have HK2 := Lib.hid hk2; have HD2 := Lib.hid hd2; have L2 := HL.out.drew.kp hk2 (by simp; exact hkl) (by simp; exact hkl) (by simp; exact fun h => hk0 h.symm) hc2; have f1 := L2.c1; have f2 := L2.c2; have HL2 := Lib.hid L2; unfold ptr at f1; unfold str at f2; clear hc2 hk2 hd2 L2))
    have hsy := sync_c k d m2 nm w2.drew (HD2.out.kp ((Kp.refl c2 (fun _ => False) w2).drew) (fun _ h => h.elim) (Cx.refl _ _)) hk0 (Int.lt_of_le_of_lt (show m2.ops ≤ m.ops + 1 from HT2.out) (by omega)) hn
    have HSY := Lib.hid hsy; clear hsy
    unfold ptr str at HSY
    go_still_tail 8, (by kernel_rfl)
    change wpList _ _ _ _ _ w2.drew
    go_wp2_with (first
      | (go_at_call 41; refine HSY.out.mono ?_; rintro _ w3 ⟨rfl, c3, hc3, hk3, hd3⟩; have HC3 := Lib.hid hc3; have HK3 := Lib.hid hk3; have HD3 := Lib.hid hd3; clear hc3 hk3 hd3))
    go_ret
    have hs2 := HK2.out.size
    exact ⟨rfl, c3, HC2.out.trans HC3.out hs2, ((Kp.refl c _ w).drew.trans HK2.out (Cx.refl _ _)).drew.trans HK3.out HC2.out, HD3.out, HL2.out.drew.kp HK3.out (by simp; exact hkl) (by simp; exact hkl) (by simp; exact fun h => hk0 h.symm) HC3.out⟩
  · have hb : (e0 == 0) = false := by simpa using h0
    rw [if_neg h0]
    go_enter Try.func38, Try.ntmps38
    go_wp2
    go_still_tail 12, (by kernel_rfl)
    change wpList _ _ _ _ _ w.drew
    go_wp2_with (first
      | (go_at_call 48; refine HTR.out.mono ?_; rintro _ w2 ⟨rfl, c2, hc2, hk2, hd2⟩; have HC2 := Lib.hid hc2; have HK2 := Lib.hid hk2; have HD2 := Lib.hid hd2; have L2 := HL.out.drew.kp hk2 (by simp; exact hkl) (by simp; exact hkl) (by simp; exact fun h => hk0 h.symm) hc2; have f1 := L2.c1; have f2 := L2.c2; have HL2 := Lib.hid L2; unfold ptr at f1; unfold str at f2; clear hc2 hk2 hd2 L2))
    go_ret
    exact ⟨rfl, c2, HC2.out, (Kp.refl c _ w).drew.trans HK2.out (Cx.refl _ _), HD2.out, HL2.out⟩
end
end Go.Proofs.Ytnifmoigalmcmaa
