import Derived.Test.YtepphepcaphlkaaD
namespace Go.Proofs.Ytepphepcaphlkaa
open Go Go.RowKit Go.MapKept Go.Maps
open Dk
variable {c : Col} {w : World} {q q' : Nat × Nat}
theorem app_cells (l b : List UInt8) (i N : Nat) (hN : N = max l.length (i + b.length)) : splice ((sized l N).map bv) i (b.map bv) = ((Chg.wr i b).app l).map bv := by
  subst hN
  simp [splice, Chg.app, over]
theorem write_apply (i : Nat) (vb v : Value) (b l : List UInt8) (w : World) {c₂ : Col} (hb : Sc w c q vb (b.map bv)) (h : Sc w c₂ q' v (l.map bv)) (hl : l.length ≤ maxFile) (hi : i + b.length ≤ maxFile) :
    Calls Try.prog 120 #[.agg #[.int .i64 (i : Int), vb], v] w fun e w' => ∃ g, e = .returned (.slice (some ⟨g, 0, none⟩) ((Chg.wr i b).app l).length ((Chg.wr i b).app l).length) ∧ w'.ownsRow w.heap.size 5 1 (.slice (some ⟨g, 0, none⟩) ((Chg.wr i b).app l).length ((Chg.wr i b).app l).length) ((Chg.wr i b).app l).length (((Chg.wr i b).app l).map bv) ∧ Below w.heap.size w w' := by
  obtain ⟨N, hN⟩ : ∃ N, N = max l.length (i + b.length) := ⟨_, rfl⟩
  have hal : ((Chg.wr i b).app l).length = N := by rw [app_length, hN]; rfl
  have hcells := app_cells l b i N hN
  rw [hal]
  obtain ⟨a, cap, rfl, _⟩ := id h
  obtain ⟨ab, capb, rfl, _⟩ := id hb
  rw [List.length_map, List.length_map] at *
  have h1 : (i : Int) + b.length ≤ 268435456 := by unfold maxFile at hi; omega
  have h2 : (l.length : Int) ≤ 268435456 := by unfold maxFile at hl; omega
  have HNm : Hid (N ≤ maxFile) := by show N ≤ _; omega
  have hiN : (i : Int) + b.length ≤ N := by omega
  have hiN' : (i : Int) ≤ N := by omega
  have hi0 : (0 : Int) ≤ (i : Int) := by omega
  have HB := Lib.hid hb; clear hb
  have H := Lib.hid h; clear h
  have HN := Lib.hid hN; clear hN
  have HAL := Lib.hid hal; clear hal
  have HC := Lib.hid hcells; clear hcells
  clear hl hi
  rename_i hx1 hx2; clear hx1 hx2
  by_cases hc : (l.length : Int) < i + b.length
  all_goals
    go_enter Try.func120, Try.ntmps120
    go_wp2_with (go_at_call 122; refine (sized_c _ l N _ (H.out.alloc _) (lim_file HNm.out) _ (by have := HN.out; omega)).mono ?_; rintro e w1 ⟨rfl, hg, hb1⟩; obtain ⟨hc1, hf1⟩ := bcell hb1; have HG := Lib.hid hg; clear hg)
    have cb0 := hc1 w.heap.size 0 (by simp)
    have cb1 := hc1 w.heap.size 1 (by simp)
    rw [World.cell?_alloc_at _ _ _ _ rfl] at cb0 cb1
    clear hc1 hf1
    rw [World.size_alloc] at HG
    have hb0 : Hid (Below w.heap.size w w1) := ((Below.refl _ w).alloc (Nat.le_refl _) _).trans (hb1.mono (by simp))
    have HB1 : Hid (0 < (b.map bv).length → ∃ ad, ab = some ad ∧ ∀ (j : Nat) v, (b.map bv)[j]? = some v → w1.drew.cell? (ad.add j) = some v) := by
      have := src_of (xs := b.map bv) (by rw [List.length_map]; exact HB.out) hb0.out b.length
      rw [List.take_of_length_le (by simp)] at this
      exact this
    clear hb1
    go_region_law (refine step_copy_splice rfl (.tmp 20) (.tmp 22) _ _ rfl 5 Try.underlying30 size_u8 _ _ _ _ _ _ rfl rfl (w.heap.size + 1) i ((sized l N).map bv) 5 HG.out (b.map bv) (by rw [List.length_map]; simp only [Nat.min_def]; split <;> omega) (fun hp => ⟨by rw [if_neg]; intro h; rw [List.length_map] at hp; omega, HB1.out hp⟩) (by simp only [List.length_map, sized_length]; omega) (one_bv _) w.heap.size w hb0.out.drew (by omega) ?_; intro w2 hg2 hb2)
    all_goals
      go_wp2
      all_goals
        go_ret
        have hg3 := hg2.out
        rw [HC.out] at hg3
        by_cases hNi : N = i
        · subst hNi
          first | contradiction | exact ⟨_, rfl, owns_splice hg3 (by rw [List.length_map, HAL.out]) (lim_len' (lim_file HNm.out)) w.heap.size (Nat.le_succ _), hb2⟩
        · first | contradiction | exact ⟨_, rfl, owns_splice hg3 (by rw [List.length_map, HAL.out]) (lim_len' (lim_file HNm.out)) w.heap.size (Nat.le_succ _), hb2⟩
theorem cut_apply (n : Nat) (v : Value) (l : List UInt8) (w : World) (h : Sc w c q' v (l.map bv)) (hn : n ≤ maxFile) :
    Calls Try.prog 123 #[.agg #[.int .i64 (n : Int)], v] w fun e w' => ∃ g, e = .returned (.slice (some ⟨g, 0, none⟩) ((Chg.cut n).app l).length ((Chg.cut n).app l).length) ∧ w'.ownsRow w.heap.size 5 1 (.slice (some ⟨g, 0, none⟩) ((Chg.cut n).app l).length ((Chg.cut n).app l).length) ((Chg.cut n).app l).length (((Chg.cut n).app l).map bv) ∧ Below w.heap.size w w' := by
  have hal : ((Chg.cut n).app l).length = n := by rw [app_length]; rfl
  rw [hal]
  have HAL := Lib.hid hal; clear hal
  have H := Lib.hid h; clear h
  have HN := Lib.hid hn; clear hn
  go_enter Try.func123, Try.ntmps123
  go_wp2_with (go_at_call 122; refine (sized_c _ l n _ (H.out.alloc _) (lim_file HN.out) _ rfl).mono ?_; rintro e w1 ⟨rfl, hg, hb1⟩; have HG := Lib.hid hg; clear hg; have HB := Lib.hid hb1; clear hb1)
  go_ret
  have hg := HG.out
  rw [World.size_alloc] at hg
  exact ⟨_, rfl, owns_splice hg (by rw [List.length_map, sized_length]) (lim_len' (lim_file HN.out)) w.heap.size (by simp), ((Below.refl _ w).alloc (Nat.le_refl _) _).trans (HB.out.mono (by simp))⟩
theorem bdrewN {B : Nat} {a w : World} (h : Below B a w) (n : Nat) : Below B a (w.drewN n) := ⟨h.os, h.tape, h.output, h.size, h.block⟩
theorem Sc.take {a : Option Addr} {cap : Nat} {xs : List Value} {q : Nat × Nat} (h : Sc w c q (.slice a xs.length cap) xs) (n : Nat) (hn : n ≤ xs.length) : Sc w c q (.slice a n cap) (xs.take n) := by
  obtain ⟨a', cap', e, h1, h2, h3, h4⟩ := h
  injection e with e1 e2 e3
  subst e1 e3
  refine ⟨a, cap, by rw [List.length_take]; congr 1; omega, by rw [List.length_take]; omega, h2, h3, fun ad had => ⟨(h4 ad had).1, fun j u hj => ?_⟩⟩
  rw [List.getElem?_take] at hj
  split at hj
  · exact (h4 ad had).2 j u hj
  · cases hj
/-- What of a change survives, as a value. -/
def SvV (w : World) (c : Col) (v : Value) : Option Chg → Prop
  | none => v = .nilIface
  | some x => ChV w c v x
theorem tmod_nat (k : Int) (n : Nat) (hk : 0 ≤ k) : k.tmod ((n : Int) + 1) = k % ((n : Int) + 1) := Int.tmod_eq_emod_of_nonneg hk
theorem write_surv (i : Nat) (vb : Value) (b : List UInt8) (k : Int) (w : World) (hb : Sc w c (0, 0) vb (b.map bv)) (hi : i + b.length ≤ maxFile) :
    Calls Try.prog 121 #[.agg #[.int .i64 (i : Int), vb], .int .i64 k] w fun e w' => ∃ v', e = .returned v' ∧ SvV w' c v' ((Chg.wr i b).surv k) ∧ Below w.heap.size w w' := by
  obtain ⟨ab, capb, rfl, _⟩ := id hb
  rw [List.length_map] at *
  rename_i hx; clear hx
  have h1 : (b.length : Int) ≤ 268435456 := by unfold maxFile at hi; omega
  have HB := Lib.hid hb; clear hb
  clear hi
  by_cases hk : k < 0
  · go_enter Try.func121, Try.ntmps121
    go_wp2
    go_ret
    refine ⟨_, rfl, ?_, (Below.refl _ w).alloc (Nat.le_refl _) _⟩
    simp only [Chg.surv, if_pos hk]
    exact ⟨_, rfl, HB.out.alloc _⟩
  · obtain ⟨r, hr⟩ : ∃ r, r = k % ((b.length : Int) + 1) := ⟨_, rfl⟩
    have hk0 : 0 ≤ k := by omega
    have hr0 : 0 ≤ r := by rw [hr]; exact Int.emod_nonneg _ (by omega)
    have hr1 : r ≤ b.length := by rw [hr]; have := Int.emod_lt_of_pos k (b := (b.length : Int) + 1) (by omega); omega
    have hw : (k.tmod ((b.length : Int) + 1)) = r := by rw [tmod_nat k _ hk0, hr]
    have hbc : (b.length : Int) ≤ capb := by
      obtain ⟨_, _, e, h2, _⟩ := HB.out
      injection e with _ _ e3; subst e3; simpa using h2
    have HR := Lib.hid hr; clear hr
    have HK := Lib.hid hk; clear hk
    by_cases hz : r = 0
    · have hz1 : (r == 0) = true := by simpa using hz
      have HZ := Lib.hid hz; clear hz
      go_enter Try.func121, Try.ntmps121
      go_wp2
      go_ret
      refine ⟨_, rfl, ?_, (Below.refl _ w).alloc (Nat.le_refl _) _⟩
      have h0 : (k % ((b.length : Int) + 1)).toNat = 0 := by rw [← HR.out, HZ.out]; rfl
      simp only [Chg.surv]
      rw [if_neg (by omega), if_pos h0]
      rfl
    · have hz1 : (r == 0) = false := by simpa using hz
      have HZ := Lib.hid hz; clear hz
      go_enter Try.func121, Try.ntmps121
      go_wp2
      go_quiet (fail)
      go_wp2
      go_ret
      refine ⟨_, rfl, ?_, bdrewN ((Below.refl _ w).alloc (Nat.le_refl _) _) _⟩
      have h0 : (k % ((b.length : Int) + 1)).toNat = r.toNat := by rw [← HR.out]
      have hz := HZ.out
      simp only [Chg.surv]
      rw [if_neg (by omega), if_neg (by omega), h0]
      have ht := (by rw [List.length_map]; exact HB.out : Sc w c (0, 0) (.slice ab (b.map bv).length capb) (b.map bv)).take r.toNat (by rw [List.length_map]; omega)
      rw [← List.map_take] at ht
      exact ⟨_, rfl, (ht.alloc _).drewN _⟩
theorem cut_surv (n : Nat) (k : Int) (w : World) :
    Calls Try.prog 124 #[.agg #[.int .i64 (n : Int)], .int .i64 k] w fun e w' => ∃ v', e = .returned v' ∧ SvV w' c v' ((Chg.cut n).surv k) ∧ Below w.heap.size w w' := by
  by_cases hk : k < 0
  · go_enter Try.func124, Try.ntmps124
    go_wp2
    go_ret
    refine ⟨_, rfl, ?_, (Below.refl _ w).alloc (Nat.le_refl _) _⟩
    simp only [Chg.surv]
    rw [if_pos (Or.inl hk)]
    rfl
  · have hk0 : 0 ≤ k := by omega
    obtain ⟨r, hr⟩ : ∃ r, r = k % 2 := ⟨_, rfl⟩
    have hw : k.tmod 2 = r := by rw [Int.tmod_eq_emod_of_nonneg hk0, hr]
    have hr0 : 0 ≤ r := by omega
    have hr1 : r ≤ 1 := by omega
    have HR := Lib.hid hr; clear hr
    have HK := Lib.hid hk; clear hk
    by_cases hz : r = 1
    · have hz1 : (r == 1) = true := by simpa using hz
      have HZ := Lib.hid hz; clear hz
      go_enter Try.func124, Try.ntmps124
      go_wp2
      go_ret
      refine ⟨_, rfl, ?_, (Below.refl _ w).alloc (Nat.le_refl _) _⟩
      have h1 := HR.out
      have h2 := HZ.out
      simp only [Chg.surv]
      rw [if_pos (Or.inr (by omega))]
      rfl
    · have hz1 : (r == 1) = false := by simpa using hz
      have HZ := Lib.hid hz; clear hz
      go_enter Try.func124, Try.ntmps124
      go_wp2
      go_ret
      refine ⟨_, rfl, ?_, (Below.refl _ w).alloc (Nat.le_refl _) _⟩
      have h1 := HR.out
      have h2 := HZ.out
      have h3 := HK.out
      simp only [Chg.surv]
      rw [if_neg (by omega)]
      rfl
end Go.Proofs.Ytepphepcaphlkaa
