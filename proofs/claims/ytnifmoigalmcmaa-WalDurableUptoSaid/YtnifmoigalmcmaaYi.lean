/- wal.Log in memory; Open on a disk that has no such file. -/
import Derived.Test.YtnifmoigalmcmaaYh
namespace Go.Proofs.Ytnifmoigalmcmaa
open Go Go.RowKit Dk
open Wl
variable {c c' : Col} {w w' : World} {S : Nat × Nat → Prop} {q : Nat × Nat}
abbrev nth (d : Bool) : Int := if d then 1 else 0
/-- A log: its own block, its list of batches. -/
structure LogAt (w : World) (c : Col) (kl lb d : Nat) (nm : Nm) (vl : Value) (ls : List (List Bs)) (size : Nat) (dirty : Bool) : Prop where
  heap : w.heap[lb]? = some (.cells #[.int .i64 1, ptr d, str nm, vl, .int .i64 size, .int .i64 (nth dirty)] 57 (0, 0))
  col : c lb = (kl, 0)
  own : ∃ xs, w.ownsRow 0 22 1 vl ls.length xs ∧ ∀ (i : Nat) x y, xs[i]? = some x → ls[i]? = some y → QL w c x y
  ocol : ∀ g, vl.ownBlock = some g → c g = (kl, 1)
theorem LogAt.kp {kl lb d : Nat} {nm : Nm} {vl : Value} {ls : List (List Bs)} {size : Nat} {dirty : Bool} (h : LogAt w c kl lb d nm vl ls size dirty) (hk : Kp c S w w') (h0 : ¬ S (kl, 0)) (h1 : ¬ S (kl, 1)) (hz : ¬ S (0, 0)) (hc : Cx w c c') : LogAt w' c' kl lb d nm vl ls size dirty := by
  obtain ⟨a, b, ⟨xs, ho, hx⟩, e⟩ := h
  exact ⟨hk.heap a (by rw [b]; exact h0), (hc _ (lt_of_heap a)).trans b, ⟨xs, ownsRow_kp ho e hk h1, fun i x y hi hj => QL.stays.stay (hx i x y hi hj) hk hz hc⟩, fun g hg => (hc g (ownBlock_lt ho g hg)).trans (e g hg)⟩
theorem size_none {m : ADisk} {n : Nm} (hd : m.dead = false) (hg : get m.files n = none) : size m n = (0, 13) := by
  unfold size; rw [hd, hg]; rfl
set_option maxRecDepth 20000 in
theorem open_none (k kl d : Nat) (m : ADisk) (n : Nm) (w : World) (DD : DiskAt w c k d m) (hk0 : k ≠ 0) (hkl : kl ≠ k) (hops : m.ops < 900000) (hn : n.length ≤ maxLen) (hd : m.dead = false) (hg : get m.files n = none) :
    Calls Try.prog 18 #[ptr d, str n] w fun e w' => ∃ c', Cx w c c' ∧ Kp c (fun q => q.1 = k) w w' ∧ DiskAt w' c' k d (create m n).2 ∧
      ((create m n).1 = 0 → ∃ lb, e = .returned (.tuple #[ptr lb, .int .i64 0]) ∧ w.heap.size ≤ lb ∧ LogAt w' c' kl lb d n (.slice none 0 0) [] 0 false) ∧
      ((create m n).1 ≠ 0 → e = .returned (.tuple #[.pointer none, .int .i64 (create m n).1])) := by
  obtain ⟨r, hr⟩ : ∃ r, r = create m n := ⟨_, rfl⟩
  have hcol : Cx w c (newCol w c (kl, 0)) := newCol_cx _ _ _
  have hal : ∀ o, Kp c (fun q => q.1 = k) w (w.alloc o) := fun o => (Kp.refl _ _ _).alloc o
  obtain ⟨o, ho⟩ : ∃ o, o = Obj.cells #[.int .i64 1, ptr d, str n, .slice none 0 0, .int .i64 0, .int .i64 0] 57 := ⟨_, rfl⟩
  have D1 := DD.kp ((Kp.refl c (fun _ => False) w).alloc o) (fun _ h => h.elim) hcol
  have hs := size_c k d m n (w.alloc o) D1 hn
  rw [size_none hd hg] at hs
  have hcr := create_c k d m n (w.alloc o) D1 hk0 hops hn
  rw [← hr] at hcr ⊢
  have HS := Lib.hid hs; have HCR := Lib.hid hcr; have HO := Lib.hid ho
  clear hs hcr hr D1 DD hal hd hg
  obtain ⟨e0, m2⟩ := r
  unfold ptr str at HS HCR HO ⊢
  by_cases h0 : e0 = 0
  · subst h0
    go_enter Try.func18, Try.ntmps18
    rw [HO.out] at HS HCR
    go_wp2_with (first
      | (go_at_call 35; refine HS.out.mono ?_; rintro _ w1 ⟨rfl, rfl⟩)
      | (go_at_call 36; refine HCR.out.mono ?_; rintro _ w2 ⟨rfl, c2, hc2, hk2, hd2⟩; have HC2 := Lib.hid hc2; have HK2 := Lib.hid hk2; have HD2 := Lib.hid hd2; clear hc2 hk2 hd2))
    go_ret2
    have L0 : LogAt (w.alloc (.cells #[.int .i64 1, ptr d, str n, .slice none 0 0, .int .i64 0, .int .i64 0] 57)) (newCol w c (kl, 0)) kl w.heap.size d n (.slice none 0 0) [] 0 false :=
      ⟨heap_alloc_new _ _, if_neg (Nat.lt_irrefl _), ⟨[], World.ownsRow_nil _ _ _ _, fun i x y hi => by simp at hi⟩, fun g hg => by cases hg⟩
    exact ⟨c2, hcol.trans HC2.out (by simp), ((Kp.refl c _ w).alloc _).trans HK2.out hcol, HD2.out, fun _ => ⟨w.heap.size, rfl, Nat.le_refl _, L0.kp HK2.out (by simp; exact hkl) (by simp; exact hkl) (by simp; exact fun h => hk0 h.symm) HC2.out⟩, fun h => absurd rfl h⟩
  · have hb : (e0 == 0) = false := by simpa using h0
    go_enter Try.func18, Try.ntmps18
    rw [HO.out] at HS HCR
    go_wp2_with (first
      | (go_at_call 35; refine HS.out.mono ?_; rintro _ w1 ⟨rfl, rfl⟩)
      | (go_at_call 36; refine HCR.out.mono ?_; rintro _ w2 ⟨rfl, c2, hc2, hk2, hd2⟩; have HC2 := Lib.hid hc2; have HK2 := Lib.hid hk2; have HD2 := Lib.hid hd2; clear hc2 hk2 hd2))
    go_ret2
    exact ⟨c2, hcol.trans HC2.out (by simp), ((Kp.refl c _ w).alloc _).trans HK2.out hcol, HD2.out, fun h => absurd h h0, fun _ => rfl⟩
end Go.Proofs.Ytnifmoigalmcmaa
