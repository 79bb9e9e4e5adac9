import Derived.Test.YtepphepcaphlkaaAp
import Derived.Deep.RegionHeld3
namespace Go.Proofs.Ytepphepcaphlkaa
open Go Go.RowKit Go.MapKept Go.Maps
open Dk
variable {c : Col} {w : World}
theorem nilA_write (n : Nat) (w : World) (v : Value) : (nilAhead (n + 1) 104 v "cairn/disk.apply").run Try.prog w = .ok (some false) w := by kernel_rfl
theorem meth_write (n : Nat) (w : World) (v : Value) : (method (n + 1) 104 v "cairn/disk.apply").run Try.prog w = .ok (120, v) w := by kernel_rfl
theorem nilA_cut (n : Nat) (w : World) (v : Value) : (nilAhead (n + 1) 107 v "cairn/disk.apply").run Try.prog w = .ok (some false) w := by kernel_rfl
theorem meth_cut (n : Nat) (w : World) (v : Value) : (method (n + 1) 107 v "cairn/disk.apply").run Try.prog w = .ok (123, v) w := by kernel_rfl
theorem owns_alloc {base e size n : Nat} {v : Value} {xs : List Value} (h : w.ownsRow base e size v n xs) (o : Obj) : (w.alloc o).ownsRow base e size v n xs :=
  ownsRow_kp (c := fun _ => (0, 0)) (q := (0, 0)) (S := fun _ => False) h (fun _ _ => rfl) ((Kp.refl _ _ _).alloc _) (fun h => h)
theorem one_new (w : World) (v : Value) (e : TypeId) : ∀ (j : Nat) u, [v][j]? = some u → (w.alloc (.cells #[v] e)).cell? ((⟨w.heap.size, 0, none⟩ : Addr).add j) = some u := by
  intro j u hj
  match j, hj with
  | 0, hj => simp at hj; subst hj; rw [add_eq rfl]; simp
theorem lim_succ {n : Nat} (h : n + 1 ≤ lim) : n + 1 ≤ maxLen := lim_len' h
theorem lim_by' {n k : Nat} (h : n ≤ lim) (hk : k ≤ 64) : n * k ≤ 140737488355328 := by have := lim_by h hk; rwa [Nat.zero_add] at this
theorem own_succ {W : World} {base : Nat} {e : TypeId} {size : Nat} {v : Value} {k : Nat} {xs : List Value} (h : W.ownsRow base e size v (k + 1) xs) : ∃ g cap, v = .slice (some ⟨g, 0, none⟩) (k + 1) cap := by
  rcases h.2 with ⟨_, h0⟩ | ⟨g, cap, _, rfl, _⟩
  · omega
  · exact ⟨g, cap, rfl⟩
theorem own_ne2 {k fb g2 n cap B : Nat} {v : Value} (hlt : fb < w.heap.size) (h : c fb = fcol k fb) (hg : ∀ g, v.ownBlock = some g → c g = gcol k fb)
    (hn : ∀ g, (Value.slice (some ⟨g2, 0, none⟩) n cap).ownBlock = some g → v.ownBlock = some g ∨ w.heap.size + B ≤ g) : g2 ≠ fb := by
  intro e
  subst e
  rcases hn g2 rfl with h' | h'
  · have := hg _ h'
    rw [h] at this
    simp only [fcol, gcol, Prod.mk.injEq] at this
    omega
  · omega
theorem nS0 {k fb : Nat} : ¬ ((0, 0) = fcol k fb ∨ (0, 0) = gcol k fb) := by simp [fcol, gcol]
theorem own_ne {k fb : Nat} {v : Value} (h : c fb = fcol k fb) (hg : ∀ g, v.ownBlock = some g → c g = gcol k fb) : some fb ≠ v.ownBlock := by
  intro e
  have := hg fb e.symm
  rw [h] at this
  simp only [fcol, gcol, Prod.mk.injEq] at this
  omega
theorem do_end {k fb g2 cap2 g4 L B : Nat} {f : AFile} {x : Chg} {nv vs vc vn : Value} {xs : List Value} {w3 w4 : World} {dat : List UInt8} (hlt : fb < w.heap.size)
    (HO : w.ownsRow 0 109 1 vc f.chs.length xs) (HX : ∀ (i : Nat) (x : Value) (y : Chg), xs[i]? = some x → f.chs[i]? = some y → ChV w c x y) (HG : ∀ g, vc.ownBlock = some g → c g = gcol k fb) (HF : c fb = fcol k fb)
    (HS : Sc w c (0, 0) vs (f.safe.map bv)) (HW2 : ∀ g, (Value.slice (some ⟨g2, 0, none⟩) (f.chs.length + 1) cap2).ownBlock = some g → vc.ownBlock = some g ∨ w.heap.size + B ≤ g)
    (HH3 : w3.heap[fb]? = some (.cells (#[vs, vc, vn].setIfInBounds 1 (.slice (some ⟨g2, 0, none⟩) (f.chs.length + 1) cap2)) 80 (0, 0)))
    (HK3 : Kp c (fun q => q = fcol k fb ∨ q = gcol k fb) w w3)
    (HO3 : w3.ownsRow 0 109 1 (.slice (some ⟨g2, 0, none⟩) (f.chs.length + 1) cap2) (f.chs.length + 1) (xs ++ [nv])) (hv : ChV w c nv x)
    (HO4 : w4.ownsRow w3.heap.size 5 1 (.slice (some ⟨g4, 0, none⟩) L L) L (dat.map bv)) (HB4 : Below w3.heap.size w3 w4) :
    ∃ c', Cx w c c' ∧ Kp c (fun q => q = fcol k fb ∨ q = gcol k fb) w (w4.setCell ⟨fb, 2, none⟩ (.slice (some ⟨g4, 0, none⟩) L L)) ∧
      FileAt (w4.setCell ⟨fb, 2, none⟩ (.slice (some ⟨g4, 0, none⟩) L L)) c' k fb ⟨f.safe, f.chs ++ [x], dat⟩ := by
  have hg2 : g2 < w3.heap.size := ownBlock_lt HO3 g2 rfl
  have hg4 : w3.heap.size ≤ g4 := by
    rcases HO4.2 with ⟨e, _⟩ | ⟨g, _, _, e, h, _⟩
    · cases e
    · cases e; exact h
  have hlt3 : fb < w3.heap.size := lt_of_heap HH3
  have hne2 : g2 ≠ fb := own_ne2 hlt HF HG HW2
  have hK : Kp c (fun q => q = fcol k fb ∨ q = gcol k fb) w (w4.setCell ⟨fb, 2, none⟩ (.slice (some ⟨g4, 0, none⟩) L L)) := (HK3.below HB4 HK3.size).setCell (fun _ => Or.inl HF) _
  let c' : Col := fun b => if b < w.heap.size then c b else if b = g2 then gcol k fb else (0, 0)
  have hC : Cx w c c' := fun b hb => if_pos hb
  have hc2 : c' g2 = gcol k fb := by
    show (if g2 < w.heap.size then c g2 else if g2 = g2 then gcol k fb else (0, 0)) = _
    split
    · rename_i h
      rcases HW2 g2 rfl with h' | h'
      · exact HG _ h'
      · omega
    · rw [if_pos rfl]
  have hc4 : c' g4 = (0, 0) := by
    have := HK3.size
    show (if g4 < w.heap.size then c g4 else if g4 = g2 then gcol k fb else (0, 0)) = _
    rw [if_neg (by omega), if_neg (by omega)]
  have hset : Kp (fun b => if b = fb then (1, 0) else (0, 0)) (fun q => q = (1, 0)) w4 (w4.setCell ⟨fb, 2, none⟩ (.slice (some ⟨g4, 0, none⟩) L L)) := (Kp.refl _ _ _).setCell (fun _ => by simp) _
  refine ⟨c', hC, hK, vs, .slice (some ⟨g2, 0, none⟩) (f.chs.length + 1) cap2, .slice (some ⟨g4, 0, none⟩) L L, ?_, (hC _ hlt).trans HF, HS.kp hK nS0 hC, ⟨xs ++ [nv], ?_, ?_, ?_⟩, ?_⟩
  · have := heap_setCell ((HB4.block fb hlt3).trans HH3) 2 (.slice (some ⟨g4, 0, none⟩) L L)
    simpa using this
  · have h4 : w4.ownsRow 0 109 1 (.slice (some ⟨g2, 0, none⟩) (f.chs.length + 1) cap2) (f.chs.length + 1) (xs ++ [nv]) :=
      ownsRow_kp (c := fun _ => (0, 0)) (S := fun _ => False) (q := (0, 0)) HO3 (fun _ _ => rfl) (Kp.of_below HB4) (fun h => h)
    have := ownsRow_kp (q := (0, 0)) h4 (fun g hg => by cases hg; rw [if_neg hne2]) hset (by simp)
    simpa using this
  · intro i y z hy hz
    have hxl : xs.length = f.chs.length := by simpa using HO.1
    by_cases hi : i < f.chs.length
    · rw [List.getElem?_append_left (by omega)] at hy hz
      exact (HX i y z hy hz).kp hK nS0 hC
    · rw [List.getElem?_append_right (by omega)] at hy hz
      have hi0 : i - xs.length = 0 := by
        rcases Nat.eq_zero_or_pos (i - xs.length) with h | h
        · exact h
        · rw [List.getElem?_eq_none (by simp; omega)] at hy; cases hy
      have hi1 : i - f.chs.length = 0 := by omega
      rw [hi0] at hy; rw [hi1] at hz
      simp at hy hz
      subst hy hz
      exact hv.kp hK nS0 hC
  · intro g hg; cases hg; exact hc2
  · have h5 : (w4.setCell ⟨fb, 2, none⟩ (.slice (some ⟨g4, 0, none⟩) L L)).ownsRow w3.heap.size 5 1 (.slice (some ⟨g4, 0, none⟩) L L) L (dat.map bv) :=
      ownsRow_kp (q := (0, 0)) HO4 (fun g hg => by cases hg; rw [if_neg (by show ¬ g4 = fb; omega)]) hset (by simp)
    exact Sc.of_owns h5 (fun g hg => by cases hg; exact hc4)
theorem do_wr (k fb : Nat) (f : AFile) (i : Nat) (b : List UInt8) (v : Value) (w : World) (h : FileAt w c k fb f) (hv : ChV w c v (.wr i b)) (hok : (Chg.wr i b).ok) (hn : f.now.length ≤ maxFile) (hl : f.chs.length + 1 ≤ lim) :
    Calls Try.prog 78 #[ptr fb, v] w fun e w' => e = .returned (.tuple #[]) ∧ ∃ c', Cx w c c' ∧ Kp c (fun q => q = fcol k fb ∨ q = gcol k fb) w w' ∧ FileAt w' c' k fb ⟨f.safe, f.chs ++ [.wr i b], (Chg.wr i b).app f.now⟩ := by
  obtain ⟨vs, vc, vn, hh, hcf, hs, ⟨xs, hown, hxs, hgc⟩, hnow⟩ := h
  obtain ⟨vb, rfl, hvb⟩ := hv
  have cf0 := cell_of_heap hh 0
  have cf1 := cell_of_heap hh 1
  have cf2 := cell_of_heap hh 2
  have ff := unfrozen_of_heap hh
  have hlt := lt_of_heap hh
  obtain ⟨i0, hi, hz0, hz1, hz2⟩ := info_parts info_change
  have HO := Lib.hid hown; clear hown
  have HX := Lib.hid hxs; clear hxs
  have HG := Lib.hid hgc; clear hgc
  have HH := Lib.hid hh; clear hh
  have HF := Lib.hid hcf; clear hcf
  have HS := Lib.hid hs; clear hs
  have HN := Lib.hid hnow; clear hnow
  have HV := Lib.hid hvb; clear hvb
  have HK := Lib.hid hok; clear hok
  have HL := Lib.hid hl; clear hl
  have HNN := Lib.hid hn; clear hn
  have H6 := Lib.hid hi; clear hi
  have H7 := Lib.hid hz0; clear hz0
  have H8 := Lib.hid hz1; clear hz1
  have H9 := Lib.hid hz2; clear hz2
  unfold ptr
  go_enter Try.func78, Try.ntmps78
  go_wp2_with (at_builtin; refine wpList_append2 rfl _ _ _ rfl 109 i0 .nilIface 16 Try.underlying78 H6.out H7.out H8.out H9.out rfl vc f.chs.length xs rfl (owns_alloc HO.out _) ⟨w.heap.size, 0, none⟩ 1 1 [.iface 104 (.agg #[.int .i64 i, vb])] rfl rfl (one_new _ _ _) (by simp [Value.oneCell']) (lim_len' HL.out) (lim_by' HL.out (by decide)) ?_)
  intro v2 w2 hown2 hgrow2 hnew
  have hgrow2 : World.grownBy _ w2 vc.ownBlock := hgrow2
  have hnew : ∀ g, v2.ownBlock = some g → vc.ownBlock = some g ∨ _ ≤ g := hnew
  obtain ⟨g2, cap2, rfl⟩ := own_succ hown2
  have HW2 := Lib.hid hnew
  have HO2 := Lib.hid hown2
  have hh2 : w2.heap[fb]? = some (.cells #[vs, vc, vn] 80 (0, 0)) := (hgrow2.block fb (by simp; omega) (own_ne HF.out HG.out)).trans (heap_alloc_old _ HH.out)
  have HK2 : Hid (Kp c (fun q => q = fcol k fb ∨ q = gcol k fb) w w2) := ((Kp.refl c _ w).alloc _).grown hgrow2 (fun g hg _ => Or.inr (HG.out g hg))
  have cg1 := cell_of_heap hh2 1
  have fg := unfrozen_of_heap hh2
  have HH2 := Lib.hid hh2
  clear hown2 hh2 cf0 cf1 cf2 ff hgrow2 hnew
  go_wp2_with fail
  have hh3 := heap_setCell HH2.out 1 (.slice (some ⟨g2, 0, none⟩) (f.chs.length + 1) cap2)
  have HK3 := Lib.hid (HK2.out.setCell (p := ⟨fb, 1, none⟩) (fun _ => Or.inl HF.out) (.slice (some ⟨g2, 0, none⟩) (f.chs.length + 1) cap2))
  have HO3 : Hid ((w2.setCell ⟨fb, 1, none⟩ (.slice (some ⟨g2, 0, none⟩) (f.chs.length + 1) cap2)).ownsRow 0 109 1 (.slice (some ⟨g2, 0, none⟩) (f.chs.length + 1) cap2) (f.chs.length + 1) (xs ++ [.iface 104 (.agg #[.int .i64 i, vb])])) :=
    ownsRow_kp (c := fun b => if b = fb then (1, 0) else (0, 0)) (S := fun q => q = (1, 0)) (q := (0, 0)) HO2.out (fun g hg => by cases hg; rw [if_neg (own_ne2 hlt HF.out HG.out HW2.out)]) ((Kp.refl _ _ _).setCell (fun _ => by simp) _) (by simp)
  obtain ⟨w3, hw3⟩ : ∃ w3, w3 = w2.setCell ⟨fb, 1, none⟩ (.slice (some ⟨g2, 0, none⟩) (f.chs.length + 1) cap2) := ⟨_, rfl⟩
  rw [← hw3] at hh3 HK3 HO3 ⊢
  clear hw3 HH2 HK2 HO2 cg1 fg
  have cf0 := cell_of_heap hh3 0
  have cf1 := cell_of_heap hh3 1
  have cf2 := cell_of_heap hh3 2
  have ff := unfrozen_of_heap hh3
  have HH3 := Lib.hid hh3
  clear hh3
  have HV3 := Lib.hid (HV.out.kp HK3.out nS0 (Cx.refl _ _))
  have HN3 := Lib.hid (HN.out.kp HK3.out nS0 (Cx.refl _ _))
  clear hgrow2 hnew
  have hna := nilA_write
  have hme := meth_write
  have hlt3 : fb < w3.heap.size := lt_of_heap HH3.out
  go_region_with (first | (go_at_call 120; refine (write_apply i vb vn b f.now _ (HV3.out.drew) (HN3.out.drew) HNN.out HK.out).mono ?_; rintro e w4 ⟨g4, rfl, hown4, hb4⟩; have cg2 := (bcell hb4).1 fb 2 hlt3; have fg2 := (bcell hb4).2 fb 2 hlt3; have HO4 := Lib.hid hown4; have HB4 : Hid (Below w3.heap.size w3 w4) := ((Below.refl _ w3).drew).trans hb4; clear hown4 hb4))
  all_goals
    go_wp2
    go_end0
    exact ⟨rfl, do_end hlt HO.out HX.out HG.out HF.out HS.out HW2.out HH3.out HK3.out HO3.out ⟨_, rfl, HV.out⟩ HO4.out HB4.out⟩
theorem do_cut (k fb : Nat) (f : AFile) (i : Nat) (v : Value) (w : World) (h : FileAt w c k fb f) (hv : ChV w c v (.cut i)) (hok : (Chg.cut i).ok) (hn : f.now.length ≤ maxFile) (hl : f.chs.length + 1 ≤ lim) :
    Calls Try.prog 78 #[ptr fb, v] w fun e w' => e = .returned (.tuple #[]) ∧ ∃ c', Cx w c c' ∧ Kp c (fun q => q = fcol k fb ∨ q = gcol k fb) w w' ∧ FileAt w' c' k fb ⟨f.safe, f.chs ++ [.cut i], (Chg.cut i).app f.now⟩ := by
  obtain ⟨vs, vc, vn, hh, hcf, hs, ⟨xs, hown, hxs, hgc⟩, hnow⟩ := h
  have hv : v = _ := hv
  subst hv
  have cf0 := cell_of_heap hh 0
  have cf1 := cell_of_heap hh 1
  have cf2 := cell_of_heap hh 2
  have ff := unfrozen_of_heap hh
  have hlt := lt_of_heap hh
  obtain ⟨i0, hi, hz0, hz1, hz2⟩ := info_parts info_change
  have HO := Lib.hid hown; clear hown
  have HX := Lib.hid hxs; clear hxs
  have HG := Lib.hid hgc; clear hgc
  have HH := Lib.hid hh; clear hh
  have HF := Lib.hid hcf; clear hcf
  have HS := Lib.hid hs; clear hs
  have HN := Lib.hid hnow; clear hnow
  have HK := Lib.hid hok; clear hok
  have HL := Lib.hid hl; clear hl
  have HNN := Lib.hid hn; clear hn
  have H6 := Lib.hid hi; clear hi
  have H7 := Lib.hid hz0; clear hz0
  have H8 := Lib.hid hz1; clear hz1
  have H9 := Lib.hid hz2; clear hz2
  unfold ptr
  go_enter Try.func78, Try.ntmps78
  go_wp2_with (at_builtin; refine wpList_append2 rfl _ _ _ rfl 109 i0 .nilIface 16 Try.underlying78 H6.out H7.out H8.out H9.out rfl vc f.chs.length xs rfl (owns_alloc HO.out _) ⟨w.heap.size, 0, none⟩ 1 1 [.iface 107 (.agg #[.int .i64 i])] rfl rfl (one_new _ _ _) (by simp [Value.oneCell']) (lim_len' HL.out) (lim_by' HL.out (by decide)) ?_)
  intro v2 w2 hown2 hgrow2 hnew
  have hgrow2 : World.grownBy _ w2 vc.ownBlock := hgrow2
  have hnew : ∀ g, v2.ownBlock = some g → vc.ownBlock = some g ∨ _ ≤ g := hnew
  obtain ⟨g2, cap2, rfl⟩ := own_succ hown2
  have HW2 := Lib.hid hnew
  have HO2 := Lib.hid hown2
  have hh2 : w2.heap[fb]? = some (.cells #[vs, vc, vn] 80 (0, 0)) := (hgrow2.block fb (by simp; omega) (own_ne HF.out HG.out)).trans (heap_alloc_old _ HH.out)
  have HK2 : Hid (Kp c (fun q => q = fcol k fb ∨ q = gcol k fb) w w2) := ((Kp.refl c _ w).alloc _).grown hgrow2 (fun g hg _ => Or.inr (HG.out g hg))
  have cg1 := cell_of_heap hh2 1
  have fg := unfrozen_of_heap hh2
  have HH2 := Lib.hid hh2
  clear hown2 hh2 cf0 cf1 cf2 ff hgrow2 hnew
  go_wp2_with fail
  have hh3 := heap_setCell HH2.out 1 (.slice (some ⟨g2, 0, none⟩) (f.chs.length + 1) cap2)
  have HK3 := Lib.hid (HK2.out.setCell (p := ⟨fb, 1, none⟩) (fun _ => Or.inl HF.out) (.slice (some ⟨g2, 0, none⟩) (f.chs.length + 1) cap2))
  have HO3 : Hid ((w2.setCell ⟨fb, 1, none⟩ (.slice (some ⟨g2, 0, none⟩) (f.chs.length + 1) cap2)).ownsRow 0 109 1 (.slice (some ⟨g2, 0, none⟩) (f.chs.length + 1) cap2) (f.chs.length + 1) (xs ++ [.iface 107 (.agg #[.int .i64 i])])) :=
    ownsRow_kp (c := fun b => if b = fb then (1, 0) else (0, 0)) (S := fun q => q = (1, 0)) (q := (0, 0)) HO2.out (fun g hg => by cases hg; rw [if_neg (own_ne2 hlt HF.out HG.out HW2.out)]) ((Kp.refl _ _ _).setCell (fun _ => by simp) _) (by simp)
  obtain ⟨w3, hw3⟩ : ∃ w3, w3 = w2.setCell ⟨fb, 1, none⟩ (.slice (some ⟨g2, 0, none⟩) (f.chs.length + 1) cap2) := ⟨_, rfl⟩
  rw [← hw3] at hh3 HK3 HO3 ⊢
  clear hw3 HH2 HK2 HO2 cg1 fg
  have cf0 := cell_of_heap hh3 0
  have cf1 := cell_of_heap hh3 1
  have cf2 := cell_of_heap hh3 2
  have ff := unfrozen_of_heap hh3
  have HH3 := Lib.hid hh3
  clear hh3
  have HN3 := Lib.hid (HN.out.kp HK3.out nS0 (Cx.refl _ _))
  clear hgrow2 hnew
  have hna := nilA_cut
  have hme := meth_cut
  have hlt3 : fb < w3.heap.size := lt_of_heap HH3.out
  go_region_with (first | (go_at_call 123; refine (cut_apply i vn f.now _ (HN3.out.drew) HK.out).mono ?_; rintro e w4 ⟨g4, rfl, hown4, hb4⟩; have cg2 := (bcell hb4).1 fb 2 hlt3; have fg2 := (bcell hb4).2 fb 2 hlt3; have HO4 := Lib.hid hown4; have HB4 : Hid (Below w3.heap.size w3 w4) := ((Below.refl _ w3).drew).trans hb4; clear hown4 hb4))
  all_goals
    go_wp2
    go_end0
    exact ⟨rfl, do_end hlt HO.out HX.out HG.out HF.out HS.out HW2.out HH3.out HK3.out HO3.out rfl HO4.out HB4.out⟩
/-- file.do, whatever the change. -/
theorem do_any (k fb : Nat) (f : AFile) (x : Chg) (v : Value) (w : World) (h : FileAt w c k fb f) (hv : ChV w c v x) (hok : x.ok) (hn : f.now.length ≤ maxFile) (hl : f.chs.length + 1 ≤ lim) :
    Calls Try.prog 78 #[ptr fb, v] w fun e w' => e = .returned (.tuple #[]) ∧ ∃ c', Cx w c c' ∧ Kp c (fun q => q = fcol k fb ∨ q = gcol k fb) w w' ∧ FileAt w' c' k fb ⟨f.safe, f.chs ++ [x], x.app f.now⟩ := by
  cases x with
  | wr i b => exact do_wr k fb f i b v w h hv hok hn hl
  | cut i => exact do_cut k fb f i v w h hv hok hn hl
end Go.Proofs.Ytepphepcaphlkaa
