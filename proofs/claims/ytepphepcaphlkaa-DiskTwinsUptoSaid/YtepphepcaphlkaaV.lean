import Derived.Test.YtepphepcaphlkaaU
import Derived.Test.YtepphepcaphlkaaI
namespace Go.Proofs.Ytepphepcaphlkaa
open Go Go.RowKit Go.MapKept Go.Maps
open Dk
variable {c c' : Col} {w w' : World}
theorem Sc.recol {q q' : Nat × Nat} {v : Value} {xs : List Value} (h : Sc w c q v xs) (hc : ∀ b, b < w.heap.size → c b = q → c' b = q') : Sc w c' q' v xs := by
  obtain ⟨a, cap, h1, h2, h3, h4, h5⟩ := h
  refine ⟨a, cap, h1, h2, h3, h4, fun ad had => ⟨(h5 ad had).1, fun j u hj => ?_⟩⟩
  obtain ⟨e1, e2⟩ := (h5 ad had).2 j u hj
  exact ⟨hc _ (by have := World.block_lt_of_cell? _ _ e2; exact this) e1, e2⟩
theorem own_base {base e size n : Nat} {v : Value} {xs : List Value} (h : w.ownsRow base e size v n xs) (g : Nat) (hg : v.ownBlock = some g) : base ≤ g := by
  rcases h.2 with ⟨rfl, _⟩ | ⟨g', _, _, rfl, hh, _⟩
  · cases hg
  · cases hg; exact hh
theorem owns_below {base e size n : Nat} {v : Value} {xs : List Value} (h : w.ownsRow base e size v n xs) (hb : Below w.heap.size w w') : w'.ownsRow base e size v n xs :=
  ownsRow_kp (c := fun _ => (0, 0)) (S := fun _ => False) (q := (0, 0)) h (fun _ _ => rfl) (Kp.of_below hb) (fun h => h)
theorem info_parts3 : ∃ i, Try.prog.info? 37 = some i ∧ i.zero = some (.agg #[.string ⟨#[]⟩, .slice none 0 0]) ∧ i.size = 2 ∧ i.bytes = 40 := by
  have h := info_afile
  cases hi : Try.prog.info? 37 with
  | none => rw [hi] at h; cases h
  | some i =>
    rw [hi] at h
    simp only [Option.map_some, Option.some.injEq, Prod.mk.injEq] at h
    exact ⟨i, rfl, h.1, h.2.1, h.2.2⟩
theorem two_new (w : World) (u v : Value) (e : TypeId) : ∀ (j : Nat) x, [u, v][j]? = some x → (w.alloc (.cells #[u, v] e)).cell? ((⟨w.heap.size, 0, none⟩ : Addr).add j) = some x := by
  intro j x hj
  match j, hj with
  | 0, hj => simp at hj; subst hj; rw [add_eq rfl]; simp
  | 1, hj => simp at hj; subst hj; rw [add_eq rfl]; simp
structure TInv (w2 : World) (c2 : Col) (kk : Nat) (fs : List (Nm × List UInt8)) (j : Nat) (vo : Value) (wr : World) : Prop where
  ex : ∃ (c' : Col) (xs : List Value), Cx w2 c2 c' ∧ wr.ownsRow 0 37 2 vo j xs ∧ (∀ g, vo.ownBlock = some g → c' g = (kk, 0)) ∧
    ∀ (i : Nat) x, (fs.take j)[i]? = some x → ∃ vd, xs[2 * i]? = some (str x.1) ∧ xs[2 * i + 1]? = some vd ∧ Sc wr c' (0, 0) vd (x.2.map bv)
  kp : ∀ S, Kp c2 S w2 wr
theorem told_step {w2 wr w4 w5 w6 : World} {c2 : Col} {kk : Nat} {fs : List (Nm × List UInt8)} {j : Nat} {vo v6 vd : Value} {nm : Nm} {b : List UInt8} {g4 : Nat} {xs : List Value} {c' : Col}
    (hkk0 : kk ≠ 0) (hkf : ∀ b, b < w2.heap.size → (c2 b).1 ≠ kk) (hkp : ∀ S, Kp c2 S w2 wr)
    (hc : Cx w2 c2 c') (hcol : ∀ g, vo.ownBlock = some g → c' g = (kk, 0)) (hown0 : wr.ownsRow 0 37 2 vo j xs)
    (hdat : ∀ (i : Nat) x, (fs.take j)[i]? = some x → ∃ vd, xs[2 * i]? = some (str x.1) ∧ xs[2 * i + 1]? = some vd ∧ Sc wr c' (0, 0) vd (x.2.map bv))
    (hx : fs[j]? = some (nm, b)) (h4 : Below wr.heap.size wr w4) (hvd : w4.ownsRow wr.heap.size 5 1 vd g4 (b.map bv)) (h5 : Below w4.heap.size w4 w5)
    (h6 : w6.ownsRow 0 37 2 v6 (j + 1) (xs ++ [str nm, vd])) (hg6 : w5.grownBy w6 vo.ownBlock) (hb6 : ∀ g, v6.ownBlock = some g → vo.ownBlock = some g ∨ w5.heap.size ≤ g) :
    TInv w2 c2 kk fs (j + 1) v6 w6 := by
  have hs2 := (hkp S2F).size
  have hs4 := h4.size
  have hs5 := h5.size
  have hs6 := hg6.size
  have hvo : ∀ g, vo.ownBlock = some g → g < wr.heap.size ∧ ¬ g < w2.heap.size := fun g hg => by
    have h1 := ownBlock_lt hown0 g hg
    refine ⟨h1, fun hlt => ?_⟩
    have := hcol g hg
    rw [hc g hlt] at this
    exact hkf g hlt (by rw [this])
  have hxl : xs.length = 2 * j := by have := hown0.1; omega
  have hjl : j < fs.length := (List.getElem?_eq_some_iff.1 hx).1
  let c6 : Col := fun g => if g < wr.heap.size then c' g else if g < w5.heap.size then (0, 0) else (kk, 0)
  have hc6 : Cx wr c' c6 := fun g hg => if_pos hg
  have hk : Kp c6 (fun q => q = (kk, 0)) wr w6 := by
    refine (((Kp.refl _ _ wr).below h4 (Nat.le_refl _)).below h5 hs4).grown hg6 (fun g hg hlt => ?_)
    exact (hc6 g hlt).trans (hcol g hg)
  have n0 : ¬ ((0, 0) : Nat × Nat) = (kk, 0) := fun e => hkk0 (by injection e with e1 _; exact e1.symm)
  refine ⟨⟨c6, xs ++ [str nm, vd], hc.trans hc6 hs2, h6, fun g hg => ?_, fun i x hi => ?_⟩, fun S => ?_⟩
  · rcases hb6 g hg with h | h
    · exact (hc6 g (hvo g h).1).trans (hcol g h)
    · show (if g < wr.heap.size then c' g else if g < w5.heap.size then (0, 0) else (kk, 0)) = _
      rw [if_neg (by omega), if_neg (by omega)]
  · rw [List.take_add_one, hx] at hi
    by_cases hij : i < j
    · rw [List.getElem?_append_left (by simp; omega)] at hi
      obtain ⟨vd', e1, e2, e3⟩ := hdat i x hi
      refine ⟨vd', by rw [List.getElem?_append_left (by omega)]; exact e1, by rw [List.getElem?_append_left (by omega)]; exact e2, ?_⟩
      exact (e3.recol (c' := c6) (q' := (0, 0)) (fun g hg e => (hc6 g hg).trans e)).kp hk n0 (Cx.refl _ _)
    · have : i = j := by
        have := (List.getElem?_eq_some_iff.1 hi).1
        simp at this; omega
      subst this
      rw [List.getElem?_append_right (by simp; omega)] at hi
      have e0 : i - (fs.take i).length = 0 := by simp; omega
      rw [e0] at hi
      simp at hi; subst hi
      refine ⟨vd, by rw [List.getElem?_append_right (by omega), hxl]; simp, by rw [List.getElem?_append_right (by omega), hxl]; simp, ?_⟩
      have h1 : Sc w4 c6 (0, 0) vd (b.map bv) := Sc.of_owns hvd (fun g hg => by
        have h2 := ownBlock_lt hvd g hg
        have h3 : wr.heap.size ≤ g := by
          rcases hvd.2 with ⟨rfl, _⟩ | ⟨g', _, _, rfl, h, _⟩
          · cases hg
          · cases hg; exact h
        show (if g < wr.heap.size then c' g else if g < w5.heap.size then (0, 0) else (kk, 0)) = _
        rw [if_neg (by omega), if_pos (by omega)])
      exact h1.kp (((Kp.refl c6 (fun q => q = (kk, 0)) w4).below h5 (Nat.le_refl _)).grown hg6 (fun g hg hlt => (hc6 g (hvo g hg).1).trans (hcol g hg))) n0 (Cx.refl _ _)
  · refine (((hkp S).below h4 hs2).below h5 (by omega)).grown hg6 (fun g hg hlt => absurd hlt (hvo g hg).2)
theorem told_end {w2 wr : World} {c2 : Col} {kk : Nat} {fs : List (Nm × List UInt8)} {vo : Value} {n : Nat} (hn : fs.length = n) (I : TInv w2 c2 kk fs n vo wr) (hkf : ∀ b, b < w2.heap.size → (c2 b).1 ≠ kk) :
    ∃ c', Cx w2 c2 c' ∧ FilesAt wr c' vo fs := by
  subst hn
  obtain ⟨c', xs, hc, hown, hcol, hdat⟩ := I.ex
  refine ⟨fun g => if g < w2.heap.size then c2 g else (0, 0), fun g hg => if_pos hg, xs, hown, fun g hg => ?_, fun i x hi => ?_⟩
  · have : ¬ g < w2.heap.size := fun hlt => by
      have := hcol g hg
      rw [hc g hlt] at this
      exact hkf g hlt (by rw [this])
    exact if_neg this
  · obtain ⟨vd, e1, e2, e3⟩ := hdat i x (by rw [List.take_of_length_le (Nat.le_refl _)]; exact hi)
    refine ⟨vd, e1, e2, e3.recol (fun g hg e => ?_)⟩
    show (if g < w2.heap.size then c2 g else (0, 0)) = _
    split
    · rename_i h; rw [← hc g h]; exact e
    · rfl
set_option maxHeartbeats 8000000 in
theorem told_Files (k d : Nat) (m : ADisk) (w : World) (vk vf vu : Value) (mb : Nat) (es : Array MapEntry) (ck : Nat) (fb : Nm → Nat) (D : DiskAt' w c k d m vk vf vu mb es ck fb) (fs : List (Nm × List UInt8)) (hfs : fs = m.files.map fun x => (x.1, x.2.now)) :
    Calls Try.prog 38 #[ptr d, .func (.func 39) #[] #[]] w fun e w' => ∃ v c', e = .returned v ∧ Cx w c c' ∧ (∀ S, Kp c S w w') ∧ FilesAt w' c' v fs := by
  have HD := Lib.hid D
  have HFS := Lib.hid hfs; clear hfs
  obtain ⟨i0, hi, hz0, hz1, hz2⟩ := info_parts3
  have H6 := Lib.hid hi; clear hi
  have H7 := Lib.hid hz0; clear hz0
  have H8 := Lib.hid hz1; clear hz1
  have H9 := Lib.hid hz2; clear hz2
  clear D
  unfold ptr
  go_enter Try.func38, Try.ntmps38
  go_wp2_with (go_at_call 58; refine (names_c k d m vk vf vu mb es ck fb _ HD.out).mono ?_; rintro e w2 ⟨v, rfl, hrow, hb⟩; obtain ⟨av, capv, rfl, -⟩ := Sc.of_owns (c := fun _ => (0, 0)) (q := (0, 0)) hrow (fun _ _ => rfl); have HR := Lib.hid hrow; have HB := Lib.hid hb; clear hrow hb)
  have K2 : ∀ S, Kp c S w w2 := fun S => (Kp.refl c S w).below HB.out (by simp)
  obtain ⟨kk, hkk0, hkk, hkf⟩ := fresh_col c w.heap.size k
  obtain ⟨c2, hc2⟩ : ∃ c2 : Col, c2 = fun b => if b < w.heap.size then c b else (0, 0) := ⟨_, rfl⟩
  have HCx : Hid (Cx w c c2) := by intro b hb; rw [hc2]; exact if_pos hb
  have hkf2 : ∀ b, b < w2.heap.size → (c2 b).1 ≠ kk := fun b hb => by
    rw [hc2]; dsimp only
    split
    · rename_i h; exact hkf b h
    · exact fun e => hkk0 e.symm
  have D2 := HD.out.kp (K2 (fun _ => False)) (fun _ h => h.elim) HCx.out
  have HN : Hid (Sc w2 c2 (0, 0) (.slice av (m.files.map fun x => str x.1).length capv) (m.files.map fun x => str x.1)) := by
    have := HR.out
    have e : (m.files.map (·.1)).map str = m.files.map fun x => str x.1 := by rw [List.map_map]; rfl
    rw [e] at this
    refine Sc.of_owns this (fun g hg => ?_)
    have hle := own_base this g hg
    rw [hc2]
    exact if_neg (Nat.not_lt.2 hle)
  clear HR HB hc2
  have HKK0 := Lib.hid hkk0; clear hkk0
  have HKF := Lib.hid hkf2; clear hkf2 hkf hkk
  have HW := Lib.hid K2; clear K2
  have HD2 := Lib.hid D2; clear D2
  go_loopw [5, 11] (fun vo s wr => ∃ (j : Nat) (ao : Option Addr) (capo : Nat), j ≤ m.files.length ∧ s = .int .i64 j ∧ vo = .slice ao j capo ∧ TInv w2 c2 kk fs j vo wr) (fun _ s _ => m.files.length - (intOf s).toNat)
  case atStart =>
    exact ⟨0, none, 0, Nat.zero_le _, rfl, rfl, ⟨c2, [], Cx.refl _ _, World.ownsRow_nil _ _ _ _, (fun g hg => by cases hg), (fun i x hi => by simp at hi)⟩, fun S => Kp.refl _ _ _⟩
  case round =>
    obtain ⟨j, ao, capo, hj, rfl, rfl, I⟩ := hrel
    have HI := Lib.hid I; clear I
    by_cases hlt : j < m.files.length
    · have hmany : (m.files.length : Int) ≤ 4096 := by have := HD.out.ok.many; omega
      obtain ⟨nm, f, hx⟩ : ∃ nm f, m.files[j]? = some (nm, f) := ⟨m.files[j].1, m.files[j].2, List.getElem?_eq_getElem hlt⟩
      have hget : get m.files nm = some f := get_of_mem HD.out.ok.rising (x := (nm, f)) (List.mem_of_getElem? hx)
      have hnl : nm.length ≤ maxLen := by
        have h1 := HD.out.ok.names _ (List.mem_of_getElem? hx)
        have h1 : nm.length ≤ 32 := h1
        unfold maxLen; omega
      obtain ⟨nb, no, rfl, hnc⟩ : ∃ nb no, av = some ⟨nb, no, none⟩ ∧ wr.cell? ⟨nb, no + j, none⟩ = some (str nm) := by
        obtain ⟨a', cap', e, hle, _, h0, h1⟩ := HN.out
        injection e with e1 e2 e3
        have hj' : (m.files.map fun x => str x.1)[j]? = some (str nm) := by rw [List.getElem?_map, hx]; rfl
        cases a' with
        | none =>
          have := h0 rfl
          rw [List.length_map] at hle
          omega
        | some ad =>
          obtain ⟨h2, h3⟩ := h1 ad rfl
          obtain ⟨b, o, s⟩ := ad
          cases h2
          obtain ⟨h4, h5⟩ := h3 j _ hj'
          exact ⟨b, o, e1, (HI.out.kp S2F).cell h5 (fun h => h)⟩
      have h8 := (HI.out.kp S2F).cell HD2.out.c8 (fun h => h)
      have D3 := HD2.out.kp (HI.out.kp S2F) (fun _ h => h.elim) (Cx.refl _ _)
      have hlook : (Instr.lookup 63 (.map (some mb)) (str nm) false).run Try.prog wr = .ok (.pointer (some ⟨fb nm, 0, none⟩)) wr := look_hit D3.map HD.out.ok.rising hnl hget
      obtain ⟨vs, vc, vn, hh, hcf, hs, hchs, hnow⟩ := D3.map.files _ (get_mem hget)
      have hfok := HD.out.ok.files _ (List.mem_of_getElem? hx)
      have hfok : f.ok m.ops.toNat := hfok
      have hdc : wr.cell? ⟨fb nm, 2, none⟩ = some vn := cell_of_heap hh 2
      have hdl : f.now.length ≤ lim := by have := hfok.now; unfold maxFile at this; unfold lim; omega
      have hfx : fs[j]? = some (nm, f.now) := by rw [HFS.out, List.getElem?_map, hx]; rfl
      have HDA := Lib.hid hnow; clear hs hnow
      have HDL := Lib.hid hdl; clear hdl
      have HX := Lib.hid hfx; clear hfx hx hfok
      clear hfok
      have HDC := Lib.hid hdc; clear hdc
      have HDS : Hid (vn.oneCell' = true) := by obtain ⟨_, _, e, _⟩ := HDA.out; rw [e]; rfl
      clear hh hcf hchs D3 hget
      obtain ⟨c3, xs, hcx, hown, hcol, hdat⟩ := HI.out.ex
      have HCX := Lib.hid hcx; clear hcx
      have HOW := Lib.hid hown; clear hown
      have HCO := Lib.hid hcol; clear hcol
      have HDT := Lib.hid hdat; clear hdat
      unfold str at hnc hlook
      have k5 : j + 1 ≤ maxLen ∧ (j + 1) * 40 ≤ 140737488355328 := by unfold maxLen; omega
      have K5 := Lib.hid k5; clear k5
      go_wp2_with (first
        | (go_at_call 39; refine (files1_c wr (fb nm) vn HDC.out HDS.out).mono ?_; rintro e w' ⟨rfl, rfl⟩)
        | (go_at_call 44; refine (cloneB _ _ HDA.out (one_bv _) (by rw [List.length_map]; exact HDL.out)).mono ?_; rintro e w4 ⟨vd, rfl, hown4, hb4⟩; (obtain ⟨ad, capd, rfl, -⟩ := Sc.of_owns (c := fun _ => (0, 0)) (q := (0, 0)) hown4 (fun _ _ => rfl)); rw [List.length_map] at hown4 ⊢; have HO4 := Lib.hid hown4; have HB4 := Lib.hid hb4; clear hown4 hb4)
        | (at_builtin; refine wpList_append3 rfl _ _ _ rfl 37 i0 (.agg #[.string ⟨#[]⟩, .slice none 0 0]) 2 40 Try.underlying34 H6.out H7.out H8.out H9.out rfl (by decide) _ j xs rfl (owns_alloc (owns_below HOW.out HB4.out) _) ⟨_, 0, none⟩ 1 1 [str nm, .slice ad _ capd] rfl rfl (two_new _ _ _ _) (by simp [Value.oneCell', str]) K5.out.1 K5.out.2 ?_))
      intro v6 w6 hown6 hg6 hb6
      have hg6 : World.grownBy _ w6 (Value.slice ao j capo).ownBlock := hg6
      have hb6 : ∀ g, v6.ownBlock = some g → (Value.slice ao j capo).ownBlock = some g ∨ _ ≤ g := hb6
      obtain ⟨g6, cap6, rfl⟩ := own_succ hown6
      have HB6 := Lib.hid hb6; clear hb6
      have HG6 := Lib.hid hg6; clear hg6
      have HO6 := Lib.hid hown6; clear hown6
      go_wp2
      go_roundw
      case rel =>
        refine ⟨j + 1, some ⟨g6, 0, none⟩, cap6, by omega, by go_num, rfl, ?_⟩
        exact told_step HKK0.out HKF.out HI.out.kp HCX.out HCO.out HOW.out HDT.out HX.out HB4.out HO4.out ((Below.refl _ w4).alloc (Nat.le_refl _) _) HO6.out HG6.out (fun g hg => (HB6.out g hg).imp id (fun h => by simpa using h))
      case measure => simp [intOf]; omega
    · obtain rfl : j = m.files.length := by omega
      have hfl : fs.length = m.files.length := by rw [HFS.out, List.length_map]
      go_wp2
      go_ret
      have I := HI.out
      obtain ⟨c3, hc3, hF⟩ := told_end hfl I HKF.out
      exact ⟨.slice ao m.files.length capo, c3, rfl, HCx.out.trans hc3 (HW.out S2F).size, fun S => (HW.out S).trans (I.kp S) HCx.out, hF⟩
set_option maxHeartbeats 8000000 in
theorem told_Safe (k d : Nat) (m : ADisk) (w : World) (vk vf vu : Value) (mb : Nat) (es : Array MapEntry) (ck : Nat) (fb : Nm → Nat) (D : DiskAt' w c k d m vk vf vu mb es ck fb) (fs : List (Nm × List UInt8)) (hfs : fs = m.files.map fun x => (x.1, x.2.safe)) :
    Calls Try.prog 38 #[ptr d, .func (.func 40) #[] #[]] w fun e w' => ∃ v c', e = .returned v ∧ Cx w c c' ∧ (∀ S, Kp c S w w') ∧ FilesAt w' c' v fs := by
  have HD := Lib.hid D
  have HFS := Lib.hid hfs; clear hfs
  obtain ⟨i0, hi, hz0, hz1, hz2⟩ := info_parts3
  have H6 := Lib.hid hi; clear hi
  have H7 := Lib.hid hz0; clear hz0
  have H8 := Lib.hid hz1; clear hz1
  have H9 := Lib.hid hz2; clear hz2
  clear D
  unfold ptr
  go_enter Try.func38, Try.ntmps38
  go_wp2_with (go_at_call 58; refine (names_c k d m vk vf vu mb es ck fb _ HD.out).mono ?_; rintro e w2 ⟨v, rfl, hrow, hb⟩; obtain ⟨av, capv, rfl, -⟩ := Sc.of_owns (c := fun _ => (0, 0)) (q := (0, 0)) hrow (fun _ _ => rfl); have HR := Lib.hid hrow; have HB := Lib.hid hb; clear hrow hb)
  have K2 : ∀ S, Kp c S w w2 := fun S => (Kp.refl c S w).below HB.out (by simp)
  obtain ⟨kk, hkk0, hkk, hkf⟩ := fresh_col c w.heap.size k
  obtain ⟨c2, hc2⟩ : ∃ c2 : Col, c2 = fun b => if b < w.heap.size then c b else (0, 0) := ⟨_, rfl⟩
  have HCx : Hid (Cx w c c2) := by intro b hb; rw [hc2]; exact if_pos hb
  have hkf2 : ∀ b, b < w2.heap.size → (c2 b).1 ≠ kk := fun b hb => by
    rw [hc2]; dsimp only
    split
    · rename_i h; exact hkf b h
    · exact fun e => hkk0 e.symm
  have D2 := HD.out.kp (K2 (fun _ => False)) (fun _ h => h.elim) HCx.out
  have HN : Hid (Sc w2 c2 (0, 0) (.slice av (m.files.map fun x => str x.1).length capv) (m.files.map fun x => str x.1)) := by
    have := HR.out
    have e : (m.files.map (·.1)).map str = m.files.map fun x => str x.1 := by rw [List.map_map]; rfl
    rw [e] at this
    refine Sc.of_owns this (fun g hg => ?_)
    have hle := own_base this g hg
    rw [hc2]
    exact if_neg (Nat.not_lt.2 hle)
  clear HR HB hc2
  have HKK0 := Lib.hid hkk0; clear hkk0
  have HKF := Lib.hid hkf2; clear hkf2 hkf hkk
  have HW := Lib.hid K2; clear K2
  have HD2 := Lib.hid D2; clear D2
  go_loopw [5, 11] (fun vo s wr => ∃ (j : Nat) (ao : Option Addr) (capo : Nat), j ≤ m.files.length ∧ s = .int .i64 j ∧ vo = .slice ao j capo ∧ TInv w2 c2 kk fs j vo wr) (fun _ s _ => m.files.length - (intOf s).toNat)
  case atStart =>
    exact ⟨0, none, 0, Nat.zero_le _, rfl, rfl, ⟨c2, [], Cx.refl _ _, World.ownsRow_nil _ _ _ _, (fun g hg => by cases hg), (fun i x hi => by simp at hi)⟩, fun S => Kp.refl _ _ _⟩
  case round =>
    obtain ⟨j, ao, capo, hj, rfl, rfl, I⟩ := hrel
    have HI := Lib.hid I; clear I
    by_cases hlt : j < m.files.length
    · have hmany : (m.files.length : Int) ≤ 4096 := by have := HD.out.ok.many; omega
      obtain ⟨nm, f, hx⟩ : ∃ nm f, m.files[j]? = some (nm, f) := ⟨m.files[j].1, m.files[j].2, List.getElem?_eq_getElem hlt⟩
      have hget : get m.files nm = some f := get_of_mem HD.out.ok.rising (x := (nm, f)) (List.mem_of_getElem? hx)
      have hnl : nm.length ≤ maxLen := by
        have h1 := HD.out.ok.names _ (List.mem_of_getElem? hx)
        have h1 : nm.length ≤ 32 := h1
        unfold maxLen; omega
      obtain ⟨nb, no, rfl, hnc⟩ : ∃ nb no, av = some ⟨nb, no, none⟩ ∧ wr.cell? ⟨nb, no + j, none⟩ = some (str nm) := by
        obtain ⟨a', cap', e, hle, _, h0, h1⟩ := HN.out
        injection e with e1 e2 e3
        have hj' : (m.files.map fun x => str x.1)[j]? = some (str nm) := by rw [List.getElem?_map, hx]; rfl
        cases a' with
        | none =>
          have := h0 rfl
          rw [List.length_map] at hle
          omega
        | some ad =>
          obtain ⟨h2, h3⟩ := h1 ad rfl
          obtain ⟨b, o, s⟩ := ad
          cases h2
          obtain ⟨h4, h5⟩ := h3 j _ hj'
          exact ⟨b, o, e1, (HI.out.kp S2F).cell h5 (fun h => h)⟩
      have h8 := (HI.out.kp S2F).cell HD2.out.c8 (fun h => h)
      have D3 := HD2.out.kp (HI.out.kp S2F) (fun _ h => h.elim) (Cx.refl _ _)
      have hlook : (Instr.lookup 63 (.map (some mb)) (str nm) false).run Try.prog wr = .ok (.pointer (some ⟨fb nm, 0, none⟩)) wr := look_hit D3.map HD.out.ok.rising hnl hget
      obtain ⟨vs, vc, vn, hh, hcf, hs, hchs, hnow⟩ := D3.map.files _ (get_mem hget)
      have hfok := HD.out.ok.files _ (List.mem_of_getElem? hx)
      have hfok : f.ok m.ops.toNat := hfok
      have hdc : wr.cell? ⟨fb nm, 0, none⟩ = some vs := cell_of_heap hh 0
      have hdl : f.safe.length ≤ lim := by have := hfok.safe; unfold maxFile at this; unfold lim; omega
      have hfx : fs[j]? = some (nm, f.safe) := by rw [HFS.out, List.getElem?_map, hx]; rfl
      have HDA := Lib.hid hs; clear hs hnow
      have HDL := Lib.hid hdl; clear hdl
      have HX := Lib.hid hfx; clear hfx hx hfok
      clear hfok
      have HDC := Lib.hid hdc; clear hdc
      have HDS : Hid (vs.oneCell' = true) := by obtain ⟨_, _, e, _⟩ := HDA.out; rw [e]; rfl
      clear hh hcf hchs D3 hget
      obtain ⟨c3, xs, hcx, hown, hcol, hdat⟩ := HI.out.ex
      have HCX := Lib.hid hcx; clear hcx
      have HOW := Lib.hid hown; clear hown
      have HCO := Lib.hid hcol; clear hcol
      have HDT := Lib.hid hdat; clear hdat
      unfold str at hnc hlook
      have k5 : j + 1 ≤ maxLen ∧ (j + 1) * 40 ≤ 140737488355328 := by unfold maxLen; omega
      have K5 := Lib.hid k5; clear k5
      go_wp2_with (first
        | (go_at_call 40; refine (safe1_c wr (fb nm) vs HDC.out HDS.out).mono ?_; rintro e w' ⟨rfl, rfl⟩)
        | (go_at_call 44; refine (cloneB _ _ HDA.out (one_bv _) (by rw [List.length_map]; exact HDL.out)).mono ?_; rintro e w4 ⟨vd, rfl, hown4, hb4⟩; (obtain ⟨ad, capd, rfl, -⟩ := Sc.of_owns (c := fun _ => (0, 0)) (q := (0, 0)) hown4 (fun _ _ => rfl)); rw [List.length_map] at hown4 ⊢; have HO4 := Lib.hid hown4; have HB4 := Lib.hid hb4; clear hown4 hb4)
        | (at_builtin; refine wpList_append3 rfl _ _ _ rfl 37 i0 (.agg #[.string ⟨#[]⟩, .slice none 0 0]) 2 40 Try.underlying34 H6.out H7.out H8.out H9.out rfl (by decide) _ j xs rfl (owns_alloc (owns_below HOW.out HB4.out) _) ⟨_, 0, none⟩ 1 1 [str nm, .slice ad _ capd] rfl rfl (two_new _ _ _ _) (by simp [Value.oneCell', str]) K5.out.1 K5.out.2 ?_))
      intro v6 w6 hown6 hg6 hb6
      have hg6 : World.grownBy _ w6 (Value.slice ao j capo).ownBlock := hg6
      have hb6 : ∀ g, v6.ownBlock = some g → (Value.slice ao j capo).ownBlock = some g ∨ _ ≤ g := hb6
      obtain ⟨g6, cap6, rfl⟩ := own_succ hown6
      have HB6 := Lib.hid hb6; clear hb6
      have HG6 := Lib.hid hg6; clear hg6
      have HO6 := Lib.hid hown6; clear hown6
      go_wp2
      go_roundw
      case rel =>
        refine ⟨j + 1, some ⟨g6, 0, none⟩, cap6, by omega, by go_num, rfl, ?_⟩
        exact told_step HKK0.out HKF.out HI.out.kp HCX.out HCO.out HOW.out HDT.out HX.out HB4.out HO4.out ((Below.refl _ w4).alloc (Nat.le_refl _) _) HO6.out HG6.out (fun g hg => (HB6.out g hg).imp id (fun h => by simpa using h))
      case measure => simp [intOf]; omega
    · obtain rfl : j = m.files.length := by omega
      have hfl : fs.length = m.files.length := by rw [HFS.out, List.length_map]
      go_wp2
      go_ret
      have I := HI.out
      obtain ⟨c3, hc3, hF⟩ := told_end hfl I HKF.out
      exact ⟨.slice ao m.files.length capo, c3, rfl, HCx.out.trans hc3 (HW.out S2F).size, fun S => (HW.out S).trans (I.kp S) HCx.out, hF⟩
end Go.Proofs.Ytepphepcaphlkaa
