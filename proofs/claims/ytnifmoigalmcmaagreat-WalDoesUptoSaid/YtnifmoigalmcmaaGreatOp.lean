import Derived.Test.YtnifmoigalmcmaaGreatQ
import Derived.Test.YtnifmoigalmcmaaGreatLt
import Derived.Test.YtnifmoigalmcmaaGreatN
namespace Go.Proofs.YtnifmoigalmcmaaGreat
open Go Go.RowKit Go.MapKept Go.Maps
open Dk
variable {c c' : Col} {w w' : World}
section
variable {k d : Nat} {m : ADisk} {vk vf vu : Value} {mb : Nat} {es : Array MapEntry} {ck : Nat} {fb : Nm → Nat} {n : Nm} {f : AFile}
theorem look_dead (D : DiskAt' w c k d m vk vf vu mb es ck fb) (hd : m.dead = true) :
    Calls Tryz.prog 124 #[ptr d, str n] w fun e w' => e = .returned (.tuple #[.pointer none, .int .i64 10]) ∧ w = w' := by
  have hc0 := D.c0
  have hc7 := D.c7
  rw [hd] at hc7
  clear hd D
  unfold ptr
  go_enter Tryz.func124, Tryz.ntmps124
  go_wp2_with (go_at_call 81; refine (is_one _ _ hc0).mono ?_; rintro e w' ⟨rfl, rfl⟩)
  go_ret2
  exact ⟨rfl, rfl⟩
theorem look_none (D : DiskAt' w c k d m vk vf vu mb es ck fb) (hd : m.dead = false) (hn : n.length ≤ maxLen) (hg : get m.files n = none) :
    Calls Tryz.prog 124 #[ptr d, str n] w fun e w' => e = .returned (.tuple #[.pointer none, .int .i64 13]) ∧ w = w' := by
  have hc0 := D.c0
  have hc7 := D.c7
  have hc8 := D.c8
  have hlk := look_miss D.map D.ok.rising hn hg
  rw [hd] at hc7
  clear hd D hn hg
  unfold ptr
  go_enter Tryz.func124, Tryz.ntmps124
  go_wp2_with (go_at_call 81; refine (is_one _ _ hc0).mono ?_; rintro e w' ⟨rfl, rfl⟩)
  go_ret2
  exact ⟨rfl, rfl⟩
theorem look_some (D : DiskAt' w c k d m vk vf vu mb es ck fb) (hd : m.dead = false) (hn : n.length ≤ maxLen) (hg : get m.files n = some f) :
    Calls Tryz.prog 124 #[ptr d, str n] w fun e w' => e = .returned (.tuple #[.pointer (some ⟨fb n, 0, none⟩), .int .i64 0]) ∧ w = w' := by
  have hc0 := D.c0
  have hc7 := D.c7
  have hc8 := D.c8
  have hlk := look_hit D.map D.ok.rising hn hg
  rw [hd] at hc7
  clear hd D hn hg
  unfold ptr at *
  go_enter Tryz.func124, Tryz.ntmps124
  go_wp2_with (go_at_call 81; refine (is_one _ _ hc0).mono ?_; rintro e w' ⟨rfl, rfl⟩)
  go_ret2
  exact ⟨rfl, rfl⟩
theorem file_now' {fs : List (Nm × AFile)} (M : MapAt w c k mb es ck fb fs) (hg : get fs n = some f) :
    ∃ an capn, w.cell? ⟨fb n, 2, none⟩ = some (.slice an f.now.length capn) ∧ Sc w c (0, 0) (.slice an f.now.length capn) (f.now.map bv) := by
  obtain ⟨vs, vc, vn, hh, _, _, _, hnw⟩ := M.files _ (get_mem hg)
  obtain ⟨an, capn, rfl, _⟩ := id hnw
  refine ⟨an, capn, ?_, ?_⟩
  · have := cell_of_heap hh 2
    rw [List.length_map] at this
    exact this
  · rw [List.length_map] at hnw; exact hnw
end
theorem size_c (k d : Nat) (m : ADisk) (n : Nm) (w : World) (DD : DiskAt w c k d m) (hn : n.length ≤ maxLen) :
    Calls Tryz.prog 58 #[ptr d, str n] w fun e w' => e = .returned (.tuple #[.int .i64 (size m n).1, .int .i64 (size m n).2]) ∧ w = w' := by
  obtain ⟨vk, vf, vu, mb, es, ck, fb, D⟩ := DD
  cases hd : m.dead with
  | true =>
    have e : size m n = (0, 10) := by unfold Dk.size; rw [if_pos hd]
    rw [e]
    have HL := Lib.hid (look_dead (n := n) D hd)
    clear e hd D hn
    unfold ptr at *
    go_enter Tryz.func58, Tryz.ntmps58
    go_wp2_with (go_at_call 124; refine HL.out.mono ?_; rintro e w' ⟨rfl, rfl⟩)
    go_ret2
    exact ⟨rfl, rfl⟩
  | false =>
    cases hg : get m.files n with
    | none =>
      have e : size m n = (0, 13) := by unfold Dk.size; rw [if_neg (by rw [hd]; simp), hg]
      rw [e]
      have HL := Lib.hid (look_none D hd hn hg)
      clear e hd D hn hg
      unfold ptr at *
      go_enter Tryz.func58, Tryz.ntmps58
      go_wp2_with (go_at_call 124; refine HL.out.mono ?_; rintro e w' ⟨rfl, rfl⟩)
      go_ret2
      exact ⟨rfl, rfl⟩
    | some f =>
      have e : size m n = ((f.now.length : Int), 0) := by unfold Dk.size; rw [if_neg (by rw [hd]; simp), hg]
      rw [e]
      have HL := Lib.hid (look_some D hd hn hg)
      obtain ⟨an, capn, hcn, _⟩ := file_now' D.map hg
      clear e hd D hn hg
      unfold ptr at *
      go_enter Tryz.func58, Tryz.ntmps58
      go_wp2_with (go_at_call 124; refine HL.out.mono ?_; rintro e w' ⟨rfl, rfl⟩)
      go_ret2
      exact ⟨rfl, rfl⟩
theorem Sc.cut {a : Option Addr} {cap : Nat} {xs : List Value} {q : Nat × Nat} (h : Sc w c q (.slice a xs.length cap) xs) (i j : Nat) (hij : i + j ≤ xs.length) {ao : Option Addr} (hao : ao = if cap = i then a else a.map fun ad => ad.add i) :
    Sc w c q (.slice ao j (cap - i)) ((xs.drop i).take j) := by
  obtain ⟨a', cap', e, h1, h2, h3, h4⟩ := h
  injection e with e1 e2 e3
  subst e1 e3
  have hl : ((xs.drop i).take j).length = j := by simp; omega
  refine ⟨ao, cap - i, by rw [hl], by rw [hl]; omega, by omega, fun hn => ?_, fun ad had => ?_⟩
  · cases a with
    | none => rw [h3 rfl]; omega
    | some ad =>
      rw [hn] at hao
      by_cases hc : cap = i
      · omega
      · rw [if_neg hc] at hao; cases hao
  · cases a with
    | none => rw [had] at hao; split at hao <;> cases hao
    | some ad0 =>
      rw [had] at hao
      obtain ⟨h5, h6⟩ := h4 ad0 rfl
      by_cases hc : cap = i
      · rw [if_pos hc] at hao
        cases hao
        refine ⟨h5, fun t u ht => ?_⟩
        have : (xs.drop i).take j = [] := List.eq_nil_of_length_eq_zero (by rw [hl]; omega)
        rw [this] at ht; cases ht
      · rw [if_neg hc] at hao
        simp only [Option.map_some, Option.some.injEq] at hao
        rw [add_eq h5] at hao
        subst hao
        refine ⟨rfl, fun t u ht => ?_⟩
        rw [List.getElem?_take] at ht
        split at ht
        · rw [List.getElem?_drop] at ht
          have := h6 (i + t) u ht
          rw [← Nat.add_assoc] at this
          exact this
        · cases ht
theorem fresh_c3 {w1 w2 : World} {c1 : Col} {e n : Nat} {v : Value} {xs : List Value} (hb : Below w1.heap.size w1 w2) (hown : w2.ownsRow w1.heap.size e 1 v n xs) :
    ∃ c2, Cx w1 c1 c2 ∧ Sc w2 c2 (0, 0) v xs ∧ ∀ S, Kp c1 S w1 w2 := by
  refine ⟨fun b => if b < w1.heap.size then c1 b else (0, 0), fun b hb => if_pos hb, Sc.of_owns hown (fun g hg => ?_), fun S => Kp.of_below hb⟩
  rcases hown.2 with ⟨rfl, _⟩ | ⟨g', _, _, rfl, hle, _⟩
  · cases hg
  · cases hg; exact if_neg (show ¬ g' < w1.heap.size by omega)
def ReadPost (m : ADisk) (n : Nm) (i j : Int) (c : Col) (w : World) (e : Ending) (w' : World) : Prop :=
  ∃ v c', e = .returned (.tuple #[v, .int .i64 (read m n i j).2]) ∧ Cx w c c' ∧ (∀ S, Kp c S w w') ∧ Sc w' c' (0, 0) v ((read m n i j).1.map bv)
theorem read_c (k d : Nat) (m : ADisk) (n : Nm) (i j : Int) (w : World) (DD : DiskAt w c k d m) (hn : n.length ≤ maxLen) (hi : -9223372036854775808 ≤ i ∧ i ≤ 9223372036854775807) (hj : -9223372036854775808 ≤ j ∧ j ≤ 9223372036854775807) :
    Calls Tryz.prog 59 #[ptr d, str n, .int .i64 i, .int .i64 j] w (ReadPost m n i j c w) := by
  obtain ⟨vk, vf, vu, mb, es, ck, fb, D⟩ := DD
  cases hd : m.dead with
  | true =>
    have e : read m n i j = ([], 10) := by unfold Dk.read; rw [if_pos hd]
    have HE := Lib.hid e; clear e
    have HL := Lib.hid (look_dead (n := n) D hd)
    clear hd D hn hi hj
    unfold ptr at *
    go_enter Tryz.func59, Tryz.ntmps59
    go_wp2_with (go_at_call 124; refine HL.out.mono ?_; rintro e w' ⟨rfl, rfl⟩)
    go_ret2
    exact ⟨_, c, by rw [HE.out]; rfl, Cx.refl _ _, fun S => Kp.refl _ _ _, by rw [HE.out]; exact Sc.nil _ _ _⟩
  | false =>
    cases hg : get m.files n with
    | none =>
      have e : read m n i j = ([], 13) := by unfold Dk.read; rw [if_neg (by rw [hd]; simp), hg]
      have HE := Lib.hid e; clear e
      have HL := Lib.hid (look_none D hd hn hg)
      clear hd D hn hg hi hj
      unfold ptr at *
      go_enter Tryz.func59, Tryz.ntmps59
      go_wp2_with (go_at_call 124; refine HL.out.mono ?_; rintro e w' ⟨rfl, rfl⟩)
      go_ret2
      exact ⟨_, c, by rw [HE.out]; rfl, Cx.refl _ _, fun S => Kp.refl _ _ _, by rw [HE.out]; exact Sc.nil _ _ _⟩
    | some f =>
      have hnl := now_le' D.ok hg
      have HL := Lib.hid (look_some D hd hn hg)
      obtain ⟨an, capn, hcn, hsc⟩ := file_now' D.map hg
      have HS := Lib.hid hsc; clear hsc
      by_cases hbad : i < 0 ∨ j < 0 ∨ (f.now.length : Int) < i ∨ (f.now.length : Int) < i + j
      · have e : read m n i j = ([], 1) := by unfold Dk.read; rw [if_neg (by rw [hd]; simp), hg]; exact if_pos hbad
        have HE := Lib.hid e; clear e
        clear hd D hn hg
        unfold ptr at *
        have HB := Lib.hid hbad; clear hbad
        by_cases h1 : i < 0
        · clear hi hj
          go_enter Tryz.func59, Tryz.ntmps59
          go_wp2_with (go_at_call 124; refine HL.out.mono ?_; rintro e w' ⟨rfl, rfl⟩)
          go_ret2
          exact ⟨_, c, by rw [HE.out]; rfl, Cx.refl _ _, fun S => Kp.refl _ _ _, by rw [HE.out]; exact Sc.nil _ _ _⟩
        · by_cases h2 : j < 0
          · clear hi hj
            go_enter Tryz.func59, Tryz.ntmps59
            go_wp2_with (go_at_call 124; refine HL.out.mono ?_; rintro e w' ⟨rfl, rfl⟩)
            go_ret2
            exact ⟨_, c, by rw [HE.out]; rfl, Cx.refl _ _, fun S => Kp.refl _ _ _, by rw [HE.out]; exact Sc.nil _ _ _⟩
          · by_cases h3 : (f.now.length : Int) < i
            · clear hi hj
              go_enter Tryz.func59, Tryz.ntmps59
              go_wp2_with (go_at_call 124; refine HL.out.mono ?_; rintro e w' ⟨rfl, rfl⟩)
              go_ret2
              exact ⟨_, c, by rw [HE.out]; rfl, Cx.refl _ _, fun S => Kp.refl _ _ _, by rw [HE.out]; exact Sc.nil _ _ _⟩
            · have h4 : (f.now.length : Int) - i < j := by have := HB.out; omega
              clear hi hj
              go_enter Tryz.func59, Tryz.ntmps59
              go_wp2_with (go_at_call 124; refine HL.out.mono ?_; rintro e w' ⟨rfl, rfl⟩)
              go_ret2
              exact ⟨_, c, by rw [HE.out]; rfl, Cx.refl _ _, fun S => Kp.refl _ _ _, by rw [HE.out]; exact Sc.nil _ _ _⟩
      · have e : read m n i j = ((f.now.drop i.toNat).take j.toNat, 0) := by unfold Dk.read; rw [if_neg (by rw [hd]; simp), hg]; exact if_neg hbad
        have HE := Lib.hid e; clear e
        obtain ⟨ni, hni⟩ : ∃ ni : Nat, i = ni := ⟨i.toNat, by omega⟩
        obtain ⟨nj, hnj⟩ : ∃ nj : Nat, j = nj := ⟨j.toNat, by omega⟩
        subst hni hnj
        have hij : (ni : Int) + (nj : Int) ≤ (f.now.length : Int) := by omega
        have hic : (f.now.length : Int) ≤ (capn : Int) := by
          obtain ⟨_, _, e, h2, _⟩ := HS.out
          injection e with _ _ e3; subst e3
          rw [List.length_map] at h2; omega
        have hb1 : ¬ ((f.now.length : Int) - (ni : Int) < (nj : Int)) := by omega
        clear hd D hn hg hi hj hbad
        unfold ptr at *
        go_enter Tryz.func59, Tryz.ntmps59
        go_wp2_with (first | (go_at_call 124; refine HL.out.mono ?_; rintro e w' ⟨rfl, rfl⟩) | (go_at_call 75; refine (cloneB _ (((f.now.map bv).drop ni).take nj) (Sc.cut (by rw [List.length_map]; exact HS.out) ni nj (by rw [List.length_map]; omega) rfl) (fun u hu => one_bv f.now u (List.mem_of_mem_drop (List.mem_of_mem_take hu))) (by simp only [List.length_take, List.length_drop, List.length_map]; unfold lim; omega)).mono ?_; rintro e w2 ⟨v2, rfl, hown2, hb2⟩; obtain ⟨c2, hc2, hs2, hk2⟩ := fresh_c3 (c1 := c) hb2 hown2; have HS2 := Lib.hid hs2; have HC2 := Lib.hid hc2; have HK2 := Lib.hid hk2; clear hown2 hb2 hs2 hc2 hk2))
        all_goals
          go_ret2
          refine ⟨_, c2, by rw [HE.out]; rfl, HC2.out, HK2.out, ?_⟩
          rw [HE.out]
          have := HS2.out
          rw [← List.map_drop, ← List.map_take] at this
          exact this
end Go.Proofs.YtnifmoigalmcmaaGreat
namespace Go.Proofs.YtnifmoigalmcmaaGreat
open Go Go.RowKit Go.MapKept Go.Maps
open Dk
variable {c c' : Col} {w w' : World}
theorem append_c (k d : Nat) (m : ADisk) (n : Nm) (v : Value) (b : List UInt8) (w : World) (DD : DiskAt w c k d m) (hk0 : k ≠ 0) (hops : m.ops < 900000) (hn : n.length ≤ maxLen) {q : Nat × Nat} (hv : Sc w c q v (b.map bv)) (hq : q.1 ≠ k) (hb : b.length ≤ lim) :
    Calls Tryz.prog 21 #[ptr d, str n, v] w (OpPost k d (Dk.append m n b) c w) := by
  by_cases h : openErr m n = 0
  · obtain ⟨h1, f, h2⟩ := openErr_zero h
    exact append_good k d m n v b w DD hk0 hops hn hv hq hb f h1 h2
  · exact append_bad k d m n v b w DD hk0 hops hn h
theorem truncate_c (k d : Nat) (m : ADisk) (n : Nm) (i : Int) (w : World) (DD : DiskAt w c k d m) (hk0 : k ≠ 0) (hops : m.ops < 900000) (hn : n.length ≤ maxLen)  :
    Calls Tryz.prog 72 #[ptr d, str n, .int .i64 i] w (OpPost k d (Dk.truncate m n i) c w) := by
  by_cases h : openErr m n = 0
  · obtain ⟨h1, f, h2⟩ := openErr_zero h
    exact truncate_good k d m n i w DD hk0 hops hn  f h1 h2
  · exact truncate_bad k d m n i w DD hk0 hops hn h
theorem sync_c (k d : Nat) (m : ADisk) (n : Nm)  (w : World) (DD : DiskAt w c k d m) (hk0 : k ≠ 0) (hops : m.ops < 900000) (hn : n.length ≤ maxLen)  :
    Calls Tryz.prog 68 #[ptr d, str n] w (OpPost k d (Dk.sync m n ) c w) := by
  by_cases h : openErr m n = 0
  · obtain ⟨h1, f, h2⟩ := openErr_zero h
    exact sync_good k d m n  w DD hk0 hops hn  f h1 h2
  · exact sync_bad k d m n  w DD hk0 hops hn h
structure AOp where
  kind : Int
  name : Nm
  to : Nm
  at_ : Int
  long : Int
  data : List UInt8
  plan : APlan
def doOp (m : ADisk) (o : AOp) : Int × ADisk :=
  if o.kind = 0 then create m o.name else if o.kind = 1 then Dk.append m o.name o.data else if o.kind = 2 then Dk.writeAt m o.name o.at_ o.data else
  if o.kind = 3 then Dk.truncate m o.name o.long else if o.kind = 4 then Dk.sync m o.name else if o.kind = 5 then Dk.rename m o.name o.to else
  if o.kind = 6 then Dk.remove m o.name else if o.kind = 7 then (0, Dk.start m o.plan) else ((read m o.name o.at_ o.long).2, m)
end Go.Proofs.YtnifmoigalmcmaaGreat
