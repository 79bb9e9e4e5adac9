import Derived.Test.YtnifmoigalmcmaaGreatK
namespace Go.Proofs.YtnifmoigalmcmaaGreat
open Go Go.RowKit Go.MapKept Go.Maps
open Dk
variable {c c' : Col} {w w' : World}
theorem ops_c (k d : Nat) (m : ADisk) (w : World) (DD : DiskAt w c k d m) : Calls Tryz.prog 30 #[ptr d] w fun e w' => e = .returned (.int .i64 m.ops) ∧ w = w' := by
  obtain ⟨vk, vf, vu, mb, es, ck, fb, D⟩ := DD
  have hc0 := D.c0
  have hc6 := D.c6
  clear D
  unfold ptr
  go_enter Tryz.func30, Tryz.ntmps30
  go_wp2_with (go_at_call 81; refine (is_one _ _ hc0).mono ?_; rintro e w' ⟨rfl, rfl⟩)
  go_ret
  exact ⟨rfl, rfl⟩
def planV (p : APlan) (vk vf vu : Value) : Value := .agg #[.int .i64 p.crash, vk, vf, vu, .int .i64 p.room]
end Go.Proofs.YtnifmoigalmcmaaGreat
namespace Go.Proofs.YtnifmoigalmcmaaGreat
open Go Go.RowKit Go.MapKept Go.Maps
open Dk
variable {c c' : Col} {w w' : World}
section
variable {P : Program} {w : World}
theorem run_append3 (t ty e : TypeId) (i : TypeInfo) (z : Value) (size bytes : Nat) (ht : P.underlying t = some (.slice e)) (hi : P.info? e = some i) (hz : i.zero = some z)
    (hsize : i.size = size) (hby : i.bytes = bytes) (hzs : z.cells.size = size) (hsz : 0 < size)
    (v : Value) (n : Nat) (xs : List Value) (hown : w.ownsRow 0 e size v n xs)
    (a : Addr) (m c : Nat) (news : List Value) (hl : news.length = m * size) (hnews : ∀ (j : Nat) u, news[j]? = some u → w.cell? (a.add j) = some u) (h1 : ∀ u ∈ news, u.oneCell' = true)
    (h63 : n + m ≤ maxLen) (hbytes : (n + m) * bytes ≤ 140737488355328) :
    ∃ v' w', (Builtin.append_ #[t, t] ty #[v, .slice (some a) m c]).run P w = .ok v' w' ∧ w'.ownsRow 0 e size v' (n + m) (xs ++ news) ∧ w.grownBy w' v.ownBlock ∧
      (∀ g, v'.ownBlock = some g → v.ownBlock = some g ∨ w.heap.size ≤ g) := by
  obtain ⟨v', w', hr, h2, h3, _⟩ := run_append_own (P := P) w 0 t ty e i z size bytes ht hi hz hsize hby hzs hsz v n xs hown a m c news hl hnews h1 h63 hbytes (Nat.zero_le _)
  refine ⟨v', w', hr, h2, h3, fun g hg => ?_⟩
  rcases hown.2 with ⟨rfl, rfl⟩ | ⟨g0, cap, cur, rfl, _, hg0, hnc, hcm, hcs, htake⟩
  · have hx : xs = [] := List.eq_nil_of_length_eq_zero (by simpa using hown.1)
    subst hx
    obtain ⟨v2, w2, hr2, h4, _, _⟩ := run_append_own (P := P) w w.heap.size t ty e i z size bytes ht hi hz hsize hby hzs hsz (.slice none 0 0) 0 [] (World.ownsRow_nil _ _ _ _) a m c news hl hnews h1 h63 hbytes (Nat.le_refl _)
    rw [hr] at hr2
    cases hr2
    rcases h4.2 with ⟨rfl, _⟩ | ⟨g', _, _, rfl, hb, _⟩
    · cases hg
    · cases hg; exact .inr hb
  · by_cases hroom : n + m ≤ cap
    · have hr2 := run_append_room (P := P) w t ty e i ht hi g0 n cap cur hg0 a m c news (by rw [hsize]; exact hl) hnews h1 hroom (by rw [hsize, hl, hcs, ← Nat.add_mul]; exact Nat.mul_le_mul_right _ hroom)
      rw [hr] at hr2
      cases hr2
      cases hg; exact .inl rfl
    · have hr2 := run_append_grow (P := P) w t ty e i z ht hi hz ⟨g0, 0, none⟩ n cap xs (by rw [hsize]; exact hown.1) (hown.cells (g := g0) rfl) a m c news (by rw [hsize]; exact hl) hnews (by omega) (by unfold maxLen at h63; omega) (growslice_fits (by omega) (by rw [hby]; exact hbytes))
      rw [hr] at hr2
      cases hr2
      cases hg; exact .inr (Nat.le_refl _)
theorem wpList_append3 {ops : Array Oper} {rest : List Oper} {o : Oper} {a : Act} {Q : Exit → Act → World → Prop} (hgd : o.guard = none) (s x : Operand) (t : TypeId)
    (ho : o.op = .call { callee := .builtin .append, args := #[s, x], argTypes := #[t, t] })
    (e : TypeId) (i : TypeInfo) (z : Value) (size bytes : Nat) (ht : P.underlying t = some (.slice e)) (hi : P.info? e = some i) (hz : i.zero = some z)
    (hsize : i.size = size) (hby : i.bytes = bytes) (hzs : z.cells.size = size) (hsz : 0 < size)
    (v : Value) (n : Nat) (xs : List Value) (hs : a.eval s = v) (hown : w.ownsRow 0 e size v n xs)
    (ad : Addr) (m c : Nat) (news : List Value) (hx : a.eval x = .slice (some ad) m c) (hl : news.length = m * size) (hnews : ∀ (j : Nat) u, news[j]? = some u → w.cell? (ad.add j) = some u) (h1 : ∀ u ∈ news, u.oneCell' = true)
    (h63 : n + m ≤ maxLen) (hbytes : (n + m) * bytes ≤ 140737488355328)
    (h : ∀ v' w', w'.ownsRow 0 e size v' (n + m) (xs ++ news) → w.grownBy w' v.ownBlock → (∀ g, v'.ownBlock = some g → v.ownBlock = some g ∨ w.heap.size ≤ g) → wpList P ops Q rest (a.put o.dst v') w') : wpList P ops Q (o :: rest) a w := by
  refine wpList_plain hgd fun K hK => ?_
  obtain ⟨v', w', hrun, h2, h3, h4⟩ := run_append3 (P := P) t o.type e i z size bytes ht hi hz hsize hby hzs hsz v n xs hown ad m c news hl hnews h1 h63 hbytes
  unfold Oper.wp
  simp [execOp, ho, resolve, invoke, builtin, hs, hx, hrun, Result.andThen]
  exact hK _ _ (h v' w' h2 h3 h4)
end
/-- A list of files as it lies in memory: names, and data in memory that stays. -/
def FilesAt (w : World) (c : Col) (v : Value) (fs : List (Nm × List UInt8)) : Prop :=
  ∃ xs, w.ownsRow 0 108 2 v fs.length xs ∧ (∀ g, v.ownBlock = some g → c g = (0, 0)) ∧ ∀ (i : Nat) x, fs[i]? = some x → ∃ vd, xs[2 * i]? = some (str x.1) ∧ xs[2 * i + 1]? = some vd ∧ Sc w c (0, 0) vd (x.2.map bv)
theorem info_afile : (Tryz.prog.info? 108).map (fun i => (i.zero, i.size, i.bytes)) = some (some (.agg #[.string ⟨#[]⟩, .slice none 0 0]), 2, 40) := by kernel_rfl
theorem files1_c (w : World) (fbn : Nat) (v : Value) (h : w.cell? ⟨fbn, 2, none⟩ = some v) (_hv : v.oneCell' = true) : Calls Tryz.prog 88 #[ptr fbn] w fun e w' => e = .returned v ∧ w = w' := by
  unfold ptr
  go_enter Tryz.func88, Tryz.ntmps88
  go_wp2
  go_ret
  exact ⟨rfl, rfl⟩
theorem safe1_c (w : World) (fbn : Nat) (v : Value) (h : w.cell? ⟨fbn, 0, none⟩ = some v) (_hv : v.oneCell' = true) : Calls Tryz.prog 89 #[ptr fbn] w fun e w' => e = .returned v ∧ w = w' := by
  unfold ptr
  go_enter Tryz.func89, Tryz.ntmps89
  go_wp2
  go_ret
  exact ⟨rfl, rfl⟩
end Go.Proofs.YtnifmoigalmcmaaGreat
namespace Go.Proofs.YtnifmoigalmcmaaGreat
open Go Go.RowKit Go.MapKept Go.Maps
open Dk
variable {c c' : Col} {w w' : World}
theorem Sc.recol {q q' : Nat × Nat} {v : Value} {xs : List Value} (h : Sc w c q v xs) (hc : ∀ b, b < w.heap.size → c b = q → c' b = q') : Sc w c' q' v xs := by
  obtain ⟨a, cap, h1, h2, h3, h4, h5⟩ := h
  refine ⟨a, cap, h1, h2, h3, h4, fun ad had => ⟨(h5 ad had).1, fun j u hj => ?_⟩⟩
  obtain ⟨e1, e2⟩ := (h5 ad had).2 j u hj
  exact ⟨hc _ (by have := World.block_lt_of_cell? _ _ e2; exact this) e1, e2⟩
theorem own_base {base e size n : Nat} {v : Value} {xs : List Value} (h : w.ownsRow base e size v n xs) (g : Nat) (hg : v.ownBlock = some g) : base ≤ g := by
  rcases h.2 with ⟨rfl, _⟩ | ⟨g', _, _, rfl, hh, _⟩
  · cases hg
  · cases hg; exact hh
theorem owns_below {base e size n : Nat} {v : Value} {xs : List Value} (h : w.ownsRow base e size v n xs) (hb : Below w.heap.size w w') : w'.ownsRow base e size v n xs :=
  ownsRow_kp (c := fun _ => (0, 0)) (S := fun _ => False) (q := (0, 0)) h (fun _ _ => rfl) (Kp.of_below hb) (fun h => h)
theorem info_parts3 : ∃ i, Tryz.prog.info? 108 = some i ∧ i.zero = some (.agg #[.string ⟨#[]⟩, .slice none 0 0]) ∧ i.size = 2 ∧ i.bytes = 40 := by
  have h := info_afile
  cases hi : Tryz.prog.info? 108 with
  | none => rw [hi] at h; cases h
  | some i =>
    rw [hi] at h
    simp only [Option.map_some, Option.some.injEq, Prod.mk.injEq] at h
    exact ⟨i, rfl, h.1, h.2.1, h.2.2⟩
theorem two_new (w : World) (u v : Value) (e : TypeId) : ∀ (j : Nat) x, [u, v][j]? = some x → (w.alloc (.cells #[u, v] e)).cell? ((⟨w.heap.size, 0, none⟩ : Addr).add j) = some x := by
  intro j x hj
  match j, hj with
  | 0, hj => simp at hj; subst hj; rw [add_eq rfl]; simp
  | 1, hj => simp at hj; subst hj; rw [add_eq rfl]; simp
structure TInv (w2 : World) (c2 : Col) (kk : Nat) (fs : List (Nm × List UInt8)) (j : Nat) (vo : Value) (wr : World) : Prop where
  ex : ∃ (c' : Col) (xs : List Value), Cx w2 c2 c' ∧ wr.ownsRow 0 108 2 vo j xs ∧ (∀ g, vo.ownBlock = some g → c' g = (kk, 0)) ∧
    ∀ (i : Nat) x, (fs.take j)[i]? = some x → ∃ vd, xs[2 * i]? = some (str x.1) ∧ xs[2 * i + 1]? = some vd ∧ Sc wr c' (0, 0) vd (x.2.map bv)
  kp : ∀ S, Kp c2 S w2 wr
theorem told_step {w2 wr w4 w5 w6 : World} {c2 : Col} {kk : Nat} {fs : List (Nm × List UInt8)} {j : Nat} {vo v6 vd : Value} {nm : Nm} {b : List UInt8} {g4 : Nat} {xs : List Value} {c' : Col}
    (hkk0 : kk ≠ 0) (hkf : ∀ b, b < w2.heap.size → (c2 b).1 ≠ kk) (hkp : ∀ S, Kp c2 S w2 wr)
    (hc : Cx w2 c2 c') (hcol : ∀ g, vo.ownBlock = some g → c' g = (kk, 0)) (hown0 : wr.ownsRow 0 108 2 vo j xs)
    (hdat : ∀ (i : Nat) x, (fs.take j)[i]? = some x → ∃ vd, xs[2 * i]? = some (str x.1) ∧ xs[2 * i + 1]? = some vd ∧ Sc wr c' (0, 0) vd (x.2.map bv))
    (hx : fs[j]? = some (nm, b)) (h4 : Below wr.heap.size wr w4) (hvd : w4.ownsRow wr.heap.size 5 1 vd g4 (b.map bv)) (h5 : Below w4.heap.size w4 w5)
    (h6 : w6.ownsRow 0 108 2 v6 (j + 1) (xs ++ [str nm, vd])) (hg6 : w5.grownBy w6 vo.ownBlock) (hb6 : ∀ g, v6.ownBlock = some g → vo.ownBlock = some g ∨ w5.heap.size ≤ g) :
    TInv w2 c2 kk fs (j + 1) v6 w6 := by
  have hs2 := (hkp S2F).size
  have hs4 := h4.size
  have hs5 := h5.size
  have hs6 := hg6.size
  have hvo : ∀ g, vo.ownBlock = some g → g < wr.heap.size ∧ ¬ g < w2.heap.size := fun g hg => by
    have h1 := ownBlock_lt hown0 g hg
    refine ⟨h1, fun hlt => ?_⟩
    have := hcol g hg
    rw [hc g hlt] at this
    exact hkf g hlt (by rw [this])
  have hxl : xs.length = 2 * j := by have := hown0.1; omega
  have hjl : j < fs.length := (List.getElem?_eq_some_iff.1 hx).1
  let c6 : Col := fun g => if g < wr.heap.size then c' g else if g < w5.heap.size then (0, 0) else (kk, 0)
  have hc6 : Cx wr c' c6 := fun g hg => if_pos hg
  have hk : Kp c6 (fun q => q = (kk, 0)) wr w6 := by
    refine (((Kp.refl _ _ wr).below h4 (Nat.le_refl _)).below h5 hs4).grown hg6 (fun g hg hlt => ?_)
    exact (hc6 g hlt).trans (hcol g hg)
  have n0 : ¬ ((0, 0) : Nat × Nat) = (kk, 0) := fun e => hkk0 (by injection e with e1 _; exact e1.symm)
  refine ⟨⟨c6, xs ++ [str nm, vd], hc.trans hc6 hs2, h6, fun g hg => ?_, fun i x hi => ?_⟩, fun S => ?_⟩
  · rcases hb6 g hg with h | h
    · exact (hc6 g (hvo g h).1).trans (hcol g h)
    · show (if g < wr.heap.size then c' g else if g < w5.heap.size then (0, 0) else (kk, 0)) = _
      rw [if_neg (by omega), if_neg (by omega)]
  · rw [List.take_add_one, hx] at hi
    by_cases hij : i < j
    · rw [List.getElem?_append_left (by simp; omega)] at hi
      obtain ⟨vd', e1, e2, e3⟩ := hdat i x hi
      refine ⟨vd', by rw [List.getElem?_append_left (by omega)]; exact e1, by rw [List.getElem?_append_left (by omega)]; exact e2, ?_⟩
      exact (e3.recol (c' := c6) (q' := (0, 0)) (fun g hg e => (hc6 g hg).trans e)).kp hk n0 (Cx.refl _ _)
    · have : i = j := by
        have := (List.getElem?_eq_some_iff.1 hi).1
        simp at this; omega
      subst this
      rw [List.getElem?_append_right (by simp; omega)] at hi
      have e0 : i - (fs.take i).length = 0 := by simp; omega
      rw [e0] at hi
      simp at hi; subst hi
      refine ⟨vd, by rw [List.getElem?_append_right (by omega), hxl]; simp, by rw [List.getElem?_append_right (by omega), hxl]; simp, ?_⟩
      have h1 : Sc w4 c6 (0, 0) vd (b.map bv) := Sc.of_owns hvd (fun g hg => by
        have h2 := ownBlock_lt hvd g hg
        have h3 : wr.heap.size ≤ g := by
          rcases hvd.2 with ⟨rfl, _⟩ | ⟨g', _, _, rfl, h, _⟩
          · cases hg
          · cases hg; exact h
        show (if g < wr.heap.size then c' g else if g < w5.heap.size then (0, 0) else (kk, 0)) = _
        rw [if_neg (by omega), if_pos (by omega)])
      exact h1.kp (((Kp.refl c6 (fun q => q = (kk, 0)) w4).below h5 (Nat.le_refl _)).grown hg6 (fun g hg hlt => (hc6 g (hvo g hg).1).trans (hcol g hg))) n0 (Cx.refl _ _)
  · refine (((hkp S).below h4 hs2).below h5 (by omega)).grown hg6 (fun g hg hlt => absurd hlt (hvo g hg).2)
theorem told_end {w2 wr : World} {c2 : Col} {kk : Nat} {fs : List (Nm × List UInt8)} {vo : Value} {n : Nat} (hn : fs.length = n) (I : TInv w2 c2 kk fs n vo wr) (hkf : ∀ b, b < w2.heap.size → (c2 b).1 ≠ kk) :
    ∃ c', Cx w2 c2 c' ∧ FilesAt wr c' vo fs := by
  subst hn
  obtain ⟨c', xs, hc, hown, hcol, hdat⟩ := I.ex
  refine ⟨fun g => if g < w2.heap.size then c2 g else (0, 0), fun g hg => if_pos hg, xs, hown, fun g hg => ?_, fun i x hi => ?_⟩
  · have : ¬ g < w2.heap.size := fun hlt => by
      have := hcol g hg
      rw [hc g hlt] at this
      exact hkf g hlt (by rw [this])
    exact if_neg this
  · obtain ⟨vd, e1, e2, e3⟩ := hdat i x (by rw [List.take_of_length_le (Nat.le_refl _)]; exact hi)
    refine ⟨vd, e1, e2, e3.recol (fun g hg e => ?_)⟩
    show (if g < w2.heap.size then c2 g else (0, 0)) = _
    split
    · rename_i h; rw [← hc g h]; exact e
    · rfl
set_option maxHeartbeats 8000000 in
theorem told_Files (k d : Nat) (m : ADisk) (w : World) (vk vf vu : Value) (mb : Nat) (es : Array MapEntry) (ck : Nat) (fb : Nm → Nat) (D : DiskAt' w c k d m vk vf vu mb es ck fb) (fs : List (Nm × List UInt8)) (hfs : fs = m.files.map fun x => (x.1, x.2.now)) :
    Calls Tryz.prog 87 #[ptr d, .func (.func 88) #[] #[]] w fun e w' => ∃ v c', e = .returned v ∧ Cx w c c' ∧ (∀ S, Kp c S w w') ∧ FilesAt w' c' v fs := by
  have HD := Lib.hid D
  have HFS := Lib.hid hfs; clear hfs
  obtain ⟨i0, hi, hz0, hz1, hz2⟩ := info_parts3
  have H6 := Lib.hid hi; clear hi
  have H7 := Lib.hid hz0; clear hz0
  have H8 := Lib.hid hz1; clear hz1
  have H9 := Lib.hid hz2; clear hz2
  clear D
  unfold ptr
  go_enter Tryz.func87, Tryz.ntmps87
  go_wp2_with (go_at_call 137; refine (names_c k d m vk vf vu mb es ck fb _ HD.out).mono ?_; rintro e w2 ⟨v, rfl, hrow, hb⟩; obtain ⟨av, capv, rfl, -⟩ := Sc.of_owns (c := fun _ => (0, 0)) (q := (0, 0)) hrow (fun _ _ => rfl); have HR := Lib.hid hrow; have HB := Lib.hid hb; clear hrow hb)
  have K2 : ∀ S, Kp c S w w2 := fun S => (Kp.refl c S w).below HB.out (by simp)
  obtain ⟨kk, hkk0, hkk, hkf⟩ := fresh_col c w.heap.size k
  obtain ⟨c2, hc2⟩ : ∃ c2 : Col, c2 = fun b => if b < w.heap.size then c b else (0, 0) := ⟨_, rfl⟩
  have HCx : Hid (Cx w c c2) := by intro b hb; rw [hc2]; exact if_pos hb
  have hkf2 : ∀ b, b < w2.heap.size → (c2 b).1 ≠ kk := fun b hb => by
    rw [hc2]; dsimp only
    split
    · rename_i h; exact hkf b h
    · exact fun e => hkk0 e.symm
  have D2 := HD.out.kp (K2 (fun _ => False)) (fun _ h => h.elim) HCx.out
  have HN : Hid (Sc w2 c2 (0, 0) (.slice av (m.files.map fun x => str x.1).length capv) (m.files.map fun x => str x.1)) := by
    have := HR.out
    have e : (m.files.map (·.1)).map str = m.files.map fun x => str x.1 := by rw [List.map_map]; rfl
    rw [e] at this
    refine Sc.of_owns this (fun g hg => ?_)
    have hle := own_base this g hg
    rw [hc2]
    exact if_neg (Nat.not_lt.2 hle)
  clear HR HB hc2
  have HKK0 := Lib.hid hkk0; clear hkk0
  have HKF := Lib.hid hkf2; clear hkf2 hkf hkk
  have HW := Lib.hid K2; clear K2
  have HD2 := Lib.hid D2; clear D2
  go_loopw [5, 11] (fun vo s wr => ∃ (j : Nat) (ao : Option Addr) (capo : Nat), j ≤ m.files.length ∧ s = .int .i64 j ∧ vo = .slice ao j capo ∧ TInv w2 c2 kk fs j vo wr) (fun _ s _ => m.files.length - (intOf s).toNat)
  case atStart =>
    exact ⟨0, none, 0, Nat.zero_le _, rfl, rfl, ⟨c2, [], Cx.refl _ _, World.ownsRow_nil _ _ _ _, (fun g hg => by cases hg), (fun i x hi => by simp at hi)⟩, fun S => Kp.refl _ _ _⟩
  case round =>
    obtain ⟨j, ao, capo, hj, rfl, rfl, I⟩ := hrel
    have HI := Lib.hid I; clear I
    by_cases hlt : j < m.files.length
    · have hmany : (m.files.length : Int) ≤ 4096 := by have := HD.out.ok.many; omega
      obtain ⟨nm, f, hx⟩ : ∃ nm f, m.files[j]? = some (nm, f) := ⟨m.files[j].1, m.files[j].2, List.getElem?_eq_getElem hlt⟩
      have hget : get m.files nm = some f := get_of_mem HD.out.ok.rising (x := (nm, f)) (List.mem_of_getElem? hx)
      have hnl : nm.length ≤ maxLen := by
        have h1 := HD.out.ok.names _ (List.mem_of_getElem? hx)
        have h1 : nm.length ≤ 32 := h1
        unfold maxLen; omega
      obtain ⟨nb, no, rfl, hnc⟩ : ∃ nb no, av = some ⟨nb, no, none⟩ ∧ wr.cell? ⟨nb, no + j, none⟩ = some (str nm) := by
        obtain ⟨a', cap', e, hle, _, h0, h1⟩ := HN.out
        injection e with e1 e2 e3
        have hj' : (m.files.map fun x => str x.1)[j]? = some (str nm) := by rw [List.getElem?_map, hx]; rfl
        cases a' with
        | none =>
          have := h0 rfl
          rw [List.length_map] at hle
          omega
        | some ad =>
          obtain ⟨h2, h3⟩ := h1 ad rfl
          obtain ⟨b, o, s⟩ := ad
          cases h2
          obtain ⟨h4, h5⟩ := h3 j _ hj'
          exact ⟨b, o, e1, (HI.out.kp S2F).cell h5 (fun h => h)⟩
      have h8 := (HI.out.kp S2F).cell HD2.out.c8 (fun h => h)
      have D3 := HD2.out.kp (HI.out.kp S2F) (fun _ h => h.elim) (Cx.refl _ _)
      have hlook : (Instr.lookup 117 (.map (some mb)) (str nm) false).run Tryz.prog wr = .ok (.pointer (some ⟨fb nm, 0, none⟩)) wr := look_hit D3.map HD.out.ok.rising hnl hget
      obtain ⟨vs, vc, vn, hh, hcf, hs, hchs, hnow⟩ := D3.map.files _ (get_mem hget)
      have hfok := HD.out.ok.files _ (List.mem_of_getElem? hx)
      have hfok : f.ok m.ops.toNat := hfok
      have hdc : wr.cell? ⟨fb nm, 2, none⟩ = some vn := cell_of_heap hh 2
      have hdl : f.now.length ≤ lim := by have := hfok.now; unfold maxFile at this; unfold lim; omega
      have hfx : fs[j]? = some (nm, f.now) := by rw [HFS.out, List.getElem?_map, hx]; rfl
      have HDA := Lib.hid hnow; clear hs hnow
      have HDL := Lib.hid hdl; clear hdl
      have HX := Lib.hid hfx; clear hfx hx hfok
      clear hfok
      have HDC := Lib.hid hdc; clear hdc
      have HDS : Hid (vn.oneCell' = true) := by obtain ⟨_, _, e, _⟩ := HDA.out; rw [e]; rfl
      clear hh hcf hchs D3 hget
      obtain ⟨c3, xs, hcx, hown, hcol, hdat⟩ := HI.out.ex
      have HCX := Lib.hid hcx; clear hcx
      have HOW := Lib.hid hown; clear hown
      have HCO := Lib.hid hcol; clear hcol
      have HDT := Lib.hid hdat; clear hdat
      unfold str at hnc hlook
      have k5 : j + 1 ≤ maxLen ∧ (j + 1) * 40 ≤ 140737488355328 := by unfold maxLen; omega
      have K5 := Lib.hid k5; clear k5
      go_wp2_with (first
        | (go_at_call 88; refine (files1_c wr (fb nm) vn HDC.out HDS.out).mono ?_; rintro e w' ⟨rfl, rfl⟩)
        | (go_at_call 75; refine (cloneB _ _ HDA.out (one_bv _) (by rw [List.length_map]; exact HDL.out)).mono ?_; rintro e w4 ⟨vd, rfl, hown4, hb4⟩; (obtain ⟨ad, capd, rfl, -⟩ := Sc.of_owns (c := fun _ => (0, 0)) (q := (0, 0)) hown4 (fun _ _ => rfl)); rw [List.length_map] at hown4 ⊢; have HO4 := Lib.hid hown4; have HB4 := Lib.hid hb4; clear hown4 hb4)
        | (at_builtin; refine wpList_append3 rfl _ _ _ rfl 108 i0 (.agg #[.string ⟨#[]⟩, .slice none 0 0]) 2 40 Tryz.underlying55 H6.out H7.out H8.out H9.out rfl (by decide) _ j xs rfl (owns_alloc (owns_below HOW.out HB4.out) _) ⟨_, 0, none⟩ 1 1 [str nm, .slice ad _ capd] rfl rfl (two_new _ _ _ _) (by simp [Value.oneCell', str]) K5.out.1 K5.out.2 ?_))
      intro v6 w6 hown6 hg6 hb6
      have hg6 : World.grownBy _ w6 (Value.slice ao j capo).ownBlock := hg6
      have hb6 : ∀ g, v6.ownBlock = some g → (Value.slice ao j capo).ownBlock = some g ∨ _ ≤ g := hb6
      obtain ⟨g6, cap6, rfl⟩ := own_succ hown6
      have HB6 := Lib.hid hb6; clear hb6
      have HG6 := Lib.hid hg6; clear hg6
      have HO6 := Lib.hid hown6; clear hown6
      go_wp2
      go_roundw
      case rel =>
        refine ⟨j + 1, some ⟨g6, 0, none⟩, cap6, by omega, by go_num, rfl, ?_⟩
        exact told_step HKK0.out HKF.out HI.out.kp HCX.out HCO.out HOW.out HDT.out HX.out HB4.out HO4.out ((Below.refl _ w4).alloc (Nat.le_refl _) _) HO6.out HG6.out (fun g hg => (HB6.out g hg).imp id (fun h => by simpa using h))
      case measure => simp [intOf]; omega
    · obtain rfl : j = m.files.length := by omega
      have hfl : fs.length = m.files.length := by rw [HFS.out, List.length_map]
      go_wp2
      go_ret
      have I := HI.out
      obtain ⟨c3, hc3, hF⟩ := told_end hfl I HKF.out
      exact ⟨.slice ao m.files.length capo, c3, rfl, HCx.out.trans hc3 (HW.out S2F).size, fun S => (HW.out S).trans (I.kp S) HCx.out, hF⟩
set_option maxHeartbeats 8000000 in
theorem told_Safe (k d : Nat) (m : ADisk) (w : World) (vk vf vu : Value) (mb : Nat) (es : Array MapEntry) (ck : Nat) (fb : Nm → Nat) (D : DiskAt' w c k d m vk vf vu mb es ck fb) (fs : List (Nm × List UInt8)) (hfs : fs = m.files.map fun x => (x.1, x.2.safe)) :
    Calls Tryz.prog 87 #[ptr d, .func (.func 89) #[] #[]] w fun e w' => ∃ v c', e = .returned v ∧ Cx w c c' ∧ (∀ S, Kp c S w w') ∧ FilesAt w' c' v fs := by
  have HD := Lib.hid D
  have HFS := Lib.hid hfs; clear hfs
  obtain ⟨i0, hi, hz0, hz1, hz2⟩ := info_parts3
  have H6 := Lib.hid hi; clear hi
  have H7 := Lib.hid hz0; clear hz0
  have H8 := Lib.hid hz1; clear hz1
  have H9 := Lib.hid hz2; clear hz2
  clear D
  unfold ptr
  go_enter Tryz.func87, Tryz.ntmps87
  go_wp2_with (go_at_call 137; refine (names_c k d m vk vf vu mb es ck fb _ HD.out).mono ?_; rintro e w2 ⟨v, rfl, hrow, hb⟩; obtain ⟨av, capv, rfl, -⟩ := Sc.of_owns (c := fun _ => (0, 0)) (q := (0, 0)) hrow (fun _ _ => rfl); have HR := Lib.hid hrow; have HB := Lib.hid hb; clear hrow hb)
  have K2 : ∀ S, Kp c S w w2 := fun S => (Kp.refl c S w).below HB.out (by simp)
  obtain ⟨kk, hkk0, hkk, hkf⟩ := fresh_col c w.heap.size k
  obtain ⟨c2, hc2⟩ : ∃ c2 : Col, c2 = fun b => if b < w.heap.size then c b else (0, 0) := ⟨_, rfl⟩
  have HCx : Hid (Cx w c c2) := by intro b hb; rw [hc2]; exact if_pos hb
  have hkf2 : ∀ b, b < w2.heap.size → (c2 b).1 ≠ kk := fun b hb => by
    rw [hc2]; dsimp only
    split
    · rename_i h; exact hkf b h
    · exact fun e => hkk0 e.symm
  have D2 := HD.out.kp (K2 (fun _ => False)) (fun _ h => h.elim) HCx.out
  have HN : Hid (Sc w2 c2 (0, 0) (.slice av (m.files.map fun x => str x.1).length capv) (m.files.map fun x => str x.1)) := by
    have := HR.out
    have e : (m.files.map (·.1)).map str = m.files.map fun x => str x.1 := by rw [List.map_map]; rfl
    rw [e] at this
    refine Sc.of_owns this (fun g hg => ?_)
    have hle := own_base this g hg
    rw [hc2]
    exact if_neg (Nat.not_lt.2 hle)
  clear HR HB hc2
  have HKK0 := Lib.hid hkk0; clear hkk0
  have HKF := Lib.hid hkf2; clear hkf2 hkf hkk
  have HW := Lib.hid K2; clear K2
  have HD2 := Lib.hid D2; clear D2
  go_loopw [5, 11] (fun vo s wr => ∃ (j : Nat) (ao : Option Addr) (capo : Nat), j ≤ m.files.length ∧ s = .int .i64 j ∧ vo = .slice ao j capo ∧ TInv w2 c2 kk fs j vo wr) (fun _ s _ => m.files.length - (intOf s).toNat)
  case atStart =>
    exact ⟨0, none, 0, Nat.zero_le _, rfl, rfl, ⟨c2, [], Cx.refl _ _, World.ownsRow_nil _ _ _ _, (fun g hg => by cases hg), (fun i x hi => by simp at hi)⟩, fun S => Kp.refl _ _ _⟩
  case round =>
    obtain ⟨j, ao, capo, hj, rfl, rfl, I⟩ := hrel
    have HI := Lib.hid I; clear I
    by_cases hlt : j < m.files.length
    · have hmany : (m.files.length : Int) ≤ 4096 := by have := HD.out.ok.many; omega
      obtain ⟨nm, f, hx⟩ : ∃ nm f, m.files[j]? = some (nm, f) := ⟨m.files[j].1, m.files[j].2, List.getElem?_eq_getElem hlt⟩
      have hget : get m.files nm = some f := get_of_mem HD.out.ok.rising (x := (nm, f)) (List.mem_of_getElem? hx)
      have hnl : nm.length ≤ maxLen := by
        have h1 := HD.out.ok.names _ (List.mem_of_getElem? hx)
        have h1 : nm.length ≤ 32 := h1
        unfold maxLen; omega
      obtain ⟨nb, no, rfl, hnc⟩ : ∃ nb no, av = some ⟨nb, no, none⟩ ∧ wr.cell? ⟨nb, no + j, none⟩ = some (str nm) := by
        obtain ⟨a', cap', e, hle, _, h0, h1⟩ := HN.out
        injection e with e1 e2 e3
        have hj' : (m.files.map fun x => str x.1)[j]? = some (str nm) := by rw [List.getElem?_map, hx]; rfl
        cases a' with
        | none =>
          have := h0 rfl
          rw [List.length_map] at hle
          omega
        | some ad =>
          obtain ⟨h2, h3⟩ := h1 ad rfl
          obtain ⟨b, o, s⟩ := ad
          cases h2
          obtain ⟨h4, h5⟩ := h3 j _ hj'
          exact ⟨b, o, e1, (HI.out.kp S2F).cell h5 (fun h => h)⟩
      have h8 := (HI.out.kp S2F).cell HD2.out.c8 (fun h => h)
      have D3 := HD2.out.kp (HI.out.kp S2F) (fun _ h => h.elim) (Cx.refl _ _)
      have hlook : (Instr.lookup 117 (.map (some mb)) (str nm) false).run Tryz.prog wr = .ok (.pointer (some ⟨fb nm, 0, none⟩)) wr := look_hit D3.map HD.out.ok.rising hnl hget
      obtain ⟨vs, vc, vn, hh, hcf, hs, hchs, hnow⟩ := D3.map.files _ (get_mem hget)
      have hfok := HD.out.ok.files _ (List.mem_of_getElem? hx)
      have hfok : f.ok m.ops.toNat := hfok
      have hdc : wr.cell? ⟨fb nm, 0, none⟩ = some vs := cell_of_heap hh 0
      have hdl : f.safe.length ≤ lim := by have := hfok.safe; unfold maxFile at this; unfold lim; omega
      have hfx : fs[j]? = some (nm, f.safe) := by rw [HFS.out, List.getElem?_map, hx]; rfl
      have HDA := Lib.hid hs; clear hs hnow
      have HDL := Lib.hid hdl; clear hdl
      have HX := Lib.hid hfx; clear hfx hx hfok
      clear hfok
      have HDC := Lib.hid hdc; clear hdc
      have HDS : Hid (vs.oneCell' = true) := by obtain ⟨_, _, e, _⟩ := HDA.out; rw [e]; rfl
      clear hh hcf hchs D3 hget
      obtain ⟨c3, xs, hcx, hown, hcol, hdat⟩ := HI.out.ex
      have HCX := Lib.hid hcx; clear hcx
      have HOW := Lib.hid hown; clear hown
      have HCO := Lib.hid hcol; clear hcol
      have HDT := Lib.hid hdat; clear hdat
      unfold str at hnc hlook
      have k5 : j + 1 ≤ maxLen ∧ (j + 1) * 40 ≤ 140737488355328 := by unfold maxLen; omega
      have K5 := Lib.hid k5; clear k5
      go_wp2_with (first
        | (go_at_call 89; refine (safe1_c wr (fb nm) vs HDC.out HDS.out).mono ?_; rintro e w' ⟨rfl, rfl⟩)
        | (go_at_call 75; refine (cloneB _ _ HDA.out (one_bv _) (by rw [List.length_map]; exact HDL.out)).mono ?_; rintro e w4 ⟨vd, rfl, hown4, hb4⟩; (obtain ⟨ad, capd, rfl, -⟩ := Sc.of_owns (c := fun _ => (0, 0)) (q := (0, 0)) hown4 (fun _ _ => rfl)); rw [List.length_map] at hown4 ⊢; have HO4 := Lib.hid hown4; have HB4 := Lib.hid hb4; clear hown4 hb4)
        | (at_builtin; refine wpList_append3 rfl _ _ _ rfl 108 i0 (.agg #[.string ⟨#[]⟩, .slice none 0 0]) 2 40 Tryz.underlying55 H6.out H7.out H8.out H9.out rfl (by decide) _ j xs rfl (owns_alloc (owns_below HOW.out HB4.out) _) ⟨_, 0, none⟩ 1 1 [str nm, .slice ad _ capd] rfl rfl (two_new _ _ _ _) (by simp [Value.oneCell', str]) K5.out.1 K5.out.2 ?_))
      intro v6 w6 hown6 hg6 hb6
      have hg6 : World.grownBy _ w6 (Value.slice ao j capo).ownBlock := hg6
      have hb6 : ∀ g, v6.ownBlock = some g → (Value.slice ao j capo).ownBlock = some g ∨ _ ≤ g := hb6
      obtain ⟨g6, cap6, rfl⟩ := own_succ hown6
      have HB6 := Lib.hid hb6; clear hb6
      have HG6 := Lib.hid hg6; clear hg6
      have HO6 := Lib.hid hown6; clear hown6
      go_wp2
      go_roundw
      case rel =>
        refine ⟨j + 1, some ⟨g6, 0, none⟩, cap6, by omega, by go_num, rfl, ?_⟩
        exact told_step HKK0.out HKF.out HI.out.kp HCX.out HCO.out HOW.out HDT.out HX.out HB4.out HO4.out ((Below.refl _ w4).alloc (Nat.le_refl _) _) HO6.out HG6.out (fun g hg => (HB6.out g hg).imp id (fun h => by simpa using h))
      case measure => simp [intOf]; omega
    · obtain rfl : j = m.files.length := by omega
      have hfl : fs.length = m.files.length := by rw [HFS.out, List.length_map]
      go_wp2
      go_ret
      have I := HI.out
      obtain ⟨c3, hc3, hF⟩ := told_end hfl I HKF.out
      exact ⟨.slice ao m.files.length capo, c3, rfl, HCx.out.trans hc3 (HW.out S2F).size, fun S => (HW.out S).trans (I.kp S) HCx.out, hF⟩
end Go.Proofs.YtnifmoigalmcmaaGreat
namespace Go.Proofs.YtnifmoigalmcmaaGreat
open Go Go.RowKit Go.MapKept Go.Maps
open Dk
variable {c c' : Col} {w w' : World}
theorem FilesAt.nil (w : World) (c : Col) : FilesAt w c (.slice none 0 0) [] := by
  refine ⟨[], World.ownsRow_nil _ _ _ _, ?_, ?_⟩
  · intro g hg; cases hg
  · intro i x h; simp at h
theorem files_c (k d : Nat) (m : ADisk) (w : World) (DD : DiskAt w c k d m) :
    Calls Tryz.prog 27 #[ptr d] w fun e w' => ∃ v c', e = .returned v ∧ Cx w c c' ∧ (∀ S, Kp c S w w') ∧ FilesAt w' c' v (files m) := by
  obtain ⟨vk, vf, vu, mb, es, ck, fb, D⟩ := DD
  have hc0 := D.c0
  have hc7 := D.c7
  have HD := Lib.hid D
  clear D
  unfold ptr
  cases hd : m.dead with
  | true =>
    rw [hd] at hc7
    have e : files m = [] := by unfold files; rw [hd]; rfl
    rw [e]
    clear hd e
    go_enter Tryz.func27, Tryz.ntmps27
    go_wp2_with (go_at_call 81; refine (is_one _ _ hc0).mono ?_; rintro e w' ⟨rfl, rfl⟩)
    go_ret
    exact ⟨_, c, rfl, Cx.refl _ _, fun S => Kp.refl _ _ _, FilesAt.nil _ _⟩
  | false =>
    rw [hd] at hc7
    have e : files m = m.files.map fun x => (x.1, x.2.now) := by unfold files; rw [hd]; rfl
    have HE := Lib.hid e
    clear hd e
    go_enter Tryz.func27, Tryz.ntmps27
    go_wp2_with (first
      | (go_at_call 81; refine (is_one _ _ hc0).mono ?_; rintro e w' ⟨rfl, rfl⟩)
      | (go_at_call 87; refine (told_Files k d m w vk vf vu mb es ck fb HD.out (files m) HE.out).mono ?_; rintro e w' ⟨v, c', rfl, h⟩; have HH := Lib.hid h; clear h))
    go_ret
    exact ⟨v, c', rfl, HH.out⟩
theorem safe_c (k d : Nat) (m : ADisk) (w : World) (DD : DiskAt w c k d m) :
    Calls Tryz.prog 29 #[ptr d] w fun e w' => ∃ v c', e = .returned v ∧ Cx w c c' ∧ (∀ S, Kp c S w w') ∧ FilesAt w' c' v (safe m) := by
  obtain ⟨vk, vf, vu, mb, es, ck, fb, D⟩ := DD
  have hc0 := D.c0
  have HD := Lib.hid D
  clear D
  unfold ptr
  go_enter Tryz.func29, Tryz.ntmps29
  go_wp2_with (first
    | (go_at_call 81; refine (is_one _ _ hc0).mono ?_; rintro e w' ⟨rfl, rfl⟩)
    | (go_at_call 87; refine (told_Safe k d m w vk vf vu mb es ck fb HD.out (safe m) rfl).mono ?_; rintro e w' ⟨v, c', rfl, h⟩; have HH := Lib.hid h; clear h))
  go_ret
  exact ⟨v, c', rfl, HH.out⟩
end Go.Proofs.YtnifmoigalmcmaaGreat
namespace Go.Proofs.YtnifmoigalmcmaaGreat
open Go Go.RowKit Go.MapKept Go.Maps
open Dk
variable {c c' : Col} {w w' : World} {q : Nat × Nat}
/-- A slice that came in: where it has no element nothing is asked of its address. -/
def Sw (w : World) (c : Col) (q : Nat × Nat) (v : Value) (xs : List Value) : Prop :=
  ∃ a cap, v = .slice a xs.length cap ∧ xs.length ≤ cap ∧ cap ≤ maxLen ∧ (a = none → cap = 0) ∧
    ∀ ad, a = some ad → ∀ (j : Nat) u, xs[j]? = some u → ad.spot = none ∧ c ad.block = q ∧ w.cell? ⟨ad.block, ad.off + j, none⟩ = some u
theorem Sw.kp {S : Nat × Nat → Prop} {v : Value} {xs : List Value} (h : Sw w c q v xs) (hk : Kp c S w w') (hq : ¬ S q) (hc : Cx w c c') : Sw w' c' q v xs := by
  obtain ⟨a, cap, h1, h2, h3, h4, h5⟩ := h
  refine ⟨a, cap, h1, h2, h3, h4, fun ad had j u hj => ?_⟩
  obtain ⟨e0, e1, e2⟩ := h5 ad had j u hj
  have hlt := World.block_lt_of_cell? _ _ e2
  exact ⟨e0, (hc _ hlt).trans e1, hk.cell e2 (by rw [e1]; exact hq)⟩
end Go.Proofs.YtnifmoigalmcmaaGreat
