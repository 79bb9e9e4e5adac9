/- Clone: a disk of its own that is like the disk that it is made of. -/
import Derived.Test.YtepphepcaphlkaaRr
import Derived.Test.YtepphepcaphlkaaNw
import Derived.Deep.RegionHeld3
import Derived.RangeFuncCalls
namespace Go.Proofs.Ytepphepcaphlkaa
open Go Go.RowKit Go.MapKept Go.Maps Go.Shelf
open Dk
attribute [local go_sem] Oper.semAt_some
variable {c c' : Col} {w w' A B : World} {Bx : Nat → Prop}
theorem new_at {X : World} {o : Obj} {b : Nat} (h : b = X.heap.size) : (X.alloc o).heap[b]? = some o := by subst h; exact heap_alloc_new _ _
/-- All blocks of w stand as they stood. -/
def Sd (c : Col) (w X : World) : Prop := ∀ S, Kp c S w X
theorem sd_alloc {p : Prop} {X : World} (h : Sd c w X ∧ p) (o : Obj) : Sd c w (X.alloc o) := fun S => (h.1 S).alloc o
theorem sda {X : World} (h : Sd c w X) (o : Obj) : Sd c w (X.alloc o) := fun S => (h S).alloc o
theorem sdr {X : World} (h : Sd c w X) : Sd c w X.drew := fun S => (h S).drew
theorem sd_refl (c : Col) (w : World) : Sd c w w := fun _ => Kp.refl _ _ _
theorem new_dr {X : World} {o : Obj} {b : Nat} (h : b = X.heap.size) : (X.alloc o).drew.heap[b]? = some o := new_at h
theorem new_dr1 (Y : World) (o o' : Obj) : ((Y.alloc o).alloc o').drew.heap[Y.heap.size + 1]? = some o' := new_at (by simp)
theorem old_dr {X : World} {o o' : Obj} {b : Nat} (h : X.heap[b]? = some o) : (X.alloc o').drew.heap[b]? = some o := heap_alloc_old _ h
theorem box_rules {X w1 : World} (b : Nat) (t : TypeId) (v : Value) (h : ∀ S, Kp c S X w1) (hb : X.heap[b]? = some (.cells #[v] t (0, 0))) :
    (w1.cell? ⟨b, 0, none⟩ = some v ∧ w1.frozen? ⟨b, 0, none⟩ = false) ∧ (∀ o, (w1.alloc o).cell? ⟨b, 0, none⟩ = some v ∧ (w1.alloc o).frozen? ⟨b, 0, none⟩ = false) ∧ ∀ o o', ((w1.alloc o).alloc o').cell? ⟨b, 0, none⟩ = some v ∧ ((w1.alloc o).alloc o').frozen? ⟨b, 0, none⟩ = false := by
  have h1 := (h (fun _ => False)).heap hb (fun h => h)
  exact ⟨⟨cell_of_heap h1 0, unfrozen_of_heap h1 0⟩, fun o => ⟨cell_of_heap (heap_alloc_old o h1) 0, unfrozen_of_heap (heap_alloc_old o h1) 0⟩, fun o o' => ⟨cell_of_heap (heap_alloc_old o' (heap_alloc_old o h1)) 0, unfrozen_of_heap (heap_alloc_old o' (heap_alloc_old o h1)) 0⟩⟩
theorem sds {X : World} (h : Sd c w X) {b i : Nat} {v : Value} (hb : w.heap.size ≤ b) : Sd c w (X.setCell ⟨b, i, none⟩ v) := fun S => (h S).setCell (fun h => by have h : b < w.heap.size := h; omega) v
theorem sd_ge {X : World} (h : Sd c w X) : w.heap.size ≤ X.heap.size := (h (fun _ => False)).size
theorem sd_left {p : Prop} {X : World} (h : Sd c w X ∧ p) : Sd c w X := h.1
theorem sd_size {p : Prop} {X : World} (h : Sd c w X ∧ p) : w.heap.size ≤ X.heap.size := (h.1 (fun _ => False)).size
theorem sd_set {p : Prop} {X : World} (h : Sd c w X ∧ p) {b i : Nat} {v : Value} (hb : w.heap.size ≤ b) : Sd c w (X.setCell ⟨b, i, none⟩ v) := fun S => (h.1 S).setCell (fun h => by have h : b < w.heap.size := h; omega) v
theorem twin_s {pl : APlan} {ak af au : Option Addr} {nk nf nu : Nat} {p : Prop} {X : World} (h : Sd c w X ∧ p) (hp : PlanAt w c (.slice ak pl.keep.length nk) (.slice af pl.fail.length nf) (.slice au pl.full.length nu) pl) (lk : pl.keep.length ≤ lim) (lf : pl.fail.length ≤ lim) (lu : pl.full.length ≤ lim) :
    Calls Try.prog 31 #[.agg #[.int .i64 pl.crash, .slice ak pl.keep.length nk, .slice af pl.fail.length nf, .slice au pl.full.length nu, .int .i64 pl.room]] X fun e w' => ∃ b1 b2 b3 l1 l2 l3 c', e = .returned (.agg #[.int .i64 pl.crash, .slice b1 pl.keep.length l1, .slice b2 pl.fail.length l2, .slice b3 pl.full.length l3, .int .i64 pl.room]) ∧ Cx X c c' ∧ (∀ S, Kp c S X w') ∧ PlanAt w' c' (.slice b1 pl.keep.length l1) (.slice b2 pl.fail.length l2) (.slice b3 pl.full.length l3) pl ∧ Sd c w w' := by
  have hp := hp.kp (h.1 (fun _ => False)) (fun h => h) (Cx.refl _ _)
  refine (twin_c pl _ _ _ X hp.keep hp.fail hp.full lk lf lu).mono fun e w' h' => ?_
  obtain ⟨vk, vf, vu, ci, he, hc, hk, hpl⟩ := h'
  obtain ⟨b1, l1, rfl, -⟩ := id hpl.keep
  obtain ⟨b2, l2, rfl, -⟩ := id hpl.fail
  obtain ⟨b3, l3, rfl, -⟩ := id hpl.full
  unfold planV at he
  simp only [List.length_map] at hpl he
  exact ⟨b1, b2, b3, l1, l2, l3, ci, he, hc, hk, hpl, fun S => (h.1 S).trans (hk S) (Cx.refl _ _)⟩
theorem size_dr (X : World) : X.drew.heap.size = X.heap.size := rfl
theorem new2 (Y : World) (o o' : Obj) : ((Y.alloc o).alloc o').heap[Y.heap.size + 1]? = some o' := new_at (by simp)
theorem new3 (Y : World) (o o' o2 : Obj) : (((Y.alloc o).alloc o').alloc o2).heap[Y.heap.size + 1 + 1]? = some o2 := new_at (by simp)
theorem set_box {Y : World} {b : Nat} {t : TypeId} {v0 v : Value} (h : Y.heap[b]? = some (.cells #[v0] t (0, 0))) : (Y.setCell ⟨b, 0, none⟩ v).heap[b]? = some (.cells #[v] t (0, 0)) := by
  have := heap_setCell h 0 v
  simpa using this
theorem set_other {Y : World} {b b' : Nat} {v : Value} {o : Obj} (hne : b ≠ b') (h : Y.heap[b]? = some o) : (Y.setCell ⟨b', 0, none⟩ v).heap[b]? = some o := (Below.heap_setCell Y ⟨b', 0, none⟩ v b hne).trans h
theorem dr_at {Y : World} {b : Nat} {o : Obj} (h : Y.heap[b]? = some o) : Y.drew.heap[b]? = some o := h
theorem kp_set {c0 c1 : Col} {k2 b : Nat} {X w1 Y : World} {v : Value} (hx : Cx X c0 c1) (hc : ∀ b, w.heap.size ≤ b → c0 b = (k2, 0)) (h1 : w.heap.size ≤ b) (h2 : b < X.heap.size) (h : Kp c1 (fun q => q.1 = k2) w1 Y) : Kp c1 (fun q => q.1 = k2) w1 (Y.setCell ⟨b, 0, none⟩ v) :=
  h.setCell (fun _ => by show (c1 b).1 = k2; rw [hx b h2, hc b h1]) v
/-- A clone that is made and still without files; its pointer lies in the block cb. -/
structure CS (w : World) (c : Col) (k2 d d2 cb mb2 : Nat) (m : ADisk) (W : World) : Prop where
  box : W.heap[cb]? = some (.cells #[.pointer (some ⟨d2, 0, none⟩)] 25 (0, 0))
  lo : w.heap.size ≤ cb
  map : W.heap[mb2]? = some (.map #[] 0)
  own : W.heap[w.heap.size]? = some (.cells #[.pointer (some ⟨d, 0, none⟩)] 25 (0, 0))
  cl : Cl w c k2 d2 m W.heap.size [] W
theorem cs_of {c0 c1 : Col} {k2 d d2 cb mb2 : Nat} {m : ADisk} {X w1 W : World} {s1 s2 s3 : Value} (HC0 : Cx w c c0) (HC1 : ∀ b, w.heap.size ≤ b → c0 b = (k2, 0)) (hwX : w.heap.size ≤ X.heap.size) (HX : Cx X c0 c1) (HT : ∀ S, Kp c0 S X w1) (HP : PlanAt w1 c1 s1 s2 s3 m.plan)
    (hB : ∀ S, Kp c0 S w W) (hk : Kp c1 (fun q => q.1 = k2) w1 W) (hk20 : k2 ≠ 0) (hok : m.ok) (hm1 : w.heap.size ≤ mb2) (hm2 : mb2 < X.heap.size ∨ w1.heap.size ≤ mb2) (hd : w1.heap.size ≤ d2) (hlo : w.heap.size ≤ cb)
    (hmap : W.heap[mb2]? = some (.map #[] 0)) (hdisk : W.heap[d2]? = some (.cells #[.int .i64 1, .int .i64 m.plan.crash, s1, s2, s3, .int .i64 m.plan.room, .int .i64 m.ops, .bool m.dead, .map (some mb2)] 65 (0, 0)))
    (hbox : W.heap[cb]? = some (.cells #[.pointer (some ⟨d2, 0, none⟩)] 25 (0, 0))) (hown : W.heap[w.heap.size]? = some (.cells #[.pointer (some ⟨d, 0, none⟩)] 25 (0, 0))) : CS w c k2 d d2 cb mb2 m W := by
  have hX1 := (HT (fun _ => False)).size
  have h1 : Cx w1 c1 (fun b => if b < w1.heap.size then c1 b else (k2, 0)) := fun b hb => if_pos hb
  have hcx : Cx w c (fun b => if b < w1.heap.size then c1 b else (k2, 0)) := fun b hb => (h1 b (by omega)).trans ((HX b (by omega)).trans (HC0 b hb))
  have hok0 : ({ m with files := [] } : ADisk).ok := ⟨hok.ops0, (fun x hx => by cases hx), Nat.zero_le _, (fun x hx => by cases hx), List.Pairwise.nil⟩
  have hcm : (if mb2 < w1.heap.size then c1 mb2 else (k2, 0)) = (k2, 0) := by
    by_cases h : mb2 < w1.heap.size
    · rw [if_pos h, HX mb2 (by omega)]; exact HC1 mb2 hm1
    · rw [if_neg h]
  refine ⟨hbox, hlo, hmap, hown, ⟨⟨_, s1, s2, s3, mb2, #[], 0, fun _ => 0, hcx, ⟨hok0, hdisk, ?_, HP.kp hk (by simp; exact fun h => hk20 h.symm) h1, ⟨hmap, hcm, ⟨by simp, ⟨fun _ h => by simp at h, by simp, by simp⟩, fun _ h => by simp at h⟩, by simp, by simp, by simp⟩⟩, lt_of_heap hmap, hm1⟩, ?_, (fun z hz => by cases hz)⟩⟩
  · exact if_neg (by omega)
  · have h := hB (fun _ => False)
    exact ⟨h.os, h.tape, h.output, h.size, fun b hb => h.block b hb (fun h => h)⟩
def ClonePost (w : World) (c : Col) (k2 : Nat) (m : ADisk) (e : Ending) (w' : World) : Prop :=
  ∃ d2 c', e = .returned (.pointer (some ⟨d2, 0, none⟩)) ∧ Cx w c c' ∧ Below w.heap.size w w' ∧ DiskAt w' c' k2 d2 m
theorem clone_end {k2 d2 L0 D : Nat} {m : ADisk} {fs : List (Nm × AFile)} {Z : World} (h : Cl w c k2 d2 m L0 fs Z) (hL : w.heap.size ≤ L0) (hD : L0 ≤ D) (hK : Z.heap[D]? = some (.deferred (some []))) (hok : m.ok) (hall : ∀ y ∈ m.files, ∃ z ∈ fs, z.1 = y.1) :
    ClonePost w c k2 m (.returned (.pointer (some ⟨d2, 0, none⟩))) (Z.putObj D (.deferred none)) := by
  have h1 := h.grown hL (grownBy_putObj' Z D (.deferred none)) (fun r e => by cases e; exact ⟨hD, _, hK, rfl⟩)
  obtain ⟨⟨cW, vk, vf, vu, mb, es, ck, fb, hx, D1, h2, h3⟩, hb, hs⟩ := h1
  exact ⟨d2, cW, rfl, hx, hb, _, _, _, _, _, _, _, D1.swap (rising_perm D1.ok.rising hok.rising hs hall) hok⟩
set_option maxRecDepth 100000 in
set_option maxHeartbeats 8000000 in
theorem clone_c (k k2 d : Nat) (m : ADisk) (w : World) (DD : DiskAt w c k d m) (hk20 : k2 ≠ 0) (hops : m.ops ≤ 900000) (lk : m.plan.keep.length ≤ lim) (lf : m.plan.fail.length ≤ lim) (lu : m.plan.full.length ≤ lim) :
    Calls Try.prog 26 #[ptr d] w (ClonePost w c k2 m) := by
  obtain ⟨vk, vf, vu, mb, es, ck, fb, D⟩ := DD
  obtain ⟨ak, nk, rfl, -⟩ := id D.plan.keep
  obtain ⟨af, nf, rfl, -⟩ := id D.plan.fail
  obtain ⟨au, nu, rfl, -⟩ := id D.plan.full
  simp only [List.length_map] at D
  obtain ⟨c0, hc0⟩ : ∃ c0 : Col, c0 = fun b => if b < w.heap.size then c b else (k2, 0) := ⟨_, rfl⟩
  have HC0 : Hid (Cx w c c0) := by intro b hb; rw [hc0]; exact if_pos hb
  have HC1 : Hid (∀ b, w.heap.size ≤ b → c0 b = (k2, 0)) := by intro b hb; rw [hc0]; exact if_neg (by omega)
  clear hc0
  obtain ⟨Wd, hWd⟩ : ∃ Wd, Wd = w.alloc (.cells #[.pointer (some ⟨d, 0, none⟩)] 25) := ⟨_, rfl⟩
  have HWD := Lib.hid hWd
  have hws : Wd.heap.size = w.heap.size + 1 := by rw [hWd]; simp
  have HWS := Lib.hid hws; clear hws
  have HKD : Hid (∀ S, Kp c0 S w Wd) := fun S => by rw [hWd]; exact (Kp.refl _ _ _).alloc _
  have hkc : Kp c (fun _ => False) w Wd := by rw [hWd]; exact (Kp.refl _ _ _).alloc _
  have DW := D.kp hkc (fun _ h => h.elim) HC0.out
  clear hkc
  have hb : Wd.heap[w.heap.size]? = some (.cells #[.pointer (some ⟨d, 0, none⟩)] 25 (0, 0)) := by rw [hWd]; exact heap_alloc_new _ _
  clear hWd
  have HB := Lib.hid hb
  have hc0 := DW.c0
  have hS : ∀ X, Sd c0 Wd X → (Sd c0 Wd X ∧ X.cell? ⟨w.heap.size, 0, none⟩ = some (.pointer (some ⟨d, 0, none⟩)) ∧ X.cell? ⟨d, 1, none⟩ = some (.int .i64 m.plan.crash) ∧ X.cell? ⟨d, 2, none⟩ = some (.slice ak m.plan.keep.length nk) ∧ X.cell? ⟨d, 3, none⟩ = some (.slice af m.plan.fail.length nf) ∧
      X.cell? ⟨d, 4, none⟩ = some (.slice au m.plan.full.length nu) ∧ X.cell? ⟨d, 5, none⟩ = some (.int .i64 m.plan.room) ∧ X.cell? ⟨d, 6, none⟩ = some (.int .i64 m.ops) ∧ X.cell? ⟨d, 7, none⟩ = some (.bool m.dead)) := fun X h =>
    ⟨h, cell_of_heap ((h (fun _ => False)).heap hb (fun h => h)) 0, (h (fun _ => False)).cell DW.c1 (fun h => h), (h (fun _ => False)).cell DW.c2 (fun h => h), (h (fun _ => False)).cell DW.c3 (fun h => h), (h (fun _ => False)).cell DW.c4 (fun h => h), (h (fun _ => False)).cell DW.c5 (fun h => h), (h (fun _ => False)).cell DW.c6 (fun h => h), (h (fun _ => False)).cell DW.c7 (fun h => h)⟩
  clear hb
  have HSS := Lib.hid hS
  have HD := Lib.hid D; clear D
  have HOK := Lib.hid DW.ok
  have HDW := Lib.hid DW; clear DW
  have LK := Lib.hid lk; clear lk
  have LF := Lib.hid lf; clear lf
  have LU := Lib.hid lu; clear lu
  have HK2 := Lib.hid hk20; clear hk20
  have HOPS := Lib.hid hops; clear hops
  have hmm := @run_makeMap Try.prog
  have hz : Sd c0 Wd Wd.drew := fun S => (Kp.refl _ _ _).drew
  have HZ := Lib.hid hz
  clear hS hz
  unfold ptr
  refine (callsIn_wide (n := 5)).1 ?_
  refine callsIn_of_wp_marks Try.func26 rfl trivial ?_ rfl
  simp only [Try.ntmps26, List.size_toArray, List.length_cons, List.length_nil, Nat.reduceAdd, Nat.reduceSub, Array.replicate_succ, Array.replicate_zero, List.push_toArray, List.append_toArray, List.nil_append, List.cons_append]
  gi_wp2_with (refine ⟨trivial, ?_⟩; gi_at_call 37; rw [← HWD.out]; refine (callsIn_wide.2 (is_one _ _ hc0)).mono ?_; rintro e w' ⟨rfl, rfl⟩)
  clear hc0
  refine wpIn_wide.2 (Code.wp_mono (Q := fun e a W => e = .normal ∧ ∃ (cb d2 mb2 : Nat) (t10 t11 t12 t13 t14 t15 t16 t17 t18 t19 t20 t21 t22 t24 : Value), a = { tmps := #[.pointer (some ⟨d, 0, none⟩), .pointer (some ⟨w.heap.size, 0, none⟩), .pointer none, .pointer (some ⟨cb, 0, none⟩), undef, undef, undef, .pointer (some ⟨d, 0, none⟩), .bool true, .bool false, t10, t11, t12, t13, t14, t15, t16, t17, t18, t19, t20, t21, t22, .map (some mb2), t24, .pointer (some ⟨d2, 0, none⟩), undef, undef, undef, undef, undef, undef, undef, undef, undef, undef, undef, undef, undef, undef, undef, undef, undef, undef, undef, undef, undef, undef, undef, undef, undef, undef, undef, undef, undef, undef, undef, undef, undef, undef, undef, undef, undef, undef, undef, undef, undef], defers := [] } ∧ CS w c k2 d d2 cb mb2 m W) ?imp ?reg)
  case reg =>
    go_region_held3 (fun X => Sd c0 Wd X ∧ X.cell? ⟨w.heap.size, 0, none⟩ = some (.pointer (some ⟨d, 0, none⟩)) ∧ X.cell? ⟨d, 1, none⟩ = some (.int .i64 m.plan.crash) ∧ X.cell? ⟨d, 2, none⟩ = some (.slice ak m.plan.keep.length nk) ∧ X.cell? ⟨d, 3, none⟩ = some (.slice af m.plan.fail.length nf) ∧
        X.cell? ⟨d, 4, none⟩ = some (.slice au m.plan.full.length nu) ∧ X.cell? ⟨d, 5, none⟩ = some (.int .i64 m.plan.room) ∧ X.cell? ⟨d, 6, none⟩ = some (.int .i64 m.ops) ∧ X.cell? ⟨d, 7, none⟩ = some (.bool m.dead))
      (first
        | exact HSS.out _ HZ.out
        | (refine HSS.out _ ?_; repeat (first | assumption | exact sd_left (by assumption) | exact HZ.out | exact sd_refl _ _ | refine sda ?_ _ | refine sdr ?_ | refine sds ?_ (by omega))))
      (first
        | (go_at_call 31; refine (twin_s (by assumption) HDW.out.plan LK.out LF.out LU.out).mono ?_; rintro e w1 ⟨b1, b2, b3, l1, l2, l3, c1, rfl, hx, hk, hp, hsd⟩; have HX := Lib.hid hx; have HT := Lib.hid hk; have HP := Lib.hid hp; have hge := sd_ge hsd; (try (have bx := box_rules Wd.heap.size 25 (.pointer none) hk (by first | exact new_dr rfl | exact old_dr (new_at rfl)); obtain ⟨⟨x1, x2⟩, x3, x4⟩ := bx)); (try (have bx := box_rules (Wd.heap.size + 1) 25 (.pointer none) hk (new_dr1 _ _ _); obtain ⟨⟨x1, x2⟩, x3, x4⟩ := bx)); clear hx hk hp))
    all_goals
      have hwd := HWS.out
      have hsz := (HT.out S2F).size
      simp only [World.size_alloc, size_dr] at hsz
      refine ⟨rfl, _, _, _, _, _, _, _, _, _, _, _, _, _, _, _, _, _, rfl, cs_of HC0.out HC1.out ?_ HX.out HT.out HP.out ?_ ?_ HK2.out HOK.out ?_ ?_ ?_ ?_ ?_ ?_ ?_ ((sd_left (by assumption) S2F).heap HB.out (fun h => h))⟩
      · simp only [World.size_alloc, size_dr]; omega
      · exact fun S => (HKD.out S).trans (sd_left (by assumption) S) (Cx.refl _ _)
      · repeat (first | exact Kp.refl _ _ _ | refine Kp.alloc ?_ _ | refine kp_set HX.out HC1.out (by omega) (by simp only [World.size_alloc, size_dr]; omega) ?_)
      · omega
      · simp only [World.size_alloc, size_dr]; omega
      · omega
      · omega
      · repeat (first | exact new_at rfl | exact new2 _ _ _ | exact new3 _ _ _ _ | refine heap_alloc_old _ ?_ | refine set_other (by omega) ?_ | refine (HT.out S2F).heap ?_ (fun h => h) | refine dr_at ?_)
      · repeat (first | exact new_at rfl | exact new2 _ _ _ | exact new3 _ _ _ _ | refine heap_alloc_old _ ?_ | refine set_other (by omega) ?_ | refine (HT.out S2F).heap ?_ (fun h => h) | refine dr_at ?_)
      · repeat (first | exact new_at rfl | exact new2 _ _ _ | exact new3 _ _ _ _ | refine set_box (v0 := .pointer none) ?_ | refine heap_alloc_old _ ?_ | refine set_other (by omega) ?_ | refine (HT.out S2F).heap ?_ (fun h => h) | refine dr_at ?_)
  case imp =>
    rintro e a W ⟨rfl, cb, d2, mb2, t10, t11, t12, t13, t14, t15, t16, t17, t18, t19, t20, t21, t22, t24, rfl, hcs⟩
    have HCS := Lib.hid hcs; clear hcs
    obtain ⟨w4, hw4⟩ : ∃ w4, w4 = W.alloc (.cells #[.pointer (some ⟨d, 0, none⟩)] 25) := ⟨_, rfl⟩
    have hb4 : w4.cell? ⟨W.heap.size, 0, none⟩ = some (.pointer (some ⟨d, 0, none⟩)) := by rw [hw4]; exact cell_of_heap (heap_alloc_new _ _) 0
    have hc4 : w4.cell? ⟨cb, 0, none⟩ = some (.pointer (some ⟨d2, 0, none⟩)) := by rw [hw4]; exact cell_of_heap (heap_alloc_old _ HCS.out.box) 0
    have hd4 : w4.cell? ⟨w.heap.size, 0, none⟩ = some (.pointer (some ⟨d, 0, none⟩)) := by rw [hw4]; exact cell_of_heap (heap_alloc_old _ HCS.out.own) 0
    have hl4 : w.heap.size ≤ w4.heap.size := by have := HCS.out.cl.below.size; rw [hw4]; simp; omega
    have hcl4 : Cl w c k2 d2 m w4.heap.size [] w4 := by
      have h := HCS.out.cl
      obtain ⟨⟨cW, vk, vf, vu, mb', es', ck', fb', h1, D, h2, h3⟩, hbl, hs⟩ := h
      have h4 : Cl w c k2 d2 m w4.heap.size [] W := ⟨⟨cW, vk, vf, vu, mb', es', ck', fb', h1, D, by rw [hw4]; simp; omega, h3⟩, hbl, hs⟩
      rw [hw4] at h4 ⊢
      exact h4.grown (by rw [← hw4]; exact hl4) (World.grownBy_alloc _ _ none) (fun r e => by cases e)
    have hbox := cell_of_heap HCS.out.own 0
    gi_wp2_with (refine ⟨trivial, ?_⟩; gi_at_call 28; refine (callsIn_wide.2 (each_c _ _)).mono ?_; rintro e w' ⟨rfl, rfl⟩)
    rw [← hw4]
    have HW4 := Lib.hid hw4
    have HCL := Lib.hid hcl4
    have HC4 := Lib.hid hc4
    have HDD := Lib.hid hd4
    have HL4 := Lib.hid hl4
    have hD4 : ∃ c4, DiskAt w4 c4 k d m := by
      obtain ⟨⟨cW, vk, vf, vu, mb', es', ck', fb', h1, D, h2, h3⟩, hbl, hs⟩ := hcl4
      exact ⟨cW, DiskAt.kp ⟨_, _, _, _, _, _, _, HD.out⟩ (Kp.of_below (S := fun _ => False) hbl) (fun _ h => h.elim) h1⟩
    obtain ⟨c4, hD4⟩ := hD4
    clear hw4 hcl4 hc4 hd4 hl4 hbox
    refine wpIn_rangeFunc_ownG (α := { x : Nm × Nat // x ∈ heads m }) rfl (by omega) (gf := 59) (lb := #[.pointer (some ⟨W.heap.size, 0, none⟩)]) rfl trivial (enters_of Try.func59 (by kernel_rfl) rfl)
      (each1_stops (fun x : { x : Nm × Nat // x ∈ heads m } => x.1) 4 (by omega) W.heap.size (some ⟨d, 0, none⟩) (heads m).attach NX w4 hb4 (fun W' hW' => by rw [List.attach_map_subtype_val]; exact heads_disk hD4 (fun _ h => h.elim) W' hW')) (fun h k => kpx_t h k) (fun W l o o' h1 h2 h3 h4 => kpx_b W l o o' h1 h2 h3 h4) (Below.refl _ _) (fun x => rfl)
      (fun pre Y => (∃ fs, Cl w c k2 d2 m w4.heap.size fs Y ∧ fs.length ≤ pre.length ∧ ∀ x ∈ pre, ∃ z ∈ fs, z.1 = x.1.1) ∧ Y.cell? ⟨cb, 0, none⟩ = some (.pointer (some ⟨d2, 0, none⟩)) ∧ Y.cell? ⟨w.heap.size, 0, none⟩ = some (.pointer (some ⟨d, 0, none⟩))) (fun _ _ _ => False)
      ?hI (fun _ _ _ _ _ hs _ _ => hs) ?h0 ?a1 ?assign ?body ?done (fun _ _ _ _ _ _ h _ => h.elim)
    case hI =>
      intro s A B row hs hg hr
      obtain ⟨⟨fs, h1, h2, h3⟩, h4, h5⟩ := hs
      exact ⟨⟨fs, h1.grown HL4.out hg hr, h2, h3⟩, cell_kept h4 hg (fun r e => (hr r e).2), cell_kept h5 hg (fun r e => (hr r e).2)⟩
    case h0 => exact ⟨⟨[], HCL.out, Nat.zero_le _, fun x hx => by cases hx⟩, HC4.out, HDD.out⟩
    case a1 => exact fun x => { tmps := #[.pointer (some ⟨d, 0, none⟩), .pointer (some ⟨w.heap.size, 0, none⟩), .pointer none, .pointer (some ⟨cb, 0, none⟩), .string ⟨List.toArray x.1.1⟩, undef, undef, .pointer (some ⟨d, 0, none⟩), .bool true, .bool false, t10, t11, t12, t13, t14, t15, t16, t17, t18, t19, t20, t21, t22, .map (some mb2), t24, .pointer (some ⟨d2, 0, none⟩), .pointer (some ⟨d, 0, none⟩), .func (.func 59) #[] #[.pointer (some ⟨W.heap.size, 0, none⟩)], .string ⟨List.toArray x.1.1⟩, .int .i64 x.1.2, undef, undef, undef, undef, undef, undef, undef, undef, undef, undef, undef, undef, undef, undef, undef, undef, undef, undef, undef, undef, undef, undef, undef, undef, undef, undef, undef, undef, undef, undef, undef, undef, undef, undef, undef, undef, undef], defers := [] }
    case assign =>
      rintro l x Y K hK
      gi_wp2
      exact hK
    case body =>
      rintro l pre x Y ⟨⟨fs, hcl, hln, hall⟩, hcb, hwd⟩ hlt
      obtain ⟨x, hx⟩ := x
      obtain ⟨f, hmem⟩ : ∃ f, (x.1, f) ∈ m.files := by
        unfold heads files at hx
        split at hx
        · simp at hx
        · simp only [List.map_map, List.mem_map] at hx
          obtain ⟨y, hy, e⟩ := hx
          exact ⟨y.2, by rw [← e]; exact hy⟩
      have hl4096 : fs.length < 4096 := by
        rw [List.length_attach] at hlt
        have h1 : (heads m).length ≤ 4096 := by
          unfold heads files
          split
          · simp
          · simp only [List.length_map]; exact HOK.out.many
        omega
      have hclr := hcl.grown HL4.out (row := none) (W' := Y.drew) ⟨rfl, rfl, rfl, Nat.le_refl _, fun _ _ _ => rfl⟩ (fun r e => by cases e)
      obtain ⟨mb3, hc8, hst⟩ := hclr.step HK2.out HD.out HOPS.out
      have hst := hst x.1 f hmem hl4096
      have hY := hcl.below
      obtain ⟨cY, hDY⟩ : ∃ cY, DiskAt' Y.drew cY k d m (.slice ak m.plan.keep.length nk) (.slice af m.plan.fail.length nf) (.slice au m.plan.full.length nu) mb es ck fb := by
        obtain ⟨⟨cW, vk, vf, vu, mb', es', ck', fb', h1, D, h2, h3⟩, hbl, hs⟩ := hclr
        exact ⟨cW, HD.out.kp (Kp.of_below (S := fun _ => False) hbl) (fun _ h => h.elim) h1⟩
      have hd8 : Y.cell? ⟨d, 8, none⟩ = some (.map (some mb)) := hDY.c8
      have hlk := look_hit hDY.map hDY.ok.rising (by have := hDY.ok.names _ hmem; unfold maxLen; omega) (get_of_mem hDY.ok.rising hmem)
      have hc8' : Y.cell? ⟨d2, 8, none⟩ = some (.map (some mb3)) := hc8
      have HST := Lib.hid hst
      have HCL' := Lib.hid hcl
      have HALL := Lib.hid hall
      have HLN := Lib.hid hln
      have HDY := Lib.hid hDY
      have HMEM := Lib.hid hmem
      have hcl2' : Below w.heap.size w Y.drew := hclr.below
      clear hcl hall hln hst hclr hY hc8 hDY hmem hlt hl4096 hD4 hb4
      unfold str ptr at hlk
      have hS0 : Hid ((fun X => X.cell? ⟨cb, 0, none⟩ = some (.pointer (some ⟨d2, 0, none⟩)) ∧ X.cell? ⟨w.heap.size, 0, none⟩ = some (.pointer (some ⟨d, 0, none⟩)) ∧ X.cell? ⟨d, 8, none⟩ = some (.map (some mb)) ∧ X.cell? ⟨d2, 8, none⟩ = some (.map (some mb3)) ∧ (Instr.lookup 63 (.map (some mb)) (.string ⟨List.toArray x.1⟩) false).run Try.prog X = .ok (.pointer (some ⟨fb x.1, 0, none⟩)) X) Y.drew) := ⟨hcb, hwd, hd8, hc8', hlk⟩
      clear hlk hcb hwd hd8 hc8'
      gi_wp2
      refine region_round (S := fun X => X.cell? ⟨cb, 0, none⟩ = some (.pointer (some ⟨d2, 0, none⟩)) ∧ X.cell? ⟨w.heap.size, 0, none⟩ = some (.pointer (some ⟨d, 0, none⟩)) ∧ X.cell? ⟨d, 8, none⟩ = some (.map (some mb)) ∧ X.cell? ⟨d2, 8, none⟩ = some (.map (some mb3)) ∧ (Instr.lookup 63 (.map (some mb)) (.string ⟨List.toArray x.1⟩) false).run Try.prog X = .ok (.pointer (some ⟨fb x.1, 0, none⟩)) X) (by kernel_rfl) ?nd (fun _ _ h => h) ?go
      case nd =>
        intro i o c h e
        have hm := Array.mem_of_getElem? h
        simp only [List.mem_toArray, List.mem_cons, List.not_mem_nil, or_false] at hm
        rcases hm with rfl | rfl | rfl | rfl | rfl | rfl | rfl | rfl | rfl | rfl | rfl | rfl | rfl <;> cases e
      case go =>
        refine wpAnyH_take (i := 0) (oi := _) (v := .pointer (some ⟨d2, 0, none⟩)) rfl (by kernel_rfl) (by kernel_rfl) (by kernel_rfl) (fun _ _ _ h => h) (Or.inl ⟨by rfl, fun X hX => ?_⟩) hS0.out ?_
        · obtain ⟨x1, x2, x3, x4, x5⟩ := hX
          go_simp
        simp only [Act.put, List.setIfInBounds_toArray]
        refine wpAnyH_take (i := 1) (oi := _) (v := .pointer (some ⟨d2, 0, none⟩)) rfl (by kernel_rfl) (by kernel_rfl) (by kernel_rfl) (fun _ _ _ h => h) (Or.inl ⟨by rfl, fun X hX => ?_⟩) hS0.out ?_
        · obtain ⟨x1, x2, x3, x4, x5⟩ := hX
          go_simp
        simp only [Act.put]
        refine wpAnyH_take (i := 2) (oi := _) (v := .pointer (some ⟨d2, 8, none⟩)) rfl (by kernel_rfl) (by kernel_rfl) (by kernel_rfl) (fun _ _ _ h => h) (Or.inl ⟨by rfl, fun X hX => ?_⟩) hS0.out ?_
        · obtain ⟨x1, x2, x3, x4, x5⟩ := hX
          go_simp
        simp only [Act.put]
        refine wpAnyH_take (i := 3) (oi := _) (v := .map (some mb3)) rfl (by kernel_rfl) (by kernel_rfl) (by kernel_rfl) (fun _ _ _ h => h) (Or.inl ⟨by rfl, fun X hX => ?_⟩) hS0.out ?_
        · obtain ⟨x1, x2, x3, x4, x5⟩ := hX
          go_simp
        simp only [Act.put]
        refine wpAnyH_take (i := 4) (oi := _) (v := .string ⟨List.toArray x.1⟩) rfl (by kernel_rfl) (by kernel_rfl) (by kernel_rfl) (fun _ _ _ h => h) (Or.inl ⟨by rfl, fun X hX => ?_⟩) hS0.out ?_
        · obtain ⟨x1, x2, x3, x4, x5⟩ := hX
          go_simp
        simp only [Act.put]
        refine wpAnyH_take (i := 5) (oi := _) (v := .pointer (some ⟨d, 0, none⟩)) rfl (by kernel_rfl) (by kernel_rfl) (by kernel_rfl) (fun _ _ _ h => h) (Or.inl ⟨by rfl, fun X hX => ?_⟩) hS0.out ?_
        · obtain ⟨x1, x2, x3, x4, x5⟩ := hX
          go_simp
        simp only [Act.put]
        refine wpAnyH_take (i := 6) (oi := _) (v := .pointer (some ⟨d, 0, none⟩)) rfl (by kernel_rfl) (by kernel_rfl) (by kernel_rfl) (fun _ _ _ h => h) (Or.inl ⟨by rfl, fun X hX => ?_⟩) hS0.out ?_
        · obtain ⟨x1, x2, x3, x4, x5⟩ := hX
          go_simp
        simp only [Act.put]
        refine wpAnyH_take (i := 7) (oi := _) (v := .pointer (some ⟨d, 8, none⟩)) rfl (by kernel_rfl) (by kernel_rfl) (by kernel_rfl) (fun _ _ _ h => h) (Or.inl ⟨by rfl, fun X hX => ?_⟩) hS0.out ?_
        · obtain ⟨x1, x2, x3, x4, x5⟩ := hX
          go_simp
        simp only [Act.put]
        refine wpAnyH_take (i := 8) (oi := _) (v := .map (some mb)) rfl (by kernel_rfl) (by kernel_rfl) (by kernel_rfl) (fun _ _ _ h => h) (Or.inl ⟨by rfl, fun X hX => ?_⟩) hS0.out ?_
        · obtain ⟨x1, x2, x3, x4, x5⟩ := hX
          go_simp
        simp only [Act.put]
        refine wpAnyH_take (i := 9) (oi := _) (v := .string ⟨List.toArray x.1⟩) rfl (by kernel_rfl) (by kernel_rfl) (by kernel_rfl) (fun _ _ _ h => h) (Or.inl ⟨by rfl, fun X hX => ?_⟩) hS0.out ?_
        · obtain ⟨x1, x2, x3, x4, x5⟩ := hX
          go_simp
        simp only [Act.put]
        refine wpAnyH_take (i := 10) (oi := _) (v := .pointer (some ⟨fb x.1, 0, none⟩)) rfl (by kernel_rfl) (by kernel_rfl) (by kernel_rfl) (fun _ _ _ h => h) (Or.inl ⟨by rfl, fun X hX => ?_⟩) hS0.out ?_
        · obtain ⟨x1, x2, x3, x4, x5⟩ := hX
          go_simp
        simp only [Act.put]
        refine wpAnyH_ready (rs := [11]) (by kernel_rfl) (by simp) ?_
        refine AllReadyH.cons rfl (fun K' hK' => ?_) AllReadyH.nil
        go_simp
        refine HST.out.mono ?_
        rintro e W1 ⟨nb, W2, he, k8, hb1, hmu, hcl2, hk2, hf2⟩
        unfold ptr at he hmu
        unfold str at hmu
        subst he
        have hlkk : ∀ X, Below w.heap.size w X → (Instr.lookup 63 (.map (some mb)) (.string ⟨List.toArray x.1⟩) false).run Try.prog X = .ok (.pointer (some ⟨fb x.1, 0, none⟩)) X ∧ X.cell? ⟨d, 8, none⟩ = some (.map (some mb)) := fun X hX => by
          have D' := HD.out.kp (Kp.of_below (S := fun _ => False) hX) (fun _ h => h.elim) (Cx.refl _ _)
          exact ⟨look_hit D'.map D'.ok.rising (by have h : x.1.length ≤ 32 := D'.ok.names _ HMEM.out; unfold maxLen; omega) (get_of_mem D'.ok.rising HMEM.out), D'.c8⟩
        have hw1 : Below w.heap.size w W1 := (hcl2' : Below w.heap.size w Y.drew).trans (hb1.mono (hcl2').size)
        have kx : KpX NX Y.drew W1 := kpx_below hb1
        refine hK'.out _ _ ⟨kx.cell hS0.out.1 (fun h => h), kx.cell hS0.out.2.1 (fun h => h), (hlkk W1 hw1).2, k8, (hlkk W1 hw1).1⟩ (fun _ => ?_)
        refine wpAnyH_ready (rs := [12]) (by kernel_rfl) (by simp) ?_
        refine AllReadyH.cons rfl (fun K' hK' => ?_) AllReadyH.nil
        go_simp
        have hc2 : W2.cell? ⟨d2, 8, none⟩ = some (.map (some mb3)) := hk2.cell hS0.out.2.2.2.1 (fun h => h)
        refine hK'.out _ _ ⟨hk2.cell hS0.out.1 (fun h => h), hk2.cell hS0.out.2.1 (fun h => h), (hlkk W2 hcl2.below).2, hc2, (hlkk W2 hcl2.below).1⟩ (fun _ => ?_)
        refine wpAnyH_done (by kernel_rfl) ?_ _
        refine ⟨⟨hf2.size, hf2.same⟩, ⟨hk2.1, hk2.2⟩, ⟨_, hcl2, ?_, fun y hy => ?_⟩, hk2.cell hS0.out.1 (fun h => h), hk2.cell hS0.out.2.1 (fun h => h)⟩
        · have h := cl_len (fs := fs) x.1 f
          have := HLN.out
          rw [List.length_append, List.length_singleton]; omega
        · refine cl_has x.1 f y.1.1 ?_
          rcases List.mem_append.1 hy with h | h
          · exact .inr (HALL.out y h)
          · rw [List.mem_singleton] at h
            exact .inl (by rw [h])
    case done =>
      rintro D ys Z hD rfl ⟨⟨fs, hcl, hln, hall⟩, hcb, hwd⟩ hK
      have hbl := hcl.below
      obtain ⟨cZ, hDZ⟩ : ∃ cZ, DiskAt' Z cZ k d m (.slice ak m.plan.keep.length nk) (.slice af m.plan.fail.length nf) (.slice au m.plan.full.length nu) mb es ck fb :=
        ⟨c, HD.out.kp (Kp.of_below (S := fun _ => False) hbl) (fun _ h => h.elim) (Cx.refl _ _)⟩
      have h7 := hDZ.c7
      have h8 := hDZ.c8
      cases hdead : m.dead with
      | false =>
        rw [hdead] at h7
        have HCLZ := Lib.hid hcl
        have HALL := Lib.hid hall
        have HKK := Lib.hid hK
        have HDE := Lib.hid hdead
        have HDD2 := Lib.hid hD
        clear hcl hall hln hK hbl hDZ h8 hdead hD4 hb4 hD
        gi_wp2
        refine ⟨by simp, .inl ⟨_, _, rfl, run_takeDeferred HKK.out, ?_⟩⟩
        refine ⟨_, results_tmp rfl _ _ _, ?_⟩
        refine clone_end HCLZ.out HL4.out HDD2.out HKK.out HOK.out fun y hy => ?_
        have hm : (y.1, y.2.now.length) ∈ heads m := by
          unfold heads files
          rw [HDE.out]
          simp only [Bool.false_eq_true, if_false, List.map_map, List.mem_map]
          exact ⟨y, hy, rfl⟩
        obtain ⟨z, hz, e⟩ := HALL.out ⟨_, hm⟩ (List.mem_attach _ _)
        exact ⟨z, hz, e⟩
      | true =>
        rw [hdead] at h7
        have hf0 : fs = [] := by
          have h : (heads m) = [] := by unfold heads files; rw [hdead]; rfl
          rw [List.length_attach, h] at hln
          exact List.eq_nil_of_length_eq_zero (Nat.le_zero.1 hln)
        subst hf0
        have hnm := names_c k d m _ _ _ mb es ck fb Z hDZ
        have hlen : (m.files.length : Int) ≤ 4096 := by have := HOK.out.many; omega
        have HNM := Lib.hid hnm
        have HCLZ := Lib.hid hcl
        have HKK := Lib.hid hK
        have HDD2 := Lib.hid hD
        clear hcl hall hln hK hbl hDZ h8 hdead hD4 hb4 hD hnm
        unfold ptr at HNM
        gi_wp2_with (refine ⟨trivial, ?_⟩; gi_at_call 58; refine (callsIn_wide.2 HNM.out).mono ?_; rintro e Z2 ⟨v, rfl, hown, hbl⟩; (obtain ⟨an, kn, rfl, -⟩ := Sc.of_owns (c := fun _ => (0, 0)) (q := (0, 0)) hown (fun _ _ => rfl)); have HOW := Lib.hid hown; have HBL := Lib.hid hbl; clear hown hbl)
        gi_loopw [49] (fun s wr => ∃ j : Nat, j ≤ m.files.length ∧ s = .int .i64 j ∧ (∃ fs, Cl w c k2 d2 m w4.heap.size fs wr ∧ fs.length ≤ j ∧ ∀ y ∈ m.files.take j, ∃ z ∈ fs, z.1 = y.1) ∧ wr.cell? ⟨cb, 0, none⟩ = some (.pointer (some ⟨d2, 0, none⟩)) ∧ wr.cell? ⟨w.heap.size, 0, none⟩ = some (.pointer (some ⟨d, 0, none⟩)) ∧
            wr.ownsRow 0 9 1 (.slice an ((m.files.map (·.1)).map str).length kn) m.files.length ((m.files.map (·.1)).map str) ∧ wr.heap[D]? = some (.deferred (some []))) (fun s _ => m.files.length - (intOf s).toNat)
        case atStart =>
          have hk : KpX NX Z Z2 := kpx_below HBL.out
          have hD4 := HDD2.out
          refine ⟨0, Nat.zero_le _, rfl, ⟨[], HCLZ.out.grown HL4.out (row := none) ⟨HBL.out.os, HBL.out.tape, HBL.out.output, HBL.out.size, fun b hb _ => HBL.out.block b hb⟩ (fun r e => by cases e), Nat.le_refl _, fun y hy => by simp at hy⟩, hk.cell hcb (fun h => h), hk.cell hwd (fun h => h), own_zero HOW.out, (HBL.out.block D (lt_of_heap HKK.out)).trans HKK.out⟩
        case round =>
          obtain ⟨j, hj, rfl, ⟨fs, hcl, hln, hall⟩, hcb, hwd, hown, hK⟩ := hrel
          have HCL2 := Lib.hid hcl
          have HLN := Lib.hid hln
          have HALL := Lib.hid hall
          have HOWN := Lib.hid hown
          have HKR := Lib.hid hK
          by_cases hlt : j < m.files.length
          · obtain ⟨x, hx⟩ : ∃ x, m.files[j]? = some x := ⟨m.files[j], List.getElem?_eq_getElem hlt⟩
            have hmem : (x.1, x.2) ∈ m.files := List.mem_of_getElem? hx
            have hl4096 : fs.length < 4096 := by omega
            have hclr := hcl.grown HL4.out (row := none) (W' := wr.drew) ⟨rfl, rfl, rfl, Nat.le_refl _, fun _ _ _ => rfl⟩ (fun r e => by cases e)
            obtain ⟨mb3, hc8, hst⟩ := hclr.step HK2.out HD.out HOPS.out
            have hst := hst x.1 x.2 hmem hl4096
            have hcl2' : Below w.heap.size w wr.drew := hclr.below
            have hlkk : ∀ X, Below w.heap.size w X → (Instr.lookup 63 (.map (some mb)) (.string ⟨List.toArray x.1⟩) false).run Try.prog X = .ok (.pointer (some ⟨fb x.1, 0, none⟩)) X ∧ X.cell? ⟨d, 8, none⟩ = some (.map (some mb)) := fun X hX => by
              have D' := HD.out.kp (Kp.of_below (S := fun _ => False) hX) (fun _ h => h.elim) (Cx.refl _ _)
              exact ⟨look_hit D'.map D'.ok.rising (by have h : x.1.length ≤ 32 := D'.ok.names _ hmem; unfold maxLen; omega) (get_of_mem D'.ok.rising hmem), D'.c8⟩
            have hS0 : Hid ((fun X => X.cell? ⟨cb, 0, none⟩ = some (.pointer (some ⟨d2, 0, none⟩)) ∧ X.cell? ⟨w.heap.size, 0, none⟩ = some (.pointer (some ⟨d, 0, none⟩)) ∧ X.cell? ⟨d, 8, none⟩ = some (.map (some mb)) ∧ X.cell? ⟨d2, 8, none⟩ = some (.map (some mb3)) ∧ (Instr.lookup 63 (.map (some mb)) (.string ⟨List.toArray x.1⟩) false).run Try.prog X = .ok (.pointer (some ⟨fb x.1, 0, none⟩)) X) wr.drew) := ⟨hcb, hwd, (hlkk _ hcl2').2, hc8, (hlkk _ hcl2').1⟩
            obtain ⟨g, rfl⟩ : ∃ g, an = some ⟨g, 0, none⟩ := by
              rcases hown.2 with ⟨_, h0⟩ | ⟨g, cap, cur, e, _⟩
              · omega
              · injection e with e _ _; exact ⟨g, e⟩
            have g0 : wr.cell? ⟨g, j, none⟩ = some (.string ⟨List.toArray x.1⟩) := by
              have h := hown.cells (g := g) rfl j (str x.1) (by rw [List.getElem?_map, List.getElem?_map, hx]; rfl)
              rw [add_eq rfl] at h
              simpa [str] using h
            have HST := Lib.hid hst
            have HLK := Lib.hid hlkk
            have HB2 := Lib.hid hcl2'
            have HX := Lib.hid hx
            clear hcl hln hall hown hK hst hclr hc8 hcb hwd hmem hl4096 hlkk hcl2' hx
            gi_wp2
            refine region_wide (S := fun X => X.cell? ⟨cb, 0, none⟩ = some (.pointer (some ⟨d2, 0, none⟩)) ∧ X.cell? ⟨w.heap.size, 0, none⟩ = some (.pointer (some ⟨d, 0, none⟩)) ∧ X.cell? ⟨d, 8, none⟩ = some (.map (some mb)) ∧ X.cell? ⟨d2, 8, none⟩ = some (.map (some mb3)) ∧ (Instr.lookup 63 (.map (some mb)) (.string ⟨List.toArray x.1⟩) false).run Try.prog X = .ok (.pointer (some ⟨fb x.1, 0, none⟩)) X) (by kernel_rfl) ?_
            refine wpAnyH_take (i := 0) (oi := _) (v := .pointer (some ⟨d2, 0, none⟩)) rfl (by kernel_rfl) (by kernel_rfl) (by kernel_rfl) (fun _ _ _ h => h) (Or.inl ⟨by rfl, fun X hX => ?_⟩) hS0.out ?_
            · obtain ⟨x1, x2, x3, x4, x5⟩ := hX
              go_simp
            simp only [Act.put, List.setIfInBounds_toArray]
            refine wpAnyH_take (i := 1) (oi := _) (v := .pointer (some ⟨d2, 0, none⟩)) rfl (by kernel_rfl) (by kernel_rfl) (by kernel_rfl) (fun _ _ _ h => h) (Or.inl ⟨by rfl, fun X hX => ?_⟩) hS0.out ?_
            · obtain ⟨x1, x2, x3, x4, x5⟩ := hX
              go_simp
            simp only [Act.put]
            refine wpAnyH_take (i := 2) (oi := _) (v := .pointer (some ⟨d2, 8, none⟩)) rfl (by kernel_rfl) (by kernel_rfl) (by kernel_rfl) (fun _ _ _ h => h) (Or.inl ⟨by rfl, fun X hX => ?_⟩) hS0.out ?_
            · obtain ⟨x1, x2, x3, x4, x5⟩ := hX
              go_simp
            simp only [Act.put]
            refine wpAnyH_take (i := 3) (oi := _) (v := .map (some mb3)) rfl (by kernel_rfl) (by kernel_rfl) (by kernel_rfl) (fun _ _ _ h => h) (Or.inl ⟨by rfl, fun X hX => ?_⟩) hS0.out ?_
            · obtain ⟨x1, x2, x3, x4, x5⟩ := hX
              go_simp
            simp only [Act.put]
            refine wpAnyH_take (i := 4) (oi := _) (v := .string ⟨List.toArray x.1⟩) rfl (by kernel_rfl) (by kernel_rfl) (by kernel_rfl) (fun _ _ _ h => h) (Or.inl ⟨by rfl, fun X hX => ?_⟩) hS0.out ?_
            · obtain ⟨x1, x2, x3, x4, x5⟩ := hX
              go_simp
            simp only [Act.put]
            refine wpAnyH_take (i := 5) (oi := _) (v := .pointer (some ⟨d, 0, none⟩)) rfl (by kernel_rfl) (by kernel_rfl) (by kernel_rfl) (fun _ _ _ h => h) (Or.inl ⟨by rfl, fun X hX => ?_⟩) hS0.out ?_
            · obtain ⟨x1, x2, x3, x4, x5⟩ := hX
              go_simp
            simp only [Act.put]
            refine wpAnyH_take (i := 6) (oi := _) (v := .pointer (some ⟨d, 0, none⟩)) rfl (by kernel_rfl) (by kernel_rfl) (by kernel_rfl) (fun _ _ _ h => h) (Or.inl ⟨by rfl, fun X hX => ?_⟩) hS0.out ?_
            · obtain ⟨x1, x2, x3, x4, x5⟩ := hX
              go_simp
            simp only [Act.put]
            refine wpAnyH_take (i := 7) (oi := _) (v := .pointer (some ⟨d, 8, none⟩)) rfl (by kernel_rfl) (by kernel_rfl) (by kernel_rfl) (fun _ _ _ h => h) (Or.inl ⟨by rfl, fun X hX => ?_⟩) hS0.out ?_
            · obtain ⟨x1, x2, x3, x4, x5⟩ := hX
              go_simp
            simp only [Act.put]
            refine wpAnyH_take (i := 8) (oi := _) (v := .map (some mb)) rfl (by kernel_rfl) (by kernel_rfl) (by kernel_rfl) (fun _ _ _ h => h) (Or.inl ⟨by rfl, fun X hX => ?_⟩) hS0.out ?_
            · obtain ⟨x1, x2, x3, x4, x5⟩ := hX
              go_simp
            simp only [Act.put]
            refine wpAnyH_take (i := 9) (oi := _) (v := .string ⟨List.toArray x.1⟩) rfl (by kernel_rfl) (by kernel_rfl) (by kernel_rfl) (fun _ _ _ h => h) (Or.inl ⟨by rfl, fun X hX => ?_⟩) hS0.out ?_
            · obtain ⟨x1, x2, x3, x4, x5⟩ := hX
              go_simp
            simp only [Act.put]
            refine wpAnyH_take (i := 10) (oi := _) (v := .pointer (some ⟨fb x.1, 0, none⟩)) rfl (by kernel_rfl) (by kernel_rfl) (by kernel_rfl) (fun _ _ _ h => h) (Or.inl ⟨by rfl, fun X hX => ?_⟩) hS0.out ?_
            · obtain ⟨x1, x2, x3, x4, x5⟩ := hX
              go_simp
            simp only [Act.put]
            refine wpAnyH_ready (rs := [11]) (by kernel_rfl) (by simp) ?_
            refine AllReadyH.cons rfl (fun K' hK' => ?_) AllReadyH.nil
            go_simp
            refine HST.out.mono ?_
            rintro e W1 ⟨nb, W2, he, k8, hb1, hmu, hcl2, hk2, hf2⟩
            unfold ptr at he hmu
            unfold str at hmu
            subst he
            have hw1 : Below w.heap.size w W1 := HB2.out.trans (hb1.mono HB2.out.size)
            have kx : KpX NX wr.drew W1 := kpx_below hb1
            refine hK'.out _ _ ⟨kx.cell hS0.out.1 (fun h => h), kx.cell hS0.out.2.1 (fun h => h), (HLK.out W1 hw1).2, k8, (HLK.out W1 hw1).1⟩ (fun _ => ?_)
            refine wpAnyH_ready (rs := [12]) (by kernel_rfl) (by simp) ?_
            refine AllReadyH.cons rfl (fun K' hK' => ?_) AllReadyH.nil
            go_simp
            have hc2 : W2.cell? ⟨d2, 8, none⟩ = some (.map (some mb3)) := hk2.cell hS0.out.2.2.2.1 (fun h => h)
            refine hK'.out _ _ ⟨hk2.cell hS0.out.1 (fun h => h), hk2.cell hS0.out.2.1 (fun h => h), (HLK.out W2 hcl2.below).2, hc2, (HLK.out W2 hcl2.below).1⟩ (fun _ => ?_)
            refine wpAnyH_done (by kernel_rfl) (NoPanic.normal ?_) _
            have hc1 : W2.cell? ⟨cb, 0, none⟩ = some (.pointer (some ⟨d2, 0, none⟩)) := hk2.cell hS0.out.1 (fun h => h)
            have hc3 : W2.cell? ⟨w.heap.size, 0, none⟩ = some (.pointer (some ⟨d, 0, none⟩)) := hk2.cell hS0.out.2.1 (fun h => h)
            have HCL3 := Lib.hid hcl2
            have HK3 := Lib.hid hk2
            have HF3 := Lib.hid hf2
            clear hcl2 hk2 hf2 hmu k8 hb1 hw1 kx hc2 hK' g0
            have HC1 := Lib.hid hc1
            have HC3 := Lib.hid hc3
            clear hc1 hc3
            gi_wp2
            go_roundw
            case rel =>
              refine ⟨j + 1, by omega, by go_num, ⟨_, HCL3.out, ?_, fun y hy => ?_⟩, HC1.out, HC3.out, owns_ck (owns_ck HOWN.out (⟨Nat.le_refl _, fun _ _ _ _ h _ => h⟩ : KpX NX wr wr.drew)) HK3.out, HF3.out.same D _ HDD2.out HKR.out rfl⟩
              · have h := cl_len (fs := fs) x.1 x.2
                have := HLN.out
                omega
              · rw [List.take_add_one, HX.out] at hy
                refine cl_has x.1 x.2 y.1 ?_
                rcases List.mem_append.1 hy with h | h
                · exact .inr (HALL.out y h)
                · simp at h
                  exact .inl (by rw [h])
            case measure => simp [intOf]; omega
          · obtain rfl : j = m.files.length := by omega
            clear hcl hln hall hown hK hwd
            gi_wp2
            refine ⟨by simp, .inl ⟨_, _, rfl, run_takeDeferred HKR.out, ?_⟩⟩
            refine ⟨_, results_tmp rfl _ _ _, ?_⟩
            refine clone_end HCL2.out HL4.out HDD2.out HKR.out HOK.out fun y hy => HALL.out y (by rw [List.take_length]; exact hy)
end Go.Proofs.Ytepphepcaphlkaa
