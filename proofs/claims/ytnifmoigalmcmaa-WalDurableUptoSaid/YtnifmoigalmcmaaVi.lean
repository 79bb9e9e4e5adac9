/- WalDurable: the walk. -/
import Derived.Test.YtnifmoigalmcmaaVh
import Derived.Test.YtnifmoigalmcmaaYl
namespace Go.Proofs.Ytnifmoigalmcmaa
open Go Go.RowKit Dk
open Wl
variable {c c' : Col} {w w' : World} {S : Nat × Nat → Prop} {q : Nat × Nat}
def LOGn : Nm := [76, 79, 71]
/-- A log over its disk, both beside old memory. -/
structure Dur (K : Bs → Bs) (w wr : World) (d lb : Nat) (p : APlan) (o : Int) (cr : Col) (vl : Value) (G : List (List Bs)) : Prop where
  kp : ∀ c S, Kp c S w wr
  cx : Cx w c00 cr
  disk : DiskAt wr cr 1 d (logDisk p o LOGn (encs K 0 G))
  log : LogAt wr cr 2 lb d LOGn vl G (encs K 0 G).length false
theorem Dur.new {K : Bs → Bs} {wr w2 : World} {d lb : Nat} {p : APlan} {o : Int} {cr : Col} {vl : Value} {G : List (List Bs)} (h : Dur K w wr d lb p o cr vl G) (hk : ∀ c S, Kp c S wr w2) : Dur K w w2 d lb p o (newCol wr cr (0, 0)) vl G :=
  ⟨fun c S => (h.kp c S).alloc_trans (hk c S), h.cx.trans (newCol_cx _ _ _) (h.kp c00 (fun _ => False)).size, h.disk.kp (hk cr (fun _ => False)) (fun _ h => h.elim) (newCol_cx _ _ _), h.log.kp (hk cr (fun _ => False)) (fun h => h) (fun h => h) (fun h => h) (newCol_cx _ _ _)⟩
theorem filter_succ (l : List (List Bs)) (i : Nat) (h : i < l.length) : (l.take (i + 1)).filter good = if good l[i] = true then (l.take i).filter good ++ [l[i]] else (l.take i).filter good := by
  rw [List.take_succ_eq_append_getElem h, List.filter_append]
  by_cases hg : good l[i] = true
  · rw [if_pos hg]; simp [hg]
  · rw [if_neg hg]; simp [hg]
theorem rtwin_v {p : APlan} {ak af au : Option Addr} {nk nf nu : Nat} (hp : PlanW w c (.slice ak p.keep.length nk) (.slice af p.fail.length nf) (.slice au p.full.length nu) p) (lk : p.keep.length ≤ lim) (lf : p.fail.length ≤ lim) (lu : p.full.length ≤ lim) :
    Calls Try.prog 17 #[.agg #[.int .i64 p.crash, .slice ak p.keep.length nk, .slice af p.fail.length nf, .slice au p.full.length nu, .int .i64 p.room]] w fun e w' => ∃ b1 l1 b2 l2 b3 l3 c', e = .returned (.agg #[.int .i64 p.crash, .slice b1 p.keep.length l1, .slice b2 p.fail.length l2, .slice b3 p.full.length l3, .int .i64 p.room]) ∧ Cx w c c' ∧ (∀ S, Kp c S w w') ∧ PlanAt w' c' (.slice b1 p.keep.length l1) (.slice b2 p.fail.length l2) (.slice b3 p.full.length l3) p := by
  refine (rtwin_c p _ _ _ w hp lk lf lu).mono ?_
  rintro e w' ⟨vk, vf, vu, c', rfl, hc, hk, hpl⟩
  obtain ⟨b1, l1, rfl, -⟩ := id hpl.keep
  obtain ⟨b2, l2, rfl, -⟩ := id hpl.fail
  obtain ⟨b3, l3, rfl, -⟩ := id hpl.full
  simp only [List.length_map] at hpl
  exact ⟨b1, l1, b2, l2, b3, l3, c', by simp only [List.length_map]; rfl, hc, hk, hpl⟩
theorem hc2w3 {w1 w2 : World} {c2 c3 : Col} (h2 : Cx w1 c00 c2) (k1 : ∀ c S, Kp c S w w1) (k2 : ∀ c S, Kp c S w w2) (h3 : Cx w2 c2 c3) : Cx w c00 c3 := fun b hb =>
  (h3 b (Nat.lt_of_lt_of_le hb (k2 c00 (fun _ => False)).size)).trans (h2 b (Nat.lt_of_lt_of_le hb (k1 c00 (fun _ => False)).size))
theorem encs_push (K : Bs → Bs) (G : List (List Bs)) (x : List Bs) : encs K 0 (G ++ [x]) = encs K 0 G ++ enc K G.length x := by rw [encs_append]; simp [encs]
theorem Dur.push {K : Bs → Bs} {wr w2 : World} {d lb : Nat} {p : APlan} {o : Int} {cr c2 : Col} {vl v2 : Value} {G : List (List Bs)} {x : List Bs} (h : Dur K w wr d lb p o cr vl G) (hc : Cx wr cr c2) (hk : Kp cr (fun q => q.1 = 1 ∨ q.1 = 2) wr w2)
    (hd : DiskAt w2 c2 1 d (logDisk p (o + 2) LOGn (encs K 0 G ++ enc K G.length x))) (hl : LogAt w2 c2 2 lb d LOGn v2 (G ++ [x]) ((encs K 0 G).length + (enc K G.length x).length) false) : Dur K w w2 d lb p (o + 2) c2 v2 (G ++ [x]) := by
  refine ⟨all_trans h.kp h.cx hk (by simp), h.cx.trans hc (h.kp c00 (fun _ => False)).size, ?_, ?_⟩
  · rw [encs_push]; exact hd
  · rw [encs_push, List.length_append]; exact hl
/-- On a disk that does all it is asked Open goes well. -/
theorem open0 (X : Bs) (s : Nat) (hX : X.length ≤ maxFile) : ∃ m1, (if s < X.length then trimD (logDisk plan0 0 LOGn X) LOGn s else (0, logDisk plan0 0 LOGn X)) = (0, m1) := by
  by_cases h : s < X.length
  · rw [if_pos h]
    obtain ⟨h1, f, h2⟩ := truncate_plan0 LOGn X s (by omega)
    unfold trimD
    rw [if_pos h1, h2]
    exact ⟨_, Prod.ext (sync_plan0 LOGn f) rfl⟩
  · rw [if_neg h]; exact ⟨_, rfl⟩
set_option maxRecDepth 20000 in
set_option maxHeartbeats 8000000 in
theorem walDurable_c (p : APlan) {ak af au : Option Addr} {nk nf nu : Nat} (vl : Value) (l : List (List Bs)) (w : World) (hp : PlanW w c00 (.slice ak p.keep.length nk) (.slice af p.fail.length nf) (.slice au p.full.length nu) p) (lk : p.keep.length ≤ lim) (lf : p.fail.length ≤ lim) (lu : p.full.length ≤ lim)
    (hv : LogW w c00 (0, 0) vl l) (hlen : l.length ≤ 1048576) (hb : ∀ b ∈ l, b.length ≤ 1000000000 ∧ ∀ r ∈ b, r.length ≤ 1000000000) :
    Calls Try.prog 5 #[.agg #[.int .i64 p.crash, .slice ak p.keep.length nk, .slice af p.fail.length nf, .slice au p.full.length nu, .int .i64 p.room], vl] w fun e w' => e = .returned (.bool true) ∧ ∀ c S, Kp c S w w' := by
  obtain ⟨ad, cap, rfl, hc1, hc2, hsp⟩ := hv.shape
  obtain ⟨K, hK⟩ : ∃ K, K = kec := ⟨_, rfl⟩
  have hk32 : ∀ b, (K b).length = 32 := fun b => by rw [hK]; exact kec_length b
  have HP := Lib.hid hp; have HV := Lib.hid hv; have HB := Lib.hid hb; have HSP := Lib.hid hsp; have HK := Lib.hid hK; have H32 := Lib.hid hk32
  clear hp hv hb hsp hK hk32
  unfold maxLen at hc2
  have hnm : named LOGn = true := by decide
  by_cases h0 : (create (new_ p) LOGn).1 = 0
  · have HM := Lib.hid (create_log p LOGn hnm h0)
    go_enter Try.func5, Try.ntmps5
    go_wp2_with (first
      | (go_at_call 18; refine (open_none (c := c3) 1 2 d (new_ p) LOGn w3 HD3.out (by decide) (by decide) (by show (0 : Int) < 900000; decide) (by decide) rfl rfl).mono ?_; rintro _ w4 ⟨c4, hc4, hk4, hd4, hok, hno⟩; obtain ⟨lb, rfl, hlb, hL4⟩ := hok h0; rw [HM.out] at hd4; have HU := Lib.hid (show Dur K w w4 d lb p 1 c4 (.slice none 0 0) [] from ⟨all_trans HK3.out HC3.out hk4 (by simp), HC3.out.trans hc4 (HK3.out c00 (fun _ => False)).size, hd4, hL4⟩); unfold ptr; clear hc4 hk4 hd4 hok hno hL4)
      | (go_at_call 16; refine (new_c (c := c2) (q := (0, 0)) 1 p _ _ _ w2 HP2.out.keep HP2.out.fail HP2.out.full lk lf lu (by decide)).mono ?_; rintro _ w3 ⟨d, c3, rfl, hc3, hk3, hd3, -⟩; unfold ptr; have HC3 := Lib.hid (hc2w3 HC2.out HK1.out HK2.out hc3); have HK3 := Lib.hid (fun c S => (HK2.out c S).alloc_trans (kp_any (hk3 (fun _ => False)) c S)); have HD3 := Lib.hid hd3; clear hc3 hk3 hd3)
      | (go_at_call 17; refine (rtwin_v (HP.out.kp (HK1.out c00 (fun _ => False)) (fun h => h) (Cx.refl _ _)) lk lf lu).mono ?_; rintro _ w2 ⟨b1, l1, b2, l2, b3, l3, c2, rfl, hc2, hk2, hp2⟩; have HC2 := Lib.hid hc2; have HK2 := Lib.hid (fun c S => (HK1.out c S).alloc_trans (kp_any (hk2 (fun _ => False)) c S)); have HP2 := Lib.hid hp2; clear hc2 hk2 hp2)
      | (go_at_call 7; refine (wawake_c _).mono ?_; rintro _ w1 ⟨rfl, hk⟩; have hrow := (hk c00 (fun _ => False)).heap (heap_alloc_new w _) (fun h => h); have r0 : w1.cell? ⟨w.heap.size, 0, none⟩ = some (.int .i64 p.crash) := cell_of_heap hrow 0; have r1 : w1.cell? ⟨w.heap.size, 1, none⟩ = some (.slice ak p.keep.length nk) := cell_of_heap hrow 1; have r2 : w1.cell? ⟨w.heap.size, 2, none⟩ = some (.slice af p.fail.length nf) := cell_of_heap hrow 2; have r3 : w1.cell? ⟨w.heap.size, 3, none⟩ = some (.slice au p.full.length nu) := cell_of_heap hrow 3; have r4 : w1.cell? ⟨w.heap.size, 4, none⟩ = some (.int .i64 p.room) := cell_of_heap hrow 4; have HK1 := Lib.hid (fun c S => ((Kp.refl c S w).alloc _).alloc_trans (hk c S)); clear hk hrow))
    go_loopw [8, 31] (fun vn s wr => ∃ (i : Nat) (G : List (List Bs)) (o : Int) (cr : Col) (vg : Value), i ≤ l.length ∧ s = .int .i64 i ∧ vn = .int .i64 (G.length : Nat) ∧ G = (l.take i).filter good ∧ G.length ≤ 31 ∧ (∀ y ∈ G, tot y ≤ 20000) ∧ 0 ≤ o ∧ o ≤ 1 + 2 * (G.length : Int) ∧ Dur K w wr d lb p o cr vg G) (fun _ s _ => l.length - (intOf s).toNat)
    case atStart => exact ⟨0, [], 1, c4, _, Nat.zero_le _, rfl, rfl, by simp, by simp, fun y hy => (by cases hy), by omega, by simp, HU.out⟩
    case round =>
      clear HU
      obtain ⟨i, G, o, cr, vg, hi, rfl, rfl, hG, hGl, hGt, ho0, ho1, U⟩ := hrel
      have HU := Lib.hid U; have HG := Lib.hid hG; have HGT := Lib.hid hGt; clear U hG hGt
      by_cases hlt : i < l.length
      · obtain ⟨b0, o0, rfl⟩ := HSP.out (by omega)
        obtain ⟨a3, k3, g3, B3⟩ := HV.out.get i hlt
        have g3 := (HU.out.kp c00 (fun _ => False)).cell g3 (fun h => h)
        have hbb := HB.out l[i] (List.getElem_mem hlt)
        have hfs := filter_succ l i hlt
        obtain ⟨x, hx⟩ : ∃ x, x = l[i] := ⟨_, rfl⟩
        rw [← hx] at g3 B3 hbb hfs
        rw [← HG.out] at hfs
        have HX := Lib.hid hx; have HB3 := Lib.hid B3; have HBB := Lib.hid hbb; have HFS := Lib.hid hfs; clear hx B3 hbb hfs
        by_cases htot : tot x ≤ 20000
        · have dt : decide (tot x ≤ 20000) = true := decide_eq_true htot
          have HTOT := Lib.hid htot; clear htot
          by_cases h30 : 30 < G.length
          · go_wp2_with (first
              | (go_at_call 8; refine (few1_c (0, 0) (0, 0) _ x _ _ (HB3.out.kp ((HU.out.kp c00 (fun _ => False)).alloc _) (fun h => h) (fun h => h) (Cx.refl _ _)) HBB.out.1 HBB.out.2 (heap_alloc_new _ _)).mono ?_; rintro _ w5 ⟨rfl, hk5⟩; rw [dt]; have HU5 := Lib.hid (HU.out.new (fun c S => ((Kp.refl c S _).alloc _).alloc_trans (hk5 c S))); clear hk5))
            go_ret
            exact ⟨rfl, HU5.out.kp⟩
          · by_cases hg : good x = true
            · have HGD := Lib.hid hg; clear hg
              have hsz : (encs K 0 G).length ≤ 3200000 := by
                have h1 := encs_few H32.out G 0 HGT.out
                have h2 : G.length * 100024 ≤ 31 * 100024 := Nat.mul_le_mul_right _ hGl
                omega
              by_cases hok : (append (logDisk p o LOGn (encs K 0 G)) LOGn (enc K G.length x)).1 = 0 ∧ (sync (append (logDisk p o LOGn (encs K 0 G)) LOGn (enc K G.length x)).2 LOGn).1 = 0
              · have HOK := Lib.hid hok; clear hok
                go_wp2_with (first
                  | (go_at_call 19; refine (append_yes (nm := LOGn) w7 HU7.out.log HU7.out.disk (by omega) (by decide) (by omega) (by omega) HB7.out HBB.out.1 HBB.out.2 HGD.out (enc K G.length x) (by rw [HK.out]) HOK.out).mono ?_; rintro _ w8 ⟨rfl, c8, hc8, hk8, hd8, vl8, hl8⟩; have HU8 := Lib.hid (HU7.out.push hc8 hk8 hd8 hl8); clear hc8 hk8 hd8 hl8)
                  | (go_at_call 10; refine (twinsW_c (0, 0) (0, 0) _ x (HB3.out.kp (HU5.out.kp c00 (fun _ => False)) (fun h => h) (fun h => h) (Cx.refl _ _)) HBB.out.1 (fun r hr => Nat.le_trans (HBB.out.2 r hr) (by decide))).mono ?_; rintro _ w7 ⟨v7, cf7, rfl, hg7, hk7⟩; have HB7 := Lib.hid (grow_bat (f := newCol w5 (newCol wr cr (0, 0)) (0, 0)) (q1 := (0, 0)) (q2 := (0, 0)) hg7 (fun g hg => if_neg (Nat.not_lt.2 (hg7.fresh g hg))) (fun b hb _ => if_neg (Nat.not_lt.2 hb))); have HU7 := Lib.hid (HU5.out.new hk7); clear hg7 hk7)
                  | (go_at_call 15; refine (GoodW_c (0, 0) (0, 0) _ x (HB3.out.kp (HU5.out.kp c00 (fun _ => False)) (fun h => h) (fun h => h) (Cx.refl _ _)) HBB.out.1 HBB.out.2).mono ?_; rintro _ w6 ⟨rfl, hw⟩; obtain rfl := hw.symm; rw [HGD.out])
                  | (go_at_call 8; refine (few1_c (0, 0) (0, 0) _ x _ _ (HB3.out.kp ((HU.out.kp c00 (fun _ => False)).alloc _) (fun h => h) (fun h => h) (Cx.refl _ _)) HBB.out.1 HBB.out.2 (heap_alloc_new _ _)).mono ?_; rintro _ w5 ⟨rfl, hk5⟩; rw [dt]; have HU5 := Lib.hid (HU.out.new (fun c S => ((Kp.refl c S _).alloc _).alloc_trans (hk5 c S))); clear hk5))
                go_roundw
                case rel => exact ⟨i + 1, G ++ [x], o + 2, _, _, by omega, by go_num, by rw [List.length_append]; go_num, by rw [HFS.out, HGD.out]; rfl, by rw [List.length_append]; simp; omega, fun y hy => (List.mem_append.1 hy).elim (HGT.out y) (fun h => by rw [List.mem_singleton.1 h]; exact HTOT.out), by omega, by rw [List.length_append]; simp; omega, HU8.out⟩
                case measure => simp [intOf]; omega
              · have HOK := Lib.hid hok; clear hok
                go_wp2_with (first
                  | (go_at_call 19; refine (append_nok (nm := LOGn) w7 HU7.out.log HU7.out.disk (by omega) (by decide) (by omega) (by omega) HB7.out HBB.out.1 HBB.out.2 HGD.out (enc K G.length x) (by rw [HK.out]) HOK.out).mono ?_; rintro _ w8 ⟨er, m5, c8, j, rfl, hne, hc8, hk8, hd8, hdry, hops5, hj, hst⟩; have HK8 := Lib.hid (all_trans HU7.out.kp HU7.out.cx hk8 (by simp)); have HC8 := Lib.hid (HU7.out.cx.trans hc8 (HU7.out.kp c00 (fun _ => False)).size); have HD8 := Lib.hid hd8; have HDRY := Lib.hid hdry; have HST := Lib.hid hst; clear hc8 hk8 hd8 hdry hst)
                  | (go_at_call 10; refine (twinsW_c (0, 0) (0, 0) _ x (HB3.out.kp (HU5.out.kp c00 (fun _ => False)) (fun h => h) (fun h => h) (Cx.refl _ _)) HBB.out.1 (fun r hr => Nat.le_trans (HBB.out.2 r hr) (by decide))).mono ?_; rintro _ w7 ⟨v7, cf7, rfl, hg7, hk7⟩; have HB7 := Lib.hid (grow_bat (f := newCol w5 (newCol wr cr (0, 0)) (0, 0)) (q1 := (0, 0)) (q2 := (0, 0)) hg7 (fun g hg => if_neg (Nat.not_lt.2 (hg7.fresh g hg))) (fun b hb _ => if_neg (Nat.not_lt.2 hb))); have HU7 := Lib.hid (HU5.out.new hk7); clear hg7 hk7)
                  | (go_at_call 15; refine (GoodW_c (0, 0) (0, 0) _ x (HB3.out.kp (HU5.out.kp c00 (fun _ => False)) (fun h => h) (fun h => h) (Cx.refl _ _)) HBB.out.1 HBB.out.2).mono ?_; rintro _ w6 ⟨rfl, hw⟩; obtain rfl := hw.symm; rw [HGD.out])
                  | (go_at_call 8; refine (few1_c (0, 0) (0, 0) _ x _ _ (HB3.out.kp ((HU.out.kp c00 (fun _ => False)).alloc _) (fun h => h) (fun h => h) (Cx.refl _ _)) HBB.out.1 HBB.out.2 (heap_alloc_new _ _)).mono ?_; rintro _ w5 ⟨rfl, hk5⟩; rw [dt]; have HU5 := Lib.hid (HU.out.new (fun c S => ((Kp.refl c S _).alloc _).alloc_trans (hk5 c S))); clear hk5))
                obtain ⟨X, hX⟩ : ∃ X, X = encs K 0 G ++ (enc K G.length x).take j := ⟨_, rfl⟩
                have hel := enc_few H32.out G.length (l := x) HTOT.out
                have hxl : X.length ≤ 3400000 := by rw [hX, List.length_append, List.length_take]; omega
                have HXL := Lib.hid (show X.length ≤ 1000000000 by omega)
                obtain ⟨R, hR⟩ : ∃ R, R = Wl.read kec X := ⟨_, rfl⟩
                have hrd := dur_read H32.out G x j (fun y hy => by rw [HG.out] at hy; exact (List.mem_filter.1 hy).2) HGD.out (by omega) hj
                rw [← hX, HK.out, ← hR] at hrd
                rw [← hX] at HST
                obtain ⟨m1, hm1⟩ := open0 X R.2 (by unfold maxFile; omega)
                have HGP := Lib.hid (show gl G.length l = G from by rw [HG.out]; exact gl_prefix l i)
                have hgb : ∀ y ∈ G ++ [x], y.length ≤ 1000000000 ∧ ∀ r ∈ y, r.length ≤ lim := fun y hy => by
                  have hy : y ∈ l := by
                    rcases List.mem_append.1 hy with h | h
                    · rw [HG.out] at h; exact List.mem_of_mem_take (List.mem_filter.1 h).1
                    · rw [List.mem_singleton.1 h, HX.out]; exact List.getElem_mem hlt
                  have h1 := HB.out y hy
                  exact ⟨h1.1, fun r hr => Nat.le_trans (h1.2 r hr) (by decide)⟩
                have HR := Lib.hid hR; have HM1 := Lib.hid hm1
                clear hR hm1 hX hel hxl
                rcases hrd with hr1 | hr1
                · have HRL := Lib.hid (show R.1.length ≤ 1000000 by rw [hr1]; omega)
                  have HRB := Lib.hid (show ∀ y ∈ R.1, y.length ≤ 1000000000 ∧ ∀ r ∈ y, r.length ≤ lim from by rw [hr1]; exact fun y hy => hgb y (List.mem_append_left _ hy))
                  have HR1 := Lib.hid hr1
                  clear hr1 hgb
                  go_wp2_with (first
                    | (go_at_call 21; refine (wbatches_c HL10.out HRL.out HRB.out).mono ?_; rintro _ w11 ⟨v11, cf11, rfl, hg11, hk11⟩; rw [HR1.out] at hg11; obtain ⟨xs11, hxs11, -⟩ := hg11.own; obtain ⟨a11, k11, rfl⟩ := own_shape1 hxs11; have hk11b := own_cap hxs11; unfold maxLen at hk11b; clear hxs11; have HL11 := Lib.hid hg11.logW; have HK11 := Lib.hid (fun c S => (HK10.out c S).alloc_trans (hk11 c S)); clear hg11 hk11)
                    | (go_at_call 18; refine (open_some 1 3 d (logDisk plan0 0 LOGn X) LOGn ⟨X, [], X⟩ w9 HD9.out (by decide) (by decide) (by decide) (by show (0 : Int) < 899999; decide) (by decide) rfl rfl HXL.out R HR.out 0 m1 HM1.out).mono ?_; rintro _ w10 ⟨c10, hc10, hk10, hd10, hok10, -⟩; obtain ⟨lb2, vl2, rfl, hlb2, hl10⟩ := hok10 rfl; unfold ptr; have HK10 := Lib.hid (all_trans HK9.out HC9.out hk10 (by simp)); have HL10 := Lib.hid hl10; clear hc10 hk10 hd10 hok10 hlb2 hl10)
                    | (go_at_call 20; refine (start_c 1 d m5 w8 HD8.out plan0 _ _ _ (q := (0, 0)) (Sc.nil _ _ _) (Sc.nil _ _ _) (Sc.nil _ _ _) (by decide) (by decide) (by decide) (by decide) (by decide) (by omega) HDRY.out).mono ?_; rintro _ w9 ⟨rfl, c9, hc9, hk9, hd9⟩; rw [HST.out] at hd9; have HK9 := Lib.hid (all_trans HK8.out HC8.out hk9 (by simp)); have HC9 := Lib.hid (HC8.out.trans hc9 (HK8.out c00 (fun _ => False)).size); have HD9 := Lib.hid hd9; clear hc9 hk9 hd9))
                  have HK11d := Lib.hid (fun c S => (HK11.out c S).drew)
                  have HL11d := Lib.hid (HL11.out.kp ((Kp.refl c00 (fun _ => False) w11).drew) (fun h => h) (Cx.refl _ _))
                  have e1 : decide ((G.length : Int) < G.length) = false := by simp
                  have e2 : decide ((G.length : Int) + 1 < G.length) = false := by simp; omega
                  have e3 : decide ((G.length : Int) + 1 < G.length + 1) = false := by simp
                  have e4 : IntKind.i64.wrap ((G.length : Int) + 1) = G.length + 1 := IntWalk.i64_in _ (by omega)
                  have hS0 := Lib.hid True.intro
                  refine wp_region_G (fun _ => True) 20 rfl ?_
                  refine wpAnyG_takeY (i := 0) (oi := _) (v := .slice a11 G.length k11) rfl (by kernel_rfl) (by kernel_rfl) (by kernel_rfl) (by kernel_rfl) (fun _ _ _ h => h) (Or.inl ⟨by kernel_rfl, fun X _ => ?_⟩) (fun _ => hS0.out) ?_
                  · go_simp
                  (try simp only [Act.put])
                  (try simp only [List.setIfInBounds_toArray])
                  refine wpAnyG_takeY (i := 1) (oi := _) (v := .int .i64 (G.length : Int)) rfl (by kernel_rfl) (by kernel_rfl) (by kernel_rfl) (by kernel_rfl) (fun _ _ _ h => h) (Or.inl ⟨by kernel_rfl, fun X _ => ?_⟩) (fun _ => hS0.out) ?_
                  · go_simp
                  (try simp only [Act.put])
                  refine wpAnyG_takeY (i := 2) (oi := _) (v := .int .i64 (G.length : Int)) rfl (by kernel_rfl) (by kernel_rfl) (by kernel_rfl) (by kernel_rfl) (fun _ _ _ h => h) (Or.inl ⟨by kernel_rfl, fun X _ => ?_⟩) (fun _ => hS0.out) ?_
                  · go_simp
                  (try simp only [Act.put])
                  refine wpAnyG_takeY (i := 3) (oi := _) (v := .bool false) rfl (by kernel_rfl) (by kernel_rfl) (by kernel_rfl) (by kernel_rfl) (fun _ _ _ h => h) (Or.inl ⟨by kernel_rfl, fun X _ => ?_⟩) (fun _ => hS0.out) ?_
                  · go_simp
                  (try simp only [Act.put])
                  refine wpAnyG_takeY (i := 4) (oi := _) (v := .bool false) rfl (by kernel_rfl) (by kernel_rfl) (by kernel_rfl) (by kernel_rfl) (fun _ _ _ h => h) (Or.inl ⟨by kernel_rfl, fun X _ => ?_⟩) (fun _ => hS0.out) ?_
                  · go_simp
                  (try simp only [Act.put])
                  refine wpAnyG_takeY (i := 5) (oi := _) (v := .slice a11 G.length k11) rfl (by kernel_rfl) (by kernel_rfl) (by kernel_rfl) (by kernel_rfl) (fun _ _ _ h => h) (Or.inl ⟨by kernel_rfl, fun X _ => ?_⟩) (fun _ => hS0.out) ?_
                  · go_simp
                  (try simp only [Act.put])
                  refine wpAnyG_takeY (i := 6) (oi := _) (v := .int .i64 (G.length : Int)) rfl (by kernel_rfl) (by kernel_rfl) (by kernel_rfl) (by kernel_rfl) (fun _ _ _ h => h) (Or.inl ⟨by kernel_rfl, fun X _ => ?_⟩) (fun _ => hS0.out) ?_
                  · go_simp
                  (try simp only [Act.put])
                  refine wpAnyG_takeY (i := 7) (oi := _) (v := .int .i64 (G.length : Int)) rfl (by kernel_rfl) (by kernel_rfl) (by kernel_rfl) (by kernel_rfl) (fun _ _ _ h => h) (Or.inl ⟨by kernel_rfl, fun X _ => ?_⟩) (fun _ => hS0.out) ?_
                  · go_simp
                  (try simp only [Act.put])
                  refine wpAnyG_takeY (i := 8) (oi := _) (v := .int .i64 ((G.length : Int) + 1)) rfl (by kernel_rfl) (by kernel_rfl) (by kernel_rfl) (by kernel_rfl) (fun _ _ _ h => h) (Or.inl ⟨by kernel_rfl, fun X _ => ?_⟩) (fun _ => hS0.out) ?_
                  · go_simp
                  (try simp only [Act.put])
                  refine wpAnyG_takeY (i := 9) (oi := _) (v := .bool false) rfl (by kernel_rfl) (by kernel_rfl) (by kernel_rfl) (by kernel_rfl) (fun _ _ _ h => h) (Or.inl ⟨by kernel_rfl, fun X _ => ?_⟩) (fun _ => hS0.out) ?_
                  · go_simp
                  (try simp only [Act.put])
                  refine wpAnyG_takeY (i := 10) (oi := _) (v := .bool false) rfl (by kernel_rfl) (by kernel_rfl) (by kernel_rfl) (by kernel_rfl) (fun _ _ _ h => h) (Or.inl ⟨by kernel_rfl, fun X _ => ?_⟩) (fun _ => hS0.out) ?_
                  · go_simp
                  (try simp only [Act.put])
                  refine wpAnyG_takeY (i := 11) (oi := _) (v := .bool false) rfl (by kernel_rfl) (by kernel_rfl) (by kernel_rfl) (by kernel_rfl) (fun _ _ _ h => h) (Or.inl ⟨by kernel_rfl, fun X _ => ?_⟩) (fun _ => hS0.out) ?_
                  · go_simp
                  (try simp only [Act.put])
                  refine wpAnyG_takeY (i := 12) (oi := _) (v := .slice a11 G.length k11) rfl (by kernel_rfl) (by kernel_rfl) (by kernel_rfl) (by kernel_rfl) (fun _ _ _ h => h) (Or.inl ⟨by kernel_rfl, fun X _ => ?_⟩) (fun _ => hS0.out) ?_
                  · go_simp
                  (try simp only [Act.put])
                  refine wpAnyG_takeY (i := 13) (oi := _) (v := .int .i64 (G.length : Int)) rfl (by kernel_rfl) (by kernel_rfl) (by kernel_rfl) (by kernel_rfl) (fun _ _ _ h => h) (Or.inl ⟨by kernel_rfl, fun X _ => ?_⟩) (fun _ => hS0.out) ?_
                  · go_simp
                  (try simp only [Act.put])
                  refine wpAnyG_takeY (i := 14) (oi := _) (v := .slice a11 G.length k11) rfl (by kernel_rfl) (by kernel_rfl) (by kernel_rfl) (by kernel_rfl) (fun _ _ _ h => h) (Or.inl ⟨by kernel_rfl, fun X _ => ?_⟩) (fun _ => hS0.out) ?_
                  · go_simp
                  (try simp only [Act.put])
                  refine wpAnyG_takeY (i := 15) (oi := _) (v := .slice (some ⟨b0, o0, none⟩) l.length cap) rfl (by kernel_rfl) (by kernel_rfl) (by kernel_rfl) (by kernel_rfl) (fun _ _ _ h => h) (Or.inl ⟨by kernel_rfl, fun X _ => ?_⟩) (fun _ => hS0.out) ?_
                  · go_simp
                  (try simp only [Act.put])
                  refine wpAnyG_takeY (i := 16) (oi := _) (v := .int .i64 (G.length : Int)) rfl (by kernel_rfl) (by kernel_rfl) (by kernel_rfl) (by kernel_rfl) (fun _ _ _ h => h) (Or.inl ⟨by kernel_rfl, fun X _ => ?_⟩) (fun _ => hS0.out) ?_
                  · go_simp
                  (try simp only [Act.put])
                  refine wpAnyG_one (i := 17) (by kernel_rfl) rfl (fun K' hK' => ?_)
                  go_simp
                  refine (lgood_c _ l G.length _ (HV.out.kp (HK11d.out c00 (fun _ => False)) (fun h => h) (Cx.refl _ _)) hlen HB.out (by omega)).mono ?_; rintro _ w12 ⟨v12, rfl, hl12, hk12⟩; rw [HGP.out] at hl12; have HL12 := Lib.hid hl12; have HL11b := Lib.hid (HL11d.out.kp (hk12 c00 (fun _ => False)) (fun h => h) (Cx.refl _ _)); have HK12 := Lib.hid (fun c S => (HK11d.out c S).alloc_trans (hk12 c S)); clear hl12 hk12
                  refine hK'.out _ _ (fun _ => hS0.out) ?_
                  (try simp only [Act.put])
                  refine wpAnyG_one (i := 18) (by kernel_rfl) rfl (fun K' hK' => ?_)
                  go_simp
                  refine (sameW_c _ _ G G _ HL11b.out HL12.out).mono ?_; rintro _ w13 ⟨rfl, hk13⟩; have HK13 := Lib.hid (fun c S => (HK12.out c S).alloc_trans (hk13 c S)); clear hk13
                  refine hK'.out _ _ (fun _ => hS0.out) ?_
                  (try simp only)
                  refine wpAnyG_one (i := 19) (by kernel_rfl) rfl (fun K' hK' => ?_)
                  go_simp
                  refine hK'.out _ _ (fun _ => hS0.out) ?_
                  (try simp only [Act.put])
                  refine wpAnyG_one (i := 20) (by kernel_rfl) rfl (fun K' hK' => ?_)
                  go_simp
                  refine hK'.out _ _ (fun _ => hS0.out) ?_
                  (try simp only [Act.put])
                  refine wpAnyG_done (by kernel_rfl) ?_
                  go_wp2
                  go_ret
                  exact ⟨rfl, HK13.out⟩
                · have HRL := Lib.hid (show R.1.length ≤ 1000000 by rw [hr1, List.length_append]; simp; omega)
                  have HRB := Lib.hid (show ∀ y ∈ R.1, y.length ≤ 1000000000 ∧ ∀ r ∈ y, r.length ≤ lim from by rw [hr1]; exact hgb)
                  have HR1 := Lib.hid hr1
                  clear hr1 hgb
                  go_wp2_with (first
                    | (go_at_call 21; refine (wbatches_c HL10.out HRL.out HRB.out).mono ?_; rintro _ w11 ⟨v11, cf11, rfl, hg11, hk11⟩; rw [HR1.out] at hg11; obtain ⟨xs11, hxs11, -⟩ := hg11.own; rw [List.length_append, List.length_singleton] at hxs11; obtain ⟨g11, k11, rfl, hk11b, hk11c⟩ := own_pos1 hxs11 (by omega); unfold maxLen at hk11c; have hk11d : ¬ k11 = G.length := (by omega); have hk11e : G.length ≤ k11 := (by omega); obtain ⟨ax, mx, gx, bx⟩ := (show LogW w11 c00 (0, 0) (.slice (some ⟨g11, 0, none⟩) (G.length + 1) k11) (G ++ [x]) from hg11.logW).get G.length (by simp); rw [Nat.zero_add] at gx; rw [List.getElem_append_right (Nat.le_refl _)] at gx bx; simp only [Nat.sub_self, List.getElem_cons_zero] at gx bx; have HGX := Lib.hid gx; have HBX := Lib.hid bx; clear gx bx hxs11; have HL11 := Lib.hid hg11.logW; have HK11 := Lib.hid (fun c S => (HK10.out c S).alloc_trans (hk11 c S)); clear hg11 hk11)
                    | (go_at_call 18; refine (open_some 1 3 d (logDisk plan0 0 LOGn X) LOGn ⟨X, [], X⟩ w9 HD9.out (by decide) (by decide) (by decide) (by show (0 : Int) < 899999; decide) (by decide) rfl rfl HXL.out R HR.out 0 m1 HM1.out).mono ?_; rintro _ w10 ⟨c10, hc10, hk10, hd10, hok10, -⟩; obtain ⟨lb2, vl2, rfl, hlb2, hl10⟩ := hok10 rfl; unfold ptr; have HK10 := Lib.hid (all_trans HK9.out HC9.out hk10 (by simp)); have HL10 := Lib.hid hl10; clear hc10 hk10 hd10 hok10 hlb2 hl10)
                    | (go_at_call 20; refine (start_c 1 d m5 w8 HD8.out plan0 _ _ _ (q := (0, 0)) (Sc.nil _ _ _) (Sc.nil _ _ _) (Sc.nil _ _ _) (by decide) (by decide) (by decide) (by decide) (by decide) (by omega) HDRY.out).mono ?_; rintro _ w9 ⟨rfl, c9, hc9, hk9, hd9⟩; rw [HST.out] at hd9; have HK9 := Lib.hid (all_trans HK8.out HC8.out hk9 (by simp)); have HC9 := Lib.hid (HC8.out.trans hc9 (HK8.out c00 (fun _ => False)).size); have HD9 := Lib.hid hd9; clear hc9 hk9 hd9))
                  have HK11d := Lib.hid (fun c S => (HK11.out c S).drew)
                  have HL11d := Lib.hid (HL11.out.kp ((Kp.refl c00 (fun _ => False) w11).drew) (fun h => h) (Cx.refl _ _))
                  have e1 : decide ((G.length : Int) < G.length) = false := by simp
                  have e2 : decide ((G.length : Int) + 1 < G.length) = false := by simp; omega
                  have e3 : decide ((G.length : Int) + 1 < G.length + 1) = false := by simp
                  have e4 : IntKind.i64.wrap ((G.length : Int) + 1) = G.length + 1 := IntWalk.i64_in _ (by omega)
                  have hS0 := Lib.hid True.intro
                  refine wp_region_G (fun _ => True) 20 rfl ?_
                  refine wpAnyG_takeY (i := 0) (oi := _) (v := .slice (some ⟨g11, 0, none⟩) (G.length + 1) k11) rfl (by kernel_rfl) (by kernel_rfl) (by kernel_rfl) (by kernel_rfl) (fun _ _ _ h => h) (Or.inl ⟨by kernel_rfl, fun X _ => ?_⟩) (fun _ => hS0.out) ?_
                  · go_simp
                  (try simp only [Act.put])
                  (try simp only [List.setIfInBounds_toArray])
                  refine wpAnyG_takeY (i := 1) (oi := _) (v := .int .i64 ((G.length : Int) + 1)) rfl (by kernel_rfl) (by kernel_rfl) (by kernel_rfl) (by kernel_rfl) (fun _ _ _ h => h) (Or.inl ⟨by kernel_rfl, fun X _ => ?_⟩) (fun _ => hS0.out) ?_
                  · go_simp
                  (try simp only [Act.put])
                  refine wpAnyG_takeY (i := 2) (oi := _) (v := .int .i64 (G.length : Int)) rfl (by kernel_rfl) (by kernel_rfl) (by kernel_rfl) (by kernel_rfl) (fun _ _ _ h => h) (Or.inl ⟨by kernel_rfl, fun X _ => ?_⟩) (fun _ => hS0.out) ?_
                  · go_simp
                  (try simp only [Act.put])
                  refine wpAnyG_takeY (i := 3) (oi := _) (v := .bool false) rfl (by kernel_rfl) (by kernel_rfl) (by kernel_rfl) (by kernel_rfl) (fun _ _ _ h => h) (Or.inl ⟨by kernel_rfl, fun X _ => ?_⟩) (fun _ => hS0.out) ?_
                  · go_simp
                  (try simp only [Act.put])
                  refine wpAnyG_takeY (i := 4) (oi := _) (v := .bool false) rfl (by kernel_rfl) (by kernel_rfl) (by kernel_rfl) (by kernel_rfl) (fun _ _ _ h => h) (Or.inl ⟨by kernel_rfl, fun X _ => ?_⟩) (fun _ => hS0.out) ?_
                  · go_simp
                  (try simp only [Act.put])
                  refine wpAnyG_takeY (i := 5) (oi := _) (v := .slice (some ⟨g11, 0, none⟩) (G.length + 1) k11) rfl (by kernel_rfl) (by kernel_rfl) (by kernel_rfl) (by kernel_rfl) (fun _ _ _ h => h) (Or.inl ⟨by kernel_rfl, fun X _ => ?_⟩) (fun _ => hS0.out) ?_
                  · go_simp
                  (try simp only [Act.put])
                  refine wpAnyG_takeY (i := 6) (oi := _) (v := .int .i64 ((G.length : Int) + 1)) rfl (by kernel_rfl) (by kernel_rfl) (by kernel_rfl) (by kernel_rfl) (fun _ _ _ h => h) (Or.inl ⟨by kernel_rfl, fun X _ => ?_⟩) (fun _ => hS0.out) ?_
                  · go_simp
                  (try simp only [Act.put])
                  refine wpAnyG_takeY (i := 7) (oi := _) (v := .int .i64 (G.length : Int)) rfl (by kernel_rfl) (by kernel_rfl) (by kernel_rfl) (by kernel_rfl) (fun _ _ _ h => h) (Or.inl ⟨by kernel_rfl, fun X _ => ?_⟩) (fun _ => hS0.out) ?_
                  · go_simp
                  (try simp only [Act.put])
                  refine wpAnyG_takeY (i := 8) (oi := _) (v := .int .i64 ((G.length : Int) + 1)) rfl (by kernel_rfl) (by kernel_rfl) (by kernel_rfl) (by kernel_rfl) (fun _ _ _ h => h) (Or.inl ⟨by kernel_rfl, fun X _ => ?_⟩) (fun _ => hS0.out) ?_
                  · go_simp
                  (try simp only [Act.put])
                  refine wpAnyG_takeY (i := 9) (oi := _) (v := .bool false) rfl (by kernel_rfl) (by kernel_rfl) (by kernel_rfl) (by kernel_rfl) (fun _ _ _ h => h) (Or.inl ⟨by kernel_rfl, fun X _ => ?_⟩) (fun _ => hS0.out) ?_
                  · go_simp
                  (try simp only [Act.put])
                  refine wpAnyG_takeY (i := 10) (oi := _) (v := .bool false) rfl (by kernel_rfl) (by kernel_rfl) (by kernel_rfl) (by kernel_rfl) (fun _ _ _ h => h) (Or.inl ⟨by kernel_rfl, fun X _ => ?_⟩) (fun _ => hS0.out) ?_
                  · go_simp
                  (try simp only [Act.put])
                  refine wpAnyG_takeY (i := 11) (oi := _) (v := .bool false) rfl (by kernel_rfl) (by kernel_rfl) (by kernel_rfl) (by kernel_rfl) (fun _ _ _ h => h) (Or.inl ⟨by kernel_rfl, fun X _ => ?_⟩) (fun _ => hS0.out) ?_
                  · go_simp
                  (try simp only [Act.put])
                  refine wpAnyG_takeY (i := 12) (oi := _) (v := .slice (some ⟨g11, 0, none⟩) (G.length + 1) k11) rfl (by kernel_rfl) (by kernel_rfl) (by kernel_rfl) (by kernel_rfl) (fun _ _ _ h => h) (Or.inl ⟨by kernel_rfl, fun X _ => ?_⟩) (fun _ => hS0.out) ?_
                  · go_simp
                  (try simp only [Act.put])
                  refine wpAnyG_takeY (i := 13) (oi := _) (v := .int .i64 (G.length : Int)) rfl (by kernel_rfl) (by kernel_rfl) (by kernel_rfl) (by kernel_rfl) (fun _ _ _ h => h) (Or.inl ⟨by kernel_rfl, fun X _ => ?_⟩) (fun _ => hS0.out) ?_
                  · go_simp
                  (try simp only [Act.put])
                  refine wpAnyG_takeY (i := 14) (oi := _) (v := .slice (some ⟨g11, 0, none⟩) G.length k11) rfl (by kernel_rfl) (by kernel_rfl) (by kernel_rfl) (by kernel_rfl) (fun _ _ _ h => h) (Or.inl ⟨by kernel_rfl, fun X _ => ?_⟩) (fun _ => hS0.out) ?_
                  · go_simp
                  (try simp only [Act.put])
                  refine wpAnyG_takeY (i := 15) (oi := _) (v := .slice (some ⟨b0, o0, none⟩) l.length cap) rfl (by kernel_rfl) (by kernel_rfl) (by kernel_rfl) (by kernel_rfl) (fun _ _ _ h => h) (Or.inl ⟨by kernel_rfl, fun X _ => ?_⟩) (fun _ => hS0.out) ?_
                  · go_simp
                  (try simp only [Act.put])
                  refine wpAnyG_takeY (i := 16) (oi := _) (v := .int .i64 (G.length : Int)) rfl (by kernel_rfl) (by kernel_rfl) (by kernel_rfl) (by kernel_rfl) (fun _ _ _ h => h) (Or.inl ⟨by kernel_rfl, fun X _ => ?_⟩) (fun _ => hS0.out) ?_
                  · go_simp
                  (try simp only [Act.put])
                  refine wpAnyG_one (i := 17) (by kernel_rfl) rfl (fun K' hK' => ?_)
                  go_simp
                  refine (lgood_c _ l G.length _ (HV.out.kp (HK11d.out c00 (fun _ => False)) (fun h => h) (Cx.refl _ _)) hlen HB.out (by omega)).mono ?_; rintro _ w12 ⟨v12, rfl, hl12, hk12⟩; rw [HGP.out] at hl12; have HL12 := Lib.hid hl12; have HL11b := Lib.hid (HL11d.out.kp (hk12 c00 (fun _ => False)) (fun h => h) (Cx.refl _ _)); have HK12 := Lib.hid (fun c S => (HK11d.out c S).alloc_trans (hk12 c S)); have HKL := Lib.hid (fun c S => (Kp.refl c S w11).drew.trans (hk12 c S) (Cx.refl _ _)); clear hl12 hk12
                  refine hK'.out _ _ (fun _ => hS0.out) ?_
                  (try simp only [Act.put])
                  refine wpAnyG_one (i := 18) (by kernel_rfl) rfl (fun K' hK' => ?_)
                  go_simp
                  refine (sameW_c _ _ G G _ HL11b.out.pre HL12.out).mono ?_; rintro _ w13 ⟨rfl, hk13⟩; have HK13 := Lib.hid (fun c S => (HK12.out c S).alloc_trans (hk13 c S)); have HKT := Lib.hid (fun c S => (HKL.out c S).alloc_trans (hk13 c S)); clear hk13
                  refine hK'.out _ _ (fun _ => hS0.out) ?_
                  (try simp only)
                  refine wpAnyG_one (i := 19) (by kernel_rfl) rfl (fun K' hK' => ?_)
                  go_simp
                  refine hK'.out _ _ (fun _ => hS0.out) ?_
                  (try simp only [Act.put])
                  refine wpAnyG_one (i := 20) (by kernel_rfl) rfl (fun K' hK' => ?_)
                  go_simp
                  refine hK'.out _ _ (fun _ => hS0.out) ?_
                  (try simp only [Act.put])
                  refine wpAnyG_done (by kernel_rfl) ?_
                  go_wp2_with (go_at_call 14; refine (sameW_c _ _ [x] [x] _ (LogW.single (by omega) (by unfold maxLen; omega) ((((HKT.out c00 (fun _ => False)).alloc _)).cell HGX.out (fun h => h)) (HBX.out.kp ((HKT.out c00 (fun _ => False)).alloc _) (fun h => h) (fun h => h) (Cx.refl _ _))) (LogW.single (by decide) (by decide) (cell_of_heap (heap_alloc_new _ _) 0) (HB3.out.kp ((HK13.out c00 (fun _ => False)).alloc _) (fun h => h) (fun h => h) (Cx.refl _ _)))).mono ?_; rintro _ w14 ⟨rfl, hk14⟩; have HK14 := Lib.hid (fun c S => ((HK13.out c S).alloc _).alloc_trans (hk14 c S)); clear hk14)
                  go_ret
                  exact ⟨rfl, HK14.out⟩
            · have hg : good x = false := by simpa using hg
              have HGD := Lib.hid hg; clear hg
              go_wp2_with (first
                | (go_at_call 15; refine (GoodW_c (0, 0) (0, 0) _ x (HB3.out.kp (HU5.out.kp c00 (fun _ => False)) (fun h => h) (fun h => h) (Cx.refl _ _)) HBB.out.1 HBB.out.2).mono ?_; rintro _ w6 ⟨rfl, hw⟩; obtain rfl := hw.symm; rw [HGD.out])
                | (go_at_call 8; refine (few1_c (0, 0) (0, 0) _ x _ _ (HB3.out.kp ((HU.out.kp c00 (fun _ => False)).alloc _) (fun h => h) (fun h => h) (Cx.refl _ _)) HBB.out.1 HBB.out.2 (heap_alloc_new _ _)).mono ?_; rintro _ w5 ⟨rfl, hk5⟩; rw [dt]; have HU5 := Lib.hid (HU.out.new (fun c S => ((Kp.refl c S _).alloc _).alloc_trans (hk5 c S))); clear hk5))
              go_roundw
              case rel => exact ⟨i + 1, G, o, _, _, by omega, by go_num, rfl, by rw [HFS.out, HGD.out]; rfl, hGl, HGT.out, ho0, ho1, HU5.out⟩
              case measure => simp [intOf]; omega
        · have dt : decide (tot x ≤ 20000) = false := decide_eq_false htot
          clear htot
          go_wp2_with (first
            | (go_at_call 8; refine (few1_c (0, 0) (0, 0) _ x _ _ (HB3.out.kp ((HU.out.kp c00 (fun _ => False)).alloc _) (fun h => h) (fun h => h) (Cx.refl _ _)) HBB.out.1 HBB.out.2 (heap_alloc_new _ _)).mono ?_; rintro _ w5 ⟨rfl, hk5⟩; rw [dt]; have HU5 := Lib.hid (HU.out.new (fun c S => ((Kp.refl c S _).alloc _).alloc_trans (hk5 c S))); clear hk5))
          go_ret
          exact ⟨rfl, HU5.out.kp⟩
      · obtain rfl : i = l.length := by omega
        have HGP := Lib.hid (show gl G.length l = G from by rw [HG.out]; exact gl_prefix l l.length)
        have HGB := Lib.hid (show ∀ y ∈ G, y.length ≤ 1000000000 ∧ ∀ r ∈ y, r.length ≤ lim from fun y hy => by
          rw [HG.out] at hy
          have h1 := HB.out y (List.mem_of_mem_take (List.mem_filter.1 hy).1)
          exact ⟨h1.1, fun r hr => Nat.le_trans (h1.2 r hr) (by decide)⟩)
        go_wp2_with (first
          | (go_at_call 14; refine (sameW_c _ _ G G _ HL11b.out HL12.out).mono ?_; rintro _ w13 ⟨rfl, hk13⟩; have HK13 := Lib.hid (fun c S => (HK12.out c S).alloc_trans (hk13 c S)); clear hk13)
          | (go_at_call 22; refine (lgood_c _ l G.length _ (HV.out.kp (HK11.out c00 (fun _ => False)) (fun h => h) (Cx.refl _ _)) hlen HB.out (by omega)).mono ?_; rintro _ w12 ⟨v12, rfl, hl12, hk12⟩; rw [HGP.out] at hl12; have HL12 := Lib.hid hl12; have HL11b := Lib.hid (HL11.out.kp (hk12 c00 (fun _ => False)) (fun h => h) (Cx.refl _ _)); have HK12 := Lib.hid (fun c S => (HK11.out c S).alloc_trans (hk12 c S)); clear hl12 hk12)
          | (go_at_call 21; refine (wbatches_c HU.out.log (by omega) HGB.out).mono ?_; rintro _ w11 ⟨v11, cf11, rfl, hg11, hk11⟩; have HL11 := Lib.hid hg11.logW; have HK11 := Lib.hid (fun c S => (HU.out.kp c S).alloc_trans (hk11 c S)); clear hg11 hk11))
        go_ret
        exact ⟨rfl, HK13.out⟩
  · have hb0 : ((create (new_ p) LOGn).1 == 0) = false := by simpa using h0
    obtain ⟨er, her⟩ : ∃ er, er = (create (new_ p) LOGn).1 := ⟨_, rfl⟩
    rw [← her] at hb0
    have HER := Lib.hid her; clear her
    go_enter Try.func5, Try.ntmps5
    go_wp2_with (first
      | (go_at_call 18; refine (open_none (c := c3) 1 2 d (new_ p) LOGn w3 HD3.out (by decide) (by decide) (by show (0 : Int) < 900000; decide) (by decide) rfl rfl).mono ?_; rintro _ w4 ⟨c4, hc4, hk4, hd4, hok, hno⟩; obtain rfl := hno h0; rw [← HER.out]; have HK4 := Lib.hid (all_trans HK3.out HC3.out hk4 (by simp)); clear hc4 hk4 hd4 hok hno)
      | (go_at_call 16; refine (new_c (c := c2) (q := (0, 0)) 1 p _ _ _ w2 HP2.out.keep HP2.out.fail HP2.out.full lk lf lu (by decide)).mono ?_; rintro _ w3 ⟨d, c3, rfl, hc3, hk3, hd3, -⟩; unfold ptr; have HC3 := Lib.hid (hc2w3 HC2.out HK1.out HK2.out hc3); have HK3 := Lib.hid (fun c S => (HK2.out c S).alloc_trans (kp_any (hk3 (fun _ => False)) c S)); have HD3 := Lib.hid hd3; clear hc3 hk3 hd3)
      | (go_at_call 17; refine (rtwin_v (HP.out.kp (HK1.out c00 (fun _ => False)) (fun h => h) (Cx.refl _ _)) lk lf lu).mono ?_; rintro _ w2 ⟨b1, l1, b2, l2, b3, l3, c2, rfl, hc2, hk2, hp2⟩; have HC2 := Lib.hid hc2; have HK2 := Lib.hid (fun c S => (HK1.out c S).alloc_trans (kp_any (hk2 (fun _ => False)) c S)); have HP2 := Lib.hid hp2; clear hc2 hk2 hp2)
      | (go_at_call 7; refine (wawake_c _).mono ?_; rintro _ w1 ⟨rfl, hk⟩; have hrow := (hk c00 (fun _ => False)).heap (heap_alloc_new w _) (fun h => h); have r0 : w1.cell? ⟨w.heap.size, 0, none⟩ = some (.int .i64 p.crash) := cell_of_heap hrow 0; have r1 : w1.cell? ⟨w.heap.size, 1, none⟩ = some (.slice ak p.keep.length nk) := cell_of_heap hrow 1; have r2 : w1.cell? ⟨w.heap.size, 2, none⟩ = some (.slice af p.fail.length nf) := cell_of_heap hrow 2; have r3 : w1.cell? ⟨w.heap.size, 3, none⟩ = some (.slice au p.full.length nu) := cell_of_heap hrow 3; have r4 : w1.cell? ⟨w.heap.size, 4, none⟩ = some (.int .i64 p.room) := cell_of_heap hrow 4; have HK1 := Lib.hid (fun c S => ((Kp.refl c S w).alloc _).alloc_trans (hk c S)); clear hk hrow))
    go_ret
    exact ⟨rfl, HK4.out⟩
theorem walDurable_v (p : APlan) (vk vf vu vl : Value) (l : List (List Bs)) (w : World) (hp : PlanW w c00 vk vf vu p) (lk : p.keep.length ≤ lim) (lf : p.fail.length ≤ lim) (lu : p.full.length ≤ lim)
    (hv : LogW w c00 (0, 0) vl l) (hlen : l.length ≤ 1048576) (hb : ∀ b ∈ l, b.length ≤ 1000000000 ∧ ∀ r ∈ b, r.length ≤ 1000000000) :
    Calls Try.prog 5 #[.agg #[.int .i64 p.crash, vk, vf, vu, .int .i64 p.room], vl] w fun e w' => e = .returned (.bool true) ∧ ∀ c S, Kp c S w w' := by
  obtain ⟨ak, nk, rfl, -⟩ := id hp.keep
  obtain ⟨af, nf, rfl, -⟩ := id hp.fail
  obtain ⟨au, nu, rfl, -⟩ := id hp.full
  simp only [List.length_map] at hp ⊢
  exact walDurable_c p vl l w hp lk lf lu hv hlen hb
end Go.Proofs.Ytnifmoigalmcmaa
