/- cairnref03: Permute. -/
import Derived.Test.YtnifmoigalmcmaaGreatZc
namespace Go.Proofs.YtnifmoigalmcmaaGreat
open Go Go.RowKit
theorem named_world {P : Program} {ops : Array Oper} {l : List Oper} {a : Act} {w0 : World} {Q : Exit → Act → World → Prop} (h : ∀ w3, w3 = w0 → wpList P ops Q l a w3) : wpList P ops Q l a w0 := h _ rfl
/-- A row of cells in memory, never frozen. -/
def Bl (w : World) (g : Nat) (cs : Array Value) (t : TypeId) : Prop := w.heap[g]? = some (.cells cs t (0, 0))
theorem Bl.lt {w : World} {g : Nat} {cs : Array Value} {t : TypeId} (h : Bl w g cs t) : g < w.heap.size := lt_of_heap h
theorem Bl.ne {w : World} {g k i : Nat} {cs : Array Value} {t : TypeId} {v : Value} (h : Bl w g cs t) (hk : g ≠ k) : Bl (w.setCell ⟨k, i, none⟩ v) g cs t := (Below.heap_setCell _ _ _ _ hk).trans h
theorem Bl.set {w : World} {g i : Nat} {a : Array Int} {t : TypeId} {n : Int} (h : Bl w g (u64s a) t) : Bl (w.setCell ⟨g, i, none⟩ (.int .u64 n)) g (u64s (a.setIfInBounds i n)) t := by
  unfold Bl; rw [← u64s_set]; exact heap_setCell h i _
theorem Bl.alloc {w : World} {g : Nat} {cs : Array Value} {t : TypeId} (h : Bl w g cs t) (o : Obj) : Bl (w.alloc o) g cs t := heap_alloc_old _ h
theorem Bl.at {w : World} {g n i : Nat} {a : Array Int} {t : TypeId} (h : Bl w g (u64s a) t) (hn : a.size = n) (hi : i < n) : w.cell? ⟨g, i, none⟩ = some (.int .u64 (gt a i)) := by
  rw [cell_of_heap h]; exact u64s_at hn hi
theorem Bl.free {w : World} {g : Nat} {cs : Array Value} {t : TypeId} (h : Bl w g cs t) (i : Nat) : w.frozen? ⟨g, i, none⟩ = false := unfrozen_of_heap h i
/-- The tables of a permutation. -/
structure QM (T : Array Nat) (R : Array Int) (c : Col) (w wr : World) (kr kt : Nat) : Prop where
  zT : T.size = 25
  zR : R.size = 24
  lT : ∀ i : Nat, T[i]?.getD 0 < 64
  hr : Bl wr (w.heap.size + 1) (u64s (Array.replicate 25 0)) 241
  hR : Bl wr kr (u64s R) 237
  hT : Bl wr kt (i64s T) 235
  l1 : w.heap.size + 1 < kr
  l2 : kr < kt
  kp : ∀ S, Kp c S w wr
variable {T : Array Nat} {R : Array Int} {c : Col} {w wr : World} {kr kt : Nat}
theorem QM.drew (h : QM T R c w wr kr kt) : QM T R c w wr.drew kr kt := { h with kp := fun S => (h.kp S).drew }
theorem QM.drewN (h : QM T R c w wr kr kt) (n : Nat) : QM T R c w (wr.drewN n) kr kt := { h with kp := fun S => (h.kp S).drewN n }
theorem QM.alloc (h : QM T R c w wr kr kt) (o : Obj) : QM T R c w (wr.alloc o) kr kt := { h with hr := h.hr.alloc _, hR := h.hR.alloc _, hT := h.hT.alloc _, kp := fun S => (h.kp S).alloc _ }
theorem QM.set (h : QM T R c w wr kr kt) {g i : Nat} {v : Value} (hg : g = w.heap.size ∨ kt < g) : QM T R c w (wr.setCell ⟨g, i, none⟩ v) kr kt := by
  have h1 := h.l1; have h2 := h.l2
  exact { h with hr := h.hr.ne (by omega), hR := h.hR.ne (by omega), hT := h.hT.ne (by omega), kp := fun S => (h.kp S).setCell (fun hh => absurd hh (by show ¬ g < w.heap.size; omega)) _ }
theorem QM.cR (h : QM T R c w wr kr kt) (i : Nat) (hi : i < 24) : wr.cell? ⟨kr, i, none⟩ = some (.int .u64 (gt R i)) := h.hR.at h.zR hi
theorem QM.cT (h : QM T R c w wr kr kt) (i : Nat) (hi : i < 25) : wr.cell? ⟨kt, i, none⟩ = some (.int .i64 ((T[i]?.getD 0 : Nat) : Int)) := by
  rw [cell_of_heap h.hT, i64s, Array.getElem?_map, Array.getElem?_eq_getElem (by rw [h.zT]; exact hi)]; simp
theorem Bl.row {w : World} {g k : Nat} {cs ds : Array Value} {t : TypeId} (h : Bl w g cs t) (hk : g ≠ k) : Bl (w.setRow k ds) g cs t := (heap_setRow_ne w ds hk).trans h
theorem Bl.kp {w w' : World} {g : Nat} {cs : Array Value} {t : TypeId} (h : Bl w g cs t) (hk : ∀ S, Kp c S w w') : Bl w' g cs t := (hk (fun _ => False)).heap h (fun h => h)
theorem rrho_lt : ∀ i : Nat, (rhoTab 24)[i]?.getD 0 < 64 := by
  intro i
  by_cases h : i < 25
  · exact (by decide +kernel : ∀ i : Nat, i < 25 → (rhoTab 24)[i]?.getD 0 < 64) i h
  · rw [Array.getElem?_eq_none (by rw [rhoTab_size]; omega)]; decide
theorem qm_base {A : Array Int} {w w0 w1 w2 w3 w4 : World} {z1 z2 : Array Value} (h0 : w0 = ((w.alloc (.cells (u64s A) 241)).alloc (.cells (u64s (Array.replicate 25 0)) 241))) (k1 : ∀ S, Kp c S w0 w1)
    (h3 : w3 = (w1.alloc (.cells z1 237)).setRow w1.heap.size (u64s (iotaTab 168))) (k2 : ∀ S, Kp c S w3 w2) (h4 : w4 = (w2.alloc (.cells z2 235)).setRow w2.heap.size (i64s (rhoTab 24))) :
    QM (rhoTab 24) (iotaTab 168) c w w4 w1.heap.size w2.heap.size ∧ Bl w4 w.heap.size (u64s A) 241 := by
  have e1 : w0.heap.size = w.heap.size + 2 := by rw [h0]; simp
  have s1 := (k1 (fun _ => False)).size
  have e3 : w3.heap.size = w1.heap.size + 1 := by rw [h3]; simp [World.setRow]
  have s2 := (k2 (fun _ => False)).size
  have b0 : Bl w0 w.heap.size (u64s A) 241 := by rw [h0]; exact heap_alloc_old _ (heap_alloc_new _ _)
  have b1 : Bl w0 (w.heap.size + 1) (u64s (Array.replicate 25 0)) 241 := by
    rw [h0]; have := heap_alloc_new (w.alloc (.cells (u64s A) 241)) (.cells (u64s (Array.replicate 25 0)) 241); rw [show (w.alloc (.cells (u64s A) 241)).heap.size = w.heap.size + 1 from by simp] at this; exact this
  have b2 : Bl w3 w1.heap.size (u64s (iotaTab 168)) 237 := by rw [h3]; exact heap_setRow (heap_alloc_new _ _)
  have b3 : Bl w4 w2.heap.size (i64s (rhoTab 24)) 235 := by rw [h4]; exact heap_setRow (heap_alloc_new _ _)
  have up3 : ∀ {g : Nat} {cs : Array Value} {t : TypeId}, Bl w1 g cs t → Bl w3 g cs t := fun h => by
    rw [h3]; exact (h.alloc _).row (by have := h.lt; omega)
  have up4 : ∀ {g : Nat} {cs : Array Value} {t : TypeId}, Bl w2 g cs t → Bl w4 g cs t := fun h => by
    rw [h4]; exact (h.alloc _).row (by have := h.lt; omega)
  have k3 : ∀ S, Kp c S w w4 := fun S => by
    have q0 : Kp c S w w0 := by rw [h0]; exact ((Kp.refl c S w).alloc _).alloc _
    have q1 := q0.trans (k1 S) (Cx.refl _ _)
    have q3 : Kp c S w w3 := by rw [h3]; exact (q1.alloc _).setRow (fun hh => by omega) _
    have q2 := q3.trans (k2 S) (Cx.refl _ _)
    rw [h4]; exact (q2.alloc _).setRow (fun hh => by omega) _
  exact ⟨⟨rhoTab_size _, iotaTab_size _, rrho_lt, up4 ((up3 (b1.kp k1)).kp k2), up4 (b2.kp k2), b3, by omega, by omega, k3⟩, up4 ((up3 (b0.kp k1)).kp k2)⟩
def z5 : Array Int := Array.replicate 5 0
def z25 : Array Int := Array.replicate 25 0
theorem u64s_z25 : #[.int .u64 0, .int .u64 0, .int .u64 0, .int .u64 0, .int .u64 0, .int .u64 0, .int .u64 0, .int .u64 0, .int .u64 0, .int .u64 0, .int .u64 0, .int .u64 0, .int .u64 0, .int .u64 0, .int .u64 0, .int .u64 0, .int .u64 0, .int .u64 0, .int .u64 0, .int .u64 0, .int .u64 0, .int .u64 0, .int .u64 0, .int .u64 0, .int .u64 0] = u64s z25 := by kernel_rfl
theorem u64s_z5 : #[.int .u64 0, .int .u64 0, .int .u64 0, .int .u64 0, .int .u64 0] = u64s z5 := by kernel_rfl
/-- One row of the turns. -/
def rbY (T : Array Nat) (a C b : Array Int) (x : Nat) : Nat → Array Int
  | 0 => b
  | y + 1 => (rbY T a C b x y).setIfInBounds (y + 5 * ((2 * x + 3 * y) % 5)) (rol (xo (xo (gt a (x + 5 * y)) (gt C ((x + 4) % 5))) (rol (gt C ((x + 1) % 5)) 1)) (T[x + 5 * y]?.getD 0))
def rbB (T : Array Nat) (a C b : Array Int) : Nat → Array Int
  | 0 => b
  | x + 1 => rbY T a C (rbB T a C b x) x 5
def rcY (b a : Array Int) (x : Nat) : Nat → Array Int
  | 0 => a
  | y + 1 => (rcY b a x y).setIfInBounds (x + 5 * y) (xo (gt b (x + 5 * y)) (bits BinOp.and IntKind.u64 (bits BinOp.xor IntKind.u64 (if IntKind.u64.signed = true then -1 else IntKind.u64.max) (gt b ((x + 1) % 5 + 5 * y))) (gt b ((x + 2) % 5 + 5 * y))))
def rcA (b a : Array Int) : Nat → Array Int
  | 0 => a
  | x + 1 => rcY b (rcA b a x) x 5
def rZ (T : Array Nat) (a : Array Int) : Array Int := rcA (rbB T a (thC a z5 5) z25 5) a 5
def rP (T : Array Nat) (R A : Array Int) : Nat → Array Int
  | 0 => A
  | i + 1 => roI (gt R i) (rZ T (rP T R A i))
theorem rbY_size {T : Array Nat} {a C b : Array Int} {x : Nat} : ∀ y, (rbY T a C b x y).size = b.size
  | 0 => rfl
  | y + 1 => by rw [rbY, Array.size_setIfInBounds, rbY_size y]
theorem rbB_size {T : Array Nat} {a C b : Array Int} : ∀ x, (rbB T a C b x).size = b.size
  | 0 => rfl
  | x + 1 => by rw [rbB, rbY_size, rbB_size x]
theorem rcY_size {b a : Array Int} {x : Nat} : ∀ y, (rcY b a x y).size = a.size
  | 0 => rfl
  | y + 1 => by rw [rcY, Array.size_setIfInBounds, rcY_size y]
theorem rcA_size {b a : Array Int} : ∀ x, (rcA b a x).size = a.size
  | 0 => rfl
  | x + 1 => by rw [rcA, rcY_size, rcA_size x]
theorem rP_size {T : Array Nat} {R A : Array Int} : ∀ i, (rP T R A i).size = A.size
  | 0 => rfl
  | i + 1 => by rw [rP, roI, Array.size_setIfInBounds, rZ, rcA_size, rP_size i]
set_option maxRecDepth 20000 in
set_option maxHeartbeats 4000000 in
theorem rpermute_w (c : Col) (w : World) (A : Array Int) (hA : A.size = 25) (T : Array Nat) (I : Array Int) (hT : T = rhoTab 24) (hI : I = iotaTab 168) : Calls Tryz.prog 168 #[.agg (u64s A)] w fun e w' => e = .returned (.agg (u64s (rP T I A 24))) ∧ ∀ S, Kp c S w w' := by
  obtain ⟨w0, hw0⟩ : ∃ w0, w0 = ((w.alloc (.cells (u64s A) 241)).alloc (.cells (u64s (Array.replicate 25 0)) 241)) := ⟨_, rfl⟩
  have HW0 := Lib.hid hw0
  have HI := Lib.hid hI; have HT := Lib.hid hT; have HA := Lib.hid hA; clear hI hT hw0 hA
  go_enter Tryz.func168, Tryz.ntmps168
  go_wp2_with (first
    | (go_at_call 187; refine (rconstants_c c _).mono ?_; rintro _ w1 ⟨rfl, hk1⟩; rw [u64s_25.symm, HW0.out.symm] at hk1; rw [HI.out.symm]; have HK1 := Lib.hid hk1; clear hk1)
    | (go_at_call 188; refine (turns_c c _).mono ?_; rintro _ w2 ⟨rfl, hk2⟩; have HK2 := Lib.hid hk2; clear hk2)
    | (refine wpList_store_row rfl 237 _ _ rfl w1.heap.size (u64s I) rfl rfl 237 _ (heap_alloc_new _ _) (by first | (rw [HI.out]; kernel_rfl) | kernel_rfl) (by rw [HI.out]; kernel_rfl) (by rw [HI.out]; kernel_rfl) (named_world ?_); intro w3 hw3; rw [HI.out] at hw3; have HW3 := Lib.hid hw3; clear hw3)
    | (refine wpList_store_row rfl 235 _ _ rfl w2.heap.size (i64s (rhoTab 24)) rfl rfl 235 _ (heap_alloc_new _ _) (by kernel_rfl) (by kernel_rfl) (by kernel_rfl) (named_world ?_); intro w4 hw4; have HW4 := Lib.hid hw4; clear hw4))
  have hb := qm_base HW0.out HK1.out HW3.out HK2.out HW4.out
  rw [← HI.out, ← HT.out] at hb
  generalize w1.heap.size = kr at *
  generalize w2.heap.size = kt at *
  have H := Lib.hid hb.1; have HB := Lib.hid hb.2
  clear hb HW4 HK2 HW3 HK1 HW0 HT HI
  go_loopw [5] (fun s wr => ∃ i : Nat, i ≤ 24 ∧ s = .int .i64 i ∧ QM T I c w wr kr kt ∧ Bl wr w.heap.size (u64s (rP T I A i)) 241) (fun s _ => 24 - (intOf s).toNat)
  case atStart => exact ⟨0, by omega, rfl, H.out, HB.out⟩
  case round =>
    obtain ⟨i, hi, rfl, h, hb⟩ := hrel
    clear H HB
    have hz : (rP T I A i).size = 25 := by rw [rP_size]; exact HA.out
    obtain ⟨p, hp⟩ : ∃ p, p = rP T I A i := ⟨_, rfl⟩
    rw [← hp] at hb hz
    have H := Lib.hid h; have HB := Lib.hid hb; have HP := Lib.hid hp; have HZ := Lib.hid hz; clear h hb hp hz
    by_cases hlt : i < 24
    · have hd : decide ((i : Int) < 24) = true := by simp; omega
      go_wp2
      (try simp only [hd])
      clear hd
      rw [u64s_z5]
      obtain ⟨kC, hkC⟩ : ∃ kC, kC = wr.heap.size := ⟨_, rfl⟩
      have hk1 := H.out.hT.lt
      have ha := HB.out.lt
      rw [← hkC] at hk1 ha ⊢
      have hC0 : Bl (wr.alloc (.cells (u64s z5) 261)) kC (u64s z5) 261 := by rw [hkC]; exact heap_alloc_new _ _
      have H' := Lib.hid (H.out.alloc (.cells (u64s z5) 261)); have HB' := Lib.hid (HB.out.alloc (.cells (u64s z5) 261)); have HC := Lib.hid hC0
      clear H HB hkC hC0
      go_loopw [7] (fun s wr => ∃ x : Nat, x ≤ 5 ∧ s = .int .i64 x ∧ QM T I c w wr kr kt ∧ Bl wr w.heap.size (u64s p) 241 ∧ Bl wr kC (u64s (thC p z5 x)) 261) (fun s _ => 5 - (intOf s).toNat)
      case atStart => exact ⟨0, by omega, rfl, H'.out, HB'.out, HC.out⟩
      case round =>
        obtain ⟨x, hx, rfl, h, hb, hc⟩ := hrel
        clear H' HB' HC
        have hcz : (thC p z5 x).size = 5 := by rw [thC_size]; rfl
        by_cases hxl : x < 5
        · have g0 := hb.at HZ.out (show x < 25 by omega)
          have g1 := hb.at HZ.out (show x + 5 < 25 by omega)
          have g2 := hb.at HZ.out (show x + 10 < 25 by omega)
          have g3 := hb.at HZ.out (show x + 15 < 25 by omega)
          have g4 := hb.at HZ.out (show x + 20 < 25 by omega)
          have g5 := hc.at hcz hxl
          have f := hc.free x
          have H := Lib.hid h; have HB := Lib.hid hb; have HC := Lib.hid hc; clear h hb hc hcz
          go_wp2
          go_region
          go_wp2
          go_roundw
          case rel => exact ⟨x + 1, by omega, by go_num, (H.out.set (.inr hk1)).drew, HB.out.ne (by omega), HC.out.set⟩
          case measure => simp [intOf]; omega
        · obtain rfl : x = 5 := by omega
          obtain ⟨C, hC⟩ : ∃ C, C = thC p z5 5 := ⟨_, rfl⟩
          rw [← hC] at hc hcz
          have H := Lib.hid h; have HB := Lib.hid hb; have HC := Lib.hid hc; have HCE := Lib.hid hC; have HCZ := Lib.hid hcz; clear h hb hc hcz hC
          go_wp2
          (try simp only [Nat.cast_ofNat_Int])
          rw [u64s_z25]
          obtain ⟨kb, hkb⟩ : ∃ kb, kb = wr.heap.size := ⟨_, rfl⟩
          have hk2 := HC.out.lt
          rw [← hkb] at hk2 ⊢
          have hb0 : Bl (wr.alloc (.cells (u64s z25) 241)) kb (u64s z25) 241 := by rw [hkb]; exact heap_alloc_new _ _
          have H' := Lib.hid (H.out.alloc (.cells (u64s z25) 241)); have HB' := Lib.hid (HB.out.alloc (.cells (u64s z25) 241)); have HC' := Lib.hid (HC.out.alloc (.cells (u64s z25) 241)); have HD := Lib.hid hb0
          clear H HB HC hkb hb0
          go_loopw [9] (fun s wr => ∃ x : Nat, x ≤ 5 ∧ s = .int .i64 x ∧ QM T I c w wr kr kt ∧ Bl wr w.heap.size (u64s p) 241 ∧ Bl wr kC (u64s C) 261 ∧ Bl wr kb (u64s (rbB T p C z25 x)) 241) (fun s _ => 5 - (intOf s).toNat)
          case atStart => exact ⟨0, by omega, rfl, H'.out, HB'.out, HC'.out, HD.out⟩
          case round =>
            obtain ⟨x, hx, rfl, h, hb, hc, hd⟩ := hrel
            clear H' HB' HC' HD
            by_cases hxl : x < 5
            · have H := Lib.hid h; have HB := Lib.hid hb; have HC := Lib.hid hc; have HD := Lib.hid hd; clear h hb hc hd
              have hd : decide ((x : Int) < 5) = true := by simp; omega
              go_wp2
              (try simp only [hd])
              clear hd
              go_loopw [10] (fun s wr => ∃ y : Nat, y ≤ 5 ∧ s = .int .i64 y ∧ QM T I c w wr kr kt ∧ Bl wr w.heap.size (u64s p) 241 ∧ Bl wr kC (u64s C) 261 ∧ Bl wr kb (u64s (rbY T p C (rbB T p C z25 x) x y)) 241) (fun s _ => 5 - (intOf s).toNat)
              case atStart => exact ⟨0, by omega, rfl, H.out, HB.out, HC.out, HD.out⟩
              case round =>
                obtain ⟨y, hy, rfl, h, hb, hc, hd⟩ := hrel
                clear H HB HC HD
                by_cases hyl : y < 5
                · have hsz : (rbY T p C (rbB T p C z25 x) x y).size = 25 := by rw [rbY_size, rbB_size]; rfl
                  have g0 := hb.at HZ.out (show x + 5 * y < 25 by omega)
                  have g1 := hc.at HCZ.out (show (x + 4) % 5 < 5 by omega)
                  have g2 := hc.at HCZ.out (show (x + 1) % 5 < 5 by omega)
                  have g3 := h.cT (x + 5 * y) (by omega)
                  have g4 := hd.at hsz (show y + 5 * ((2 * x + 3 * y) % 5) < 25 by omega)
                  have f := hd.free (y + 5 * ((2 * x + 3 * y) % 5))
                  have lt := h.lT (x + 5 * y)
                  have H := Lib.hid h; have HB := Lib.hid hb; have HC := Lib.hid hc; have HD := Lib.hid hd; clear h hb hc hd hsz
                  obtain ⟨n1, n2, n3, n4, n5, n6, n7, n8, n9, n10, n11, n12, n13, n14⟩ := rho_at x y hxl hyl
                  go_wp2
                  go_quiet ((go_at_call 189; exact Calls.quiet_of_same (left_c _ _ 1 (by omega) (fun h => absurd h (by decide)))))
                  go_wp2_with (go_at_call 189; refine (left_c _ _ _ lt (fun _ => xo_range _ _)).mono ?_; rintro _ w5 ⟨rfl, rfl⟩)
                  go_roundw
                  case rel =>
                    (repeat apply Exists.intro)
                    exact ⟨⟨y + 1, by omega, by go_num, (H.out.drewN _).set (.inr (by omega)), HB.out.ne (by omega), HC.out.ne (by omega), HD.out.set⟩, rfl⟩
                  case measure => simp [intOf]; omega
                · obtain rfl : y = 5 := by omega
                  have H := Lib.hid h; have HB := Lib.hid hb; have HC := Lib.hid hc; have HD := Lib.hid hd; clear h hb hc hd
                  go_wp2
                  go_roundw
                  case rel => exact ⟨x + 1, by omega, by go_num, H.out, HB.out, HC.out, HD.out⟩
                  case measure => simp [intOf]; omega
            · obtain rfl : x = 5 := by omega
              have hbz : (rbB T p C z25 5).size = 25 := by rw [rbB_size]; rfl
              obtain ⟨b, hbe⟩ : ∃ b, b = rbB T p C z25 5 := ⟨_, rfl⟩
              rw [← hbe] at hd hbz
              have H := Lib.hid h; have HB := Lib.hid hb; have HD := Lib.hid hd; have HBE := Lib.hid hbe; have HBZ := Lib.hid hbz; clear h hb hc hd hbe hbz
              go_wp2
              go_loopw [12] (fun s wr => ∃ x : Nat, x ≤ 5 ∧ s = .int .i64 x ∧ QM T I c w wr kr kt ∧ Bl wr w.heap.size (u64s (rcA b p x)) 241 ∧ Bl wr kb (u64s b) 241) (fun s _ => 5 - (intOf s).toNat)
              case atStart => exact ⟨0, by omega, rfl, H.out, HB.out, HD.out⟩
              case round =>
                obtain ⟨x, hx, rfl, h, hb, hd⟩ := hrel
                clear H HB HD
                by_cases hxl : x < 5
                · have H := Lib.hid h; have HB := Lib.hid hb; have HD := Lib.hid hd; clear h hb hd
                  go_wp2
                  go_loopw [13] (fun s wr => ∃ y : Nat, y ≤ 5 ∧ s = .int .i64 y ∧ QM T I c w wr kr kt ∧ Bl wr w.heap.size (u64s (rcY b (rcA b p x) x y)) 241 ∧ Bl wr kb (u64s b) 241) (fun s _ => 5 - (intOf s).toNat)
                  case atStart => exact ⟨0, by omega, rfl, H.out, HB.out, HD.out⟩
                  case round =>
                    obtain ⟨y, hy, rfl, h, hb, hd⟩ := hrel
                    clear H HB HD
                    have hsz : (rcY b (rcA b p x) x y).size = 25 := by rw [rcY_size, rcA_size]; exact HZ.out
                    by_cases hyl : y < 5
                    · have g0 := hb.at hsz (show x + 5 * y < 25 by omega)
                      have g1 := hd.at HBZ.out (show x + 5 * y < 25 by omega)
                      have g2 := hd.at HBZ.out (show (x + 1) % 5 + 5 * y < 25 by omega)
                      have g3 := hd.at HBZ.out (show (x + 2) % 5 + 5 * y < 25 by omega)
                      have f := hb.free (x + 5 * y)
                      have H := Lib.hid h; have HB := Lib.hid hb; have HD := Lib.hid hd; clear h hb hd hsz
                      go_wp2
                      go_region
                      go_wp2
                      go_roundw
                      case rel => exact ⟨y + 1, by omega, by go_num, (H.out.set (.inl rfl)).drew, HB.out.set, HD.out.ne (by omega)⟩
                      case measure => simp [intOf]; omega
                    · obtain rfl : y = 5 := by omega
                      have H := Lib.hid h; have HB := Lib.hid hb; have HD := Lib.hid hd; clear h hb hd
                      go_wp2
                      go_roundw
                      case rel => exact ⟨x + 1, by omega, by go_num, H.out, HB.out, HD.out⟩
                      case measure => simp [intOf]; omega
                · obtain rfl : x = 5 := by omega
                  have hzz : (rcA b p 5).size = 25 := by rw [rcA_size]; exact HZ.out
                  obtain ⟨z, hz⟩ : ∃ z, z = rcA b p 5 := ⟨_, rfl⟩
                  rw [← hz] at hb hzz
                  have HE := Lib.hid (show z = rZ T p from by rw [hz, HBE.out, HCE.out]; rfl); clear hz
                  have g0 := hb.at hzz (show 0 < 25 by omega)
                  have g1 := h.cR i hlt
                  have f := hb.free 0
                  have H := Lib.hid h; have HB := Lib.hid hb; clear h hb hd hzz
                  go_wp2
                  go_region
                  go_wp2
                  go_roundw
                  case rel =>
                    refine ⟨i + 1, by omega, by go_num, (H.out.set (.inl rfl)).drew, ?_⟩
                    rw [rP, ← HP.out, ← HE.out]
                    exact HB.out.set
                  case measure => simp [intOf]; omega
    · obtain rfl : i = 24 := by omega
      rw [HP.out] at HB
      have HR := Lib.hid H.out.hr; have HK := Lib.hid H.out.kp
      obtain ⟨Z, hZ⟩ : ∃ Z, Z = rP T I A 24 := ⟨_, rfl⟩
      have hZZ : Z.size = 25 := by rw [hZ, rP_size]; exact HA.out
      rw [← hZ] at HB
      have HZE := Lib.hid hZ; have HZZ := Lib.hid hZZ
      clear H hZ hZZ
      go_wp2_with (first
        | (refine wpList_load_row rfl 241 _ rfl w.heap.size rfl 241 _ _ _ HB.out Tryz.underlying241 rfl (row25 HZZ.out) ?_)
        | (refine wpList_store_row rfl 241 _ _ rfl (w.heap.size + 1) (u64s Z) rfl rfl 241 _ HR.out (row25 HZZ.out) (by simp [u64s, HZZ.out]) (u64s_one _) ?_))
      refine bodyPost_ret (v := .agg (u64s Z)) ?_ rfl ⟨by rw [HZE.out], fun S => (HK.out S).setRow (fun h => absurd h (by omega)) _⟩
      exact results_cell_row rfl _ _ (w.heap.size + 1) 241 _ _ _ rfl (heap_setRow HR.out) Tryz.underlying241 rfl (row25 HZZ.out)
end Go.Proofs.YtnifmoigalmcmaaGreat
