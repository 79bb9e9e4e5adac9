/- digest: the permutation. -/
import Derived.Test.YtnifmoigalmcmaaGreatZr
import Derived.StillTailTactics
namespace Go.Proofs.YtnifmoigalmcmaaGreat
open Go Go.RowKit
def gt (a : Array Int) (i : Nat) : Int := a[i]?.getD 0
def xo (a b : Int) : Int := bits BinOp.xor IntKind.u64 a b
def thC (a C : Array Int) : Nat → Array Int
  | 0 => C
  | x + 1 => (thC a C x).setIfInBounds x (xo (xo (xo (xo (gt a x) (gt a (x + 5))) (gt a (x + 10))) (gt a (x + 15))) (gt a (x + 20)))
def thY (a : Array Int) (d : Int) (x : Nat) : Nat → Array Int
  | 0 => a
  | y + 1 => (thY a d x y).setIfInBounds (x + 5 * y) (xo (gt (thY a d x y) (x + 5 * y)) d)
def thA (C a : Array Int) : Nat → Array Int
  | 0 => a
  | x + 1 => thY (thA C a x) (xo (gt C ((x + 4) % 5)) (rol (gt C ((x + 1) % 5)) 1)) x 5
def rhY (T : Array Nat) (a b : Array Int) (x : Nat) : Nat → Array Int
  | 0 => b
  | y + 1 => (rhY T a b x y).setIfInBounds (y + 5 * ((2 * x + 3 * y) % 5)) (rol (gt a (x + 5 * y)) (T[x + 5 * y]?.getD 0))
def rhB (T : Array Nat) (a b : Array Int) : Nat → Array Int
  | 0 => b
  | x + 1 => rhY T a (rhB T a b x) x 5
def chX (b a : Array Int) (y : Nat) : Nat → Array Int
  | 0 => a
  | x + 1 => (chX b a y x).setIfInBounds (x + 5 * y) (xo (gt b (x + 5 * y)) (bits BinOp.and IntKind.u64 (bits BinOp.xor IntKind.u64 (if IntKind.u64.signed = true then -1 else IntKind.u64.max) (gt b ((x + 1) % 5 + 5 * y))) (gt b ((x + 2) % 5 + 5 * y))))
def chA (b a : Array Int) : Nat → Array Int
  | 0 => a
  | y + 1 => chX b (chA b a y) y 5
def roC (p : Array Int × Array Int × Array Int) : Array Int := thC p.1 p.2.2 5
def roA (p : Array Int × Array Int × Array Int) : Array Int := thA (roC p) p.1 5
def roB (T : Array Nat) (p : Array Int × Array Int × Array Int) : Array Int := rhB T (roA p) p.2.1 5
def roZ (T : Array Nat) (p : Array Int × Array Int × Array Int) : Array Int := chA (roB T p) (roA p) 5
def roI (r : Int) (a : Array Int) : Array Int := a.setIfInBounds 0 (xo (gt a 0) r)
/-- The state behind so many rounds: a, b, c. -/
def perm3 (T : Array Nat) (R A : Array Int) : Nat → Array Int × Array Int × Array Int
  | 0 => (A, Array.replicate 25 0, Array.replicate 5 0)
  | i + 1 => (roI (gt R i) (roZ T (perm3 T R A i)), roB T (perm3 T R A i), roC (perm3 T R A i))
theorem perm3_succ {T : Array Nat} {R A b C z : Array Int} {i : Nat} {p : Array Int × Array Int × Array Int} (hp : p = perm3 T R A i) (hC : C = roC p) (hb : b = roB T p) (hz : z = roZ T p) : perm3 T R A (i + 1) = (roI (gt R i) z, b, C) := by
  rw [perm3, ← hp, hC, hb, hz]
theorem thC_size {a C : Array Int} : ∀ x, (thC a C x).size = C.size
  | 0 => rfl
  | x + 1 => by simp [thC, thC_size x]
theorem thY_size {a : Array Int} {d : Int} {x : Nat} : ∀ y, (thY a d x y).size = a.size
  | 0 => rfl
  | y + 1 => by simp [thY, thY_size y]
theorem thA_size {C a : Array Int} : ∀ x, (thA C a x).size = a.size
  | 0 => rfl
  | x + 1 => by simp [thA, thY_size, thA_size x]
theorem rhY_size {T : Array Nat} {a b : Array Int} {x : Nat} : ∀ y, (rhY T a b x y).size = b.size
  | 0 => rfl
  | y + 1 => by simp [rhY, rhY_size y]
theorem rhB_size {T : Array Nat} {a b : Array Int} : ∀ x, (rhB T a b x).size = b.size
  | 0 => rfl
  | x + 1 => by simp [rhB, rhY_size, rhB_size x]
theorem chX_size {b a : Array Int} {y : Nat} : ∀ x, (chX b a y x).size = a.size
  | 0 => rfl
  | x + 1 => by simp [chX, chX_size x]
theorem chA_size {b a : Array Int} : ∀ y, (chA b a y).size = a.size
  | 0 => rfl
  | y + 1 => by simp [chA, chX_size, chA_size y]
def rkCells (T : Array Nat) (R : Array Int) : Array Value := i64s T ++ u64s R
/-- The memory of a permutation: its own a, b, c; the tables. -/
structure PM (T : Array Nat) (R : Array Int) (c : Col) (w wr : World) (k : Nat) (a b C : Array Int) : Prop where
  zT : T.size = 25
  zR : R.size = 24
  lT : ∀ i : Nat, T[i]?.getD 0 < 64
  za : a.size = 25
  zb : b.size = 25
  zc : C.size = 5
  ha : wr.heap[w.heap.size]? = some (.cells (u64s a) 241 (0, 0))
  hr : wr.heap[w.heap.size + 1]? = some (.cells (u64s (Array.replicate 25 0)) 241 (0, 0))
  hb : wr.heap[w.heap.size + 2]? = some (.cells (u64s b) 241 (0, 0))
  hc : wr.heap[w.heap.size + 3]? = some (.cells (u64s C) 261 (0, 0))
  kl : k < w.heap.size
  hk : wr.heap[k]? = some (.cells (rkCells T R) 240 (0, 0))
  kp : ∀ S, Kp c S w wr
variable {T : Array Nat} {R : Array Int} {c : Col} {w wr : World} {k : Nat} {a b C : Array Int}
theorem PM.drew (h : PM T R c w wr k a b C) : PM T R c w wr.drew k a b C := { h with kp := fun S => (h.kp S).drew }
theorem PM.drewN (h : PM T R c w wr k a b C) (n : Nat) : PM T R c w (wr.drewN n) k a b C := { h with kp := fun S => (h.kp S).drewN n }
theorem PM.setA (h : PM T R c w wr k a b C) (i : Nat) (v : Int) : PM T R c w (wr.setCell ⟨w.heap.size, i, none⟩ (.int .u64 v)) k (a.setIfInBounds i v) b C :=
  { h with
    za := by simpa using h.za
    ha := by rw [← u64s_set]; exact heap_setCell h.ha i _
    hr := (Below.heap_setCell _ _ _ _ (by show w.heap.size + 1 ≠ w.heap.size; omega)).trans h.hr
    hb := (Below.heap_setCell _ _ _ _ (by show w.heap.size + 2 ≠ w.heap.size; omega)).trans h.hb
    hc := (Below.heap_setCell _ _ _ _ (by show w.heap.size + 3 ≠ w.heap.size; omega)).trans h.hc
    hk := (Below.heap_setCell _ _ _ _ (by have := h.kl; show k ≠ w.heap.size; omega)).trans h.hk
    kp := fun S => (h.kp S).setCell (fun h => absurd h (by show ¬ w.heap.size < w.heap.size; omega)) _ }
theorem PM.setB (h : PM T R c w wr k a b C) (i : Nat) (v : Int) : PM T R c w (wr.setCell ⟨w.heap.size + 2, i, none⟩ (.int .u64 v)) k a (b.setIfInBounds i v) C :=
  { h with
    zb := by simpa using h.zb
    ha := (Below.heap_setCell _ _ _ _ (by show w.heap.size ≠ w.heap.size + 2; omega)).trans h.ha
    hr := (Below.heap_setCell _ _ _ _ (by show w.heap.size + 1 ≠ w.heap.size + 2; omega)).trans h.hr
    hb := by rw [← u64s_set]; exact heap_setCell h.hb i _
    hc := (Below.heap_setCell _ _ _ _ (by show w.heap.size + 3 ≠ w.heap.size + 2; omega)).trans h.hc
    hk := (Below.heap_setCell _ _ _ _ (by have := h.kl; show k ≠ w.heap.size + 2; omega)).trans h.hk
    kp := fun S => (h.kp S).setCell (fun h => absurd h (by show ¬ w.heap.size + 2 < w.heap.size; omega)) _ }
theorem PM.setC (h : PM T R c w wr k a b C) (i : Nat) (v : Int) : PM T R c w (wr.setCell ⟨w.heap.size + 3, i, none⟩ (.int .u64 v)) k a b (C.setIfInBounds i v) :=
  { h with
    zc := by simpa using h.zc
    ha := (Below.heap_setCell _ _ _ _ (by show w.heap.size ≠ w.heap.size + 3; omega)).trans h.ha
    hr := (Below.heap_setCell _ _ _ _ (by show w.heap.size + 1 ≠ w.heap.size + 3; omega)).trans h.hr
    hb := (Below.heap_setCell _ _ _ _ (by show w.heap.size + 2 ≠ w.heap.size + 3; omega)).trans h.hb
    hc := by rw [← u64s_set]; exact heap_setCell h.hc i _
    hk := (Below.heap_setCell _ _ _ _ (by have := h.kl; show k ≠ w.heap.size + 3; omega)).trans h.hk
    kp := fun S => (h.kp S).setCell (fun h => absurd h (by show ¬ w.heap.size + 3 < w.heap.size; omega)) _ }
theorem PM.cA (h : PM T R c w wr k a b C) (i : Nat) (hi : i < 25) : wr.cell? ⟨w.heap.size, i, none⟩ = some (.int .u64 (gt a i)) := by
  rw [cell_of_heap h.ha]; exact u64s_at h.za hi
theorem PM.cB (h : PM T R c w wr k a b C) (i : Nat) (hi : i < 25) : wr.cell? ⟨w.heap.size + 1 + 1, i, none⟩ = some (.int .u64 (gt b i)) := by
  rw [cell_of_heap h.hb]; exact u64s_at h.zb hi
theorem PM.cC (h : PM T R c w wr k a b C) (i : Nat) (hi : i < 5) : wr.cell? ⟨w.heap.size + 1 + 1 + 1, i, none⟩ = some (.int .u64 (gt C i)) := by
  rw [cell_of_heap h.hc]; exact u64s_at h.zc hi
theorem PM.fA (h : PM T R c w wr k a b C) (i : Nat) : wr.frozen? ⟨w.heap.size, i, none⟩ = false := unfrozen_of_heap h.ha i
theorem PM.fB (h : PM T R c w wr k a b C) (i : Nat) : wr.frozen? ⟨w.heap.size + 1 + 1, i, none⟩ = false := unfrozen_of_heap h.hb i
theorem PM.fC (h : PM T R c w wr k a b C) (i : Nat) : wr.frozen? ⟨w.heap.size + 1 + 1 + 1, i, none⟩ = false := unfrozen_of_heap h.hc i
theorem rk_turn (hT : T.size = 25) (i : Nat) (hi : i < 25) : (rkCells T R)[i]? = some (.int .i64 ((T[i]?.getD 0 : Nat) : Int)) := by
  unfold rkCells
  rw [Array.getElem?_append_left (by simp [i64s, hT]; exact hi), i64s, Array.getElem?_map, Array.getElem?_eq_getElem (by rw [hT]; exact hi)]; simp
theorem rk_round (hT : T.size = 25) (hR : R.size = 24) (i : Nat) (hi : i < 24) : (rkCells T R)[25 + i]? = some (.int .u64 (gt R i)) := by
  unfold rkCells
  rw [Array.getElem?_append_right (by simp [i64s, hT])]
  simp only [i64s, Array.size_map, hT, Nat.add_sub_cancel_left]
  exact u64s_at hR hi
theorem PM.kT (h : PM T R c w wr k a b C) (i : Nat) (hi : i < 25) : wr.cell? ⟨k, i, none⟩ = some (.int .i64 ((T[i]?.getD 0 : Nat) : Int)) := by
  rw [cell_of_heap h.hk]; exact rk_turn h.zT i hi
theorem PM.kR (h : PM T R c w wr k a b C) (i : Nat) (hi : i < 24) : wr.cell? ⟨k, 25 + i, none⟩ = some (.int .u64 (gt R i)) := by
  rw [cell_of_heap h.hk]; exact rk_round h.zT h.zR i hi
theorem info25 : (Tryz.prog.info? 241).map (·.size) = some 25 := by kernel_rfl
theorem row25 {a : Array Int} (h : a.size = 25) : (Tryz.prog.info? 241).map (·.size) = some (u64s a).size := by rw [info25]; simp [u64s, h]
theorem u64s_one (a : Array Int) : (u64s a).all (·.oneCell') = true := by
  rw [Array.all_eq_true]; intro i hi; simp [u64s, Value.oneCell']
theorem u64s_25 : u64s (Array.replicate 25 0) = #[.int .u64 0, .int .u64 0, .int .u64 0, .int .u64 0, .int .u64 0, .int .u64 0, .int .u64 0, .int .u64 0, .int .u64 0, .int .u64 0, .int .u64 0, .int .u64 0, .int .u64 0, .int .u64 0, .int .u64 0, .int .u64 0, .int .u64 0, .int .u64 0, .int .u64 0, .int .u64 0, .int .u64 0, .int .u64 0, .int .u64 0, .int .u64 0, .int .u64 0] := by kernel_rfl
theorem u64s_5 : u64s (Array.replicate 5 0) = #[.int .u64 0, .int .u64 0, .int .u64 0, .int .u64 0, .int .u64 0] := by kernel_rfl
theorem PM.start (c : Col) {w : World} {k : Nat} (hT : T.size = 25) (hR : R.size = 24) (lT : ∀ i : Nat, T[i]?.getD 0 < 64) (hk : w.heap[k]? = some (.cells (rkCells T R) 240 (0, 0))) {A : Array Int} (hA : A.size = 25) :
    PM T R c w ((((w.alloc (.cells (u64s A) 241)).alloc (.cells (u64s (Array.replicate 25 0)) 241)).alloc (.cells (u64s (Array.replicate 25 0)) 241)).alloc (.cells (u64s (Array.replicate 5 0)) 261)) k A (Array.replicate 25 0) (Array.replicate 5 0) := by
  have h0 := heap_alloc_new w (.cells (u64s A) 241)
  have h1 := heap_alloc_new (w.alloc (.cells (u64s A) 241)) (.cells (u64s (Array.replicate 25 0)) 241)
  have h2 := heap_alloc_new ((w.alloc (.cells (u64s A) 241)).alloc (.cells (u64s (Array.replicate 25 0)) 241)) (.cells (u64s (Array.replicate 25 0)) 241)
  have h3 := heap_alloc_new (((w.alloc (.cells (u64s A) 241)).alloc (.cells (u64s (Array.replicate 25 0)) 241)).alloc (.cells (u64s (Array.replicate 25 0)) 241)) (.cells (u64s (Array.replicate 5 0)) 261)
  have e1 : (w.alloc (.cells (u64s A) 241)).heap.size = w.heap.size + 1 := by simp
  have e2 : ((w.alloc (.cells (u64s A) 241)).alloc (.cells (u64s (Array.replicate 25 0)) 241)).heap.size = w.heap.size + 2 := by simp
  have e3 : (((w.alloc (.cells (u64s A) 241)).alloc (.cells (u64s (Array.replicate 25 0)) 241)).alloc (.cells (u64s (Array.replicate 25 0)) 241)).heap.size = w.heap.size + 3 := by simp
  rw [e1] at h1; rw [e2] at h2; rw [e3] at h3
  exact ⟨hT, hR, lT, hA, by simp, by simp, heap_alloc_old _ (heap_alloc_old _ (heap_alloc_old _ h0)), heap_alloc_old _ (heap_alloc_old _ h1), heap_alloc_old _ h2, h3, lt_of_heap hk,
    heap_alloc_old _ (heap_alloc_old _ (heap_alloc_old _ (heap_alloc_old _ hk))), fun S => ((((Kp.refl c S w).alloc _).alloc _).alloc _).alloc _⟩
theorem rot_s (w : World) (x : Int) (k : Nat) (hk : k < 64) : Calls Tryz.prog 186 #[.int .u64 x, .int .i64 k] w fun e w' => e = .returned (.int .u64 (rol x k)) ∧ w' = w := (rot_c w x k hk).mono fun _ _ h => ⟨h.1, h.2.symm⟩
theorem rho_at : ∀ x y : Nat, x < 5 → y < 5 → IntKind.i64.wrap (5 * (y : Int)) = 5 * (y : Int) ∧ IntKind.i64.wrap ((x : Int) + 5 * (y : Int)) = (x : Int) + 5 * (y : Int) ∧ (0 : Int) ≤ (x : Int) + 5 * (y : Int) ∧ (x : Int) + 5 * (y : Int) < 25 ∧ ((x : Int) + 5 * (y : Int)).toNat = x + 5 * y ∧
    IntKind.i64.wrap (2 * (x : Int)) = 2 * (x : Int) ∧ IntKind.i64.wrap (3 * (y : Int)) = 3 * (y : Int) ∧ IntKind.i64.wrap (2 * (x : Int) + 3 * (y : Int)) = 2 * (x : Int) + 3 * (y : Int) ∧ (2 * (x : Int) + 3 * (y : Int)).tmod 5 = ((2 * (x : Int) + 3 * (y : Int)) % 5) ∧
    IntKind.i64.wrap (5 * ((2 * (x : Int) + 3 * (y : Int)) % 5)) = 5 * ((2 * (x : Int) + 3 * (y : Int)) % 5) ∧ IntKind.i64.wrap ((y : Int) + 5 * ((2 * (x : Int) + 3 * (y : Int)) % 5)) = (y : Int) + 5 * ((2 * (x : Int) + 3 * (y : Int)) % 5) ∧ (0 : Int) ≤ (y : Int) + 5 * ((2 * (x : Int) + 3 * (y : Int)) % 5) ∧ (y : Int) + 5 * ((2 * (x : Int) + 3 * (y : Int)) % 5) < 25 ∧ ((y : Int) + 5 * ((2 * (x : Int) + 3 * (y : Int)) % 5)).toNat = y + 5 * ((2 * x + 3 * y) % 5) := by
  intro x y hx hy
  refine ⟨IntWalk.i64_in _ (by omega), IntWalk.i64_in _ (by omega), by omega, by omega, by omega, IntWalk.i64_in _ (by omega), IntWalk.i64_in _ (by omega), IntWalk.i64_in _ (by omega), ?_, IntWalk.i64_in _ (by omega), IntWalk.i64_in _ (by omega), by omega, by omega, ?_⟩
  · rw [Int.tmod_eq_emod_of_nonneg (by omega)]
  · have : (2 * (x : Int) + 3 * (y : Int)) % 5 = (((2 * x + 3 * y) % 5 : Nat) : Int) := by push_cast; rfl
    omega
set_option maxRecDepth 20000 in
set_option maxHeartbeats 4000000 in
theorem permute_c (c : Col) (w : World) (k : Nat) (T : Array Nat) (R A : Array Int) (hT : T.size = 25) (hR : R.size = 24) (lT : ∀ i : Nat, T[i]?.getD 0 < 64) (hA : A.size = 25) (hk : w.heap[k]? = some (.cells (rkCells T R) 240 (0, 0))) : Calls Tryz.prog 164 #[.pointer (some ⟨k, 0, none⟩), .agg (u64s A)] w fun e w' => e = .returned (.agg (u64s (perm3 T R A 24).1)) ∧ ∀ S, Kp c S w w' := by
  go_enter Tryz.func164, Tryz.ntmps164
  have H := Lib.hid (PM.start c hT hR lT hk hA)
  have HT := Lib.hid lT
  clear hk hA hT hR lT
  go_wp2
  rw [← u64s_25, ← u64s_5]
  go_loopw [16] (fun s wr => ∃ i : Nat, i ≤ 24 ∧ s = .int .i64 i ∧ PM T R c w wr k (perm3 T R A i).1 (perm3 T R A i).2.1 (perm3 T R A i).2.2) (fun s _ => 24 - (intOf s).toNat)
  case atStart => exact ⟨0, by omega, rfl, H.out⟩
  case round =>
    obtain ⟨i, hi, rfl, h⟩ := hrel
    clear H
    obtain ⟨p, hp⟩ : ∃ p, p = perm3 T R A i := ⟨_, rfl⟩
    rw [← hp] at h
    have HP := Lib.hid hp; clear hp
    obtain ⟨wo, hwo⟩ : ∃ wo : World, wo = wr := ⟨_, rfl⟩
    have H := Lib.hid h; clear h
    by_cases hlt : i < 24
    · rw [← hwo] at H ⊢; clear hwo
      have hd : decide ((i : Int) < 24) = true := by simp; omega
      go_wp2
      (try simp only [hd])
      clear hd
      go_loopw [19] (fun s wr => ∃ x : Nat, x ≤ 5 ∧ s = .int .i64 x ∧ PM T R c w wr k p.1 p.2.1 (thC p.1 p.2.2 x)) (fun s _ => 5 - (intOf s).toNat)
      case atStart => exact ⟨0, by omega, rfl, H.out⟩
      case round =>
        obtain ⟨x, hx, rfl, h⟩ := hrel
        clear H
        by_cases hxl : x < 5
        · have g0 := h.cA x (by omega)
          have g1 := h.cA (x + 5) (by omega)
          have g2 := h.cA (x + 10) (by omega)
          have g3 := h.cA (x + 15) (by omega)
          have g4 := h.cA (x + 20) (by omega)
          have g5 := h.cC x (by omega)
          have f := h.fC x
          have H := Lib.hid h; clear h
          go_wp2
          go_region
          go_wp2
          go_roundw
          case rel => exact ⟨x + 1, by omega, by go_num, H.out.drew.setC x _⟩
          case measure => simp [intOf]; omega
        · obtain rfl : x = 5 := by omega
          obtain ⟨C, hC⟩ : ∃ C, C = thC p.1 p.2.2 5 := ⟨_, rfl⟩
          rw [← hC] at h
          have HC := Lib.hid (show C = roC p from hC); clear hC hx hxl
          have H := Lib.hid h; clear h
          obtain ⟨w1, hw1⟩ : ∃ w1 : World, w1 = wr := ⟨_, rfl⟩
          rw [← hw1] at H ⊢; clear hw1
          go_wp2
          (try simp only [Nat.cast_ofNat_Int])
          go_loopw [48] (fun s wr => ∃ x : Nat, x ≤ 5 ∧ s = .int .i64 x ∧ PM T R c w wr k (thA C p.1 x) p.2.1 C) (fun s _ => 5 - (intOf s).toNat)
          case atStart => exact ⟨0, by omega, rfl, H.out⟩
          case round =>
            obtain ⟨x, hx, rfl, h⟩ := hrel
            clear H
            obtain ⟨w2, hw2⟩ : ∃ w2 : World, w2 = wr := ⟨_, rfl⟩
            rw [← hw2] at h ⊢; clear hw2
            by_cases hxl : x < 5
            · have g0 := h.cC ((x + 4) % 5) (by omega)
              have g1 := h.cC ((x + 1) % 5) (by omega)
              have H := Lib.hid h; clear h
              go_wp2
              go_quiet ((go_at_call 186; exact Calls.quiet_of_same ((rot_c _ _ 1 (by omega)).mono fun e w' h => ⟨h.1, h.2.symm⟩)))
              go_wp2
              clear g0 g1
              (try simp only [Nat.cast_ofNat_Int])
              go_loopw [63] (fun s wr => ∃ y : Nat, y ≤ 5 ∧ s = .int .i64 y ∧ PM T R c w wr k (thY (thA C p.1 x) (xo (gt C ((x + 4) % 5)) (rol (gt C ((x + 1) % 5)) 1)) x y) p.2.1 C) (fun s _ => 5 - (intOf s).toNat)
              case atStart => exact ⟨0, by omega, rfl, H.out.drewN _⟩
              case round =>
                obtain ⟨y, hy, rfl, h⟩ := hrel
                clear H
                by_cases hyl : y < 5
                · have g0 := h.cA (x + 5 * y) (by omega)
                  have f := h.fA (x + 5 * y)
                  have H := Lib.hid h; clear h
                  go_wp2
                  go_roundw
                  case rel => exact ⟨y + 1, by omega, by go_num, H.out.setA (x + 5 * y) _⟩
                  case measure => simp [intOf]; omega
                · obtain rfl : y = 5 := by omega
                  have H := Lib.hid h; clear h
                  go_wp2
                  go_roundw
                  case rel => exact ⟨x + 1, by omega, by go_num, H.out⟩
                  case measure => simp [intOf]; omega
            · obtain rfl : x = 5 := by omega
              obtain ⟨a, ha⟩ : ∃ a, a = thA C p.1 5 := ⟨_, rfl⟩
              rw [← ha] at h
              have HA' := Lib.hid (show a = roA p from by rw [ha, HC.out]; unfold roA; rfl); clear ha hx hxl
              have H := Lib.hid h; clear h
              go_wp2
              (try simp only [Nat.cast_ofNat_Int])
              go_loopw [77] (fun s wr => ∃ x : Nat, x ≤ 5 ∧ s = .int .i64 x ∧ PM T R c w wr k a (rhB T a p.2.1 x) C) (fun s _ => 5 - (intOf s).toNat)
              case atStart => exact ⟨0, by omega, rfl, H.out⟩
              case round =>
                obtain ⟨x, hx, rfl, h⟩ := hrel
                clear H
                obtain ⟨w3, hw3⟩ : ∃ w3 : World, w3 = wr := ⟨_, rfl⟩
                rw [← hw3] at h ⊢; clear hw3
                by_cases hxl : x < 5
                · have H := Lib.hid h; clear h
                  go_wp2
                  have hd : decide ((x : Int) < 5) = true := by simp; omega
                  (try simp only [hd])
                  clear hd
                  go_loopw [80] (fun s wr => ∃ y : Nat, y ≤ 5 ∧ s = .int .i64 y ∧ PM T R c w wr k a (rhY T a (rhB T a p.2.1 x) x y) C) (fun s _ => 5 - (intOf s).toNat)
                  case atStart => exact ⟨0, by omega, rfl, H.out⟩
                  case round =>
                    obtain ⟨y, hy, rfl, h⟩ := hrel
                    clear H
                    by_cases hyl : y < 5
                    · have g0 := h.cA (x + 5 * y) (by omega)
                      have g1 := h.kT (x + 5 * y) (by omega)
                      have g2 := h.cB (y + 5 * ((2 * x + 3 * y) % 5)) (by omega)
                      have f := h.fB (y + 5 * ((2 * x + 3 * y) % 5))
                      have H := Lib.hid h; clear h
                      go_wp2
                      obtain ⟨n1, n2, n3, n4, n5, n6, n7, n8, n9, n10, n11, n12, n13, n14⟩ := rho_at x y hxl hyl
                      go_still_tail 26, (by kernel_rfl)
                      still_call (rot_s _ _ _ (HT.out (x + 5 * y)))
                      still_step
                      refine wpStill_nil ?_
                      clear n1 n2 n3 n4 n5 n6 n7 n8 n9 n10 n11 n12 n13 n14
                      change wpList _ _ _ _ _ wr.drew
                      go_wp2
                      go_roundw
                      case rel =>
                        (repeat apply Exists.intro)
                        exact ⟨⟨y + 1, by omega, by go_num, (H.out.setB (y + 5 * ((2 * x + 3 * y) % 5)) _).drew⟩, rfl⟩
                      case measure => simp [intOf]; omega
                    · obtain rfl : y = 5 := by omega
                      have H := Lib.hid h; clear h
                      go_wp2
                      go_roundw
                      case rel => exact ⟨x + 1, by omega, by go_num, H.out⟩
                      case measure => simp [intOf]; omega
                · obtain rfl : x = 5 := by omega
                  obtain ⟨b, hb⟩ : ∃ b, b = rhB T a p.2.1 5 := ⟨_, rfl⟩
                  rw [← hb] at h
                  have HB' := Lib.hid (show b = roB T p from by rw [hb, HA'.out]; unfold roB; rfl); clear hb hx hxl
                  have H := Lib.hid h; clear h
                  go_wp2
                  (try simp only [Nat.cast_ofNat_Int])
                  go_loopw [111] (fun s wr => ∃ y : Nat, y ≤ 5 ∧ s = .int .i64 y ∧ PM T R c w wr k (chA b a y) b C) (fun s _ => 5 - (intOf s).toNat)
                  case atStart => exact ⟨0, by omega, rfl, H.out⟩
                  case round =>
                    obtain ⟨y, hy, rfl, h⟩ := hrel
                    clear H
                    obtain ⟨w4, hw4⟩ : ∃ w4 : World, w4 = wr := ⟨_, rfl⟩
                    rw [← hw4] at h ⊢; clear hw4
                    by_cases hyl : y < 5
                    · have H := Lib.hid h; clear h
                      go_wp2
                      (try simp only [Nat.cast_ofNat_Int])
                      go_loopw [114] (fun s wr => ∃ x : Nat, x ≤ 5 ∧ s = .int .i64 x ∧ PM T R c w wr k (chX b (chA b a y) y x) b C) (fun s _ => 5 - (intOf s).toNat)
                      case atStart => exact ⟨0, by omega, rfl, H.out⟩
                      case round =>
                        obtain ⟨x, hx, rfl, h⟩ := hrel
                        clear H
                        by_cases hxl : x < 5
                        · have g0 := h.cA (x + 5 * y) (by omega)
                          have g1 := h.cB (x + 5 * y) (by omega)
                          have g2 := h.cB ((x + 1) % 5 + 5 * y) (by omega)
                          have g3 := h.cB ((x + 2) % 5 + 5 * y) (by omega)
                          have f := h.fA (x + 5 * y)
                          have H := Lib.hid h; clear h
                          go_wp2
                          go_region
                          go_wp2
                          go_roundw
                          case rel => exact ⟨x + 1, by omega, by go_num, (H.out.setA (x + 5 * y) _).drew⟩
                          case measure => simp [intOf]; omega
                        · obtain rfl : x = 5 := by omega
                          have H := Lib.hid h; clear h
                          go_wp2
                          go_roundw
                          case rel => exact ⟨y + 1, by omega, by go_num, H.out⟩
                          case measure => simp [intOf]; omega
                    · obtain rfl : y = 5 := by omega
                      obtain ⟨z, hz⟩ : ∃ z, z = chA b a 5 := ⟨_, rfl⟩
                      rw [← hz] at h
                      have HZ := Lib.hid (show z = roZ T p from by rw [hz, HA'.out, HB'.out]; unfold roZ; rfl); clear hz
                      have g0 := h.cA 0 (by omega)
                      have g1 := h.kR i (by omega)
                      have f := h.fA 0
                      have H := Lib.hid h; clear h
                      go_wp2
                      go_region
                      go_wp2
                      go_roundw
                      case rel =>
                        refine ⟨i + 1, by omega, by go_num, ?_⟩
                        rw [perm3_succ HP.out HC.out HB'.out HZ.out]
                        exact (H.out.setA 0 (xo (gt z 0) (gt R i))).drew
                      case measure => simp [intOf]; omega
    · obtain rfl : i = 24 := by omega
      have h1 := H.out.ha
      have h2 := H.out.hr
      have hK := H.out.kp
      have hz : (perm3 T R A 24).1.size = 25 := by rw [← HP.out]; exact H.out.za
      clear hwo
      have H1 := Lib.hid h1; have H2 := Lib.hid h2; have HK := Lib.hid hK; clear h1 h2 hK H
      rw [HP.out] at H1
      go_wp2_with (first
        | (refine wpList_load_row rfl 241 _ rfl w.heap.size rfl 241 _ _ _ H1.out Tryz.underlying241 rfl (row25 hz) ?_)
        | (refine wpList_store_row rfl 241 _ _ rfl (w.heap.size + 1) (u64s (perm3 T R A 24).1) rfl rfl 241 _ H2.out (row25 hz) (by simp [u64s, hz]) (u64s_one _) ?_))
      refine bodyPost_ret (v := .agg (u64s (perm3 T R A 24).1)) ?_ rfl ⟨rfl, fun S => (HK.out S).setRow (fun h => absurd h (by omega)) _⟩
      exact results_cell_row rfl _ _ (w.heap.size + 1) 241 _ _ _ rfl (heap_setRow H2.out) Tryz.underlying241 rfl (row25 hz)
end Go.Proofs.YtnifmoigalmcmaaGreat
