/- cairnref03: Keccak. -/
import Derived.Test.YtnifmoigalmcmaaZy
import Derived.Test.YtnifmoigalmcmaaZk
namespace Go.Proofs.Ytnifmoigalmcmaa
open Go Go.RowKit
structure KX (c : Col) (w wx : World) (ab g n : Nat) (P : Nat → Int) (a : Array Int) : Prop where
  wg : w.heap.size < g
  ga : g < ab
  za : a.size = 25
  hr : wx.heap[w.heap.size]? = some (.cells (u8s (List.replicate 32 0)).toArray 67 (0, 0))
  ha : wx.heap[ab]? = some (.cells (u64s a) 95 (0, 0))
  fc : ∀ j, j < n → wx.cell? ⟨g, j, none⟩ = some (.int .u8 (P j))
  kp : ∀ S, Kp c S w wx
section
variable {c : Col} {w wx wy : World} {ab g n : Nat} {P : Nat → Int} {a : Array Int}
theorem KX.drew (h : KX c w wx ab g n P a) : KX c w wx.drew ab g n P a := { h with kp := fun S => (h.kp S).drew }
theorem KX.on (h : KX c w wx ab g n P a) (hK : ∀ S, Kp c S wx wy) : KX c w wy ab g n P a :=
  { h with
    hr := (hK (fun _ => False)).heap h.hr (fun h => h)
    ha := (hK (fun _ => False)).heap h.ha (fun h => h)
    fc := fun j hj => (hK (fun _ => False)).cell (h.fc j hj) (fun h => h)
    kp := fun S => (h.kp S).alloc_trans (hK S) }
theorem KX.setA (h : KX c w wx ab g n P a) (i : Nat) (v : Int) : KX c w (wx.setCell ⟨ab, i, none⟩ (.int .u64 v)) ab g n P (a.setIfInBounds i v) :=
  { h with
    za := by simpa using h.za
    hr := (Below.heap_setCell _ _ _ _ (by have := h.wg; have := h.ga; show w.heap.size ≠ ab; omega)).trans h.hr
    ha := by rw [← u64s_set]; exact heap_setCell h.ha i _
    fc := fun j hj => (World.cell?_of_block (Below.heap_setCell _ _ _ _ (by have := h.ga; show g ≠ ab; omega))).trans (h.fc j hj)
    kp := fun S => (h.kp S).setCell (fun h' => absurd h' (by have := h.wg; have := h.ga; show ¬ ab < w.heap.size; omega)) _ }
theorem KX.row (h : KX c w wx ab g n P a) {a' : Array Int} (hz : a'.size = 25) : KX c w (wx.setRow ab (u64s a')) ab g n P a' :=
  { h with
    za := hz
    hr := (heap_setRow_ne _ _ (by have := h.wg; have := h.ga; show w.heap.size ≠ ab; omega)).trans h.hr
    ha := heap_setRow h.ha
    fc := fun j hj => (World.cell?_of_block (heap_setRow_ne _ _ (by have := h.ga; show g ≠ ab; omega))).trans (h.fc j hj)
    kp := fun S => (h.kp S).setRow (fun h' => absurd h' (by have := h.wg; have := h.ga; omega)) _ }
theorem KX.cA (h : KX c w wx ab g n P a) (i : Nat) (hi : i < 25) : wx.cell? ⟨ab, i, none⟩ = some (.int .u64 (gt a i)) := by
  rw [cell_of_heap h.ha]; exact u64s_at h.za hi
theorem KX.fA (h : KX c w wx ab g n P a) (i : Nat) : wx.frozen? ⟨ab, i, none⟩ = false := unfrozen_of_heap h.ha i
end
def zero32 : Array Value := (u8s (List.replicate 32 0)).toArray
theorem ref_base {c : Col} {w w4 : World} {cs : Array Value} {v4 : Value} (hcs : cs = zero32) (hg : (w.alloc (.cells cs 67)).grownBy w4 none) (hf : ∀ g, v4.ownBlock = some g → (none : Option Nat) = some g ∨ (w.alloc (.cells cs 67)).heap.size ≤ g) :
    ∃ wb, wb.heap.size = w.heap.size + 1 ∧ Bl wb w.heap.size zero32 67 ∧ (∀ S, Kp c S w wb) ∧ (∀ S, Kp c S wb w4) ∧ ∀ g, v4.ownBlock = some g → wb.heap.size ≤ g := by
  subst hcs
  exact ⟨_, by simp, heap_alloc_new _ _, fun S => (Kp.refl c S w).alloc _, fun S => (Kp.refl c S _).grown hg (fun g h => by cases h), fun g h => (hf g h).resolve_left (fun e => by cases e)⟩
def rab (P : Nat → Int) (a : Array Int) : Nat → Array Int
  | 0 => a
  | i + 1 => (rab P a i).setIfInBounds (i / 8) (xo (gt (rab P a i) (i / 8)) (IntKind.u64.wrap (P i * 2 ^ (8 * (i % 8)))))
theorem rab_size (P : Nat → Int) (a : Array Int) : ∀ i, (rab P a i).size = a.size
  | 0 => rfl
  | i + 1 => by simp [rab, rab_size P a i]
def rhT (A : Array Int) : Nat → Array Value
  | 0 => zero32
  | i + 1 => (rhT A i).setIfInBounds i (.int .u8 (gt A (i / 8) / 2 ^ (8 * (i % 8)) % 256))
theorem rhT_size (A : Array Int) : ∀ i, (rhT A i).size = 32
  | 0 => by simp [rhT, zero32, u8s]
  | i + 1 => by rw [rhT, Array.size_setIfInBounds, rhT_size A i]
theorem rhT_eq (A : Array Int) : rhT A 32 = hTab A 4 := by kernel_rfl
/-- The bytes of a word. -/
def xs8 (s : Nat → Int) : Nat → Int
  | 0 => s 0
  | k + 1 => xo (xs8 s k) (s (k + 1))
def nsum (g : Nat → Nat) : Nat → Nat
  | 0 => 0
  | k + 1 => nsum g k + g k * 256 ^ k
theorem nsum_lt (g : Nat → Nat) (h : ∀ j, g j < 256) : ∀ k, nsum g k < 256 ^ k
  | 0 => by simp [nsum]
  | k + 1 => by
    have h1 := nsum_lt g h k
    have h2 := h k
    have h3 : g k * 256 ^ k ≤ 255 * 256 ^ k := Nat.mul_le_mul_right _ (by omega)
    rw [nsum, Nat.pow_succ]; omega
theorem xor_add (a b k : Nat) (h : a < 2 ^ k) : a ^^^ (b * 2 ^ k) = a + b * 2 ^ k := by
  have h1 : a ^^^ (b * 2 ^ k) = (b * 2 ^ k) ||| a := by
    apply Nat.eq_of_testBit_eq
    intro i
    rw [Nat.testBit_xor, Nat.testBit_or]
    by_cases hi : i < k
    · rw [Nat.mul_comm, Nat.testBit_two_pow_mul]
      simp [show ¬ k ≤ i by omega]
    · rw [Nat.testBit_lt_two_pow (Nat.lt_of_lt_of_le h (Nat.pow_le_pow_right (by decide) (by omega)))]
      simp
  rw [h1, Nat.mul_comm, ← Nat.two_pow_add_eq_or_of_lt h, Nat.add_comm]
theorem xo_nat (a b : Nat) (ha : a < 18446744073709551616) (hb : b < 18446744073709551616) : xo (a : Int) (b : Int) = ((a ^^^ b : Nat) : Int) := by
  rw [xo_bv, BitVec.ofInt_natCast, BitVec.ofInt_natCast, BitVec.toNat_xor, BitVec.toNat_ofNat, BitVec.toNat_ofNat, Nat.mod_eq_of_lt (by omega), Nat.mod_eq_of_lt (by omega)]
theorem pow256 (k : Nat) : (256 : Nat) ^ k = 2 ^ (8 * k) := by rw [Nat.pow_mul]
theorem xs8_sum (g : Nat → Nat) (h : ∀ j, g j < 256) : ∀ k, k < 8 → xs8 (fun j => IntKind.u64.wrap ((g j : Int) * 2 ^ (8 * j))) k = ((nsum g (k + 1) : Nat) : Int)
  | 0, _ => by
    have := h 0
    show IntKind.u64.wrap ((g 0 : Int) * 2 ^ (8 * 0)) = _
    rw [IntKind.wrap_u64]
    simp [nsum]
    omega
  | k + 1, hk => by
    have h1 := nsum_lt g h (k + 1)
    have h2 := nsum_lt g h (k + 1 + 1)
    have h3 : (256 : Nat) ^ (k + 1 + 1) ≤ 256 ^ 8 := Nat.pow_le_pow_right (by decide) (by omega)
    have h4 : (256 : Nat) ^ (k + 1) ≤ 256 ^ 8 := Nat.pow_le_pow_right (by decide) (by omega)
    have e : nsum g (k + 1 + 1) = nsum g (k + 1) + g (k + 1) * 256 ^ (k + 1) := rfl
    have h5 : g (k + 1) * 256 ^ (k + 1) < 18446744073709551616 := by omega
    have e1 : IntKind.u64.wrap ((g (k + 1) : Int) * 2 ^ (8 * (k + 1))) = ((g (k + 1) * 256 ^ (k + 1) : Nat) : Int) := by
      have e2 : (g (k + 1) : Int) * 2 ^ (8 * (k + 1)) = ((g (k + 1) * 256 ^ (k + 1) : Nat) : Int) := by rw [pow256]; push_cast; rfl
      rw [e2, IntKind.wrap_u64]; omega
    rw [xs8, xs8_sum g h k (by omega), e1, xo_nat _ _ (by omega) h5, e, pow256]
    rw [xor_add _ _ _ (by rw [← pow256]; exact h1)]
theorem wd_step (n x : Nat) (hn : n < 2 ^ 56) (hx : x < 256) : bits BinOp.or IntKind.u64 (IntKind.u64.wrap ((n : Int) * 2 ^ 8)) (x : Int) = ((n * 256 + x : Nat) : Int) := by
  have e : IntKind.u64.wrap ((n : Int) * 2 ^ 8) = ((2 ^ 8 * n : Nat) : Int) := by rw [IntKind.wrap_u64]; omega
  rw [e, bits_or_u64_nat _ _ (by omega) (by omega), ← Nat.two_pow_add_eq_or_of_lt (i := 8) (by omega)]
  omega
theorem wd_sum (g : Nat → Nat) (h : ∀ j, g j < 256) : wd (fun j => (g j : Int)) 8 = ((nsum g 8 : Nat) : Int) := by
  have h0 := h 0; have h1 := h 1; have h2 := h 2; have h3 := h 3; have h4 := h 4; have h5 := h 5; have h6 := h 6; have h7 := h 7
  have e0 : wd (fun j => (g j : Int)) 0 = ((0 : Nat) : Int) := rfl
  have e1 : wd (fun j => (g j : Int)) 1 = ((0 * 256 + g 7 : Nat) : Int) := by rw [wd, e0]; exact wd_step _ _ (by omega) h7
  have e2 : wd (fun j => (g j : Int)) 2 = (((0 * 256 + g 7) * 256 + g 6 : Nat) : Int) := by rw [wd, e1]; exact wd_step _ _ (by omega) h6
  have e3 : wd (fun j => (g j : Int)) 3 = ((((0 * 256 + g 7) * 256 + g 6) * 256 + g 5 : Nat) : Int) := by rw [wd, e2]; exact wd_step _ _ (by omega) h5
  have e4 : wd (fun j => (g j : Int)) 4 = (((((0 * 256 + g 7) * 256 + g 6) * 256 + g 5) * 256 + g 4 : Nat) : Int) := by rw [wd, e3]; exact wd_step _ _ (by omega) h4
  have e5 : wd (fun j => (g j : Int)) 5 = ((((((0 * 256 + g 7) * 256 + g 6) * 256 + g 5) * 256 + g 4) * 256 + g 3 : Nat) : Int) := by rw [wd, e4]; exact wd_step _ _ (by omega) h3
  have e6 : wd (fun j => (g j : Int)) 6 = (((((((0 * 256 + g 7) * 256 + g 6) * 256 + g 5) * 256 + g 4) * 256 + g 3) * 256 + g 2 : Nat) : Int) := by rw [wd, e5]; exact wd_step _ _ (by omega) h2
  have e7 : wd (fun j => (g j : Int)) 7 = ((((((((0 * 256 + g 7) * 256 + g 6) * 256 + g 5) * 256 + g 4) * 256 + g 3) * 256 + g 2) * 256 + g 1 : Nat) : Int) := by rw [wd, e6]; exact wd_step _ _ (by omega) h1
  have e8 : wd (fun j => (g j : Int)) 8 = (((((((((0 * 256 + g 7) * 256 + g 6) * 256 + g 5) * 256 + g 4) * 256 + g 3) * 256 + g 2) * 256 + g 1) * 256 + g 0 : Nat) : Int) := by rw [wd, e7]; exact wd_step _ _ (by omega) h0
  rw [e8]
  simp only [nsum]
  omega
theorem xs8_wd {P : Nat → Int} (h : ∀ j, 0 ≤ P j ∧ P j < 256) : xs8 (fun j => IntKind.u64.wrap (P j * 2 ^ (8 * j))) 7 = wd P 8 := by
  have e : P = fun j => ((P j).toNat : Int) := funext fun j => by have := (h j).1; omega
  have hb : ∀ j, (P j).toNat < 256 := fun j => by have := h j; omega
  rw [e]
  exact (xs8_sum (fun j => (P j).toNat) hb 7 (by decide)).trans (wd_sum (fun j => (P j).toNat) hb).symm
theorem rab_in (P : Nat → Int) (a : Array Int) (i : Nat) (hi : i < a.size) : ∀ k, k < 8 → rab P a (8 * i + (k + 1)) = (rab P a (8 * i)).setIfInBounds i (xo (gt (rab P a (8 * i)) i) (xs8 (fun j => IntKind.u64.wrap (P (8 * i + j) * 2 ^ (8 * j))) k))
  | 0, _ => by
    show rab P a (8 * i + 1) = _
    rw [rab, show 8 * i / 8 = i by omega, show 8 * i % 8 = 0 by omega]; rfl
  | k + 1, hk => by
    rw [show 8 * i + (k + 1 + 1) = 8 * i + (k + 1) + 1 by omega, rab, show (8 * i + (k + 1)) / 8 = i by omega, show (8 * i + (k + 1)) % 8 = k + 1 by omega, rab_in P a i hi k (by omega), Array.setIfInBounds_setIfInBounds]
    have hs : i < (rab P a (8 * i)).size := by rw [rab_size]; exact hi
    congr 1
    unfold gt
    rw [Array.getElem?_setIfInBounds_self_of_lt hs, Option.getD_some, xo_assoc]
    rfl
theorem rab_eq (P : Nat → Int) (h : ∀ j, 0 ≤ P j ∧ P j < 256) (a : Array Int) (ha : a.size = 25) : ∀ i, i ≤ 17 → rab P a (8 * i) = abso P a i
  | 0, _ => rfl
  | i + 1, hi => by
    have e := rab_in P a i (by omega) 7 (by decide)
    rw [show 8 * i + (7 + 1) = 8 * (i + 1) by omega] at e
    rw [e, abso, rab_eq P h a ha i (by omega), xs8_wd (P := fun j => P (8 * i + j)) (fun j => h _)]
end Go.Proofs.Ytnifmoigalmcmaa
