/- cairnref03: Keccak. -/
import Derived.Test.YtnifmoigalmcmaaGreatZy
import Derived.Test.YtnifmoigalmcmaaGreatZk
namespace Go.Proofs.YtnifmoigalmcmaaGreat
open Go Go.RowKit
structure KX (c : Col) (w wx : World) (ab g n : Nat) (P : Nat → Int) (a : Array Int) : Prop where
  wg : w.heap.size < g
  ga : g < ab
  za : a.size = 25
  hr : wx.heap[w.heap.size]? = some (.cells (u8s (List.replicate 32 0)).toArray 183 (0, 0))
  ha : wx.heap[ab]? = some (.cells (u64s a) 241 (0, 0))
  fc : ∀ j, j < n → wx.cell? ⟨g, j, none⟩ = some (.int .u8 (P j))
  kp : ∀ S, Kp c S w wx
section
variable {c : Col} {w wx wy : World} {ab g n : Nat} {P : Nat → Int} {a : Array Int}
theorem KX.drew (h : KX c w wx ab g n P a) : KX c w wx.drew ab g n P a := { h with kp := fun S => (h.kp S).drew }
theorem KX.on (h : KX c w wx ab g n P a) (hK : ∀ S, Kp c S wx wy) : KX c w wy ab g n P a :=
  { h with
    hr := (hK (fun _ => False)).heap h.hr (fun h => h)
    ha := (hK (fun _ => False)).heap h.ha (fun h => h)
    fc := fun j hj => (hK (fun _ => False)).cell (h.fc j hj) (fun h => h)
    kp := fun S => (h.kp S).alloc_trans (hK S) }
theorem KX.setA (h : KX c w wx ab g n P a) (i : Nat) (v : Int) : KX c w (wx.setCell ⟨ab, i, none⟩ (.int .u64 v)) ab g n P (a.setIfInBounds i v) :=
  { h with
    za := by simpa using h.za
    hr := (Below.heap_setCell _ _ _ _ (by have := h.wg; have := h.ga; show w.heap.size ≠ ab; omega)).trans h.hr
    ha := by rw [← u64s_set]; exact heap_setCell h.ha i _
    fc := fun j hj => (World.cell?_of_block (Below.heap_setCell _ _ _ _ (by have := h.ga; show g ≠ ab; omega))).trans (h.fc j hj)
    kp := fun S => (h.kp S).setCell (fun h' => absurd h' (by have := h.wg; have := h.ga; show ¬ ab < w.heap.size; omega)) _ }
theorem KX.row (h : KX c w wx ab g n P a) {a' : Array Int} (hz : a'.size = 25) : KX c w (wx.setRow ab (u64s a')) ab g n P a' :=
  { h with
    za := hz
    hr := (heap_setRow_ne _ _ (by have := h.wg; have := h.ga; show w.heap.size ≠ ab; omega)).trans h.hr
    ha := heap_setRow h.ha
    fc := fun j hj => (World.cell?_of_block (heap_setRow_ne _ _ (by have := h.ga; show g ≠ ab; omega))).trans (h.fc j hj)
    kp := fun S => (h.kp S).setRow (fun h' => absurd h' (by have := h.wg; have := h.ga; omega)) _ }
theorem KX.cA (h : KX c w wx ab g n P a) (i : Nat) (hi : i < 25) : wx.cell? ⟨ab, i, none⟩ = some (.int .u64 (gt a i)) := by
  rw [cell_of_heap h.ha]; exact u64s_at h.za hi
theorem KX.fA (h : KX c w wx ab g n P a) (i : Nat) : wx.frozen? ⟨ab, i, none⟩ = false := unfrozen_of_heap h.ha i
end
def zero32 : Array Value := (u8s (List.replicate 32 0)).toArray
theorem ref_base {c : Col} {w w4 : World} {cs : Array Value} {v4 : Value} (hcs : cs = zero32) (hg : (w.alloc (.cells cs 183)).grownBy w4 none) (hf : ∀ g, v4.ownBlock = some g → (none : Option Nat) = some g ∨ (w.alloc (.cells cs 183)).heap.size ≤ g) :
    ∃ wb, wb.heap.size = w.heap.size + 1 ∧ Bl wb w.heap.size zero32 183 ∧ (∀ S, Kp c S w wb) ∧ (∀ S, Kp c S wb w4) ∧ ∀ g, v4.ownBlock = some g → wb.heap.size ≤ g := by
  subst hcs
  exact ⟨_, by simp, heap_alloc_new _ _, fun S => (Kp.refl c S w).alloc _, fun S => (Kp.refl c S _).grown hg (fun g h => by cases h), fun g h => (hf g h).resolve_left (fun e => by cases e)⟩
def rab (P : Nat → Int) (a : Array Int) : Nat → Array Int
  | 0 => a
  | i + 1 => (rab P a i).setIfInBounds (i / 8) (xo (gt (rab P a i) (i / 8)) (IntKind.u64.wrap (P i * 2 ^ (8 * (i % 8)))))
theorem rab_size (P : Nat → Int) (a : Array Int) : ∀ i, (rab P a i).size = a.size
  | 0 => rfl
  | i + 1 => by simp [rab, rab_size P a i]
def rhT (A : Array Int) : Nat → Array Value
  | 0 => zero32
  | i + 1 => (rhT A i).setIfInBounds i (.int .u8 (gt A (i / 8) / 2 ^ (8 * (i % 8)) % 256))
theorem rhT_size (A : Array Int) : ∀ i, (rhT A i).size = 32
  | 0 => by simp [rhT, zero32, u8s]
  | i + 1 => by rw [rhT, Array.size_setIfInBounds, rhT_size A i]
theorem rhT_eq (A : Array Int) : rhT A 32 = hTab A 4 := by kernel_rfl
/-- The bytes of a word. -/
def xs8 (s : Nat → Int) : Nat → Int
  | 0 => s 0
  | k + 1 => xo (xs8 s k) (s (k + 1))
def nsum (g : Nat → Nat) : Nat → Nat
  | 0 => 0
  | k + 1 => nsum g k + g k * 256 ^ k
theorem nsum_lt (g : Nat → Nat) (h : ∀ j, g j < 256) : ∀ k, nsum g k < 256 ^ k
  | 0 => by simp [nsum]
  | k + 1 => by
    have h1 := nsum_lt g h k
    have h2 := h k
    have h3 : g k * 256 ^ k ≤ 255 * 256 ^ k := Nat.mul_le_mul_right _ (by omega)
    rw [nsum, Nat.pow_succ]; omega
theorem xor_add (a b k : Nat) (h : a < 2 ^ k) : a ^^^ (b * 2 ^ k) = a + b * 2 ^ k := by
  have h1 : a ^^^ (b * 2 ^ k) = (b * 2 ^ k) ||| a := by
    apply Nat.eq_of_testBit_eq
    intro i
    rw [Nat.testBit_xor, Nat.testBit_or]
    by_cases hi : i < k
    · rw [Nat.mul_comm, Nat.testBit_two_pow_mul]
      simp [show ¬ k ≤ i by omega]
    · rw [Nat.testBit_lt_two_pow (Nat.lt_of_lt_of_le h (Nat.pow_le_pow_right (by decide) (by omega)))]
      simp
  rw [h1, Nat.mul_comm, ← Nat.two_pow_add_eq_or_of_lt h, Nat.add_comm]
theorem xo_nat (a b : Nat) (ha : a < 18446744073709551616) (hb : b < 18446744073709551616) : xo (a : Int) (b : Int) = ((a ^^^ b : Nat) : Int) := by
  rw [xo_bv, BitVec.ofInt_natCast, BitVec.ofInt_natCast, BitVec.toNat_xor, BitVec.toNat_ofNat, BitVec.toNat_ofNat, Nat.mod_eq_of_lt (by omega), Nat.mod_eq_of_lt (by omega)]
theorem pow256 (k : Nat) : (256 : Nat) ^ k = 2 ^ (8 * k) := by rw [Nat.pow_mul]
theorem xs8_sum (g : Nat → Nat) (h : ∀ j, g j < 256) : ∀ k, k < 8 → xs8 (fun j => IntKind.u64.wrap ((g j : Int) * 2 ^ (8 * j))) k = ((nsum g (k + 1) : Nat) : Int)
  | 0, _ => by
    have := h 0
    show IntKind.u64.wrap ((g 0 : Int) * 2 ^ (8 * 0)) = _
    rw [IntKind.wrap_u64]
    simp [nsum]
    omega
  | k + 1, hk => by
    have h1 := nsum_lt g h (k + 1)
    have h2 := nsum_lt g h (k + 1 + 1)
    have h3 : (256 : Nat) ^ (k + 1 + 1) ≤ 256 ^ 8 := Nat.pow_le_pow_right (by decide) (by omega)
    have h4 : (256 : Nat) ^ (k + 1) ≤ 256 ^ 8 := Nat.pow_le_pow_right (by decide) (by omega)
    have e : nsum g (k + 1 + 1) = nsum g (k + 1) + g (k + 1) * 256 ^ (k + 1) := rfl
    have h5 : g (k + 1) * 256 ^ (k + 1) < 18446744073709551616 := by omega
    have e1 : IntKind.u64.wrap ((g (k + 1) : Int) * 2 ^ (8 * (k + 1))) = ((g (k + 1) * 256 ^ (k + 1) : Nat) : Int) := by
      have e2 : (g (k + 1) : Int) * 2 ^ (8 * (k + 1)) = ((g (k + 1) * 256 ^ (k + 1) : Nat) : Int) := by rw [pow256]; push_cast; rfl
      rw [e2, IntKind.wrap_u64]; omega
    rw [xs8, xs8_sum g h k (by omega), e1, xo_nat _ _ (by omega) h5, e, pow256]
    rw [xor_add _ _ _ (by rw [← pow256]; exact h1)]
theorem wd_step (n x : Nat) (hn : n < 2 ^ 56) (hx : x < 256) : bits BinOp.or IntKind.u64 (IntKind.u64.wrap ((n : Int) * 2 ^ 8)) (x : Int) = ((n * 256 + x : Nat) : Int) := by
  have e : IntKind.u64.wrap ((n : Int) * 2 ^ 8) = ((2 ^ 8 * n : Nat) : Int) := by rw [IntKind.wrap_u64]; omega
  rw [e, bits_or_u64_nat _ _ (by omega) (by omega), ← Nat.two_pow_add_eq_or_of_lt (i := 8) (by omega)]
  omega
theorem wd_sum (g : Nat → Nat) (h : ∀ j, g j < 256) : wd (fun j => (g j : Int)) 8 = ((nsum g 8 : Nat) : Int) := by
  have h0 := h 0; have h1 := h 1; have h2 := h 2; have h3 := h 3; have h4 := h 4; have h5 := h 5; have h6 := h 6; have h7 := h 7
  have e0 : wd (fun j => (g j : Int)) 0 = ((0 : Nat) : Int) := rfl
  have e1 : wd (fun j => (g j : Int)) 1 = ((0 * 256 + g 7 : Nat) : Int) := by rw [wd, e0]; exact wd_step _ _ (by omega) h7
  have e2 : wd (fun j => (g j : Int)) 2 = (((0 * 256 + g 7) * 256 + g 6 : Nat) : Int) := by rw [wd, e1]; exact wd_step _ _ (by omega) h6
  have e3 : wd (fun j => (g j : Int)) 3 = ((((0 * 256 + g 7) * 256 + g 6) * 256 + g 5 : Nat) : Int) := by rw [wd, e2]; exact wd_step _ _ (by omega) h5
  have e4 : wd (fun j => (g j : Int)) 4 = (((((0 * 256 + g 7) * 256 + g 6) * 256 + g 5) * 256 + g 4 : Nat) : Int) := by rw [wd, e3]; exact wd_step _ _ (by omega) h4
  have e5 : wd (fun j => (g j : Int)) 5 = ((((((0 * 256 + g 7) * 256 + g 6) * 256 + g 5) * 256 + g 4) * 256 + g 3 : Nat) : Int) := by rw [wd, e4]; exact wd_step _ _ (by omega) h3
  have e6 : wd (fun j => (g j : Int)) 6 = (((((((0 * 256 + g 7) * 256 + g 6) * 256 + g 5) * 256 + g 4) * 256 + g 3) * 256 + g 2 : Nat) : Int) := by rw [wd, e5]; exact wd_step _ _ (by omega) h2
  have e7 : wd (fun j => (g j : Int)) 7 = ((((((((0 * 256 + g 7) * 256 + g 6) * 256 + g 5) * 256 + g 4) * 256 + g 3) * 256 + g 2) * 256 + g 1 : Nat) : Int) := by rw [wd, e6]; exact wd_step _ _ (by omega) h1
  have e8 : wd (fun j => (g j : Int)) 8 = (((((((((0 * 256 + g 7) * 256 + g 6) * 256 + g 5) * 256 + g 4) * 256 + g 3) * 256 + g 2) * 256 + g 1) * 256 + g 0 : Nat) : Int) := by rw [wd, e7]; exact wd_step _ _ (by omega) h0
  rw [e8]
  simp only [nsum]
  omega
theorem xs8_wd {P : Nat → Int} (h : ∀ j, 0 ≤ P j ∧ P j < 256) : xs8 (fun j => IntKind.u64.wrap (P j * 2 ^ (8 * j))) 7 = wd P 8 := by
  have e : P = fun j => ((P j).toNat : Int) := funext fun j => by have := (h j).1; omega
  have hb : ∀ j, (P j).toNat < 256 := fun j => by have := h j; omega
  rw [e]
  exact (xs8_sum (fun j => (P j).toNat) hb 7 (by decide)).trans (wd_sum (fun j => (P j).toNat) hb).symm
theorem rab_in (P : Nat → Int) (a : Array Int) (i : Nat) (hi : i < a.size) : ∀ k, k < 8 → rab P a (8 * i + (k + 1)) = (rab P a (8 * i)).setIfInBounds i (xo (gt (rab P a (8 * i)) i) (xs8 (fun j => IntKind.u64.wrap (P (8 * i + j) * 2 ^ (8 * j))) k))
  | 0, _ => by
    show rab P a (8 * i + 1) = _
    rw [rab, show 8 * i / 8 = i by omega, show 8 * i % 8 = 0 by omega]; rfl
  | k + 1, hk => by
    rw [show 8 * i + (k + 1 + 1) = 8 * i + (k + 1) + 1 by omega, rab, show (8 * i + (k + 1)) / 8 = i by omega, show (8 * i + (k + 1)) % 8 = k + 1 by omega, rab_in P a i hi k (by omega), Array.setIfInBounds_setIfInBounds]
    have hs : i < (rab P a (8 * i)).size := by rw [rab_size]; exact hi
    congr 1
    unfold gt
    rw [Array.getElem?_setIfInBounds_self_of_lt hs, Option.getD_some, xo_assoc]
    rfl
theorem rab_eq (P : Nat → Int) (h : ∀ j, 0 ≤ P j ∧ P j < 256) (a : Array Int) (ha : a.size = 25) : ∀ i, i ≤ 17 → rab P a (8 * i) = abso P a i
  | 0, _ => rfl
  | i + 1, hi => by
    have e := rab_in P a i (by omega) 7 (by decide)
    rw [show 8 * i + (7 + 1) = 8 * (i + 1) by omega] at e
    rw [e, abso, rab_eq P h a ha i (by omega), xs8_wd (P := fun j => P (8 * i + j)) (fun j => h _)]
end Go.Proofs.YtnifmoigalmcmaaGreat
/- cairnref03: Keccak, the walk. -/
namespace Go.Proofs.YtnifmoigalmcmaaGreat
open Go Go.RowKit
theorem kx_mid {c : Col} {w wb wr : World} {g n z : Nat} {l : List UInt8} {cur : Array Value} {y : Int} (hws : wb.heap.size = w.heap.size + 1) (hwr : Bl wb w.heap.size zero32 183) (hwk : ∀ S, Kp c S w wb) (hK : ∀ S, Kp c S wb wr) (hg : wb.heap.size ≤ g) (hn : n = l.length + 1 + z)
    (hcur : wr.heap[g]? = some (.cells cur 5 (0, 0))) (htk : cur.toList.take n = u8s (padz l z)) (hy : y = (padz l z)[n - 1]?.getD 0) :
    KX c w ((wr.setCell ⟨g, n - 1, none⟩ (.int .u8 (bits BinOp.or IntKind.u8 y 128))).alloc (.cells (u64s (Array.replicate 25 0)) 241)) wr.heap.size g n (pf l z) (Array.replicate 25 0) := by
  have hgl := lt_of_heap hcur
  have hsz : (wr.setCell ⟨g, n - 1, none⟩ (.int .u8 (bits BinOp.or IntKind.u8 y 128))).heap.size = wr.heap.size := by simp [World.setCell]
  have hcs : n ≤ cur.size := by
    have := congrArg List.length htk
    simp [u8s, padz_length] at this; omega
  have h1 : ∀ S, Kp c S w (wr.setCell ⟨g, n - 1, none⟩ (.int .u8 (bits BinOp.or IntKind.u8 y 128))) := fun S => ((hwk S).alloc_trans (hK S)).setCell (fun h' => absurd h' (by show ¬ g < w.heap.size; omega)) _
  refine ⟨by omega, hgl, by simp, ?_, ?_, ?_, fun S => (h1 S).alloc _⟩
  · exact heap_alloc_old _ ((Below.heap_setCell _ _ _ _ (by show w.heap.size ≠ g; omega)).trans ((hK (fun _ => False)).heap hwr (fun h => h)))
  · have := heap_alloc_new (wr.setCell ⟨g, n - 1, none⟩ (.int .u8 (bits BinOp.or IntKind.u8 y 128))) (.cells (u64s (Array.replicate 25 0)) 241)
    rw [hsz] at this; exact this
  · intro j hj
    have h2 := heap_alloc_old (.cells (u64s (Array.replicate 25 0)) 241) (heap_setCell hcur (n - 1) (.int .u8 (bits BinOp.or IntKind.u8 y 128)))
    rw [cell_of_heap h2, Array.getElem?_setIfInBounds]
    unfold pf padd
    rw [List.getElem?_set]
    by_cases he : n - 1 = j
    · rw [if_pos he, if_pos (by omega), if_pos (by omega), if_pos (by rw [padz_length]; omega), hy, show l.length + z = n - 1 by omega]; rfl
    · rw [if_neg he, if_neg (by omega)]; exact take_at htk (by rw [padz_length]; omega)
set_option maxRecDepth 20000 in
set_option maxHeartbeats 4000000 in
theorem rkec1 (c : Col) (w : World) (b o cap : Nat) (l : List UInt8) (hl : l.length ≤ 20000000) (hc : ∀ (j : Nat) u, (l.map bv)[j]? = some u → w.cell? ⟨b, o + j, none⟩ = some u) :
    Calls Tryz.prog 132 #[.slice (some ⟨b, o, none⟩) l.length cap] w fun e w' => e = .returned (.agg ((kec l).map bv).toArray) ∧ ∀ S, Kp c S w w' := by
  have HC := Lib.hid hc; clear hc
  obtain ⟨T, hT⟩ : ∃ T, T = rhoTab 24 := ⟨_, rfl⟩
  obtain ⟨R, hR⟩ : ∃ R, R = iotaTab 168 := ⟨_, rfl⟩
  have HT := Lib.hid hT; have HR := Lib.hid hR; clear hT hR
  go_enter Tryz.func132, Tryz.ntmps132
  obtain ⟨i0, hi, hz0, hz1, hz2⟩ := info_parts info_u8
  have H6 := Lib.hid hi; have H7 := Lib.hid hz0; have H8 := Lib.hid hz1; have H9 := Lib.hid hz2; clear hi hz0 hz1 hz2
  go_wp2_with (first
    | (at_builtin; refine wpList_append2 rfl _ _ _ rfl 5 i0 (.int .u8 0) 1 Tryz.underlying41 H6.out H7.out H8.out H9.out rfl v4 l.length (l.map bv) rfl (owns_alloc HO4.out _) ⟨w4.heap.size, 0, none⟩ 1 1 [.int .u8 1] rfl rfl (one_new _ _ _) (by simp [Value.oneCell']) (by unfold maxLen; omega) (by omega) ?_; intro v5 w5 hown5 hg5 hf5; have HO5 := Lib.hid hown5; have HF5 := Lib.hid (own_fresh HF4.out (by have := ((HK4.out (fun _ => False)).alloc (.cells #[.int .u8 1] 5)).size; exact this) hf5); have HK5 := Lib.hid (fun S => ((HK4.out S).alloc _).grown hg5 (fun g h hlt => absurd (HF4.out g h) (by omega))); clear hown5 hg5 hf5)
    | (at_builtin; refine wpList_append2 rfl _ _ _ rfl 5 i0 (.int .u8 0) 1 Tryz.underlying41 H6.out H7.out H8.out H9.out rfl (.slice none 0 0) 0 [] rfl (World.ownsRow_nil _ _ _ _) ⟨b, o, none⟩ l.length cap (l.map bv) rfl (by simp) (fun j u hj => by rw [add_eq rfl]; exact ((Kp.refl c (fun _ => False) w).alloc _).cell (HC.out j u hj) (fun h => h)) (one_bv l) (by unfold maxLen; omega) (by omega) ?_; intro v4 w4 hown4 hg4 hf4; simp only [Nat.zero_add, List.nil_append] at hown4; have HO4 := Lib.hid hown4; obtain ⟨wb, hws, hwr, hwk, hk4, hv4⟩ := ref_base (c := c) (by kernel_rfl) hg4 hf4; have HWR := Lib.hid hwr; have HWK := Lib.hid hwk; have HK4 := Lib.hid hk4; have HF4 := Lib.hid hv4; clear hown4 hg4 hf4 hwr hwk hk4 hv4))
  obtain ⟨m, hm⟩ : ∃ m, m = (136 - (l.length + 1) % 136) % 136 := ⟨_, rfl⟩
  go_loopw [3] (fun v wr => ∃ z : Nat, z ≤ m ∧ wr.ownsRow 0 5 1 v (l.length + 1 + z) (u8s (padz l z)) ∧ (∀ g, v.ownBlock = some g → wb.heap.size ≤ g) ∧ ∀ S, Kp c S wb wr) (fun v _ => l.length + 1 + m - lenOf v)
  case atStart => exact ⟨0, by omega, (by rw [padz_zero]; exact HO5.out), HF5.out, HK5.out⟩
  case round =>
    obtain ⟨z, hz, ho, hf, hK⟩ := hrel
    obtain ⟨g, cp, rfl⟩ := own_succ (k := l.length + z) (by rw [show l.length + z + 1 = l.length + 1 + z by omega]; exact ho)
    rw [show l.length + z + 1 = l.length + 1 + z by omega] at ho hf ⊢
    obtain ⟨n, hn⟩ : ∃ n, n = l.length + 1 + z := ⟨_, rfl⟩
    rw [← hn] at ho hf ⊢
    have hn63 : n ≤ 30000000 := by omega
    by_cases hlt : z < m
    · have hmod : ¬ (n : Int) % 136 = 0 := by omega
      have HO := Lib.hid ho; have HF := Lib.hid hf; have HK := Lib.hid hK; have HM := Lib.hid hm; have HN := Lib.hid hn
      clear ho hf hK hm hn HO5 HF5 HK5 HO4 HF4 HK4
      go_wp2_with (first
        | (at_builtin; refine wpList_append2 rfl _ _ _ rfl 5 i0 (.int .u8 0) 1 Tryz.underlying41 H6.out H7.out H8.out H9.out rfl (.slice (some ⟨g, 0, none⟩) n cp) n (u8s (padz l z)) rfl (owns_alloc HO.out _) ⟨wr.heap.size, 0, none⟩ 1 1 [.int .u8 0] rfl rfl (one_new _ _ _) (by simp [Value.oneCell']) (by unfold maxLen; omega) (by omega) ?_; intro v6 w6 hown6 hg6 hf6; have HO6 := Lib.hid hown6; have HF6 := Lib.hid (own_fresh HF.out (by have := ((HK.out (fun _ => False)).alloc (.cells #[.int .u8 0] 5)).size; exact this) hf6); have HK6 := Lib.hid (fun S => ((HK.out S).alloc _).grown hg6 (fun g' h hlt => absurd (HF.out g' h) (by omega))); clear hown6 hg6 hf6))
      go_roundw
      case rel => exact ⟨z + 1, by omega, (by rw [padz_succ, show l.length + 1 + (z + 1) = n + 1 by rw [HN.out]; omega]; exact HO6.out), HF6.out, HK6.out⟩
      case measure =>
        obtain ⟨g', cp', rfl⟩ := own_succ HO6.out
        simp only [lenOf]; have := HN.out; omega
    · obtain rfl : z = m := by omega
      have hmod : (n : Int) % 136 = 0 := by omega
      have hn0 : 0 < n := by omega
      obtain ⟨q, hq⟩ : ∃ q, n = 136 * q := ⟨n / 136, by omega⟩
      obtain ⟨cur, hcur, hcn, htk, hcpm⟩ := own_row ho hn0
      have HCPM := Lib.hid hcpm; clear hcpm
      obtain ⟨y, hy⟩ : ∃ y, y = (padz l z)[n - 1]?.getD 0 := ⟨_, rfl⟩
      have g0 : wr.cell? ⟨g, n - 1, none⟩ = some (.int .u8 y) := by
        rw [cell_of_heap hcur, hy]; exact take_at htk (by rw [padz_length]; omega)
      have f0 := unfrozen_of_heap hcur (n - 1)
      have HCU := Lib.hid hcur; have HTK := Lib.hid htk; have HY := Lib.hid hy; have HQ := Lib.hid hq; have HCN := Lib.hid hcn
      have HO := Lib.hid ho; have HF := Lib.hid hf; have HK := Lib.hid hK; have HM := Lib.hid hm; have HN := Lib.hid hn; have HWS := Lib.hid hws
      have i1 : ((n : Int) - 1).toNat = n - 1 := by omega
      have i2 : (0 : Int) ≤ (n : Int) - 1 := by omega
      have i3 : (1 : Int) ≤ (n : Int) := by omega
      clear ho hf hK hm hn HO5 HF5 HK5 HO4 HF4 HK4 hcur htk hy hq hcn hlt hz hws
      go_wp2
      rw [← u64s_25]
      have KM := Lib.hid (kx_mid HWS.out HWR.out HWK.out HK.out (HF.out g rfl) HN.out HCU.out HTK.out HY.out)
      obtain ⟨wa, hwa⟩ : ∃ wa, wa = ((wr.setCell ⟨g, n - 1, none⟩ (.int .u8 (bits BinOp.or IntKind.u8 y 128))).alloc (.cells (u64s (Array.replicate 25 0)) 241)) := ⟨_, rfl⟩
      obtain ⟨ab, hab⟩ : ∃ ab, ab = wr.heap.size := ⟨_, rfl⟩
      rw [← hwa, ← hab] at KM
      rw [← hwa, ← hab]
      clear hwa hab
      obtain ⟨P, hP⟩ : ∃ P, P = pf l z := ⟨_, rfl⟩
      rw [← hP] at KM
      have HP := Lib.hid hP
      have HRG := Lib.hid (show ∀ j, 0 ≤ P j ∧ P j < 256 from fun j => by rw [hP]; exact pf_range l z j); clear hP
      (try simp only [hmod])
      clear hmod HWR HWK
      go_loopw [5] (fun s wx => ∃ t : Nat, t ≤ q ∧ s = .int .i64 ((136 * t : Nat) : Int) ∧ KX c w wx ab g n P (spg T R P t)) (fun s _ => n - (intOf s).toNat)
      case atStart => exact ⟨0, by omega, rfl, KM.out⟩
      case round =>
        obtain ⟨t, ht, rfl, hm⟩ := hrel
        have KM := Lib.hid hm; clear hm
        by_cases htq : t < q
        · have hnt : 136 * t + 136 ≤ n := by have := HQ.out; omega
          obtain ⟨at0, hat0⟩ : ∃ at0, at0 = 136 * t := ⟨_, rfl⟩
          rw [← hat0] at hnt ⊢
          obtain ⟨A, hA⟩ : ∃ A, A = spg T R P t := ⟨_, rfl⟩
          rw [← hA] at KM
          have HA := Lib.hid hA; have HAT := Lib.hid hat0; clear hA hat0
          have hcn := HCN.out
          have hcp := HCPM.out
          unfold maxLen at hcp
          go_wp2
          go_loopw [6] (fun s wx => ∃ i : Nat, i ≤ 136 ∧ s = .int .i64 i ∧ KX c w wx ab g n P (rab (fun j => P (at0 + j)) A i)) (fun s _ => 136 - (intOf s).toNat)
          case atStart => exact ⟨0, by omega, rfl, KM.out⟩
          case round =>
            obtain ⟨i, hi, rfl, hm⟩ := hrel
            clear KM
            by_cases hil : i < 136
            · have g0 := hm.cA (i / 8) (by omega)
              have f := hm.fA (i / 8)
              have g1 := hm.fc (at0 + i) (by omega)
              have KM := Lib.hid hm; clear hm
              have d1 : ((i : Nat) : Int).tdiv 8 = ((i / 8 : Nat) : Int) := by rw [Int.tdiv_eq_ediv_of_nonneg (by omega)]; omega
              have d2 : ((i : Nat) : Int).tmod 8 = ((i % 8 : Nat) : Int) := by rw [Int.tmod_eq_emod_of_nonneg (by omega)]; omega
              obtain ⟨hp0, hp1⟩ := HRG.out (at0 + i)
              go_wp2
              go_region
              go_wp2
              go_roundw
              case rel => exact ⟨i + 1, by omega, by go_num, (KM.out.setA (i / 8) _).drew⟩
              case measure => simp [intOf]; omega
            · obtain rfl : i = 136 := by omega
              obtain ⟨B, hB⟩ : ∃ B, B = rab (fun j => P (at0 + j)) A 136 := ⟨_, rfl⟩
              rw [← hB] at hm
              have KM := Lib.hid hm
              have HBB := Lib.hid (show B = abso (fun j => P (136 * t + j)) A 17 from by rw [hB, ← HAT.out]; exact rab_eq (fun j => P (at0 + j)) (fun j => HRG.out _) A (by have h1 := hm.za; rw [hB, rab_size] at h1; exact h1) 17 (by omega))
              have h1 := KM.out.ha; have hz25 := KM.out.za
              have H1 := Lib.hid h1; have HZ := Lib.hid hz25
              clear hm hB h1 hz25
              go_wp2_with (first
                | (refine wpList_load_row rfl 241 _ rfl ab rfl 241 _ _ _ H1.out Tryz.underlying241 rfl (row25 HZ.out) ?_)
                | (go_at_call 168; refine (rpermute_c c wr B HZ.out).mono ?_; rintro _ w7 ⟨rfl, hK7⟩; rw [← HT.out, ← HR.out]; have KM7 := Lib.hid (KM.out.on hK7); have H3 := Lib.hid KM7.out.ha; have H4 := Lib.hid (perm3_size T R HZ.out 24); clear hK7)
                | (refine wpList_store_row rfl 241 _ _ rfl ab (u64s (perm3 T R B 24).1) rfl rfl 241 _ H3.out (row25 H4.out) (by simp [u64s, H4.out, HZ.out]) (u64s_one _) ?_))
              go_roundw
              case rel =>
                refine ⟨t + 1, by omega, by rw [HAT.out]; go_num, ?_⟩
                rw [spg, ← HA.out, ← HBB.out]; exact KM7.out.row H4.out
              case measure => simp [intOf]; omega
        · obtain rfl : t = q := by omega
          obtain ⟨A, hA⟩ : ∃ A, A = spg T R P t := ⟨_, rfl⟩
          rw [← hA] at KM
          have hqn := HQ.out
          have HA := Lib.hid hA; clear hA ht htq
          obtain ⟨wo, hwo⟩ : ∃ wo : World, wo = wr := ⟨_, rfl⟩
          rw [← hwo] at KM ⊢; clear hwo
          go_wp2
          rw [show (#[.int .u8 0, .int .u8 0, .int .u8 0, .int .u8 0, .int .u8 0, .int .u8 0, .int .u8 0, .int .u8 0, .int .u8 0, .int .u8 0, .int .u8 0, .int .u8 0, .int .u8 0, .int .u8 0, .int .u8 0, .int .u8 0, .int .u8 0, .int .u8 0, .int .u8 0, .int .u8 0, .int .u8 0, .int .u8 0, .int .u8 0, .int .u8 0, .int .u8 0, .int .u8 0, .int .u8 0, .int .u8 0, .int .u8 0, .int .u8 0, .int .u8 0, .int .u8 0] : Array Value) = rhT A 0 from by kernel_rfl]
          have KM8 := Lib.hid (KM.out.on (fun S => (Kp.refl c S wo).alloc (.cells (rhT A 0) 183)))
          have h8 := heap_alloc_new wo (.cells (rhT A 0) 183)
          obtain ⟨hb, hhb⟩ : ∃ hb, hb = wo.heap.size := ⟨_, rfl⟩
          have hhl : ab < hb := by rw [hhb]; exact lt_of_heap KM.out.ha
          rw [← hhb] at h8 ⊢
          obtain ⟨wp, hwp⟩ : ∃ wp, wp = wo.alloc (.cells (rhT A 0) 183) := ⟨_, rfl⟩
          rw [← hwp] at h8 KM8 ⊢
          have H8' := Lib.hid h8
          clear hwp h8 KM hhb
          go_loopw [59] (fun s wx => ∃ i : Nat, i ≤ 32 ∧ s = .int .i64 i ∧ wx.heap[hb]? = some (.cells (rhT A i) 183 (0, 0)) ∧ Only hb wp wx) (fun s _ => 32 - (intOf s).toNat)
          case atStart => exact ⟨0, by omega, rfl, H8'.out, Kp.refl _ _ _⟩
          case round =>
            obtain ⟨i, hi, rfl, hx, ho⟩ := hrel
            have ha9 := ho.heap KM8.out.ha (by omega)
            have hr9 := ho.heap KM8.out.hr (by have := KM8.out.wg; have := KM8.out.ga; omega)
            have HX := Lib.hid hx; have HON := Lib.hid ho
            by_cases hil : i < 32
            · have g0 : wr.cell? ⟨ab, i / 8, none⟩ = some (.int .u64 (gt A (i / 8))) := by rw [cell_of_heap ha9]; exact u64s_at KM8.out.za (by omega)
              have f := unfrozen_of_heap hx i
              obtain ⟨y0, hy0⟩ : ∃ y0, (rhT A i)[i]? = some y0 := ⟨_, Array.getElem?_eq_getElem (by rw [rhT_size]; exact hil)⟩
              have g1 : wr.cell? ⟨hb, i, none⟩ = some y0 := by rw [cell_of_heap hx]; exact hy0
              clear ha9 hr9 hx ho hy0
              have d1 : ((i : Nat) : Int).tdiv 8 = ((i / 8 : Nat) : Int) := by rw [Int.tdiv_eq_ediv_of_nonneg (by omega)]; omega
              have d2 : ((i : Nat) : Int).tmod 8 = ((i % 8 : Nat) : Int) := by rw [Int.tmod_eq_emod_of_nonneg (by omega)]; omega
              go_wp2
              go_roundw
              case rel => exact ⟨i + 1, by omega, by go_num, heap_setCell HX.out i _, HON.out.setCell (fun _ => by simp) _⟩
              case measure => simp [intOf]; omega
            · obtain rfl : i = 32 := by omega
              rw [rhT_eq] at HX
              have H9' := Lib.hid hr9
              have HKF := Lib.hid (fun S => HON.out.kp (w := w) (c := c) (by have := KM8.out.wg; have := KM8.out.ga; omega) (KM8.out.kp S))
              clear ha9 hr9 hx ho
              go_wp2_with (first
                | (refine wpList_load_row rfl 183 _ rfl hb rfl 183 _ _ _ HX.out Tryz.underlying183 rfl (by rw [hash_info, hTab_size]) ?_)
                | (refine wpList_store_row rfl 183 _ _ rfl w.heap.size (hTab A 4) rfl rfl 183 _ H9'.out (by rw [hash_info, hTab_size]) (by simp [u8s, hTab_size]) (hTab_one A) ?_))
              refine bodyPost_ret (v := .agg (hTab A 4)) ?_ rfl ⟨?_, fun S => (HKF.out S).setRow (fun h => absurd h (by omega)) _⟩
              · exact results_cell_row rfl _ _ w.heap.size 183 _ _ _ rfl (heap_setRow H9'.out) Tryz.underlying183 rfl (by rw [hash_info, hTab_size])
              · have e1 : padn l.length = z := HM.out.symm
                have e2 : (l.length + 1 + padn l.length) / 136 = t := by rw [e1]; have := HN.out; have := HQ.out; omega
                have e3 : (hTab A 4) = (((hTab A 4).toList.map byteOf).map bv).toArray := (kec_cells A).symm
                rw [e3, kec, e2, e1, HA.out, HP.out, HT.out, HR.out]
end Go.Proofs.YtnifmoigalmcmaaGreat
