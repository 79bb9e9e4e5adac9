/- digest: Keccak. -/
import Derived.Test.YtnifmoigalmcmaaGreatZb
import Derived.Test.YtnifmoigalmcmaaGreatZd
import Derived.Test.YtnifmoigalmcmaaGreatWl
import Derived.OwnWalk
namespace Go.Proofs.YtnifmoigalmcmaaGreat
open Go Go.RowKit
theorem wpList_built {P : Program} {ops : Array Oper} {rest : List Oper} {o : Oper} {a : Act} {w : World} {Q : Exit → Act → World → Prop} (hg : o.guard = none) (t : TypeId) (parts : Array (Nat × Operand)) (ho : o.op = .build t parts)
    (cells : Array Value) (hf : P.built t (parts.map fun (i, x) => (i, a.eval x)).toList = some cells)
    (h : wpList P ops Q rest (a.put o.dst (.agg cells)) w) : wpList P ops Q (o :: rest) a w :=
  wpList_build hg t parts ho (by rw [hf]; rfl) (by rw [hf]; exact h)
theorem Kp.alloc_trans {c : Col} {S : Nat × Nat → Prop} {w0 w1 w2 : World} (h : Kp c S w0 w1) (h' : Kp c S w1 w2) : Kp c S w0 w2 := h.trans h' (Cx.refl _ _)
theorem own_fresh {B : Nat} {v v' : Value} {w' : World} (h : ∀ g, v.ownBlock = some g → B ≤ g) (hs : B ≤ w'.heap.size) (h' : ∀ g, v'.ownBlock = some g → v.ownBlock = some g ∨ w'.heap.size ≤ g) : ∀ g, v'.ownBlock = some g → B ≤ g :=
  fun g hg => (h' g hg).elim (h g) (fun e => Nat.le_trans hs e)
def u8s (a : List Int) : List Value := a.map fun n : Int => .int .u8 n
structure KecB (c : Col) (T : Array Nat) (R : Array Int) (w wb : World) (kb : Nat) : Prop where
  size : wb.heap.size = kb + 1
  lt : w.heap.size < kb
  hk : wb.heap[kb]? = some (.cells (rkCells T R) 240 (0, 0))
  hr : wb.heap[w.heap.size]? = some (.cells (u8s (List.replicate 32 0)).toArray 183 (0, 0))
  kp : ∀ S, Kp c S w wb
theorem kec_base {c : Col} {T : Array Nat} {R : Array Int} {w w1 w2 wb : World} {kb : Nat} (h1 : ∀ S, Kp c S (w.alloc (.cells (u8s (List.replicate 32 0)).toArray 183)) w1) (h2 : ∀ S, Kp c S w1 w2) (hk : kb = w2.heap.size) (hb : wb = w2.alloc (.cells (rkCells T R) 240)) : KecB c T R w wb kb := by
  subst hk hb
  have h12 := fun S => (h1 S).alloc_trans (h2 S)
  have hs := (h12 (fun _ => False)).size
  rw [show (w.alloc (.cells (u8s (List.replicate 32 0)).toArray 183)).heap.size = w.heap.size + 1 from by simp] at hs
  refine ⟨by simp, by omega, heap_alloc_new _ _, heap_alloc_old _ ((h12 (fun _ => False)).heap (heap_alloc_new _ _) (fun h => h)), fun S => (((Kp.refl c S w).alloc _).alloc_trans (h12 S)).alloc _⟩
def lenOf : Value → Nat
  | .slice _ n _ => n
  | _ => 0
def padz (l : List UInt8) (z : Nat) : List Int := l.map (fun x => (x.toNat : Int)) ++ [1] ++ List.replicate z 0
theorem padz_zero (l : List UInt8) : u8s (padz l 0) = l.map bv ++ [.int .u8 1] := by simp [padz, u8s, bv]
theorem padz_succ (l : List UInt8) (z : Nat) : u8s (padz l (z + 1)) = u8s (padz l z) ++ [.int .u8 0] := by simp [padz, u8s, List.replicate_succ']
theorem padz_length (l : List UInt8) (z : Nat) : (padz l z).length = l.length + 1 + z := by simp [padz]; omega
theorem own_row {w : World} {e : TypeId} {g n cp : Nat} {xs : List Value} (h : w.ownsRow 0 e 1 (.slice (some ⟨g, 0, none⟩) n cp) n xs) (_h0 : 0 < n) : ∃ cur : Array Value, w.heap[g]? = some (.cells cur e (0, 0)) ∧ n ≤ cp ∧ cur.toList.take n = xs ∧ cp ≤ maxLen := by
  obtain ⟨_, h2⟩ := h
  rcases h2 with ⟨h2, _⟩ | ⟨g', cap, cur, h3, _, hh, hn, hm, hcs, ht⟩
  · cases h2
  · cases h3
    exact ⟨cur, hh, hn, by simpa using ht, hm⟩
theorem take_at {cur : Array Value} {n i : Nat} {xs : List Int} (h : cur.toList.take n = u8s xs) (hi : i < xs.length) : cur[i]? = some (.int .u8 (xs[i]?.getD 0)) := by
  have h1 : (cur.toList.take n)[i]? = (u8s xs)[i]? := by rw [h]
  rw [u8s, List.getElem?_map, List.getElem?_eq_getElem hi, List.getElem?_take] at h1
  rw [List.getElem?_eq_getElem hi]
  split at h1
  · simpa using h1
  · simp at h1
/-- The padded text. -/
def padd (l : List UInt8) (z : Nat) : List Int := (padz l z).set (l.length + z) (bits BinOp.or IntKind.u8 ((padz l z)[l.length + z]?.getD 0) 128)
def pf (l : List UInt8) (z : Nat) (j : Nat) : Int := (padd l z)[j]?.getD 0
theorem padz_last (l : List UInt8) : ∀ z, (padz l z)[l.length + z]?.getD 0 = if z = 0 then 1 else 0
  | 0 => by simp [padz]
  | z + 1 => by
    unfold padz
    rw [List.getElem?_append_right (by simp)]
    simp only [List.getElem?_replicate]
    rw [if_neg (show ¬ z + 1 = 0 by omega)]
    split <;> rfl
theorem padz_range (l : List UInt8) (z j : Nat) : 0 ≤ (padz l z)[j]?.getD 0 ∧ (padz l z)[j]?.getD 0 < 256 := by
  have : ∀ x ∈ padz l z, 0 ≤ x ∧ x < 256 := by
    intro x hx
    simp only [padz, List.mem_append, List.mem_map, List.mem_singleton, List.mem_replicate] at hx
    rcases hx with (⟨b, _, rfl⟩ | rfl) | ⟨_, rfl⟩
    · have := b.toNat_lt; omega
    · omega
    · omega
  cases h : (padz l z)[j]? with
  | none => simp
  | some x => exact this x (List.mem_of_getElem? h)
theorem pf_range (l : List UInt8) (z j : Nat) : 0 ≤ pf l z j ∧ pf l z j < 256 := by
  unfold pf padd
  rw [List.getElem?_set]
  split
  · rw [padz_last]
    split
    · split
      · simp only [Option.getD_some]; decide
      · simp only [Option.getD_some]; decide
    · simp
  · exact padz_range l z j
structure KA (T : Array Nat) (R : Array Int) (c : Col) (w wx : World) (kb ab g n : Nat) (P : Nat → Int) (a : Array Int) : Prop where
  wk : w.heap.size < kb
  kg : kb < g
  ga : g < ab
  za : a.size = 25
  hk : wx.heap[kb]? = some (.cells (rkCells T R) 240 (0, 0))
  hr : wx.heap[w.heap.size]? = some (.cells (u8s (List.replicate 32 0)).toArray 183 (0, 0))
  ha : wx.heap[ab]? = some (.cells (u64s a) 241 (0, 0))
  fc : ∀ j, j < n → wx.cell? ⟨g, j, none⟩ = some (.int .u8 (P j))
  kp : ∀ S, Kp c S w wx
section
variable {T : Array Nat} {R : Array Int} {c : Col} {w wx wy : World} {kb ab g n : Nat} {P : Nat → Int} {a : Array Int}
theorem KA.drew (h : KA T R c w wx kb ab g n P a) : KA T R c w wx.drew kb ab g n P a := { h with kp := fun S => (h.kp S).drew }
theorem KA.on (h : KA T R c w wx kb ab g n P a) (hK : ∀ S, Kp c S wx wy) : KA T R c w wy kb ab g n P a :=
  { h with
    hk := (hK (fun _ => False)).heap h.hk (fun h => h)
    hr := (hK (fun _ => False)).heap h.hr (fun h => h)
    ha := (hK (fun _ => False)).heap h.ha (fun h => h)
    fc := fun j hj => (hK (fun _ => False)).cell (h.fc j hj) (fun h => h)
    kp := fun S => (h.kp S).alloc_trans (hK S) }
theorem KA.setA (h : KA T R c w wx kb ab g n P a) (i : Nat) (v : Int) : KA T R c w (wx.setCell ⟨ab, i, none⟩ (.int .u64 v)) kb ab g n P (a.setIfInBounds i v) :=
  { h with
    za := by simpa using h.za
    hk := (Below.heap_setCell _ _ _ _ (by have := h.kg; have := h.ga; show kb ≠ ab; omega)).trans h.hk
    hr := (Below.heap_setCell _ _ _ _ (by have := h.kg; have := h.ga; have := h.wk; show w.heap.size ≠ ab; omega)).trans h.hr
    ha := by rw [← u64s_set]; exact heap_setCell h.ha i _
    fc := fun j hj => (World.cell?_of_block (Below.heap_setCell _ _ _ _ (by have := h.ga; show g ≠ ab; omega))).trans (h.fc j hj)
    kp := fun S => (h.kp S).setCell (fun h' => absurd h' (by have := h.kg; have := h.ga; have := h.wk; show ¬ ab < w.heap.size; omega)) _ }
theorem KA.row (h : KA T R c w wx kb ab g n P a) {a' : Array Int} (hz : a'.size = 25) : KA T R c w (wx.setRow ab (u64s a')) kb ab g n P a' :=
  { h with
    za := hz
    hk := (heap_setRow_ne _ _ (by have := h.kg; have := h.ga; show kb ≠ ab; omega)).trans h.hk
    hr := (heap_setRow_ne _ _ (by have := h.kg; have := h.ga; have := h.wk; show w.heap.size ≠ ab; omega)).trans h.hr
    ha := heap_setRow h.ha
    fc := fun j hj => (World.cell?_of_block (heap_setRow_ne _ _ (by have := h.ga; show g ≠ ab; omega))).trans (h.fc j hj)
    kp := fun S => (h.kp S).setRow (fun h' => absurd h' (by have := h.kg; have := h.ga; have := h.wk; omega)) _ }
theorem KA.cA (h : KA T R c w wx kb ab g n P a) (i : Nat) (hi : i < 25) : wx.cell? ⟨ab, i, none⟩ = some (.int .u64 (gt a i)) := by
  rw [cell_of_heap h.ha]; exact u64s_at h.za hi
theorem KA.fA (h : KA T R c w wx kb ab g n P a) (i : Nat) : wx.frozen? ⟨ab, i, none⟩ = false := unfrozen_of_heap h.ha i
end
theorem word_k {T : Array Nat} {R : Array Int} {c : Col} {w wx : World} {kb ab g n : Nat} {P : Nat → Int} {a : Array Int} (h : KA T R c w wx kb ab g n P a) (hr : ∀ j, 0 ≤ P j ∧ P j < 256) (t i N C : Nat) (hi : i < 17) (hn : 136 * t + 136 ≤ n) (h8 : 8 ≤ N) (hC : C ≤ maxLen) (hNC : N ≤ C) :
    Calls Tryz.prog 163 #[.slice (some ⟨g, 136 * t + 8 * i, none⟩) N C, .int .i64 8, .int .i64 0] wx.drew fun e w' => e = .returned (.int .u64 (wd (fun j => P (136 * t + (8 * i + j))) 8)) ∧ w' = wx.drew :=
  word_c wx.drew g (136 * t + 8 * i) N C (fun j => P (136 * t + (8 * i + j))) h8 hC hNC (fun j => hr _) (fun j hj => by
    rw [Nat.add_assoc]; exact h.fc (136 * t + (8 * i + j)) (by omega))
theorem rho_lt (i : Nat) : (rhoTab 24)[i]?.getD 0 < 64 := by
  by_cases h : i < 25
  · exact (by decide +kernel : ∀ i : Nat, i < 25 → (rhoTab 24)[i]?.getD 0 < 64) i h
  · rw [Array.getElem?_eq_none (by rw [rhoTab_size]; omega)]; decide
theorem perm3_size (T : Array Nat) (R : Array Int) {B : Array Int} (h : B.size = 25) : ∀ i, (perm3 T R B i).1.size = 25
  | 0 => h
  | i + 1 => by
    rw [perm3]
    simp only [roI, roZ, Array.size_setIfInBounds, chA_size, roA, thA_size]
    exact perm3_size T R h i
def abso (P : Nat → Int) (a : Array Int) : Nat → Array Int
  | 0 => a
  | i + 1 => (abso P a i).setIfInBounds i (xo (gt (abso P a i) i) (wd (fun j => P (8 * i + j)) 8))
/-- The state behind so many pieces. -/
def spg (T : Array Nat) (R : Array Int) (P : Nat → Int) : Nat → Array Int
  | 0 => Array.replicate 25 0
  | t + 1 => (perm3 T R (abso (fun j => P (136 * t + j)) (spg T R P t) 17) 24).1
def hTab (A : Array Int) : Nat → Array Value
  | 0 => (u8s (List.replicate 32 0)).toArray
  | i + 1 => layTab (hTab A i) (8 * i) (gt A i) 8
theorem hTab_size (A : Array Int) : ∀ i, (hTab A i).size = 32
  | 0 => by simp [hTab, u8s]
  | i + 1 => by rw [hTab, layTab_size, hTab_size A i]
theorem layTab_byte {cs : Array Value} {o : Nat} {x : Int} (h : ∀ j, j < cs.size → ∃ y, 0 ≤ y ∧ y < 256 ∧ cs[j]? = some (.int .u8 y)) : ∀ i j, j < cs.size → ∃ y, 0 ≤ y ∧ y < 256 ∧ (layTab cs o x i)[j]? = some (.int .u8 y)
  | 0, j, hj => h j hj
  | i + 1, j, hj => by
    rw [layTab, Array.getElem?_setIfInBounds]
    split
    · rename_i e
      rw [if_pos (by rw [layTab_size]; omega)]
      exact ⟨_, Int.emod_nonneg _ (by decide), Int.emod_lt_of_pos _ (by decide), rfl⟩
    · exact layTab_byte h i j hj
theorem hTab_byte (A : Array Int) : ∀ i j, j < 32 → ∃ y, 0 ≤ y ∧ y < 256 ∧ (hTab A i)[j]? = some (.int .u8 y)
  | 0, j, hj => ⟨0, by omega, by omega, by simp only [hTab, List.getElem?_toArray, u8s, List.getElem?_map, List.getElem?_replicate, if_pos hj, Option.map_some]⟩
  | i + 1, j, hj => layTab_byte (fun k hk => hTab_byte A i k (by rwa [hTab_size] at hk)) 8 j (by rwa [hTab_size])
/-- Nothing has turned but one block. -/
abbrev Only (b : Nat) (w0 w1 : World) : Prop := Kp (fun x => if x = b then (1, 0) else (0, 0)) (· = (1, 0)) w0 w1
theorem Only.heap {b : Nat} {w0 w1 : World} (h : Only b w0 w1) {g : Nat} {o : Obj} (hg : w0.heap[g]? = some o) (hne : g ≠ b) : w1.heap[g]? = some o :=
  Kp.heap h hg (by simp [hne])
theorem Only.kp {b : Nat} {w w0 w1 : World} {c : Col} (h : Only b w0 w1) (hb : w.heap.size ≤ b) {S : Nat × Nat → Prop} (hK : Kp c S w w0) : Kp c S w w1 :=
  ⟨h.os.trans hK.os, h.tape.trans hK.tape, h.output.trans hK.output, Nat.le_trans hK.size h.size, fun x hx hn =>
    (h.block x (Nat.lt_of_lt_of_le hx hK.size) (by rw [if_neg (by omega)]; simp)).trans (hK.block x hx hn)⟩
def byteOf : Value → UInt8
  | .int _ n => UInt8.ofNat n.toNat
  | _ => 0
def padn (n : Nat) : Nat := (136 - (n + 1) % 136) % 136
/-- Keccak-256 of bytes. -/
def kec (l : List UInt8) : List UInt8 := (hTab (spg (rhoTab 24) (iotaTab 168) (pf l (padn l.length)) ((l.length + 1 + padn l.length) / 136)) 4).toList.map byteOf
theorem kec_length (l : List UInt8) : (kec l).length = 32 := by simp [kec, hTab_size]
theorem kec_cells (A : Array Int) : (((hTab A 4).toList.map byteOf).map bv).toArray = hTab A 4 := by
  apply Array.ext_getElem?
  intro j
  by_cases hj : j < 32
  · obtain ⟨y, h1, h2, h3⟩ := hTab_byte A 4 j hj
    rw [h3]
    simp only [List.getElem?_toArray, List.getElem?_map, Array.getElem?_toList, h3, Option.map_some, byteOf, bv]
    have : ((UInt8.ofNat y.toNat).toNat : Int) = y := by
      rw [UInt8.toNat_ofNat', Nat.mod_eq_of_lt (by omega)]; omega
    rw [this]
  · rw [Array.getElem?_eq_none (by simp [hTab_size]; omega), Array.getElem?_eq_none (by rw [hTab_size]; omega)]
theorem hash_len : Tryz.prog.arrayLen 183 = 32 := by kernel_rfl
theorem hash_und : Tryz.prog.underlying 183 = some (.array (Tryz.prog.arrayLen 183) (Tryz.prog.elem 183)) := by kernel_rfl
theorem hash_one : ∀ W : World, (sizeOf (Tryz.prog.elem 183)).run Tryz.prog W = .ok 1 W := by intro W; kernel_rfl
set_option maxRecDepth 20000 in
theorem hash_slice (hb i : Nat) (hi : i < 4) (W : World) : (Instr.sliceAt 183 (.pointer (some ⟨hb, 0, none⟩)) (some (.int .i64 (8 * (i : Int)))) (some (.int .i64 (8 * (i : Int) + 8))) none).run Tryz.prog W = .ok (.slice (some ⟨hb, 8 * i, none⟩) 8 (32 - 8 * i)) W := by
  refine (run_sliceAt_array_lh W 183 ⟨hb, 0, none⟩ hash_und .i64 .i64 (8 * (i : Int)) (8 * (i : Int) + 8) (by omega) (by omega) (by rw [hash_len]; omega)).trans ?_
  refine (congrArg (fun r : Result Nat => r.andThen fun s w => Result.ok (slicedAt ⟨hb, 0, none⟩ (8 * (i : Int)).toNat (8 * (i : Int) + 8).toNat (Tryz.prog.arrayLen 183) s) w) (hash_one W)).trans ?_
  show Result.ok (slicedAt ⟨hb, 0, none⟩ (8 * (i : Int)).toNat (8 * (i : Int) + 8).toNat (Tryz.prog.arrayLen 183) 1) W = _
  unfold slicedAt
  have e1 : (8 * (i : Int)).toNat = 8 * i := by omega
  have e2 : (8 * (i : Int) + 8).toNat = 8 * i + 8 := by omega
  have e3 : 8 * i + 8 - 8 * i = 8 := by omega
  rw [e1, e2, hash_len, if_neg (by omega), e3, add_eq rfl, Nat.mul_one, Nat.zero_add]
theorem hash_info : (Tryz.prog.info? 183).map (·.size) = some 32 := by kernel_rfl
theorem hTab_one (A : Array Int) : (hTab A 4).all (·.oneCell') = true := by
  rw [Array.all_eq_true]
  intro j hj
  obtain ⟨y, _, _, h⟩ := hTab_byte A 4 j (by rwa [hTab_size] at hj)
  rw [Array.getElem?_eq_getElem hj] at h
  rw [Option.some.inj h]; rfl
theorem kec_mid {T : Array Nat} {R : Array Int} {c : Col} {w wb wr : World} {kb g n z : Nat} {l : List UInt8} {cur : Array Value} {y : Int} (KB : KecB c T R w wb kb) (hK : ∀ S, Kp c S wb wr) (hg : kb + 1 ≤ g) (hn : n = l.length + 1 + z)
    (hcur : wr.heap[g]? = some (.cells cur 5 (0, 0))) (htk : cur.toList.take n = u8s (padz l z)) (hy : y = (padz l z)[n - 1]?.getD 0) :
    KA T R c w ((wr.setCell ⟨g, n - 1, none⟩ (.int .u8 (bits BinOp.or IntKind.u8 y 128))).alloc (.cells (u64s (Array.replicate 25 0)) 241)) kb wr.heap.size g n (pf l z) (Array.replicate 25 0) := by
  have hgl := lt_of_heap hcur
  have hsz : (wr.setCell ⟨g, n - 1, none⟩ (.int .u8 (bits BinOp.or IntKind.u8 y 128))).heap.size = wr.heap.size := by simp [World.setCell]
  have hcs : n ≤ cur.size := by
    have := congrArg List.length htk
    simp [u8s, padz_length] at this; omega
  have h1 : ∀ S, Kp c S w (wr.setCell ⟨g, n - 1, none⟩ (.int .u8 (bits BinOp.or IntKind.u8 y 128))) := fun S => ((KB.kp S).alloc_trans (hK S)).setCell (fun h' => absurd h' (by have := KB.lt; show ¬ g < w.heap.size; omega)) _
  refine ⟨KB.lt, by omega, hgl, by simp, ?_, ?_, ?_, ?_, fun S => (h1 S).alloc _⟩
  · exact heap_alloc_old _ ((Below.heap_setCell _ _ _ _ (by show kb ≠ g; omega)).trans ((hK (fun _ => False)).heap KB.hk (fun h => h)))
  · exact heap_alloc_old _ ((Below.heap_setCell _ _ _ _ (by have := KB.lt; show w.heap.size ≠ g; omega)).trans ((hK (fun _ => False)).heap KB.hr (fun h => h)))
  · have := heap_alloc_new (wr.setCell ⟨g, n - 1, none⟩ (.int .u8 (bits BinOp.or IntKind.u8 y 128))) (.cells (u64s (Array.replicate 25 0)) 241)
    rw [hsz] at this; exact this
  · intro j hj
    have h2 := heap_alloc_old (.cells (u64s (Array.replicate 25 0)) 241) (heap_setCell hcur (n - 1) (.int .u8 (bits BinOp.or IntKind.u8 y 128)))
    rw [cell_of_heap h2, Array.getElem?_setIfInBounds]
    unfold pf padd
    rw [List.getElem?_set]
    by_cases he : n - 1 = j
    · rw [if_pos he, if_pos (by omega), if_pos (by omega), if_pos (by rw [padz_length]; omega), hy, show l.length + z = n - 1 by omega]; rfl
    · rw [if_neg he, if_neg (by omega)]; exact take_at htk (by rw [padz_length]; omega)
theorem rk_built : Tryz.prog.built 240 (#[(0, .agg (i64s (rhoTab 24))), (1, .agg (u64s (iotaTab 168)))] : Array (Nat × Value)).toList = some (rkCells (rhoTab 24) (iotaTab 168)) := by kernel_rfl
theorem offT {T : Array Nat} (h : T = rhoTab 24) (c : Col) (w : World) : Calls Tryz.prog 161 #[] w fun e w' => e = .returned (.agg (i64s T)) ∧ ∀ S, Kp c S w w' := by rw [h]; exact offsets_c c w
theorem conR {R : Array Int} (h : R = iotaTab 168) (c : Col) (w : World) : Calls Tryz.prog 162 #[] w fun e w' => e = .returned (.agg (u64s R)) ∧ ∀ S, Kp c S w w' := by rw [h]; exact constants_c c w
set_option maxRecDepth 20000 in
set_option maxHeartbeats 4000000 in
theorem kec1 (c : Col) (w : World) (b o cap : Nat) (l : List UInt8) (hl : l.length ≤ 20000000) (hc : ∀ (j : Nat) u, (l.map bv)[j]? = some u → w.cell? ⟨b, o + j, none⟩ = some u) :
    Calls Tryz.prog 121 #[.slice (some ⟨b, o, none⟩) l.length cap] w fun e w' => e = .returned (.agg ((kec l).map bv).toArray) ∧ ∀ S, Kp c S w w' := by
  have HC := Lib.hid hc; clear hc
  obtain ⟨T, hT⟩ : ∃ T, T = rhoTab 24 := ⟨_, rfl⟩
  obtain ⟨R, hR⟩ : ∃ R, R = iotaTab 168 := ⟨_, rfl⟩
  have HT := Lib.hid hT; have HR := Lib.hid hR; clear hT hR
  go_enter Tryz.func121, Tryz.ntmps121
  obtain ⟨i0, hi, hz0, hz1, hz2⟩ := info_parts info_u8
  have H6 := Lib.hid hi; have H7 := Lib.hid hz0; have H8 := Lib.hid hz1; have H9 := Lib.hid hz2; clear hi hz0 hz1 hz2
  have hbd : Tryz.prog.built 240 (#[(0, .agg (i64s T)), (1, .agg (u64s R))] : Array (Nat × Value)).toList = some (rkCells T R) := by rw [HT.out, HR.out]; exact rk_built
  have HB := Lib.hid hbd; clear hbd
  have HTS := Lib.hid (show T.size = 25 by rw [HT.out]; exact rhoTab_size 24)
  have HRS := Lib.hid (show R.size = 24 by rw [HR.out]; exact iotaTab_size 168)
  have HTL := Lib.hid (show ∀ i : Nat, T[i]?.getD 0 < 64 by rw [HT.out]; exact rho_lt)
  go_wp2_with (first
    | (go_at_call 161; refine (offT HT.out c _).mono ?_; rintro _ w1 ⟨rfl, hK1⟩; have HK1 := Lib.hid hK1; clear hK1)
    | (go_at_call 162; refine (conR HR.out c _).mono ?_; rintro _ w2 ⟨rfl, hK2⟩; have HK2 := Lib.hid hK2; clear hK2)
    | (refine wpList_built rfl 240 _ rfl (rkCells T R) (by simpa [Act.eval] using HB.out) ?_)
    | (at_make; refine wpList_make_own _ rfl _ _ _ rfl 0 5 i0 (.int .u8 0) 1 Tryz.underlying41 H6.out H7.out H8.out .i64 .i64 _ (l.length + 136) rfl rfl (by simp) (by rw [H9.out]; omega) (by unfold maxLen; omega) (Nat.zero_le _) ?_; intro w3 hown3 hg3; obtain ⟨wb, hwb⟩ : ∃ wb, wb = w2.alloc (.cells (rkCells T R) 240) := ⟨_, rfl⟩; have KB := Lib.hid (kec_base HK1.out HK2.out rfl hwb); rw [← hwb] at hown3 hg3; rw [KB.out.size] at hown3; have HO3 := Lib.hid hown3; have HK3 := Lib.hid (fun S => (Kp.refl c S wb).grown hg3 (fun _ h => by cases h)); clear hown3 hg3 hwb)
    | (at_builtin; refine wpList_append2 rfl _ _ _ rfl 5 i0 (.int .u8 0) 1 Tryz.underlying41 H6.out H7.out H8.out H9.out rfl _ 0 [] rfl HO3.out ⟨b, o, none⟩ l.length cap (l.map bv) rfl (by simp) (fun j u hj => by rw [add_eq rfl]; exact (HK3.out (fun _ => False)).cell ((KB.out.kp (fun _ => False)).cell (HC.out j u hj) (fun h => h)) (fun h => h)) (one_bv l) (by unfold maxLen; omega) (by omega) ?_; intro v4 w4 hown4 hg4 hf4; simp only [Nat.zero_add, List.nil_append] at hown4; have HO4 := Lib.hid hown4; have HF4 := Lib.hid (fun g (h : v4.ownBlock = some g) => show w2.heap.size + 1 ≤ g from (hf4 g h).elim (fun e => by cases e; exact Nat.le_refl _) (fun e => Nat.le_trans (by have := (HK3.out (fun _ => False)).size; rw [KB.out.size] at this; exact this) e)); have HK4 := Lib.hid (fun S => (HK3.out S).grown hg4 (fun g h hlt => by cases h; rw [KB.out.size] at hlt; exact absurd hlt (Nat.lt_irrefl (w2.heap.size + 1)))); clear hown4 hg4 hf4)
    | (at_builtin; refine wpList_append2 rfl _ _ _ rfl 5 i0 (.int .u8 0) 1 Tryz.underlying41 H6.out H7.out H8.out H9.out rfl v4 l.length (l.map bv) rfl (owns_alloc HO4.out _) ⟨w4.heap.size, 0, none⟩ 1 1 [.int .u8 1] rfl rfl (one_new _ _ _) (by simp [Value.oneCell']) (by unfold maxLen; omega) (by omega) ?_; intro v5 w5 hown5 hg5 hf5; have HO5 := Lib.hid hown5; have HF5 := Lib.hid (own_fresh HF4.out (by have := ((HK4.out (fun _ => False)).alloc (.cells #[.int .u8 1] 5)).size; rw [KB.out.size] at this; exact this) hf5); have HK5 := Lib.hid (fun S => ((HK4.out S).alloc _).grown hg5 (fun g h hlt => absurd (HF4.out g h) (by rw [KB.out.size] at hlt; omega))); clear hown5 hg5 hf5)
    )
  obtain ⟨kb, hkb⟩ : ∃ kb, kb = w2.heap.size := ⟨_, rfl⟩
  rw [← hkb] at KB HF5 ⊢
  clear hkb HK3 HO3 HK4 HO4 HF4 HK1 HK2
  obtain ⟨m, hm⟩ : ∃ m, m = (136 - (l.length + 1) % 136) % 136 := ⟨_, rfl⟩
  go_loopw [4] (fun v wr => ∃ z : Nat, z ≤ m ∧ wr.ownsRow 0 5 1 v (l.length + 1 + z) (u8s (padz l z)) ∧ (∀ g, v.ownBlock = some g → kb + 1 ≤ g) ∧ ∀ S, Kp c S wb wr) (fun v _ => l.length + 1 + m - lenOf v)
  case atStart => exact ⟨0, by omega, (by rw [padz_zero]; exact HO5.out), HF5.out, HK5.out⟩
  case round =>
    obtain ⟨z, hz, ho, hf, hK⟩ := hrel
    obtain ⟨g, cp, rfl⟩ := own_succ (k := l.length + z) (by rw [show l.length + z + 1 = l.length + 1 + z by omega]; exact ho)
    rw [show l.length + z + 1 = l.length + 1 + z by omega] at ho hf ⊢
    obtain ⟨n, hn⟩ : ∃ n, n = l.length + 1 + z := ⟨_, rfl⟩
    rw [← hn] at ho hf ⊢
    have hn63 : n ≤ 30000000 := by omega
    by_cases hlt : z < m
    · have hmod : ¬ (n : Int) % 136 = 0 := by omega
      have HO := Lib.hid ho; have HF := Lib.hid hf; have HK := Lib.hid hK; have HM := Lib.hid hm; have HN := Lib.hid hn
      clear ho hf hK hm hn HO5 HF5 HK5
      go_wp2_with (first
        | (at_builtin; refine wpList_append2 rfl _ _ _ rfl 5 i0 (.int .u8 0) 1 Tryz.underlying41 H6.out H7.out H8.out H9.out rfl (.slice (some ⟨g, 0, none⟩) n cp) n (u8s (padz l z)) rfl (owns_alloc HO.out _) ⟨wr.heap.size, 0, none⟩ 1 1 [.int .u8 0] rfl rfl (one_new _ _ _) (by simp [Value.oneCell']) (by unfold maxLen; omega) (by omega) ?_; intro v6 w6 hown6 hg6 hf6; have HO6 := Lib.hid hown6; have HF6 := Lib.hid (own_fresh HF.out (by have := ((HK.out (fun _ => False)).alloc (.cells #[.int .u8 0] 5)).size; rw [KB.out.size] at this; exact this) hf6); have HK6 := Lib.hid (fun S => ((HK.out S).alloc _).grown hg6 (fun g h hlt => absurd (HF.out g h) (by rw [KB.out.size] at hlt; omega))); clear hown6 hg6 hf6))
      go_roundw
      case rel => exact ⟨z + 1, by omega, (by rw [padz_succ, show l.length + 1 + (z + 1) = n + 1 by rw [HN.out]; omega]; exact HO6.out), HF6.out, HK6.out⟩
      case measure =>
        obtain ⟨g', cp', rfl⟩ := own_succ HO6.out
        simp only [lenOf]; have := HN.out; omega
    · obtain rfl : z = m := by omega
      have hmod : (n : Int) % 136 = 0 := by omega
      have hn0 : 0 < n := by omega
      obtain ⟨q, hq⟩ : ∃ q, n = 136 * q := ⟨n / 136, by omega⟩
      obtain ⟨cur, hcur, hcn, htk, hcpm⟩ := own_row ho hn0
      have HCPM := Lib.hid hcpm; clear hcpm
      have hlast : ((padz l z)[n - 1]?.getD 0) = ((padz l z)[n - 1]?.getD 0) := rfl
      obtain ⟨y, hy⟩ : ∃ y, y = (padz l z)[n - 1]?.getD 0 := ⟨_, rfl⟩
      have g0 : wr.cell? ⟨g, n - 1, none⟩ = some (.int .u8 y) := by
        rw [cell_of_heap hcur, hy]; exact take_at htk (by rw [padz_length]; omega)
      have f0 := unfrozen_of_heap hcur (n - 1)
      have HCU := Lib.hid hcur; have HTK := Lib.hid htk; have HY := Lib.hid hy; have HQ := Lib.hid hq; have HCN := Lib.hid hcn
      have HO := Lib.hid ho; have HF := Lib.hid hf; have HK := Lib.hid hK; have HM := Lib.hid hm; have HN := Lib.hid hn
      have i1 : ((n : Int) - 1).toNat = n - 1 := by omega
      have i2 : (0 : Int) ≤ (n : Int) - 1 := by omega
      have i3 : (1 : Int) ≤ (n : Int) := by omega
      clear ho hf hK hm hn HO5 HF5 HK5 hcur htk hy hq hcn hlast hlt hz
      go_wp2
      rw [← u64s_25]
      have KM := Lib.hid (kec_mid KB.out HK.out (HF.out g rfl) HN.out HCU.out HTK.out HY.out)
      obtain ⟨wa, hwa⟩ : ∃ wa, wa = ((wr.setCell ⟨g, n - 1, none⟩ (.int .u8 (bits BinOp.or IntKind.u8 y 128))).alloc (.cells (u64s (Array.replicate 25 0)) 241)) := ⟨_, rfl⟩
      obtain ⟨ab, hab⟩ : ∃ ab, ab = wr.heap.size := ⟨_, rfl⟩
      rw [← hwa, ← hab] at KM
      rw [← hwa, ← hab]
      clear hwa hab
      obtain ⟨P, hP⟩ : ∃ P, P = pf l z := ⟨_, rfl⟩
      rw [← hP] at KM
      have HP := Lib.hid hP
      have HRG := Lib.hid (show ∀ j, 0 ≤ P j ∧ P j < 256 from fun j => by rw [hP]; exact pf_range l z j); clear hP
      (try simp only [hmod])
      clear hmod
      go_loopw [4] (fun v wx => ∃ t ofs : Nat, t ≤ q ∧ (t < q → ofs = 136 * t) ∧ v = .slice (some ⟨g, ofs, none⟩) (n - 136 * t) (cp - 136 * t) ∧ KA T R c w wx kb ab g n P (spg T R P t)) (fun v _ => lenOf v)
      case atStart => exact ⟨0, 0, by omega, fun _ => rfl, rfl, KM.out⟩
      case round =>
        obtain ⟨t, ofs, ht, hofs, rfl, hm⟩ := hrel
        have KM := Lib.hid hm; clear hm
        obtain ⟨wo, hwo⟩ : ∃ wo : World, wo = wr := ⟨_, rfl⟩
        rw [← hwo] at KM ⊢; clear hwo
        by_cases htq : t < q
        · obtain rfl := hofs htq
          have hnt : n - 136 * t = 136 * (q - t) := by have := HQ.out; omega
          obtain ⟨r, hr⟩ : ∃ r, q - t = r + 1 := ⟨q - t - 1, by omega⟩
          rw [hr] at hnt
          rw [hnt]
          have hct : 136 * (r + 1) ≤ cp - 136 * t := by have := HQ.out; have := HCN.out; omega
          obtain ⟨ct, hct'⟩ : ∃ ct, ct = cp - 136 * t := ⟨_, rfl⟩
          rw [← hct'] at hct ⊢
          have HR' := Lib.hid hr; have HCT := Lib.hid hct'; have HNT := Lib.hid hnt; clear hr hct' hnt
          go_wp2
          obtain ⟨A, hA⟩ : ∃ A, A = spg T R P t := ⟨_, rfl⟩
          rw [← hA] at KM
          have HA := Lib.hid hA; clear hA
          have hd : decide (0 < 136 * ((r : Int) + 1)) = true := by simp; omega
          (try simp only [hd])
          clear hd
          go_loopw [39] (fun s wx => ∃ i : Nat, i ≤ 17 ∧ s = .int .i64 i ∧ KA T R c w wx kb ab g n P (abso (fun j => P (136 * t + j)) A i)) (fun s _ => 17 - (intOf s).toNat)
          case atStart => exact ⟨0, by omega, rfl, KM.out⟩
          case round =>
            obtain ⟨i, hi, rfl, hm⟩ := hrel
            clear KM
            by_cases hil : i < 17
            · have g0 := hm.cA i (by omega)
              have f := hm.fA i
              have KM := Lib.hid hm; clear hm
              have n1 : IntKind.i64.wrap (8 * (i : Int)) = 8 * (i : Int) := IntWalk.i64_in _ (by omega)
              have n2 : (8 * (i : Int)).toNat = 8 * i := by omega
              have n3 : (8 * (i : Int)) ≤ 136 * ((r : Int) + 1) := by omega
              have n4 : (0 : Int) ≤ 8 * (i : Int) := by omega
              have n5 : (i : Int) < 25 := by omega
              have n6 : ¬ ct = 8 * i := by omega
              go_wp2
              go_still_tail 10, (by kernel_rfl)
              still_call (word_k KM.out HRG.out t i (136 * (r + 1) - 8 * i) (ct - 8 * i) (by omega) (by have := HNT.out; omega) (by omega) (by have := HCT.out; have := HCPM.out; omega) (by have := HCT.out; omega))
              still_step
              still_step
              refine wpStill_nil ?_
              clear n1 n2 n3 n4 n5 n6
              change wpList _ _ _ _ _ wr.drew
              go_wp2
              go_roundw
              case rel =>
                exact ⟨i + 1, by omega, by go_num, (KM.out.setA i _).drew⟩
              case measure => simp [intOf]; omega
            · obtain rfl : i = 17 := by omega
              have KM := Lib.hid hm
              obtain ⟨B, hB⟩ : ∃ B, B = abso (fun j => P (136 * t + j)) A 17 := ⟨_, rfl⟩
              rw [← hB] at KM
              have HBB := Lib.hid hB
              have h1 := KM.out.ha; have h2 := KM.out.hk; have hz25 := KM.out.za
              have H1 := Lib.hid h1; have H2 := Lib.hid h2; have HZ := Lib.hid hz25
              clear hm hB h1 h2 hz25
              go_wp2_with (first
                | (refine wpList_load_row rfl 241 _ rfl ab rfl 241 _ _ _ H1.out Tryz.underlying241 rfl (row25 HZ.out) ?_)
                | (go_at_call 164; refine (permute_c c wr kb T R B HTS.out HRS.out HTL.out HZ.out H2.out).mono ?_; rintro _ w7 ⟨rfl, hK7⟩; have KM7 := Lib.hid (KM.out.on hK7); have H3 := Lib.hid KM7.out.ha; have H4 := Lib.hid (perm3_size T R HZ.out 24); clear hK7)
                | (refine wpList_store_row rfl 241 _ _ rfl ab (u64s (perm3 T R B 24).1) rfl rfl 241 _ H3.out (row25 H4.out) (by simp [u64s, H4.out, HZ.out]) (u64s_one _) ?_))
              go_roundw
              case rel =>
                refine ⟨t + 1, if ct = 136 then 136 * t else 136 * t + 136, by omega, fun h => ?_, ?_, ?_⟩
                · have := HR'.out; have := HCT.out; have := HNT.out; have := HQ.out; have := HCN.out
                  rw [if_neg (by omega)]; omega
                · rw [show n - 136 * (t + 1) = 136 * (r + 1) - 136 by have := HNT.out; omega, show cp - 136 * (t + 1) = ct - 136 by rw [HCT.out]; omega]
                  split <;> rfl
                · rw [spg, ← HA.out, ← HBB.out]; exact KM7.out.row H4.out
              case measure => simp only [lenOf]; have := HNT.out; omega
        · obtain rfl : t = q := by omega
          rw [show n - 136 * t = 0 by have := HQ.out; omega]
          obtain ⟨A, hA⟩ : ∃ A, A = spg T R P t := ⟨_, rfl⟩
          rw [← hA] at KM
          have HA := Lib.hid hA; clear hA hofs ht htq
          go_wp2
          rw [show (#[.int .u8 0, .int .u8 0, .int .u8 0, .int .u8 0, .int .u8 0, .int .u8 0, .int .u8 0, .int .u8 0, .int .u8 0, .int .u8 0, .int .u8 0, .int .u8 0, .int .u8 0, .int .u8 0, .int .u8 0, .int .u8 0, .int .u8 0, .int .u8 0, .int .u8 0, .int .u8 0, .int .u8 0, .int .u8 0, .int .u8 0, .int .u8 0, .int .u8 0, .int .u8 0, .int .u8 0, .int .u8 0, .int .u8 0, .int .u8 0, .int .u8 0, .int .u8 0] : Array Value) = hTab A 0 from by kernel_rfl]
          have KM8 := Lib.hid (KM.out.on (fun S => (Kp.refl c S wo).alloc (.cells (hTab A 0) 183)))
          have h8 := heap_alloc_new wo (.cells (hTab A 0) 183)
          obtain ⟨hb, hhb⟩ : ∃ hb, hb = wo.heap.size := ⟨_, rfl⟩
          have hhl : ab < hb := by rw [hhb]; exact lt_of_heap KM.out.ha
          rw [← hhb] at h8 ⊢
          obtain ⟨wp, hwp⟩ : ∃ wp, wp = wo.alloc (.cells (hTab A 0) 183) := ⟨_, rfl⟩
          rw [← hwp] at h8 KM8 ⊢
          have H8' := Lib.hid h8
          clear hwp h8 KM hhb
          go_loopw [58] (fun s wx => ∃ i : Nat, i ≤ 4 ∧ s = .int .i64 i ∧ wx.heap[hb]? = some (.cells (hTab A i) 183 (0, 0)) ∧ Only hb wp wx) (fun s _ => 4 - (intOf s).toNat)
          case atStart => exact ⟨0, by omega, rfl, H8'.out, Kp.refl _ _ _⟩
          case round =>
            obtain ⟨i, hi, rfl, hx, ho⟩ := hrel
            have ha9 := ho.heap KM8.out.ha (by omega)
            have hr9 := ho.heap KM8.out.hr (by have := KM8.out.wk; have := KM8.out.kg; have := KM8.out.ga; omega)
            have HX := Lib.hid hx; have HON := Lib.hid ho; clear hx ho
            by_cases hil : i < 4
            · have g0 : wr.cell? ⟨ab, i, none⟩ = some (.int .u64 (gt A i)) := by rw [cell_of_heap ha9]; exact u64s_at KM8.out.za (by omega)
              clear ha9 hr9
              have n1 : IntKind.i64.wrap (8 * (i : Int)) = 8 * (i : Int) := IntWalk.i64_in _ (by omega)
              have n2 : (8 * (i : Int)).toNat = 8 * i := by omega
              have n3 : IntKind.i64.wrap (8 * (i : Int) + 8) = 8 * (i : Int) + 8 := IntWalk.i64_in _ (by omega)
              have n4 : (8 * (i : Int) + 8).toNat = 8 * i + 8 := by omega
              have n5 : (0 : Int) ≤ 8 * (i : Int) := by omega
              have n6 : (8 * (i : Int) + 8) ≤ 32 := by omega
              have n7 : (i : Int) < 25 := by omega
              have n8 := hash_slice hb i hil
              go_wp2
              go_still_tail 9, (by kernel_rfl)
              clear n1 n2 n3 n4 n5 n6 n7 n8
              change wpList _ _ _ _ _ wr.drew
              go_wp2_with (go_at_call 165; refine (lay_c (fun x => if x = hb then (1, 0) else (0, 0)) wr.drew hb (8 * i) (32 - 8 * i) (gt A i) (hTab A i) HX.out (by rw [hTab_size]; omega) (fun j hj => (hTab_byte A i j (by rwa [hTab_size] at hj)).imp fun _ h => h.2.2)).mono ?_; rintro _ w9 ⟨rfl, hx9, hk9⟩; have HX9 := Lib.hid hx9; have HK9 := Lib.hid (hk9 (· = (1, 0)) (by simp)); clear hx9 hk9)
              go_roundw
              case rel => exact ⟨i + 1, by omega, by go_num, HX9.out, (HON.out.drew).alloc_trans HK9.out⟩
              case measure => simp [intOf]; omega
            · obtain rfl : i = 4 := by omega
              have H9' := Lib.hid hr9
              have HKF := Lib.hid (fun S => HON.out.kp (w := w) (c := c) (by have := KM8.out.wk; have := KM8.out.kg; have := KM8.out.ga; omega) (KM8.out.kp S))
              clear ha9 hr9
              go_wp2_with (first
                | (refine wpList_load_row rfl 183 _ rfl hb rfl 183 _ _ _ HX.out Tryz.underlying183 rfl (by rw [hash_info, hTab_size]) ?_)
                | (refine wpList_store_row rfl 183 _ _ rfl w.heap.size (hTab A 4) rfl rfl 183 _ H9'.out (by rw [hash_info, hTab_size]) (by simp [u8s, hTab_size]) (hTab_one A) ?_))
              refine bodyPost_ret (v := .agg (hTab A 4)) ?_ rfl ⟨?_, fun S => (HKF.out S).setRow (fun h => absurd h (by omega)) _⟩
              · exact results_cell_row rfl _ _ w.heap.size 183 _ _ _ rfl (heap_setRow H9'.out) Tryz.underlying183 rfl (by rw [hash_info, hTab_size])
              · have e1 : padn l.length = z := HM.out.symm
                have e2 : (l.length + 1 + padn l.length) / 136 = t := by rw [e1]; have := HN.out; have := HQ.out; omega
                have e3 : (hTab A 4) = (((hTab A 4).toList.map byteOf).map bv).toArray := (kec_cells A).symm
                rw [e3, kec, e2, e1, HA.out, HP.out, HT.out, HR.out]
end Go.Proofs.YtnifmoigalmcmaaGreat
