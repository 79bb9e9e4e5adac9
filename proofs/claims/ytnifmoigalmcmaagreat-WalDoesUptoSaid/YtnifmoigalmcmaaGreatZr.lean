/- digest: the turns of rho, and the constants of iota. -/
import Derived.WalkKit
import Derived.ProofKit
import Derived.Handy
import Derived.Lib.Hide
import Derived.Laws.Rows
import Derived.Laws.Tables
import Derived.Test.YtnifmoigalmcmaaGreatMem
namespace Go.Proofs.YtnifmoigalmcmaaGreat
open Go Go.RowKit
def rhoXY : Nat → Nat × Nat
  | 0 => (1, 0)
  | t + 1 => ((rhoXY t).2, (2 * (rhoXY t).1 + 3 * (rhoXY t).2) % 5)
theorem rhoXY_lt : ∀ t, (rhoXY t).1 < 5 ∧ (rhoXY t).2 < 5
  | 0 => by decide
  | t + 1 => ⟨(rhoXY_lt t).2, Nat.mod_lt _ (by decide)⟩
def rhoTab : Nat → Array Nat
  | 0 => Array.replicate 25 0
  | t + 1 => (rhoTab t).setIfInBounds ((rhoXY t).1 + 5 * (rhoXY t).2) ((t + 1) * (t + 2) / 2 % 64)
theorem rhoTab_size : ∀ t, (rhoTab t).size = 25
  | 0 => by simp [rhoTab]
  | t + 1 => by simp [rhoTab, rhoTab_size t]
theorem heap_setRow {w : World} {g : Nat} {cs old : Array Value} {t : TypeId} {fz : Nat × Nat} (h : w.heap[g]? = some (.cells old t fz)) : (w.setRow g cs).heap[g]? = some (.cells cs t fz) := by
  simp [World.setRow, Array.getElem?_modify, h]
theorem heap_setRow_ne (w : World) {g b : Nat} (cs : Array Value) (h : b ≠ g) : (w.setRow g cs).heap[b]? = w.heap[b]? := by
  simp [World.setRow, Array.getElem?_modify, Ne.symm h]
theorem Kp.setRow {c : Col} {S : Nat × Nat → Prop} {w0 w1 : World} (h : Kp c S w0 w1) {g : Nat} (hg : g < w0.heap.size → S (c g)) (cs : Array Value) : Kp c S w0 (w1.setRow g cs) :=
  ⟨h.os, h.tape, h.output, by simpa [World.setRow] using h.size, fun b hb hn => by
    rw [heap_setRow_ne _ _ (fun e => hn (by subst e; exact hg hb))]; exact h.block b hb hn⟩
def i64s (a : Array Nat) : Array Value := a.map fun n : Nat => .int .i64 (n : Int)
theorem i64s_set (a : Array Nat) (i n : Nat) : (i64s a).setIfInBounds i (.int .i64 (n : Int)) = i64s (a.setIfInBounds i n) := by
  simp [i64s, Array.map_setIfInBounds]
theorem i64s_zero : i64s (rhoTab 0) = #[.int .i64 0, .int .i64 0, .int .i64 0, .int .i64 0, .int .i64 0, .int .i64 0, .int .i64 0, .int .i64 0, .int .i64 0, .int .i64 0, .int .i64 0, .int .i64 0, .int .i64 0, .int .i64 0, .int .i64 0, .int .i64 0, .int .i64 0, .int .i64 0, .int .i64 0, .int .i64 0, .int .i64 0, .int .i64 0, .int .i64 0, .int .i64 0, .int .i64 0] := by kernel_rfl
theorem rho_num : ∀ t : Nat, t < 24 → (wrap64 ((wrap64 (((t : Int) + 1) * ((t : Int) + 2))).tdiv 2)).tmod 64 = (((t + 1) * (t + 2) / 2 % 64 : Nat) : Int) := by decide +kernel
theorem offsets_c (c : Col) (w : World) : Calls Tryz.prog 161 #[] w fun e w' => e = .returned (.agg (i64s (rhoTab 24))) ∧ ∀ S, Kp c S w w' := by
  go_enter Tryz.func161, Tryz.ntmps161
  go_wp2
  rw [← i64s_zero]
  go_loopw [2, 3, 5] (fun x y s wr => ∃ t : Nat, t ≤ 24 ∧ s = .int .i64 t ∧ x = .int .i64 ((rhoXY t).1 : Nat) ∧ y = .int .i64 ((rhoXY t).2 : Nat) ∧ wr.heap[w.heap.size + 1]? = some (.cells (i64s (rhoTab t)) 235 (0, 0)) ∧ wr.heap[w.heap.size]? = some (.cells (i64s (rhoTab 0)) 235 (0, 0)) ∧ ∀ S, Kp c S w wr) (fun _ _ s _ => 24 - (intOf s).toNat)
  case atStart =>
    refine ⟨0, by omega, rfl, rfl, rfl, ?_, heap_alloc_old _ (heap_alloc_new _ _), fun S => ((Kp.refl c S w).alloc _).alloc _⟩
    have := heap_alloc_new (w.alloc (.cells (i64s (rhoTab 0)) 235 (0, 0))) (.cells (i64s (rhoTab 0)) 235 (0, 0))
    rw [show (w.alloc (.cells (i64s (rhoTab 0)) 235 (0, 0))).heap.size = w.heap.size + 1 from by simp] at this
    exact this
  case round =>
    obtain ⟨t, ht, rfl, rfl, rfl, h1, h0, hK⟩ := hrel
    obtain ⟨hx, hy⟩ := rhoXY_lt t
    have H1 := Lib.hid h1; have H0 := Lib.hid h0; have HK := Lib.hid hK; clear h0 hK
    by_cases hlt : t < 24
    · obtain ⟨x, hxx⟩ : ∃ x, x = (rhoXY t).1 := ⟨_, rfl⟩
      obtain ⟨y, hyy⟩ : ∃ y, y = (rhoXY t).2 := ⟨_, rfl⟩
      have HX := Lib.hid hxx; have HY := Lib.hid hyy
      rw [← hxx] at hx ⊢; rw [← hyy] at hy ⊢
      clear hxx hyy
      have hc : wr.cell? ⟨w.heap.size + 1, x + 5 * y, none⟩ = some (.int .i64 ((rhoTab t)[x + 5 * y]'(by rw [rhoTab_size]; omega) : Nat)) := by
        rw [cell_of_heap h1]; rw [i64s, Array.getElem?_map, Array.getElem?_eq_getElem (by rw [rhoTab_size]; omega)]; rfl
      have hf := unfrozen_of_heap h1
      clear h1
      have hnum := rho_num t hlt
      go_wp2
      go_roundw
      case rel =>
        refine ⟨t + 1, by omega, by go_num, by rw [HY.out]; rfl, ?_, ?_, ?_, fun S => (HK.out S).setCell (fun h => absurd h (by show ¬ w.heap.size + 1 < w.heap.size; omega)) _⟩
        · rw [HX.out, HY.out]; rfl
        · have := heap_setCell H1.out (x + 5 * y) (.int .i64 (((t + 1) * (t + 2) / 2 % 64 : Nat) : Int))
          rw [i64s_set] at this
          rw [HX.out, HY.out] at this ⊢
          exact this
        · exact (Below.heap_setCell _ _ _ _ (by show w.heap.size ≠ w.heap.size + 1; omega)).trans H0.out
      case measure => simp [intOf]; omega
    · obtain rfl : t = 24 := by omega
      have HE := Lib.hid h1
      go_wp2_with (first
        | (refine wpList_load_row rfl 235 _ rfl (w.heap.size + 1) rfl 235 _ _ _ HE.out Tryz.underlying235 rfl (by kernel_rfl) ?_)
        | (refine wpList_store_row rfl 235 _ _ rfl w.heap.size (i64s (rhoTab 24)) rfl rfl 235 _ H0.out (by kernel_rfl) (by kernel_rfl) (by kernel_rfl) ?_))
      refine bodyPost_ret (v := .agg (i64s (rhoTab 24))) ?_ rfl ⟨rfl, fun S => (HK.out S).setRow (fun h => absurd h (Nat.lt_irrefl _)) _⟩
      exact results_cell_row rfl _ _ w.heap.size 235 _ _ _ rfl (heap_setRow H0.out) Tryz.underlying235 rfl (by kernel_rfl)
def u64s (a : Array Int) : Array Value := a.map fun n : Int => .int .u64 n
theorem u64s_set (a : Array Int) (i : Nat) (n : Int) : (u64s a).setIfInBounds i (.int .u64 n) = u64s (a.setIfInBounds i n) := by
  simp [u64s, Array.map_setIfInBounds]
theorem u64s_at {a : Array Int} {i n : Nat} (hn : a.size = n) (h : i < n) : (u64s a)[i]? = some (.int .u64 (a[i]?.getD 0)) := by
  subst hn
  rw [u64s, Array.getElem?_map, Array.getElem?_eq_getElem h]; simp
def iotaReg : Nat → Nat
  | 0 => 1
  | t + 1 => if iotaReg t * 2 ≥ 256 then (iotaReg t * 2) ^^^ 0x171 else iotaReg t * 2
def iotaTab : Nat → Array Int
  | 0 => Array.replicate 24 0
  | t + 1 => if iotaReg t % 2 = 1 then (iotaTab t).setIfInBounds (t / 7) (bits BinOp.or IntKind.u64 ((iotaTab t)[t / 7]?.getD 0) (IntKind.u64.wrap (2 ^ min (IntKind.u64.wrap (IntKind.u64.wrap (2 ^ (t % 7)) - 1)).toNat 64))) else iotaTab t
theorem iotaTab_size : ∀ t, (iotaTab t).size = 24
  | 0 => by simp [iotaTab]
  | t + 1 => by unfold iotaTab; split <;> simp [iotaTab_size t]
theorem iota_lt : ∀ t : Nat, t < 168 → iotaReg t < 256 := by decide +kernel
theorem iota_odd : ∀ t : Nat, t < 168 → iotaReg t % 2 = 1 → bits BinOp.and IntKind.i64 (iotaReg t : Nat) 1 = 1 := by decide +kernel
theorem iota_even : ∀ t : Nat, t < 168 → ¬ iotaReg t % 2 = 1 → bits BinOp.and IntKind.i64 (iotaReg t : Nat) 1 = 0 := by decide +kernel
theorem iota_big : ∀ t : Nat, t < 168 → iotaReg t * 2 ≥ 256 → bits BinOp.xor IntKind.i64 ((iotaReg t : Nat) * 2) 369 = ((iotaReg (t + 1) : Nat) : Int) := by decide +kernel
theorem u64s_zero : u64s (iotaTab 0) = #[.int .u64 0, .int .u64 0, .int .u64 0, .int .u64 0, .int .u64 0, .int .u64 0, .int .u64 0, .int .u64 0, .int .u64 0, .int .u64 0, .int .u64 0, .int .u64 0, .int .u64 0, .int .u64 0, .int .u64 0, .int .u64 0, .int .u64 0, .int .u64 0, .int .u64 0, .int .u64 0, .int .u64 0, .int .u64 0, .int .u64 0, .int .u64 0] := by kernel_rfl
set_option maxRecDepth 20000 in
theorem constants_c (c : Col) (w : World) : Calls Tryz.prog 162 #[] w fun e w' => e = .returned (.agg (u64s (iotaTab 168))) ∧ ∀ S, Kp c S w w' := by
  go_enter Tryz.func162, Tryz.ntmps162
  go_wp2
  rw [← u64s_zero]
  go_loopw [2, 4] (fun r s wr => ∃ t : Nat, t ≤ 168 ∧ s = .int .i64 t ∧ r = .int .i64 (iotaReg t : Nat) ∧ wr.heap[w.heap.size + 1]? = some (.cells (u64s (iotaTab t)) 237 (0, 0)) ∧ wr.heap[w.heap.size]? = some (.cells (u64s (iotaTab 0)) 237 (0, 0)) ∧ ∀ S, Kp c S w wr) (fun _ s _ => 168 - (intOf s).toNat)
  case atStart =>
    refine ⟨0, by omega, rfl, rfl, ?_, heap_alloc_old _ (heap_alloc_new _ _), fun S => ((Kp.refl c S w).alloc _).alloc _⟩
    have := heap_alloc_new (w.alloc (.cells (u64s (iotaTab 0)) 237 (0, 0))) (.cells (u64s (iotaTab 0)) 237 (0, 0))
    rw [show (w.alloc (.cells (u64s (iotaTab 0)) 237 (0, 0))).heap.size = w.heap.size + 1 from by simp] at this
    exact this
  case round =>
    obtain ⟨t, ht, rfl, rfl, h1, h0, hK⟩ := hrel
    have H1 := Lib.hid h1; have H0 := Lib.hid h0; have HK := Lib.hid hK; clear h0 hK
    by_cases hlt : t < 168
    · have hr256 := iota_lt t hlt
      have hbig := iota_big t hlt
      have hodd := iota_odd t hlt
      have heven := iota_even t hlt
      have hnx : iotaReg (t + 1) = if iotaReg t * 2 ≥ 256 then (iotaReg t * 2) ^^^ 0x171 else iotaReg t * 2 := rfl
      have htb : iotaTab (t + 1) = if iotaReg t % 2 = 1 then (iotaTab t).setIfInBounds (t / 7) (bits BinOp.or IntKind.u64 ((iotaTab t)[t / 7]?.getD 0) (IntKind.u64.wrap (2 ^ min (IntKind.u64.wrap (IntKind.u64.wrap (2 ^ (t % 7)) - 1)).toNat 64))) else iotaTab t := rfl
      obtain ⟨r', hr'⟩ : ∃ r', r' = iotaReg (t + 1) := ⟨_, rfl⟩
      obtain ⟨r, hr⟩ : ∃ r, r = iotaReg t := ⟨_, rfl⟩
      rw [← hr'] at hnx hbig
      rw [← hr] at hr256 hbig hodd heven hnx htb ⊢
      have HR' := Lib.hid hr'; clear hr' hr
      have hc : wr.cell? ⟨w.heap.size + 1, t / 7, none⟩ = some (.int .u64 ((iotaTab t)[t / 7]?.getD 0)) := by
        rw [cell_of_heap h1]; exact u64s_at (a := iotaTab t) (i := t / 7) (n := 24) (iotaTab_size t) (by omega)
      have hf := unfrozen_of_heap h1
      clear h1
      by_cases hg : r * 2 ≥ 256
      · have hbig := hbig hg
        clear hnx
        by_cases ho : r % 2 = 1
        · skip
          have hk := hodd ho
          rw [if_pos ho] at htb
          have HT := Lib.hid htb
          clear heven hodd htb ho
          go_wp2
          go_region
          go_wp2
          go_roundw
          case rel =>
            refine ⟨t + 1, by omega, by go_num, by rw [← HR'.out], ?_, (Below.heap_setCell _ _ _ _ (by show w.heap.size ≠ w.heap.size + 1; omega)).trans H0.out, fun S => ((HK.out S).setCell (fun h => absurd h (by show ¬ w.heap.size + 1 < w.heap.size; omega)) _).drew⟩
            rw [HT.out, ← u64s_set]; exact heap_setCell H1.out (t / 7) _
          case measure => simp [intOf]; omega
        · skip
          have hk := heven ho
          rw [if_neg ho] at htb
          have HT := Lib.hid htb
          clear heven hodd htb ho
          go_wp2
          go_roundw
          case rel =>
            refine ⟨t + 1, by omega, by go_num, by rw [← HR'.out], ?_, H0.out, HK.out⟩
            rw [HT.out]; exact H1.out
          case measure => simp [intOf]; omega
      · rw [if_neg hg] at hnx
        clear hbig
        by_cases ho : r % 2 = 1
        · skip
          have hk := hodd ho
          rw [if_pos ho] at htb
          have HT := Lib.hid htb
          clear heven hodd htb ho
          go_wp2
          go_region
          go_wp2
          go_roundw
          case rel =>
            refine ⟨t + 1, by omega, by go_num, by rw [← HR'.out]; go_num, ?_, (Below.heap_setCell _ _ _ _ (by show w.heap.size ≠ w.heap.size + 1; omega)).trans H0.out, fun S => ((HK.out S).setCell (fun h => absurd h (by show ¬ w.heap.size + 1 < w.heap.size; omega)) _).drew⟩
            rw [HT.out, ← u64s_set]; exact heap_setCell H1.out (t / 7) _
          case measure => simp [intOf]; omega
        · skip
          have hk := heven ho
          rw [if_neg ho] at htb
          have HT := Lib.hid htb
          clear heven hodd htb ho
          go_wp2
          go_roundw
          case rel =>
            refine ⟨t + 1, by omega, by go_num, by rw [← HR'.out]; go_num, ?_, H0.out, HK.out⟩
            rw [HT.out]; exact H1.out
          case measure => simp [intOf]; omega
    · obtain rfl : t = 168 := by omega
      clear h1
      go_wp2_with (first
        | (refine wpList_load_row rfl 237 _ rfl (w.heap.size + 1) rfl 237 _ _ _ H1.out Tryz.underlying237 rfl (by kernel_rfl) ?_)
        | (refine wpList_store_row rfl 237 _ _ rfl w.heap.size (u64s (iotaTab 168)) rfl rfl 237 _ H0.out (by kernel_rfl) (by kernel_rfl) (by kernel_rfl) ?_))
      refine bodyPost_ret (v := .agg (u64s (iotaTab 168))) ?_ rfl ⟨rfl, fun S => (HK.out S).setRow (fun h => absurd h (Nat.lt_irrefl _)) _⟩
      exact results_cell_row rfl _ _ w.heap.size 237 _ _ _ rfl (heap_setRow H0.out) Tryz.underlying237 rfl (by kernel_rfl)
end Go.Proofs.YtnifmoigalmcmaaGreat
/- math/bits: a word turned. -/
namespace Go.Proofs.YtnifmoigalmcmaaGreat
open Go Go.RowKit
theorem and63 : ∀ k : Nat, k < 64 → bits BinOp.and IntKind.u64 (k : Int) 63 = (k : Int) := by decide +kernel
def rol (x : Int) (k : Nat) : Int := bits BinOp.or IntKind.u64 (IntKind.u64.wrap (x * 2 ^ k)) (x / 2 ^ (64 - k))
theorem rot_c (w : World) (x : Int) (k : Nat) (hk : k < 64) : Calls Tryz.prog 186 #[.int .u64 x, .int .i64 k] w fun e w' => e = .returned (.int .u64 (rol x k)) ∧ w = w' := by
  have h := and63 k hk
  go_enter Tryz.func186, Tryz.ntmps186
  go_wp2
  go_ret
  exact ⟨rfl, rfl⟩
end Go.Proofs.YtnifmoigalmcmaaGreat
