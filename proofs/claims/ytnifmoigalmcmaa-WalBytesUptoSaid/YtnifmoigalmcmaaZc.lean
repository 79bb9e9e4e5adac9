/- cairnref03: the turns, the constants, a turn. -/
import Derived.Test.YtnifmoigalmcmaaZb
import Derived.Laws.Bits64b
namespace Go.Proofs.Ytnifmoigalmcmaa
open Go Go.RowKit
theorem turns_c (c : Col) (w : World) : Calls Try.prog 72 #[] w fun e w' => e = .returned (.agg (i64s (rhoTab 24))) ∧ ∀ S, Kp c S w w' := by
  go_enter Try.func72, Try.ntmps72
  go_wp2
  rw [← i64s_zero]
  go_loopw [2, 3, 4] (fun x y s wr => ∃ t : Nat, t ≤ 24 ∧ s = .int .i64 t ∧ x = .int .i64 ((rhoXY t).1 : Nat) ∧ y = .int .i64 ((rhoXY t).2 : Nat) ∧ wr.heap[w.heap.size + 1]? = some (.cells (i64s (rhoTab t)) 89 (0, 0)) ∧ wr.heap[w.heap.size]? = some (.cells (i64s (rhoTab 0)) 89 (0, 0)) ∧ ∀ S, Kp c S w wr) (fun _ _ s _ => 24 - (intOf s).toNat)
  case atStart =>
    refine ⟨0, by omega, rfl, rfl, rfl, ?_, heap_alloc_old _ (heap_alloc_new _ _), fun S => ((Kp.refl c S w).alloc _).alloc _⟩
    have := heap_alloc_new (w.alloc (.cells (i64s (rhoTab 0)) 89 (0, 0))) (.cells (i64s (rhoTab 0)) 89 (0, 0))
    rw [show (w.alloc (.cells (i64s (rhoTab 0)) 89 (0, 0))).heap.size = w.heap.size + 1 from by simp] at this
    exact this
  case round =>
    obtain ⟨t, ht, rfl, rfl, rfl, h1, h0, hK⟩ := hrel
    obtain ⟨hx, hy⟩ := rhoXY_lt t
    have H1 := Lib.hid h1; have H0 := Lib.hid h0; have HK := Lib.hid hK; clear h0 hK
    by_cases hlt : t < 24
    · obtain ⟨x, hxx⟩ : ∃ x, x = (rhoXY t).1 := ⟨_, rfl⟩
      obtain ⟨y, hyy⟩ : ∃ y, y = (rhoXY t).2 := ⟨_, rfl⟩
      have HX := Lib.hid hxx; have HY := Lib.hid hyy
      rw [← hxx] at hx ⊢; rw [← hyy] at hy ⊢
      clear hxx hyy
      have hc : wr.cell? ⟨w.heap.size + 1, x + 5 * y, none⟩ = some (.int .i64 ((rhoTab t)[x + 5 * y]'(by rw [rhoTab_size]; omega) : Nat)) := by
        rw [cell_of_heap h1]; rw [i64s, Array.getElem?_map, Array.getElem?_eq_getElem (by rw [rhoTab_size]; omega)]; rfl
      have hf := unfrozen_of_heap h1
      clear h1
      have hnum := rho_num t hlt
      go_wp2
      go_roundw
      case rel =>
        refine ⟨t + 1, by omega, by go_num, by rw [HY.out]; rfl, ?_, ?_, ?_, fun S => (HK.out S).setCell (fun h => absurd h (by show ¬ w.heap.size + 1 < w.heap.size; omega)) _⟩
        · rw [HX.out, HY.out]; rfl
        · have := heap_setCell H1.out (x + 5 * y) (.int .i64 (((t + 1) * (t + 2) / 2 % 64 : Nat) : Int))
          rw [i64s_set] at this
          rw [HX.out, HY.out] at this ⊢
          exact this
        · exact (Below.heap_setCell _ _ _ _ (by show w.heap.size ≠ w.heap.size + 1; omega)).trans H0.out
      case measure => simp [intOf]; omega
    · obtain rfl : t = 24 := by omega
      have HE := Lib.hid h1
      go_wp2_with (first
        | (refine wpList_load_row rfl 89 _ rfl (w.heap.size + 1) rfl 89 _ _ _ HE.out Try.underlying89 rfl (by kernel_rfl) ?_)
        | (refine wpList_store_row rfl 89 _ _ rfl w.heap.size (i64s (rhoTab 24)) rfl rfl 89 _ H0.out (by kernel_rfl) (by kernel_rfl) (by kernel_rfl) ?_))
      refine bodyPost_ret (v := .agg (i64s (rhoTab 24))) ?_ rfl ⟨rfl, fun S => (HK.out S).setRow (fun h => absurd h (Nat.lt_irrefl _)) _⟩
      exact results_cell_row rfl _ _ w.heap.size 89 _ _ _ rfl (heap_setRow H0.out) Try.underlying89 rfl (by kernel_rfl)
set_option maxRecDepth 20000 in
theorem rconstants_c (c : Col) (w : World) : Calls Try.prog 71 #[] w fun e w' => e = .returned (.agg (u64s (iotaTab 168))) ∧ ∀ S, Kp c S w w' := by
  go_enter Try.func71, Try.ntmps71
  go_wp2
  rw [← u64s_zero]
  go_loopw [2, 3] (fun r s wr => ∃ i : Nat, i ≤ 24 ∧ s = .int .i64 i ∧ r = .int .i64 (iotaReg (7 * i) : Nat) ∧ wr.heap[w.heap.size + 1]? = some (.cells (u64s (iotaTab (7 * i))) 91 (0, 0)) ∧ wr.heap[w.heap.size]? = some (.cells (u64s (iotaTab 0)) 91 (0, 0)) ∧ ∀ S, Kp c S w wr) (fun _ s _ => 24 - (intOf s).toNat)
  case atStart =>
    refine ⟨0, by omega, rfl, rfl, ?_, heap_alloc_old _ (heap_alloc_new _ _), fun S => ((Kp.refl c S w).alloc _).alloc _⟩
    have := heap_alloc_new (w.alloc (.cells (u64s (iotaTab 0)) 91 (0, 0))) (.cells (u64s (iotaTab 0)) 91 (0, 0))
    rw [show (w.alloc (.cells (u64s (iotaTab 0)) 91 (0, 0))).heap.size = w.heap.size + 1 from by simp] at this
    exact this
  case round =>
    obtain ⟨i, hi, rfl, rfl, h1, h0, hK⟩ := hrel
    have H1 := Lib.hid h1; have H0 := Lib.hid h0; have HK := Lib.hid hK; clear h1 h0 hK
    by_cases hil : i < 24
    · go_wp2
      go_loopw [2, 4] (fun r s wr => ∃ j : Nat, j ≤ 7 ∧ s = .int .i64 j ∧ r = .int .i64 (iotaReg (7 * i + j) : Nat) ∧ wr.heap[w.heap.size + 1]? = some (.cells (u64s (iotaTab (7 * i + j))) 91 (0, 0)) ∧ wr.heap[w.heap.size]? = some (.cells (u64s (iotaTab 0)) 91 (0, 0)) ∧ ∀ S, Kp c S w wr) (fun _ s _ => 7 - (intOf s).toNat)
      case atStart => exact ⟨0, by omega, rfl, rfl, H1.out, H0.out, HK.out⟩
      case round =>
        clear H1 H0 HK
        obtain ⟨j, hj, rfl, rfl, h1, h0, hK⟩ := hrel
        have H1 := Lib.hid h1; have H0 := Lib.hid h0; have HK := Lib.hid hK; clear h0 hK
        by_cases hlt : j < 7
        · have ht : 7 * i + j < 168 := by omega
          have hr256 := iota_lt _ ht
          have hbig := iota_big _ ht
          have hodd : iotaReg (7 * i + j) % 2 = 1 → ((iotaReg (7 * i + j) : Nat) : Int).tmod 2 = 1 := fun h => by rw [Int.tmod_eq_emod_of_nonneg (by omega)]; omega
          have heven : ¬ iotaReg (7 * i + j) % 2 = 1 → ((iotaReg (7 * i + j) : Nat) : Int).tmod 2 = 0 := fun h => by rw [Int.tmod_eq_emod_of_nonneg (by omega)]; omega
          have hnx : iotaReg (7 * i + j + 1) = if iotaReg (7 * i + j) * 2 ≥ 256 then (iotaReg (7 * i + j) * 2) ^^^ 0x171 else iotaReg (7 * i + j) * 2 := rfl
          have htb : iotaTab (7 * i + j + 1) = if iotaReg (7 * i + j) % 2 = 1 then (iotaTab (7 * i + j)).setIfInBounds ((7 * i + j) / 7) (bits BinOp.or IntKind.u64 ((iotaTab (7 * i + j))[(7 * i + j) / 7]?.getD 0) (IntKind.u64.wrap (2 ^ min (IntKind.u64.wrap (IntKind.u64.wrap (2 ^ ((7 * i + j) % 7)) - 1)).toNat 64))) else iotaTab (7 * i + j) := rfl
          rw [show (7 * i + j) / 7 = i from by omega, show (7 * i + j) % 7 = j from by omega] at htb
          have hsz := iotaTab_size (7 * i + j)
          obtain ⟨r', hr'⟩ : ∃ r', r' = iotaReg (7 * i + j + 1) := ⟨_, rfl⟩
          obtain ⟨r, hr⟩ : ∃ r, r = iotaReg (7 * i + j) := ⟨_, rfl⟩
          obtain ⟨A, hA⟩ : ∃ A, A = iotaTab (7 * i + j) := ⟨_, rfl⟩
          rw [← hr'] at hnx hbig
          rw [← hr] at hr256 hbig hodd heven hnx htb ⊢
          rw [← hA] at hsz htb h1 H1
          have HR' := Lib.hid hr'; clear hr' hr hA
          have hc : wr.cell? ⟨w.heap.size + 1, i, none⟩ = some (.int .u64 (A[i]?.getD 0)) := by
            rw [cell_of_heap h1]; exact u64s_at (a := A) (i := i) (n := 24) hsz hil
          have hf := unfrozen_of_heap h1
          clear h1 hsz
          by_cases hg : r * 2 ≥ 256
          · have hbig := hbig hg
            clear hnx
            by_cases ho : r % 2 = 1
            · have hk := hodd ho
              rw [if_pos ho] at htb
              have HT := Lib.hid htb
              clear heven htb
              go_wp2
              go_roundw
              case rel =>
                refine ⟨j + 1, by omega, by go_num, by rw [show 7 * i + (j + 1) = 7 * i + j + 1 from rfl, ← HR'.out], ?_, (Below.heap_setCell _ _ _ _ (by show w.heap.size ≠ w.heap.size + 1; omega)).trans H0.out, fun S => ((HK.out S).setCell (fun h => absurd h (by show ¬ w.heap.size + 1 < w.heap.size; omega)) _)⟩
                rw [show 7 * i + (j + 1) = 7 * i + j + 1 from rfl, HT.out]; rw [← u64s_set]; exact heap_setCell H1.out i _
              case measure => simp [intOf]; omega
            · have hk := heven ho
              rw [if_neg ho] at htb
              have HT := Lib.hid htb
              clear hodd htb
              go_wp2
              go_roundw
              case rel =>
                refine ⟨j + 1, by omega, by go_num, by rw [show 7 * i + (j + 1) = 7 * i + j + 1 from rfl, ← HR'.out], ?_, H0.out, HK.out⟩
                rw [show 7 * i + (j + 1) = 7 * i + j + 1 from rfl, HT.out]; exact H1.out
              case measure => simp [intOf]; omega
          · rw [if_neg hg] at hnx
            clear hbig
            by_cases ho : r % 2 = 1
            · have hk := hodd ho
              rw [if_pos ho] at htb
              have HT := Lib.hid htb
              clear heven htb
              go_wp2
              go_roundw
              case rel =>
                refine ⟨j + 1, by omega, by go_num, by rw [show 7 * i + (j + 1) = 7 * i + j + 1 from rfl, ← HR'.out]; go_num, ?_, (Below.heap_setCell _ _ _ _ (by show w.heap.size ≠ w.heap.size + 1; omega)).trans H0.out, fun S => ((HK.out S).setCell (fun h => absurd h (by show ¬ w.heap.size + 1 < w.heap.size; omega)) _)⟩
                rw [show 7 * i + (j + 1) = 7 * i + j + 1 from rfl, HT.out]; rw [← u64s_set]; exact heap_setCell H1.out i _
              case measure => simp [intOf]; omega
            · have hk := heven ho
              rw [if_neg ho] at htb
              have HT := Lib.hid htb
              clear hodd htb
              go_wp2
              go_roundw
              case rel =>
                refine ⟨j + 1, by omega, by go_num, by rw [show 7 * i + (j + 1) = 7 * i + j + 1 from rfl, ← HR'.out]; go_num, ?_, H0.out, HK.out⟩
                rw [show 7 * i + (j + 1) = 7 * i + j + 1 from rfl, HT.out]; exact H1.out
              case measure => simp [intOf]; omega
        · obtain rfl : j = 7 := by omega
          clear h1
          go_wp2
          go_roundw
          case rel => exact ⟨i + 1, by omega, by go_num, rfl, H1.out, H0.out, HK.out⟩
          case measure => simp [intOf]; omega
    · obtain rfl : i = 24 := by omega
      go_wp2_with (first
        | (refine wpList_load_row rfl 91 _ rfl (w.heap.size + 1) rfl 91 _ _ _ H1.out Try.underlying91 rfl (by kernel_rfl) ?_)
        | (refine wpList_store_row rfl 91 _ _ rfl w.heap.size (u64s (iotaTab 168)) rfl rfl 91 _ H0.out (by kernel_rfl) (by kernel_rfl) (by kernel_rfl) ?_))
      refine bodyPost_ret (v := .agg (u64s (iotaTab 168))) ?_ rfl ⟨rfl, fun S => (HK.out S).setRow (fun h => absurd h (Nat.lt_irrefl _)) _⟩
      exact results_cell_row rfl _ _ w.heap.size 91 _ _ _ rfl (heap_setRow H0.out) Try.underlying91 rfl (by kernel_rfl)
theorem rol_zero {x : Int} (h : 0 ≤ x) (h2 : x < 18446744073709551616) : rol x 0 = x := by
  obtain ⟨n, rfl⟩ : ∃ n : Nat, x = n := ⟨x.toNat, by omega⟩
  have e1 : (n : Int) / 2 ^ (64 - 0) = ((0 : Nat) : Int) := by show (n : Int) / 18446744073709551616 = 0; omega
  have e2 : IntKind.u64.wrap ((n : Int) * 2 ^ 0) = (n : Int) := by rw [IntKind.wrap_u64]; omega
  unfold rol
  rw [e1, e2, bits_or_u64_nat _ _ (by omega) (by omega), Nat.or_zero]
theorem left_c (w : World) (x : Int) (k : Nat) (hk : k < 64) (h : k = 0 → 0 ≤ x ∧ x < 18446744073709551616) : Calls Try.prog 73 #[.int .u64 x, .int .i64 k] w fun e w' => e = .returned (.int .u64 (rol x k)) ∧ w' = w := by
  by_cases h0 : k = 0
  · subst h0
    have HZ := Lib.hid (rol_zero (h rfl).1 (h rfl).2)
    go_enter Try.func73, Try.ntmps73
    go_wp2
    go_ret
    exact ⟨by rw [HZ.out]; rfl, rfl⟩
  · have hm : ((k : Nat) : Int).tmod 64 = k := by rw [Int.tmod_eq_emod_of_nonneg (by omega)]; omega
    go_enter Try.func73, Try.ntmps73
    go_wp2
    go_ret
    exact ⟨rfl, rfl⟩
theorem xo_range (a b : Int) : 0 ≤ xo a b ∧ xo a b < 18446744073709551616 := by
  unfold xo bits
  simp only [IntKind.wrap_u64]
  omega
end Go.Proofs.Ytnifmoigalmcmaa
