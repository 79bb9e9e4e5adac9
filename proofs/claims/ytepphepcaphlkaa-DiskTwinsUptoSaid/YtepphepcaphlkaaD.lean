import Derived.Test.YtepphepcaphlkaaC
import Derived.Laws.CopyOwn
import Derived.Deep.RegionLaw
namespace Go.Proofs.Ytepphepcaphlkaa
open Go Go.RowKit Go.MapKept Go.Maps
open Dk
variable {c : Col} {w : World} {q : Nat × Nat}
theorem size_u8 : (Try.prog.info? 5).map (·.size) = some 1 := by kernel_rfl
theorem made_u8 (n : Nat) : (madeCells (Value.cells (.int .u8 0)) (n * 1)).toList = List.replicate n (.int .u8 0) := by
  rw [Nat.mul_one]
  simp only [madeCells, Value.cells, Array.toList_map, Array.toList_range]
  refine List.ext_getElem (by simp) fun i h1 h2 => ?_
  simp [Nat.mod_one]
theorem lim_make {n : Nat} {i : TypeInfo} (h : n ≤ lim) (h1 : i.bytes = 1) : i.bytes * n ≤ 281474976710656 := by
  rw [h1]; unfold lim at h; omega
theorem lim_len' {n : Nat} (h : n ≤ lim) : n ≤ maxLen := by have := lim_len h; omega
theorem made_row {w1 : World} {g n : Nat} (hown : w1.ownsRow g 5 1 (.slice (some ⟨g, 0, none⟩) n n) n (madeCells (Value.cells (.int .u8 0)) (n * 1)).toList) :
    Hid (w1.heap[g]? = some (.cells (List.replicate n (Value.int .u8 0)).toArray 5 (0, 0))) := by
  obtain ⟨_, h2⟩ := hown
  rcases h2 with ⟨h2, _⟩ | ⟨g, cap', cur, h2, _, hh, _, _, hcs, ht⟩
  · cases h2
  · simp only [Value.slice.injEq, Option.some.injEq, Addr.mk.injEq] at h2
    obtain ⟨⟨rfl, _⟩, _, rfl⟩ := h2
    rw [made_u8, List.take_of_length_le (by simp [hcs])] at ht
    rw [← ht]; exact hh
theorem src_of {w1 : World} {a : Option Addr} {cap : Nat} {xs : List Value} (h : Sc w c q (.slice a xs.length cap) xs) (hb : Below w.heap.size w w1) (n : Nat) :
    0 < (xs.take n).length → ∃ ad, a = some ad ∧ ∀ (j : Nat) v, (xs.take n)[j]? = some v → w1.cell? (ad.add j) = some v := by
  intro hpos
  obtain ⟨a', cap', e, hlc, _, hn0, hc⟩ := h
  injection e with e1 e2 e3
  subst e1 e3
  cases a with
  | none => have := hn0 rfl; simp at hpos; omega
  | some ad =>
    obtain ⟨h1, h2⟩ := hc ad rfl
    refine ⟨ad, rfl, fun j v hj => ?_⟩
    rw [List.getElem?_take] at hj
    split at hj
    · have h3 := (h2 j v hj).2
      rw [add_eq h1, hb.cell (World.block_lt_of_cell? _ _ h3)]; exact h3
    · cases hj
theorem owns_splice {w1 : World} {g n : Nat} {xs : List Value} (h : w1.heap[g]? = some (.cells xs.toArray 5 (0, 0))) (hn : xs.length = n) (hm : n ≤ maxLen) (base : Nat) (hb : base ≤ g) :
    w1.ownsRow base 5 1 (.slice (some ⟨g, 0, none⟩) n n) n xs :=
  ⟨by simp [hn], .inr ⟨g, n, xs.toArray, rfl, hb, h, Nat.le_refl _, hm, by simp [hn], by simp [List.take_of_length_le, hn]⟩⟩
theorem sized_cells (l : List UInt8) (n : Nat) : splice (List.replicate n (Value.int .u8 0)) 0 ((l.map bv).take n) = (sized l n).map bv := by
  have e0 : bv 0 = Value.int .u8 0 := rfl
  simp only [splice, sized, List.take_zero, List.nil_append, List.map_append, List.map_take, List.map_replicate, e0, Nat.zero_add, List.drop_replicate, List.length_take, List.length_map]
  congr 2
  omega
theorem sized_c (v : Value) (l : List UInt8) (n : Nat) (w : World) (h : Sc w c q v (l.map bv)) (hn : n ≤ lim) (N : Int) (hN : N = (n : Int)) :
    Calls Try.prog 122 #[v, .int .i64 N] w fun e w' => e = .returned (.slice (some ⟨w.heap.size, 0, none⟩) n n) ∧ w'.heap[w.heap.size]? = some (.cells ((sized l n).map bv).toArray 5 (0, 0)) ∧ Below w.heap.size w w' := by
  subst hN
  obtain ⟨a, cap, rfl, _⟩ := id h
  obtain ⟨i, hi, hz0, hz1, hz2⟩ := info_parts info_u8
  have H1 := Lib.hid h; clear h
  have H3 := Lib.hid hn; clear hn
  have H6 := Lib.hid hi; clear hi
  have H7 := Lib.hid hz0; clear hz0
  have H8 := Lib.hid hz1; clear hz1
  have H9 := Lib.hid hz2; clear hz2
  obtain ⟨ll, hll⟩ : ∃ ll, ll = (l.map bv).length := ⟨_, rfl⟩
  have HL := Lib.hid hll
  rw [← hll]; clear hll
  go_enter Try.func122, Try.ntmps122
  go_wp2_with (first
    | (at_make; refine wpList_make_full _ rfl _ _ _ rfl w.heap.size 5 i (.int .u8 0) 1 Try.underlying30 H6.out H7.out H8.out .i64 .i64 _ _ n rfl rfl rfl rfl (lim_make H3.out H9.out) (lim_len' H3.out) (Nat.le_refl _) ?_
       intro w1 hown hgrow
       have hb1 : Below w.heap.size w w1 := (Below.refl _ w).grown hgrow (Nat.le_refl _) (fun k h => by cases h)
       have HO := made_row hown
       have HS := Lib.hid (src_of H1.out hb1 n)
       clear hown hgrow)
    | (with_reducible refine wpList_copy_splice rfl _ _ _ _ rfl 5 Try.underlying30 size_u8 _ _ _ _ _ _ rfl rfl w.heap.size 0 (List.replicate n (Value.int .u8 0)) 5 HO.out ((l.map bv).take n) (by rw [List.length_take, ← HL.out]; exact Nat.min_comm _ _) (fun hp => ⟨rfl, HS.out hp⟩) (by simp; omega) (fun u hu => one_bv l u (List.mem_of_mem_take hu)) w.heap.size w hb1 (Nat.le_refl _) ?_
       intro w2 hg2 hb2))
  go_ret
  have hg3 := hg2.out
  rw [sized_cells] at hg3
  exact ⟨rfl, hg3, hb2⟩
/-- Behind a callee that turned nothing old. -/
theorem bcell {W w1 : World} (hb : Below W.heap.size W w1) : (∀ b o, b < W.heap.size → w1.cell? ⟨b, o, none⟩ = W.cell? ⟨b, o, none⟩) ∧ (∀ b o, b < W.heap.size → w1.frozen? ⟨b, o, none⟩ = W.frozen? ⟨b, o, none⟩) :=
  ⟨fun b o h => hb.cell (p := ⟨b, o, none⟩) h, fun b o h => hb.frozen (p := ⟨b, o, none⟩) h⟩
theorem lim_file {n : Nat} (h : n ≤ maxFile) : n ≤ lim := by unfold maxFile at h; unfold lim; omega
theorem Sc.below {w1 : World} {v : Value} {xs : List Value} (h : Sc w c q v xs) (hb : Below w.heap.size w w1) : Sc w1 c q v xs :=
  h.kp (S := fun _ => False) (Kp.of_below hb) (fun h => h) (Cx.refl _ _)
theorem Sc.alloc {v : Value} {xs : List Value} (h : Sc w c q v xs) (o : Obj) : Sc (w.alloc o) c q v xs := h.below ((Below.refl _ w).alloc (Nat.le_refl _) _)
theorem Sc.drew {v : Value} {xs : List Value} (h : Sc w c q v xs) : Sc w.drew c q v xs := h
theorem Sc.drewN {v : Value} {xs : List Value} (h : Sc w c q v xs) (n : Nat) : Sc (w.drewN n) c q v xs := h
end Go.Proofs.Ytepphepcaphlkaa
