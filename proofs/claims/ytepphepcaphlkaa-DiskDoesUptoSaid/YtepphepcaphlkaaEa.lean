/- Each: a range over the files of a disk: its iterator's contract. -/
import Derived.RangeFuncWrites
import Derived.RangeFuncLeaves
import Derived.Shelf.Abstract
import Derived.OwnWalkIn
import Derived.TacticsInMore
import Derived.LoopNIn
import Derived.LoopIn
import Derived.Maps.OwnIn
import Derived.Test.YtepphepcaphlkaaLt
import Derived.Test.YtepphepcaphlkaaNo
namespace Go.Proofs.Ytepphepcaphlkaa
open Go Go.RowKit Go.MapKept Go.Maps Go.Shelf
open Dk
attribute [local go_sem] Oper.semAt_some
variable {c c' : Col} {w w' : World}
theorem Kp.row (h : ∀ S, Kp c S w w') : w.grownBy w' none := by
  have h := h (fun _ => False)
  exact ⟨h.os, h.tape, h.output, h.size, fun k hk _ => h.block k hk (fun h => h)⟩
/-- What a round keeps: all cells but those of the blocks Bx. -/
def KpX (Bx : Nat → Prop) (A B : World) : Prop := A.heap.size ≤ B.heap.size ∧ ∀ b cs t fz, A.heap[b]? = some (.cells cs t fz) → ¬ Bx b → B.heap[b]? = some (.cells cs t fz)
theorem kpx_t {Bx : Nat → Prop} {A B C : World} (h : KpX Bx A B) (k : KpX Bx B C) : KpX Bx A C := ⟨Nat.le_trans h.1 k.1, fun b cs t fz hb hn => k.2 b cs t fz (h.2 b cs t fz hb hn) hn⟩
theorem kpx_b {Bx : Nat → Prop} {n : Nat} (W : World) (l : Nat) (o o' : Obj) (_ : n ≤ l) (h : W.heap[l]? = some o) (ho : o.isCells = false) (_ : o.isWalk = false) : KpX Bx W (W.putObj l o') := by
  have hg := grownBy_putObj' W l o'
  refine ⟨hg.size, fun b cs t fz hb _ => ?_⟩
  have hne : b ≠ l := by rintro rfl; rw [hb] at h; cases h; cases ho
  exact (hg.block b (lt_of_heap hb) (by simp; exact hne)).trans hb
theorem kpx_alloc {Bx : Nat → Prop} (W : World) (o : Obj) : KpX Bx W (W.alloc o) := ⟨by simp, fun b cs t fz hb _ => heap_alloc_old o hb⟩
/-- Names and lengths of a list of files, as the iterator reads them. -/
def Heads (Bx : Nat → Prop) (w : World) (v : Value) (L : List (Nm × Nat)) : Prop :=
  ∃ a cap, v = .slice a L.length cap ∧ (L.length : Int) ≤ 4096 ∧ (∀ x ∈ L, (x.2 : Int) ≤ 268435456) ∧ (0 < L.length → ∃ g cs t fz, a = some ⟨g, 0, none⟩ ∧ ¬ Bx g ∧ w.heap[g]? = some (.cells cs t fz) ∧ ∀ j x, L[j]? = some x → cs[j * 2]? = some (str x.1) ∧ ∃ ad kd, cs[j * 2 + 1]? = some (.slice ad x.2 kd))
theorem Heads.kpx {Bx : Nat → Prop} {v : Value} {L : List (Nm × Nat)} (h : Heads Bx w v L) (hk : KpX Bx w w') : Heads Bx w' v L := by
  obtain ⟨a, cap, e, h1, h2, h3⟩ := h
  refine ⟨a, cap, e, h1, h2, fun h0 => ?_⟩
  obtain ⟨g, cs, t, fz, e1, e2, e3, e4⟩ := h3 h0
  exact ⟨g, cs, t, fz, e1, e2, hk.2 g cs t fz e3 e2, e4⟩
theorem each_c (p : Option Addr) (w : World) : Calls Try.prog 28 #[.pointer p] w fun e w' => e = .returned (.func (.func 59) #[] #[.pointer (some ⟨w.heap.size, 0, none⟩)]) ∧ w' = w.alloc (.cells #[.pointer p] 25) := by
  go_enter Try.func28, Try.ntmps28
  go_wp2
  go_ret
  exact ⟨rfl, rfl⟩
set_option maxRecDepth 100000 in
set_option maxHeartbeats 4000000 in
theorem each1_in {α : Type} (val : α → Nm × Nat) (n : Nat) (hn : 1 ≤ n) (l Bn : Nat) (p : Option Addr) (L : List α) (Bx : Nat → Prop) (J Jx : List α → World → Prop)
    (hY : ∀ pre x W, J pre W → pre.length < L.length → YieldAt Fence.wide (n - 1) Try.prog l #[str (val x).1, .int .i64 (val x).2] W fun e W' =>
      (e = .returned (.bool true) ∧ J (pre ++ [x]) W' ∧ KpX Bx W W') ∨ (e = .returned (.bool false) ∧ Jx (pre ++ [x]) W'))
    (W : World) (hBn : W.cell? ⟨Bn, 0, none⟩ = some (.pointer p)) (hJ : AbidesFrom W.heap.size J) (HF : Calls Try.prog 13 #[.pointer p] W fun e w' => ∃ v, e = .returned v ∧ W.grownBy w' none ∧ Heads Bx w' v (L.map val)) (h0 : J [] W) :
    CallsIn Fence.wide n Try.prog 59 #[.func (.yield l) #[] #[], .pointer (some ⟨Bn, 0, none⟩)] W fun e W' => (∃ v, e = .returned v) ∧
      ((∃ ys, ys = L ∧ J ys W') ∨ (∃ pre, pre <+: L ∧ Jx pre W')) := by
  have HJ := Lib.hid hJ; clear hJ
  have H0 := Lib.hid h0; clear h0
  have HYY := Lib.hid hY; clear hY
  have HF1 := Lib.hid HF; clear HF
  refine callsIn_of_wp Try.func59 rfl trivial ?_ rfl
  simp only [Try.ntmps59, List.size_toArray, List.length_cons, List.length_nil, Nat.reduceAdd, Nat.reduceSub, Array.replicate_succ, Array.replicate_zero, List.push_toArray, List.append_toArray, List.nil_append, List.cons_append]
  gi_wp2_with (refine ⟨trivial, ?_⟩; gi_at_call 13; refine (callsIn_wide.2 HF1.out).mono ?_; rintro e w1 ⟨v, rfl, hg, hh⟩; (obtain ⟨a, cap, rfl, h1, h2, h3⟩ := hh); simp only [List.length_map] at h1 h2 h3 ⊢; have HG := Lib.hid hg; have H2 := Lib.hid h2; have H3 := Lib.hid h3; clear hg h2 h3)
  gi_loopw [8] (fun s wr => ∃ j : Nat, j ≤ L.length ∧ s = .int .i64 j ∧ J (L.take j) wr ∧ Heads Bx wr (.slice a L.length cap) (L.map val)) (fun s _ => L.length - (intOf s).toNat)
  case atStart =>
    exact ⟨0, Nat.zero_le _, rfl, HJ.out _ _ _ none H0.out HG.out (fun r e => by cases e), a, cap, by rw [List.length_map], by rw [List.length_map]; exact h1, H2.out, by rw [List.length_map]; exact H3.out⟩
  case round =>
    obtain ⟨j, hj, rfl, hJs, hHs⟩ := hrel
    by_cases hlt : j < L.length
    · obtain ⟨x, hx⟩ : ∃ x, L[j]? = some x := ⟨L[j], List.getElem?_eq_getElem hlt⟩
      obtain ⟨a', cap', e', -, hb, hd⟩ := id hHs
      injection e' with e1 e2 e3
      subst e1 e3
      clear e2
      obtain ⟨g, cs, t, fz, rfl, -, hh, hc⟩ := hd (by rw [List.length_map]; omega)
      obtain ⟨y, hy0⟩ : ∃ y, y = val x := ⟨_, rfl⟩
      obtain ⟨c1, ad, kd, c2⟩ := hc j y (by rw [List.getElem?_map, hx, hy0]; rfl)
      have g1 : wr.cell? ⟨g, j * 2, none⟩ = some (.string ⟨List.toArray y.1⟩) := (cell_of_heap hh _).trans c1
      have g2 : wr.cell? ⟨g, j * 2 + 1, none⟩ = some (.slice ad y.2 kd) := (cell_of_heap hh _).trans c2
      have hxl : (y.2 : Int) ≤ 268435456 := hb y (by rw [hy0]; exact List.mem_map.2 ⟨x, List.mem_of_getElem? hx, rfl⟩)
      have hJ2 : J (L.take j) (wr.alloc (.cells #[.string ⟨List.toArray y.1⟩, .slice ad y.2 kd] 37)) := HJ.out _ _ _ none hJs (World.grownBy_alloc _ _ none) (fun r e => by cases e)
      have HHs := Lib.hid hHs; clear hHs
      have htk : L.take (j + 1) = L.take j ++ [x] := by rw [List.take_add_one, hx]; rfl
      have HTK := Lib.hid htk; clear htk
      obtain ⟨fn, tmps, assign, body, hy, hR⟩ := HYY.out (L.take j) x _ hJ2 (by rw [List.length_take]; omega)
      have HX := Lib.hid hx
      clear hh hc c1 c2 hd hb hJ2 hJs hx
      rw [← hy0] at hy
      clear hy0
      unfold str at hy
      gi_wp2
      refine hR.mono ?_
      rintro e W3 (⟨rfl, hJ3, hk3⟩ | ⟨rfl, hJx3⟩)
      · rw [← HTK.out] at hJ3
        have HJ3 := Lib.hid hJ3; clear hJ3
        have HK3 := Lib.hid hk3; clear hk3
        clear hy g1 g2 hR
        gi_wp2
        go_roundw
        case rel => exact ⟨j + 1, by omega, by go_num, HJ3.out, HHs.out.kpx (kpx_t (kpx_alloc _ _) HK3.out)⟩
        case measure => simp [intOf]; omega
      · rw [← HTK.out] at hJx3
        have HJ3 := Lib.hid hJx3; clear hJx3
        clear hy g1 g2 hR
        gi_wp2
        refine bodyPost_ret (results_none rfl _ _ _) rfl ?_
        exact ⟨⟨_, rfl⟩, .inr ⟨L.take (j + 1), List.take_prefix _ _, HJ3.out⟩⟩
    · have HJ3 := Lib.hid hJs; clear hJs
      clear hHs
      obtain rfl : j = L.length := by omega
      gi_wp2
      go_end0
      have := HJ3.out
      rw [List.take_length] at this
      exact ⟨⟨_, rfl⟩, .inl ⟨L, rfl, this⟩⟩
/-- A value of Each, on a disk or on none, hands on the names and lengths of L. -/
theorem each1_stops {α : Type} (val : α → Nm × Nat) (n : Nat) (hn : 1 ≤ n) (Bn : Nat) (p : Option Addr) (L : List α) (Bx : Nat → Prop) (w : World) (hBn : w.cell? ⟨Bn, 0, none⟩ = some (.pointer p))
    (HF : ∀ W, Below w.heap.size w W → Calls Try.prog 13 #[.pointer p] W fun e w' => ∃ v, e = .returned v ∧ W.grownBy w' none ∧ Heads Bx w' v (L.map val)) :
    SeqStopsK Fence.wide n Try.prog 59 #[.pointer (some ⟨Bn, 0, none⟩)] (fun x : α => #[str (val x).1, Value.int .i64 (val x).2]) (KpX Bx) (fun ys => ys = L) (fun pre => pre <+: L) L.length w := fun l J Jx W hW hJ _ hY h0 =>
  each1_in val n hn l Bn p L Bx J Jx hY W ((hW.cell (p := ⟨Bn, 0, none⟩) (World.block_lt_of_cell? _ _ hBn)).trans hBn) hJ (HF W hW) h0
theorem heads_of {Bx : Nat → Prop} {v : Value} {fs : List (Nm × List UInt8)} (h : FilesAt w c v fs) (hB : ∀ b, Bx b → c b ≠ (0, 0)) (hl : fs.length ≤ 4096) (hs : ∀ x ∈ fs, x.2.length ≤ maxFile) : Heads Bx w v (fs.map fun x => (x.1, x.2.length)) := by
  obtain ⟨xs, hown, hcol, hd⟩ := h
  rcases hown.2 with ⟨rfl, h0⟩ | ⟨g, cap, cur, rfl, hb, hh, hr⟩
  · refine ⟨none, 0, by rw [List.length_map, h0], by rw [List.length_map]; omega, fun x hx => ?_, fun h1 => ?_⟩
    · have : fs = [] := List.eq_nil_of_length_eq_zero h0
      subst this; cases hx
    · rw [List.length_map, h0] at h1; cases h1
  · refine ⟨some ⟨g, 0, none⟩, cap, by rw [List.length_map], by rw [List.length_map]; omega, fun x hx => ?_, fun h1 => ⟨g, cur, _, _, rfl, fun hx => hB g hx (hcol g rfl), hh, fun j x hx => ?_⟩⟩
    · obtain ⟨y, hy, rfl⟩ := List.mem_map.1 hx
      have := hs y hy
      unfold maxFile at this
      show (y.2.length : Int) ≤ _
      omega
    · rw [List.getElem?_map] at hx
      cases hy : fs[j]? with
      | none => rw [hy] at hx; cases hx
      | some y =>
        rw [hy] at hx
        simp only [Option.map_some, Option.some.injEq] at hx
        subst hx
        obtain ⟨vd, k1, k2, k3⟩ := hd j y hy
        have e1 := hown.cells (g := g) rfl (2 * j) _ k1
        have e2 := hown.cells (g := g) rfl (2 * j + 1) _ k2
        rw [add_eq rfl, cell_of_heap hh] at e1 e2
        simp only [Nat.zero_add] at e1 e2
        obtain ⟨ad, kd, rfl, -⟩ := k3
        rw [Nat.mul_comm j 2]
        exact ⟨e1, ad, kd, by rw [e2, List.length_map]⟩
/-- The names and lengths of a disk's files. -/
def heads (m : ADisk) : List (Nm × Nat) := (files m).map fun x => (x.1, x.2.length)
theorem heads_disk {k d : Nat} {m : ADisk} {Bx : Nat → Prop} (D : DiskAt w c k d m) (hB : ∀ b, Bx b → b < w.heap.size ∧ c b ≠ (0, 0)) (W : World) (hW : Below w.heap.size w W) :
    Calls Try.prog 13 #[ptr d] W fun e w' => ∃ v, e = .returned v ∧ W.grownBy w' none ∧ Heads Bx w' v (heads m) := by
  have hx : Cx w c (fun b => if b < w.heap.size then c b else (0, 0)) := fun b hb => if_pos hb
  have hok : m.ok := by obtain ⟨_, _, _, _, _, _, _, D⟩ := D; exact D.ok
  refine (files_c k d m W (D.kp (Kp.of_below (S := fun _ => False) hW) (fun _ h => h.elim) hx)).mono fun e w' h => ?_
  obtain ⟨v, c', he, hc, hk, hf⟩ := h
  refine ⟨v, he, Kp.row hk, heads_of hf (fun b hb => ?_) ?_ ?_⟩
  · obtain ⟨h1, h2⟩ := hB b hb
    rw [hc b (Nat.lt_of_lt_of_le h1 hW.size)]
    show (if b < w.heap.size then c b else (0, 0)) ≠ (0, 0)
    rw [if_pos h1]; exact h2
  · unfold files
    split
    · simp
    · rw [List.length_map]; exact hok.many
  · intro x hx
    unfold files at hx
    split at hx
    · cases hx
    · obtain ⟨y, hy, rfl⟩ := List.mem_map.1 hx
      exact (hok.files y hy).now
theorem heads_no {p : Option Addr} {Bx : Nat → Prop} (h : NoD w p) (W : World) (hW : Below w.heap.size w W) :
    Calls Try.prog 13 #[.pointer p] W fun e w' => ∃ v, e = .returned v ∧ W.grownBy w' none ∧ Heads Bx w' v [] := by
  have h' : NoD W p := by
    rcases h with rfl | ⟨b, rfl, h⟩
    · exact .inl rfl
    · exact .inr ⟨b, rfl, (hW.cell (p := ⟨b, 0, none⟩) (World.block_lt_of_cell? _ _ h)).trans h⟩
  refine (files_no W p h').mono fun e w' h => ?_
  obtain ⟨he, rfl⟩ := h
  exact ⟨_, he, Kp.row (c := fun _ => (0, 0)) (fun S => Kp.refl _ _ _), none, 0, rfl, by simp, (fun x hx => by cases hx), (fun h => by cases h)⟩
end Go.Proofs.Ytepphepcaphlkaa
