/- A disk and the document's disk side by side, and lists of files that they told. -/
import Derived.Test.YtepphepcaphlkaaRz
import Derived.Test.YtepphepcaphlkaaDs
import Derived.Test.YtepphepcaphlkaaEa
namespace Go.Proofs.Ytepphepcaphlkaa
open Go Go.RowKit Go.MapKept Go.Maps
open Dk
variable {c c' : Col} {S : Nat × Nat → Prop} {w w' : World} {q : Nat × Nat}
theorem below_of_kp (h : Kp c S2F w w') : Below w.heap.size w w' := ⟨h.os, h.tape, h.output, h.size, fun b hb => h.block b hb (fun h => h)⟩
def LW (w : World) (c : Col) (k d kr r : Nat) (m : ADisk) (L : List (Value × List (Nm × List UInt8))) (wi : World) : Prop :=
  ∃ ci, Cx w c ci ∧ (∀ S, Kp c S w wi) ∧ DiskAt wi ci k d m ∧ RD wi ci kr r m ∧ ∀ x ∈ L, FilesAt wi ci x.1 x.2
section
variable {k d kr r : Nat} {m : ADisk} {L L' : List (Value × List (Nm × List UInt8))} {wi : World}
theorem LW.kp (h : LW w c k d kr r m L wi) : ∀ S, Kp c S w wi := by obtain ⟨_, _, h, _⟩ := h; exact h
theorem LW.more {ci ci' : Col} (hc : Cx w c ci) (hk : ∀ S, Kp c S w wi) (D : DiskAt wi ci k d m) (R : RD wi ci kr r m) (hF : ∀ x ∈ L, FilesAt wi ci x.1 x.2)
    (hc' : Cx wi ci ci') (hk' : ∀ S, Kp ci S wi w') (hL : ∀ x ∈ L', x ∈ L ∨ FilesAt w' ci' x.1 x.2) : LW w c k d kr r m L' w' :=
  ⟨ci', hc.trans hc' (hk S2F).size, fun S => (hk S).trans (hk' S) hc, D.kp (hk' S2F) (fun _ h => h.elim) hc', R.kp (hk' S2F) (fun _ h => h.elim) hc', fun x hx => by
    rcases hL x hx with h | h
    · exact (hF x h).kp (hk' S2F) (fun h => h) hc'
    · exact h⟩
theorem LW.go (h : LW w c k d kr r m L wi) (hk' : ∀ (c : Col) S, Kp c S wi w') : LW w c k d kr r m L w' := by
  obtain ⟨ci, hc, hk, D, R, hF⟩ := h
  exact LW.more hc hk D R hF (Cx.refl _ _) (fun S => hk' ci S) fun x hx => .inl hx
theorem LW.alloc (h : LW w c k d kr r m L wi) (o : Obj) : LW w c k d kr r m L (wi.alloc o) := h.go fun _ _ => (Kp.refl _ _ _).alloc o
theorem LW.drew (h : LW w c k d kr r m L wi) : LW w c k d kr r m L wi.drew := h.go fun _ _ => (Kp.refl _ _ _).drew
theorem LW.sub (h : LW w c k d kr r m L wi) (hs : ∀ x ∈ L', x ∈ L) : LW w c k d kr r m L' wi := by
  obtain ⟨ci, hc, hk, D, R, hF⟩ := h
  exact ⟨ci, hc, hk, D, R, fun x hx => hF x (hs x hx)⟩
theorem LW.ok (h : LW w c k d kr r m L wi) : m.ok := by
  obtain ⟨ci, hc, hk, D, R, hF⟩ := h
  exact ok_of D
theorem LW.files (h : LW w c k d kr r m L wi) {v : Value} {fs : List (Nm × List UInt8)} (hx : (v, fs) ∈ L) : ∃ ci, FilesAt wi ci v fs := by
  obtain ⟨ci, hc, hk, D, R, hF⟩ := h
  exact ⟨ci, hF _ hx⟩
theorem LW.r6 (h : LW w c k d kr r m L wi) : wi.cell? ⟨r, 6, none⟩ = some (.int .i64 m.ops) := by
  obtain ⟨ci, hc, hk, D, ⟨vk, vf, vu, vF, F, R⟩, hF⟩ := h
  exact R.c6
theorem LW.r7 (h : LW w c k d kr r m L wi) : wi.cell? ⟨r, 7, none⟩ = some (.bool m.dead) := by
  obtain ⟨ci, hc, hk, D, ⟨vk, vf, vu, vF, F, R⟩, hF⟩ := h
  exact R.c7
theorem lw_ops (h : LW w c k d kr r m L wi) : Calls Try.prog 17 #[.pointer (some ⟨d, 0, none⟩)] wi fun e w' => e = .returned (.int .i64 m.ops) ∧ wi = w' := by
  obtain ⟨ci, hc, hk, D, R, hF⟩ := h
  exact ops_c k d m wi D
theorem lw_dead (h : LW w c k d kr r m L wi) : Calls Try.prog 27 #[.pointer (some ⟨d, 0, none⟩)] wi fun e w' => e = .returned (.bool m.dead) ∧ wi = w' := by
  obtain ⟨ci, hc, hk, D, R, hF⟩ := h
  exact dead_c k d m wi D
theorem lw_files (h : LW w c k d kr r m L wi) : Calls Try.prog 13 #[.pointer (some ⟨d, 0, none⟩)] wi fun e w' => ∃ a cap, e = .returned (.slice a (files m).length cap) ∧ LW w c k d kr r m ((.slice a (files m).length cap, files m) :: L) w' := by
  obtain ⟨ci, hc, hk, D, R, hF⟩ := h
  refine (files_c k d m wi D).mono fun e w' h => ?_
  obtain ⟨v, c2, he, hx, hkp, hf⟩ := h
  obtain ⟨a, cap, rfl⟩ := files_shape hf
  refine ⟨a, cap, he, LW.more hc hk D R hF hx hkp fun x hx => ?_⟩
  rcases List.mem_cons.1 hx with rfl | h
  · exact .inr hf
  · exact .inl h
theorem lw_safe (h : LW w c k d kr r m L wi) : Calls Try.prog 14 #[.pointer (some ⟨d, 0, none⟩)] wi fun e w' => ∃ a cap, e = .returned (.slice a (safe m).length cap) ∧ LW w c k d kr r m ((.slice a (safe m).length cap, safe m) :: L) w' := by
  obtain ⟨ci, hc, hk, D, R, hF⟩ := h
  refine (safe_c k d m wi D).mono fun e w' h => ?_
  obtain ⟨v, c2, he, hx, hkp, hf⟩ := h
  obtain ⟨a, cap, rfl⟩ := files_shape hf
  refine ⟨a, cap, he, LW.more hc hk D R hF hx hkp fun x hx => ?_⟩
  rcases List.mem_cons.1 hx with rfl | h
  · exact .inr hf
  · exact .inl h
theorem lw_all (h : LW w c k d kr r m L wi) (hops : m.ops ≤ 1000000) : Calls Try.prog 56 #[.pointer (some ⟨r, 0, none⟩), .bool false] wi fun e w' => ∃ a cap, e = .returned (.slice a (files m).length cap) ∧ LW w c k d kr r m ((.slice a (files m).length cap, files m) :: L) w' := by
  obtain ⟨ci, hc, hk, D, R, hF⟩ := h
  refine (rall_false kr r m wi R hops).mono fun e w' h => ?_
  obtain ⟨a, n, cap, c2, he, rfl, hx, hkp, hf⟩ := h
  refine ⟨a, cap, he, LW.more hc hk D R hF hx hkp fun x hx => ?_⟩
  rcases List.mem_cons.1 hx with rfl | h
  · exact .inr hf
  · exact .inl h
theorem lw_allS (h : LW w c k d kr r m L wi) (hops : m.ops ≤ 1000000) : Calls Try.prog 56 #[.pointer (some ⟨r, 0, none⟩), .bool true] wi fun e w' => ∃ a cap, e = .returned (.slice a (safe m).length cap) ∧ LW w c k d kr r m ((.slice a (safe m).length cap, safe m) :: L) w' := by
  obtain ⟨ci, hc, hk, D, R, hF⟩ := h
  refine (rall_true kr r m wi R hops).mono fun e w' h => ?_
  obtain ⟨a, n, cap, c2, he, rfl, hx, hkp, hf⟩ := h
  refine ⟨a, cap, he, LW.more hc hk D R hF hx hkp fun x hx => ?_⟩
  rcases List.mem_cons.1 hx with rfl | h
  · exact .inr hf
  · exact .inl h
theorem lw_all2 (h : LW w c k d kr r m L wi) (hops : m.ops ≤ 1000000) : Calls Try.prog 56 #[.pointer (some ⟨r, 0, none⟩), .bool false] wi fun e w' => ∃ a cap, e = .returned (.slice a (files m).length cap) ∧ LW w c k d kr r m ((.slice a (files m).length cap, files m) :: L) w' ∧ Below wi.heap.size wi w' := by
  obtain ⟨ci, hc, hk, D, R, hF⟩ := h
  refine (rall_false kr r m wi R hops).mono fun e w' h => ?_
  obtain ⟨a, n, cap, c2, he, rfl, hx, hkp, hf⟩ := h
  refine ⟨a, cap, he, LW.more hc hk D R hF hx hkp fun x hx => ?_, below_of_kp (hkp S2F)⟩
  rcases List.mem_cons.1 hx with rfl | h
  · exact .inr hf
  · exact .inl h
theorem lw_same (h : LW w c k d kr r m L wi) {v1 v2 : Value} {fs : List (Nm × List UInt8)} (h1 : (v1, fs) ∈ L) (h2 : (v2, fs) ∈ L) (l1 : fs.length ≤ 4096) :
    Calls Try.prog 16 #[v1, v2] wi fun e w' => e = .returned (.bool true) ∧ LW w c k d kr r m L w' := by
  obtain ⟨ci, hc, hk, D, R, hF⟩ := h
  refine (same_c v1 v2 fs fs wi (hF _ h1) (hF _ h2) (by omega)).mono fun e w' h => ?_
  obtain ⟨he, hkp⟩ := h
  exact ⟨by rw [he]; simp, LW.more hc hk D R hF (Cx.refl _ _) hkp fun x hx => .inl hx⟩
theorem lw_file (h : LW w c k d kr r m L wi) {n : Nm} {b : List UInt8} {j : Nat} (hx : (files m)[j]? = some (n, b)) : m.dead = false ∧ (∃ f, Dk.get m.files n = some f ∧ f.now = b) ∧ n.length ≤ maxLen ∧ (b.length : Int) ≤ 268435456 := by
  have hok := h.ok
  unfold Dk.files at hx
  cases hd : m.dead with
  | true => rw [hd, if_pos rfl] at hx; simp at hx
  | false =>
    rw [hd] at hx
    simp only [Bool.false_eq_true, if_false] at hx
    rw [List.getElem?_map] at hx
    obtain ⟨y, hy, e⟩ := Option.map_eq_some_iff.1 hx
    simp only [Prod.mk.injEq] at e
    have hm := List.mem_of_getElem? hy
    refine ⟨rfl, ⟨y.2, by rw [← e.1]; exact get_of_mem hok.rising hm, e.2⟩, ?_, ?_⟩
    · have := hok.names _ hm
      rw [← e.1]; unfold maxLen; omega
    · have := (hok.files _ hm).now
      rw [← e.2]; unfold maxFile at this; omega
theorem lw_size (h : LW w c k d kr r m L wi) {n : Nm} {b : List UInt8} {j : Nat} (hx : (files m)[j]? = some (n, b)) :
    Calls Try.prog 19 #[.pointer (some ⟨d, 0, none⟩), .string ⟨n.toArray⟩] wi fun e w' => e = .returned (.tuple #[.int .i64 (b.length : Int), .int .i64 0]) ∧ wi = w' := by
  obtain ⟨hd, ⟨f, hg, hf⟩, hn, hb⟩ := lw_file h hx
  obtain ⟨ci, hc, hk, D, R, hF⟩ := h
  refine (size_c k d m n wi D hn).mono fun e w' h => ?_
  rw [size_get hd hg, hf] at h
  exact h
theorem lw_read (h : LW w c k d kr r m L wi) {n : Nm} {b : List UInt8} {j : Nat} (hx : (files m)[j]? = some (n, b)) :
    Calls Try.prog 21 #[.pointer (some ⟨d, 0, none⟩), .string ⟨n.toArray⟩, .int .i64 0, .int .i64 (b.length : Int)] wi fun e w' => ∃ a cap c2, e = .returned (.tuple #[.slice a b.length cap, .int .i64 0]) ∧ LW w c k d kr r m L w' ∧ Sc w' c2 (0, 0) (.slice a b.length cap) (b.map bv) ∧ Below wi.heap.size wi w' := by
  obtain ⟨hd, ⟨f, hg, hf⟩, hn, hb⟩ := lw_file h hx
  obtain ⟨ci, hc, hk, D, R, hF⟩ := h
  refine (read_c k d m n 0 (b.length : Int) wi D hn (by omega) (by omega)).mono fun e w' h => ?_
  obtain ⟨v, c2, he, hx2, hkp, hs⟩ := h
  have e1 : read m n 0 (b.length : Int) = (b, 0) := by
    unfold Dk.read
    rw [if_neg (by rw [hd]; simp), hg]
    simp only []
    rw [hf, if_neg (by omega)]
    simp
  rw [e1] at he hs
  obtain ⟨a, cap, rfl, -⟩ := id hs
  rw [List.length_map] at he hs
  exact ⟨a, cap, c2, he, LW.more hc hk D R hF hx2 hkp (fun x hx => .inl hx), hs, below_of_kp (hkp S2F)⟩
end
end Go.Proofs.Ytepphepcaphlkaa
/- L1.looks: a disk tells what the document's does. -/
namespace Go.Proofs.Ytepphepcaphlkaa
open Go Go.RowKit Go.MapKept Go.Maps Go.Shelf
open Dk
attribute [local go_sem] Oper.semAt_some
variable {c c' : Col} {S : Nat × Nat → Prop} {w w' A B : World} {q : Nat × Nat}
theorem eql_each' (W : World) (b : Nat) : (binOp .eql 68 (.func (.func 59) #[] #[.pointer (some ⟨b, 0, none⟩)]) .nilFunc).run Try.prog W = .ok (.bool false) W := by kernel_rfl
theorem pre_get {α : Type} {pre L : List α} {x : α} (h : pre ++ [x] <+: L) : L[pre.length]? = some x := by
  obtain ⟨t, rfl⟩ := h
  rw [List.append_assoc, List.getElem?_append_right (Nat.le_refl _), Nat.sub_self]; rfl
theorem looks_end {m : ADisk} {w6 W7 Y2 : World} {a6 : Option Addr} {k6 : Nat} {pre : List (Nm × Nat)} {x : Nm × Nat} (hb : Below w6.heap.size w6 Y2) (ha : Y2.heap[w6.heap.size]? = some (.cells #[.slice a6 (files m).length k6] 34 (0, 0)))
    (hi : Y2.heap[w6.heap.size + 1]? = some (.cells #[.int .i64 (pre.length : Int)] 3 (0, 0))) (hp : pre = (heads m).take pre.length) (hx : (heads m)[pre.length]? = some x) :
    KeepsFrom W7.heap.size Y2 (Y2.setCell ⟨w6.heap.size + 1, 0, none⟩ (.int .i64 ((pre.length : Int) + 1))) ∧ KpX (fun b => b = w6.heap.size + 1) Y2 (Y2.setCell ⟨w6.heap.size + 1, 0, none⟩ (.int .i64 ((pre.length : Int) + 1))) ∧
      (Below w6.heap.size w6 (Y2.setCell ⟨w6.heap.size + 1, 0, none⟩ (.int .i64 ((pre.length : Int) + 1))) ∧ (Y2.setCell ⟨w6.heap.size + 1, 0, none⟩ (.int .i64 ((pre.length : Int) + 1))).heap[w6.heap.size]? = some (.cells #[.slice a6 (files m).length k6] 34 (0, 0)) ∧
        (Y2.setCell ⟨w6.heap.size + 1, 0, none⟩ (.int .i64 ((pre.length : Int) + 1))).heap[w6.heap.size + 1]? = some (.cells #[.int .i64 ((pre ++ [x]).length : Int)] 3 (0, 0)) ∧ pre ++ [x] = (heads m).take (pre ++ [x]).length) := by
  refine ⟨(KeepsOthers.setCell _ _ _).from _, ⟨by simp, fun b cs t fz h hn => (Below.heap_setCell _ _ _ _ hn).trans h⟩, hb.setCell (Nat.le_succ _) _, (Below.heap_setCell _ _ _ _ (by show w6.heap.size ≠ w6.heap.size + 1; omega)).trans ha, ?_, ?_⟩
  · have h := heap_setCell hi 0 (.int .i64 ((pre.length : Int) + 1))
    rw [List.length_append]
    simpa using h
  · rw [List.length_append, List.length_singleton, List.take_add_one, hx, ← hp]; rfl
theorem region_wideG {P : Program} {ops : Array Oper} {Q : Exit → Act → World → Prop} {n l id : Nat} {a : Act} {w : World} (S : World → Prop) (hm : P.follows .mixedOrders = true)
    (h : wpAnyG P ops (NoPanic Q) S l ops.size (Array.replicate ops.size false) a w.drew) : (Code.region id ops true).wpIn Fence.wide n P Q a w :=
  wpIn_wide.2 (wp_region_noPanic (wp_region_G S l hm h))
set_option maxRecDepth 100000 in
set_option maxHeartbeats 8000000 in
theorem looks_c (k d kr r : Nat) (m : ADisk) (w : World) (D : DiskAt w c k d m) (R : RD w c kr r m) (hops : m.ops ≤ 1000000) :
    Calls Try.prog 25 #[ptr d, ptr r] w fun e w' => e = .returned (.bool true) ∧ ∀ S, Kp c S w w' := by
  unfold ptr
  refine (callsIn_wide (n := 6)).1 ?_
  refine callsIn_of_wp_marks Try.func25 rfl trivial ?_ rfl
  simp only [Try.ntmps25, List.size_toArray, List.length_cons, List.length_nil, Nat.reduceAdd, Nat.reduceSub, Array.replicate_succ, Array.replicate_zero, List.push_toArray, List.append_toArray, List.nil_append, List.cons_append]
  obtain ⟨w0, hw0⟩ : ∃ w0, w0 = w.alloc (.cells #[.bool false] 4) := ⟨_, rfl⟩
  have hk0 : ∀ S, Kp c S w w0 := fun S => by rw [hw0]; exact (Kp.refl _ _ _).alloc _
  have HK0 := Lib.hid hk0
  have HL := Lib.hid (show LW w0 c k d kr r m [] w0 from ⟨c, Cx.refl _ _, fun S => Kp.refl _ _ _, D.kp (hk0 S2F) (fun _ h => h.elim) (Cx.refl _ _), R.kp (hk0 S2F) (fun _ h => h.elim) (Cx.refl _ _), fun x hx => by cases hx⟩)
  have HR0 := Lib.hid (show w0.heap[w.heap.size]? = some (.cells #[.bool false] 4 (0, 0)) by rw [hw0]; exact heap_alloc_new _ _)
  have HOK := Lib.hid HL.out.ok
  have HO := Lib.hid hops
  have HZ0 := Lib.hid (show w0.heap.size = w.heap.size + 1 by rw [hw0]; simp)
  have HL0 := Lib.hid HL.out
  clear hk0 D R hops
  gi_wp2
  rw [← hw0]
  clear hw0
  have hS0 := Lib.hid (show (fun X : World => X.cell? ⟨r, 6, none⟩ = some (.int .i64 m.ops) ∧ X.cell? ⟨r, 7, none⟩ = some (.bool m.dead)) w0.drew from ⟨HL.out.r6, HL.out.r7⟩)
  have HL := Lib.hid HL.out.drew
  refine region_wideG (fun X : World => X.cell? ⟨r, 6, none⟩ = some (.int .i64 m.ops) ∧ X.cell? ⟨r, 7, none⟩ = some (.bool m.dead)) (l := 31) rfl ?_
  refine wpAnyG_take (i := 0) (oi := _) (v := .pointer (some ⟨d, 0, none⟩)) rfl (by kernel_rfl) (by kernel_rfl) (by kernel_rfl) (by kernel_rfl) (by kernel_rfl) (by kernel_rfl) (fun _ _ _ h => h) (Or.inl ⟨by rfl, fun X hX => ?_⟩) hS0.out ?_
  · obtain ⟨x1, x2⟩ := hX
    go_simp
  simp only [Act.put, List.setIfInBounds_toArray]
  refine wpAnyG_take (i := 2) (oi := _) (v := .pointer (some ⟨r, 0, none⟩)) rfl (by kernel_rfl) (by kernel_rfl) (by kernel_rfl) (by kernel_rfl) (by kernel_rfl) (by kernel_rfl) (fun _ _ _ h => h) (Or.inl ⟨by rfl, fun X hX => ?_⟩) hS0.out ?_
  · obtain ⟨x1, x2⟩ := hX
    go_simp
  simp only [Act.put]
  refine wpAnyG_take (i := 3) (oi := _) (v := .pointer (some ⟨r, 0, none⟩)) rfl (by kernel_rfl) (by kernel_rfl) (by kernel_rfl) (by kernel_rfl) (by kernel_rfl) (by kernel_rfl) (fun _ _ _ h => h) (Or.inl ⟨by rfl, fun X hX => ?_⟩) hS0.out ?_
  · obtain ⟨x1, x2⟩ := hX
    go_simp
  simp only [Act.put]
  refine wpAnyG_take (i := 4) (oi := _) (v := .pointer (some ⟨r, 6, none⟩)) rfl (by kernel_rfl) (by kernel_rfl) (by kernel_rfl) (by kernel_rfl) (by kernel_rfl) (by kernel_rfl) (fun _ _ _ h => h) (Or.inl ⟨by rfl, fun X hX => ?_⟩) hS0.out ?_
  · obtain ⟨x1, x2⟩ := hX
    go_simp
  simp only [Act.put]
  refine wpAnyG_take (i := 5) (oi := _) (v := .int .i64 m.ops) rfl (by kernel_rfl) (by kernel_rfl) (by kernel_rfl) (by kernel_rfl) (by kernel_rfl) (by kernel_rfl) (fun _ _ _ h => h) (Or.inl ⟨by rfl, fun X hX => ?_⟩) hS0.out ?_
  · obtain ⟨x1, x2⟩ := hX
    go_simp
  simp only [Act.put]
  refine wpAnyG_one (i := 1) (by kernel_rfl) rfl (fun K' hK' => ?_)
  go_simp
  refine (lw_ops HL.out).mono ?_
  rintro e w1 ⟨rfl, rfl⟩
  refine hK'.out _ _ (fun _ => hS0.out) ?_
  refine wpAnyG_take (i := 6) (oi := _) (v := .bool false) rfl (by kernel_rfl) (by kernel_rfl) (by kernel_rfl) (by kernel_rfl) (by kernel_rfl) (by kernel_rfl) (fun _ _ _ h => h) (Or.inl ⟨by rfl, fun X hX => ?_⟩) hS0.out ?_
  · obtain ⟨x1, x2⟩ := hX
    go_simp
  simp only [Act.put]
  refine wpAnyG_take (i := 7) (oi := _) (v := .bool false) rfl (by kernel_rfl) (by kernel_rfl) (by kernel_rfl) (by kernel_rfl) (by kernel_rfl) (by kernel_rfl) (fun _ _ _ h => h) (Or.inl ⟨by rfl, fun X hX => ?_⟩) hS0.out ?_
  · obtain ⟨x1, x2⟩ := hX
    go_simp
  simp only [Act.put]
  refine wpAnyG_take (i := 8) (oi := _) (v := .pointer (some ⟨d, 0, none⟩)) rfl (by kernel_rfl) (by kernel_rfl) (by kernel_rfl) (by kernel_rfl) (by kernel_rfl) (by kernel_rfl) (fun _ _ _ h => h) (Or.inl ⟨by rfl, fun X hX => ?_⟩) hS0.out ?_
  · obtain ⟨x1, x2⟩ := hX
    go_simp
  simp only [Act.put]
  refine wpAnyG_take (i := 10) (oi := _) (v := .pointer (some ⟨r, 0, none⟩)) rfl (by kernel_rfl) (by kernel_rfl) (by kernel_rfl) (by kernel_rfl) (by kernel_rfl) (by kernel_rfl) (fun _ _ _ h => h) (Or.inl ⟨by rfl, fun X hX => ?_⟩) hS0.out ?_
  · obtain ⟨x1, x2⟩ := hX
    go_simp
  simp only [Act.put]
  refine wpAnyG_take (i := 11) (oi := _) (v := .pointer (some ⟨r, 0, none⟩)) rfl (by kernel_rfl) (by kernel_rfl) (by kernel_rfl) (by kernel_rfl) (by kernel_rfl) (by kernel_rfl) (fun _ _ _ h => h) (Or.inl ⟨by rfl, fun X hX => ?_⟩) hS0.out ?_
  · obtain ⟨x1, x2⟩ := hX
    go_simp
  simp only [Act.put]
  refine wpAnyG_take (i := 12) (oi := _) (v := .pointer (some ⟨r, 7, none⟩)) rfl (by kernel_rfl) (by kernel_rfl) (by kernel_rfl) (by kernel_rfl) (by kernel_rfl) (by kernel_rfl) (fun _ _ _ h => h) (Or.inl ⟨by rfl, fun X hX => ?_⟩) hS0.out ?_
  · obtain ⟨x1, x2⟩ := hX
    go_simp
  simp only [Act.put]
  refine wpAnyG_take (i := 13) (oi := _) (v := .bool m.dead) rfl (by kernel_rfl) (by kernel_rfl) (by kernel_rfl) (by kernel_rfl) (by kernel_rfl) (by kernel_rfl) (fun _ _ _ h => h) (Or.inl ⟨by rfl, fun X hX => ?_⟩) hS0.out ?_
  · obtain ⟨x1, x2⟩ := hX
    go_simp
  simp only [Act.put]
  refine wpAnyG_one (i := 9) (by kernel_rfl) rfl (fun K' hK' => ?_)
  go_simp
  refine (lw_dead HL.out).mono ?_
  rintro e w1 ⟨rfl, rfl⟩
  refine hK'.out _ _ (fun _ => hS0.out) ?_
  refine wpAnyG_take (i := 14) (oi := _) (v := .bool false) rfl (by kernel_rfl) (by kernel_rfl) (by kernel_rfl) (by kernel_rfl) (by kernel_rfl) (by kernel_rfl) (fun _ _ _ h => h) (Or.inl ⟨by rfl, fun X hX => ?_⟩) hS0.out ?_
  · obtain ⟨x1, x2⟩ := hX
    go_simp
  simp only [Act.put]
  refine wpAnyG_take (i := 15) (oi := _) (v := .bool false) rfl (by kernel_rfl) (by kernel_rfl) (by kernel_rfl) (by kernel_rfl) (by kernel_rfl) (by kernel_rfl) (fun _ _ _ h => h) (Or.inl ⟨by rfl, fun X hX => ?_⟩) hS0.out ?_
  · obtain ⟨x1, x2⟩ := hX
    go_simp
  simp only [Act.put]
  refine wpAnyG_take (i := 16) (oi := _) (v := .bool false) rfl (by kernel_rfl) (by kernel_rfl) (by kernel_rfl) (by kernel_rfl) (by kernel_rfl) (by kernel_rfl) (fun _ _ _ h => h) (Or.inl ⟨by rfl, fun X hX => ?_⟩) hS0.out ?_
  · obtain ⟨x1, x2⟩ := hX
    go_simp
  simp only [Act.put]
  refine wpAnyG_take (i := 17) (oi := _) (v := .pointer (some ⟨d, 0, none⟩)) rfl (by kernel_rfl) (by kernel_rfl) (by kernel_rfl) (by kernel_rfl) (by kernel_rfl) (by kernel_rfl) (fun _ _ _ h => h) (Or.inl ⟨by rfl, fun X hX => ?_⟩) hS0.out ?_
  · obtain ⟨x1, x2⟩ := hX
    go_simp
  simp only [Act.put]
  refine wpAnyG_take (i := 19) (oi := _) (v := .pointer (some ⟨r, 0, none⟩)) rfl (by kernel_rfl) (by kernel_rfl) (by kernel_rfl) (by kernel_rfl) (by kernel_rfl) (by kernel_rfl) (fun _ _ _ h => h) (Or.inl ⟨by rfl, fun X hX => ?_⟩) hS0.out ?_
  · obtain ⟨x1, x2⟩ := hX
    go_simp
  simp only [Act.put]
  refine wpAnyG_one (i := 18) (by kernel_rfl) rfl (fun K' hK' => ?_)
  go_simp
  refine (lw_files HL.out).mono ?_
  rintro e w1 ⟨a1, k1, rfl, hl⟩
  have HL := Lib.hid hl; clear hl
  have hS0 := Lib.hid (show (fun X : World => X.cell? ⟨r, 6, none⟩ = some (.int .i64 m.ops) ∧ X.cell? ⟨r, 7, none⟩ = some (.bool m.dead)) w1 from ⟨HL.out.r6, HL.out.r7⟩)
  refine hK'.out _ _ (fun _ => hS0.out) ?_
  refine wpAnyG_one (i := 20) (by kernel_rfl) rfl (fun K' hK' => ?_)
  go_simp
  refine (lw_all HL.out HO.out).mono ?_
  rintro e w1 ⟨a2, k2, rfl, hl⟩
  have HL := Lib.hid hl; clear hl
  have hS0 := Lib.hid (show (fun X : World => X.cell? ⟨r, 6, none⟩ = some (.int .i64 m.ops) ∧ X.cell? ⟨r, 7, none⟩ = some (.bool m.dead)) w1 from ⟨HL.out.r6, HL.out.r7⟩)
  refine hK'.out _ _ (fun _ => hS0.out) ?_
  refine wpAnyG_one (i := 21) (by kernel_rfl) rfl (fun K' hK' => ?_)
  go_simp
  refine (lw_same HL.out (fs := files m) (by simp) (by simp) (files_len HOK.out)).mono ?_
  rintro e w1 ⟨rfl, hl⟩
  have HL := Lib.hid hl; clear hl
  have hS0 := Lib.hid (show (fun X : World => X.cell? ⟨r, 6, none⟩ = some (.int .i64 m.ops) ∧ X.cell? ⟨r, 7, none⟩ = some (.bool m.dead)) w1 from ⟨HL.out.r6, HL.out.r7⟩)
  refine hK'.out _ _ (fun _ => hS0.out) ?_
  refine wpAnyG_take (i := 22) (oi := _) (v := .bool false) rfl (by kernel_rfl) (by kernel_rfl) (by kernel_rfl) (by kernel_rfl) (by kernel_rfl) (by kernel_rfl) (fun _ _ _ h => h) (Or.inl ⟨by rfl, fun X hX => ?_⟩) hS0.out ?_
  · obtain ⟨x1, x2⟩ := hX
    go_simp
  simp only [Act.put]
  refine wpAnyG_take (i := 23) (oi := _) (v := .bool false) rfl (by kernel_rfl) (by kernel_rfl) (by kernel_rfl) (by kernel_rfl) (by kernel_rfl) (by kernel_rfl) (fun _ _ _ h => h) (Or.inl ⟨by rfl, fun X hX => ?_⟩) hS0.out ?_
  · obtain ⟨x1, x2⟩ := hX
    go_simp
  simp only [Act.put]
  refine wpAnyG_take (i := 24) (oi := _) (v := .bool false) rfl (by kernel_rfl) (by kernel_rfl) (by kernel_rfl) (by kernel_rfl) (by kernel_rfl) (by kernel_rfl) (fun _ _ _ h => h) (Or.inl ⟨by rfl, fun X hX => ?_⟩) hS0.out ?_
  · obtain ⟨x1, x2⟩ := hX
    go_simp
  simp only [Act.put]
  refine wpAnyG_take (i := 25) (oi := _) (v := .pointer (some ⟨d, 0, none⟩)) rfl (by kernel_rfl) (by kernel_rfl) (by kernel_rfl) (by kernel_rfl) (by kernel_rfl) (by kernel_rfl) (fun _ _ _ h => h) (Or.inl ⟨by rfl, fun X hX => ?_⟩) hS0.out ?_
  · obtain ⟨x1, x2⟩ := hX
    go_simp
  simp only [Act.put]
  refine wpAnyG_take (i := 27) (oi := _) (v := .pointer (some ⟨r, 0, none⟩)) rfl (by kernel_rfl) (by kernel_rfl) (by kernel_rfl) (by kernel_rfl) (by kernel_rfl) (by kernel_rfl) (fun _ _ _ h => h) (Or.inl ⟨by rfl, fun X hX => ?_⟩) hS0.out ?_
  · obtain ⟨x1, x2⟩ := hX
    go_simp
  simp only [Act.put]
  refine wpAnyG_one (i := 26) (by kernel_rfl) rfl (fun K' hK' => ?_)
  go_simp
  refine (lw_safe HL.out).mono ?_
  rintro e w1 ⟨a3, k3, rfl, hl⟩
  have HL := Lib.hid hl; clear hl
  have hS0 := Lib.hid (show (fun X : World => X.cell? ⟨r, 6, none⟩ = some (.int .i64 m.ops) ∧ X.cell? ⟨r, 7, none⟩ = some (.bool m.dead)) w1 from ⟨HL.out.r6, HL.out.r7⟩)
  refine hK'.out _ _ (fun _ => hS0.out) ?_
  refine wpAnyG_one (i := 28) (by kernel_rfl) rfl (fun K' hK' => ?_)
  go_simp
  refine (lw_allS HL.out HO.out).mono ?_
  rintro e w1 ⟨a4, k4, rfl, hl⟩
  have HL := Lib.hid hl; clear hl
  have hS0 := Lib.hid (show (fun X : World => X.cell? ⟨r, 6, none⟩ = some (.int .i64 m.ops) ∧ X.cell? ⟨r, 7, none⟩ = some (.bool m.dead)) w1 from ⟨HL.out.r6, HL.out.r7⟩)
  refine hK'.out _ _ (fun _ => hS0.out) ?_
  refine wpAnyG_one (i := 29) (by kernel_rfl) rfl (fun K' hK' => ?_)
  go_simp
  refine (lw_same HL.out (fs := safe m) (by simp) (by simp) (safe_len HOK.out)).mono ?_
  rintro e w1 ⟨rfl, hl⟩
  have HL := Lib.hid hl; clear hl
  have hS0 := Lib.hid (show (fun X : World => X.cell? ⟨r, 6, none⟩ = some (.int .i64 m.ops) ∧ X.cell? ⟨r, 7, none⟩ = some (.bool m.dead)) w1 from ⟨HL.out.r6, HL.out.r7⟩)
  refine hK'.out _ _ (fun _ => hS0.out) ?_
  refine wpAnyG_take (i := 30) (oi := _) (v := .bool false) rfl (by kernel_rfl) (by kernel_rfl) (by kernel_rfl) (by kernel_rfl) (by kernel_rfl) (by kernel_rfl) (fun _ _ _ h => h) (Or.inl ⟨by rfl, fun X hX => ?_⟩) hS0.out ?_
  · obtain ⟨x1, x2⟩ := hX
    go_simp
  simp only [Act.put]

  refine wpAnyG_one (i := 31) (by kernel_rfl) rfl (fun K' hK' => ?_)
  go_simp
  refine hK'.out _ _ (fun _ => hS0.out) ?_
  refine wpAnyG_done (by kernel_rfl) ?_
  refine NoPanic.normal ?_
  gi_wp2_with (refine ⟨trivial, ?_⟩; gi_at_call 56; refine (callsIn_wide.2 (lw_all HL.out HO.out)).mono ?_; rintro e w2 ⟨a5, k5, rfl, hl⟩; have HL5 := Lib.hid (hl.sub (L' := [(.slice a5 (files m).length k5, files m)]) (by simp)); clear hl)
  have hn := files_len HOK.out
  have hn' : ((files m).length : Int) ≤ 4096 := by omega
  gi_loopw [51] (fun s wr => ∃ j : Nat, j ≤ (files m).length ∧ s = .int .i64 j ∧ LW w0 c k d kr r m [(.slice a5 (files m).length k5, files m)] wr) (fun s _ => (files m).length - (intOf s).toNat)
  case atStart => exact ⟨0, Nat.zero_le _, rfl, HL5.out⟩
  case round =>
    obtain ⟨j, hj, rfl, hl⟩ := hrel
    have HLR := Lib.hid hl; clear hl
    by_cases hlt : j < (files m).length
    · obtain ⟨x, hx⟩ : ∃ x, (files m)[j]? = some x := ⟨(files m)[j], List.getElem?_eq_getElem hlt⟩
      obtain ⟨ci, hF⟩ := HLR.out.files (v := .slice a5 (files m).length k5) (fs := files m) (by simp)
      obtain ⟨g1, d1, v1, e1, p1, p2, s1⟩ := fcell hF hx
      injection e1 with e11 e12 e13
      subst e11
      clear e12 e13 hF
      obtain ⟨a3, k3, rfl, -⟩ := id s1
      rw [List.length_map] at p2 s1
      have HS1 := Lib.hid s1
      have HX := Lib.hid (show (files m)[j]? = some (x.1, x.2) from hx)
      have hg1 : g1 < wr.heap.size := World.block_lt_of_cell? _ _ p1
      have hlt' : (j : Int) < ((files m).length : Int) := by omega
      have hxl := (lw_file HLR.out HX.out).2.2.2
      clear s1 hx
      obtain ⟨W, hW⟩ : ∃ W, W = wr.alloc (.cells #[.string ⟨x.1.toArray⟩, .slice a3 x.2.length k3] 37) := ⟨_, rfl⟩
      have HLW := Lib.hid (show LW w0 c k d kr r m [(.slice (some ⟨g1, 0, none⟩) (files m).length k5, files m)] W by rw [hW]; exact HLR.out.alloc _)
      have HBW := Lib.hid (show Below wr.heap.size wr W by rw [hW]; exact (Below.refl _ wr).alloc (Nat.le_refl _) _)
      have HPW := Lib.hid (show W.heap[wr.heap.size]? = some (.cells #[.string ⟨x.1.toArray⟩, .slice a3 x.2.length k3] 37 (0, 0)) by rw [hW]; exact heap_alloc_new _ _)
      have HW := Lib.hid hW; clear hW
      gi_wp2_with (first
        | (refine ⟨trivial, ?_⟩; gi_at_call 19; rw [← HW.out]; refine (callsIn_wide.2 (lw_size HLW.out HX.out)).mono ?_; rintro e w3 ⟨rfl, rfl⟩; have q0 : W.cell? ⟨wr.heap.size, 0, none⟩ = some (.string ⟨x.1.toArray⟩) := cell_of_heap HPW.out 0; have q1 : W.cell? ⟨wr.heap.size, 1, none⟩ = some (.slice a3 x.2.length k3) := cell_of_heap HPW.out 1)
        | (refine ⟨trivial, ?_⟩; gi_at_call 21; refine (callsIn_wide.2 (lw_read HLW.out HX.out)).mono ?_; rintro e w4 ⟨a4, k4, c4, rfl, hl4, hs4, hb4⟩; have HL4 := Lib.hid hl4; have hcv := conv_sc hs4; have HP4 := Lib.hid ((hb4.block wr.heap.size (lt_of_heap HPW.out)).trans HPW.out); have hcv2 := conv_sc (HS1.out.kp (S := S2F) ((Kp.of_below HBW.out).trans (Kp.of_below hb4) (Cx.refl _ _)) (fun h => h) (Cx.refl _ _)); clear q0 q1 hl4 hs4 hb4; have q0 : w4.cell? ⟨wr.heap.size, 0, none⟩ = some (.string ⟨x.1.toArray⟩) := cell_of_heap HP4.out 0; have q1 : w4.cell? ⟨wr.heap.size, 1, none⟩ = some (.slice a3 x.2.length k3) := cell_of_heap HP4.out 1))
      go_roundw
      case rel => exact ⟨j + 1, by omega, by go_num, HL4.out⟩
      case measure => simp [intOf]; omega
    · obtain rfl : j = (files m).length := by omega
      have hfn := eql_each'
      gi_wp2_with (refine ⟨trivial, ?_⟩; gi_at_call 28; refine (callsIn_wide.2 (each_c (some ⟨d, 0, none⟩) wr)).mono ?_; rintro e w' ⟨rfl, rfl⟩)
      clear hfn
      have HBR := Lib.hid (below_of_kp (HLR.out.kp S2F))
      obtain ⟨W4, hW4⟩ : ∃ W, W = wr.alloc (.cells #[.pointer (some ⟨d, 0, none⟩)] 25) := ⟨_, rfl⟩
      rw [← hW4]
      have he4 : W4.cell? ⟨wr.heap.size, 0, none⟩ = some (.pointer (some ⟨d, 0, none⟩)) := by rw [hW4]; exact cell_of_heap (heap_alloc_new _ _) 0
      have HE4 := Lib.hid he4
      have HB4 := Lib.hid (show Below w0.heap.size w0 W4 by rw [hW4]; exact HBR.out.alloc HBR.out.size _)
      have HZ4 := Lib.hid (show W4.heap.size = wr.heap.size + 1 by rw [hW4]; simp)
      clear hW4
      obtain ⟨cE, hDE⟩ : ∃ cE, DiskAt W4 cE k d m := by
        obtain ⟨ci, hc, hk, D, R, hF⟩ := HL0.out
        exact ⟨ci, D.kp (S := S2F) (Kp.of_below HB4.out) (fun _ h => h.elim) (Cx.refl _ _)⟩
      refine' wpIn_rangeFunc_ownG (α := Nm × Nat) rfl (by omega) (gf := 59) (lb := #[.pointer (some ⟨wr.heap.size, 0, none⟩)]) rfl trivial (enters_of Try.func59 (by kernel_rfl) rfl)
        (each1_stops (fun x : Nm × Nat => x) 5 (by omega) wr.heap.size (some ⟨d, 0, none⟩) (heads m) (fun _ : Nat => False) W4 he4 (fun W' hW' => by rw [List.map_id']; exact heads_disk hDE (fun _ h => h.elim) W' hW')) (fun h k => kpx_t h k) (fun W l o o' h1 h2 h3 h4 => kpx_b W l o o' h1 h2 h3 h4) (Below.refl _ _) (fun x => rfl)
        (fun _ Y => Below W4.heap.size W4 Y) (fun cc _ Y => cc = .exit 2 ∧ Below W4.heap.size W4 Y) ?hI ?hIx ?h0 _ ?assign ?body ?done ?stop
      case hI => exact fun s A B row hs hg hr => hs.grown hg hs.size (fun g e => (hr g e).1)
      case hIx => exact fun cc s A B row hs hg hr => ⟨hs.1, hs.2.grown hg hs.2.size (fun g e => (hr g e).1)⟩
      case h0 => exact Below.refl _ _
      case assign =>
        rintro l x Y K hK
        gi_wp2
        exact hK
      case body =>
        rintro l pre x Y hY hlt
        gi_wp2
        exact ⟨KeepsFrom.refl _ _, rfl, hY⟩
      case' done =>
        rintro D1 ys Y hD1 hys hY hK1
      case' stop =>
        rintro D1 cc pre Y hD1 hpre ⟨rfl, hY⟩ hK1
      all_goals
        have HBY := Lib.hid (HB4.out.trans (hY.mono HB4.out.size))
        have HLY := Lib.hid (HL0.out.go fun _ _ => Kp.of_below HBY.out)
        have HD1 := Lib.hid hD1
        have HK1 := Lib.hid hK1
        have hye : Y.cell? ⟨wr.heap.size, 0, none⟩ = some (.pointer (some ⟨d, 0, none⟩)) := (hY.cell (p := ⟨wr.heap.size, 0, none⟩) (by have := HZ4.out; show wr.heap.size < W4.heap.size; omega)).trans HE4.out
        have hey : wr.heap.size < Y.heap.size := World.block_lt_of_cell? _ _ hye
        have HYE := Lib.hid hye; clear hye
        clear hY hD1 hK1
        gi_wp2_with (refine ⟨trivial, ?_⟩; gi_at_call 56; refine (callsIn_wide.2 (lw_all2 HLY.out HO.out)).mono ?_; rintro e w6 ⟨a6, k6, rfl, hl6, hb6⟩; have HL6 := Lib.hid hl6; have HB6 := Lib.hid hb6; clear hl6 hb6)
        obtain ⟨W7, hW7⟩ : ∃ W, W = (w6.alloc (.cells #[.slice a6 (files m).length k6] 34)).alloc (.cells #[.int .i64 0] 3) := ⟨_, rfl⟩
        rw [← hW7]
        have HB06 := Lib.hid (HBY.out.trans (HB6.out.mono HBY.out.size))
        have HB7 := Lib.hid (show Below w6.heap.size w6 W7 by rw [hW7]; exact ((Below.refl _ w6).alloc (Nat.le_refl _) _).alloc (by simp) _)
        have HA7 := Lib.hid (show W7.heap[w6.heap.size]? = some (.cells #[.slice a6 (files m).length k6] 34 (0, 0)) by rw [hW7]; exact heap_alloc_old _ (heap_alloc_new _ _))
        have HI7 := Lib.hid (show W7.heap[w6.heap.size + 1]? = some (.cells #[.int .i64 0] 3 (0, 0)) by
          rw [hW7]
          have h := heap_alloc_new (w6.alloc (.cells #[.slice a6 (files m).length k6] 34)) (.cells #[.int .i64 0] 3)
          rwa [World.size_alloc] at h)
        have HZ7 := Lib.hid (show W7.heap.size = w6.heap.size + 2 by rw [hW7]; simp)
        clear hW7
        have HE7 := Lib.hid (show W7.cell? ⟨wr.heap.size, 0, none⟩ = some (.pointer (some ⟨d, 0, none⟩)) from (HB7.out.cell (p := ⟨wr.heap.size, 0, none⟩) (Nat.lt_of_lt_of_le hey HB6.out.size)).trans ((HB6.out.cell (p := ⟨wr.heap.size, 0, none⟩) hey).trans HYE.out))
        obtain ⟨c7, hD7, hcc⟩ : ∃ c7, DiskAt W7 c7 k d m ∧ ∀ b, b = w6.heap.size + 1 → b < W7.heap.size ∧ c7 b ≠ (0, 0) := by
          obtain ⟨ci, hc, hk, D, R, hF⟩ := HL6.out
          refine ⟨fun b => if b < w6.heap.size then ci b else (1, 1), D.kp (S := S2F) (Kp.of_below HB7.out) (fun _ h => h.elim) (fun b hb => if_pos hb), fun b hb => ⟨by rw [hb, HZ7.out]; omega, ?_⟩⟩
          rw [hb]
          show (if w6.heap.size + 1 < w6.heap.size then ci (w6.heap.size + 1) else (1, 1)) ≠ (0, 0)
          rw [if_neg (by omega)]; simp
        obtain ⟨cF, hFF⟩ := HL6.out.files (v := .slice a6 (files m).length k6) (fs := files m) (by simp)
        have HFF := Lib.hid hFF; clear hFF
        have hhl : (heads m).length = (files m).length := by unfold heads; rw [List.length_map]
        have HHL := Lib.hid hhl; clear hhl
        refine' wpIn_rangeFunc_ownG (α := Nm × Nat) rfl (by omega) (gf := 59) (lb := #[.pointer (some ⟨wr.heap.size, 0, none⟩)]) rfl trivial (enters_of Try.func59 (by kernel_rfl) rfl)
          (each1_stops (fun x : Nm × Nat => x) 5 (by omega) wr.heap.size (some ⟨d, 0, none⟩) (heads m) (fun b => b = w6.heap.size + 1) W7 HE7.out (fun W' hW' => by rw [List.map_id']; exact heads_disk hD7 hcc W' hW')) (fun h k => kpx_t h k) (fun W l o o' h1 h2 h3 h4 => kpx_b W l o o' h1 h2 h3 h4) (Below.refl _ _) (fun x => rfl)
          (fun pre Y => Below w6.heap.size w6 Y ∧ Y.heap[w6.heap.size]? = some (.cells #[.slice a6 (files m).length k6] 34 (0, 0)) ∧ Y.heap[w6.heap.size + 1]? = some (.cells #[.int .i64 (pre.length : Int)] 3 (0, 0)) ∧ pre = (heads m).take pre.length) (fun _ pre _ => ¬ pre <+: heads m) ?_ (fun _ _ _ _ _ hs _ _ => hs) ?_ _ ?_ ?_ ?_ (fun _ _ _ _ _ hp hn _ => absurd hp hn)
        · exact fun s A B row hs hg hr => ⟨hs.1.grown hg hs.1.size (fun g e => by have := (hr g e).1; have := HB7.out.size; omega), (hg.block _ (lt_of_heap hs.2.1) (fun e => by have := (hr _ e.symm).1; have := HZ7.out; omega)).trans hs.2.1, (hg.block _ (lt_of_heap hs.2.2.1) (fun e => by have := (hr _ e.symm).1; have := HZ7.out; omega)).trans hs.2.2.1, hs.2.2.2⟩
        · exact ⟨HB7.out, HA7.out, HI7.out, rfl⟩
        rotate_left
        · rintro l x Y K hK
          gi_wp2
          exact hK
        · rintro l pre x Y2 ⟨hb, ha, hi, hp⟩ hlt
          obtain ⟨y, hy⟩ : ∃ y, (files m)[pre.length]? = some y := ⟨(files m)[pre.length]'(by have := HHL.out; omega), List.getElem?_eq_getElem _⟩
          obtain ⟨g1, d1, v1, e1, p1, p2, s1⟩ := fcell HFF.out hy
          injection e1 with e11 e12 e13
          obtain ⟨a7, k7, rfl, -⟩ := id s1
          rw [List.length_map] at p2
          have q1 : Y2.cell? ⟨g1, pre.length * 2, none⟩ = some (.string ⟨y.1.toArray⟩) := (hb.cell (World.block_lt_of_cell? _ _ p1)).trans p1
          have q2 : Y2.cell? ⟨g1, pre.length * 2 + 1, none⟩ = some (.slice a7 y.2.length k7) := (hb.cell (World.block_lt_of_cell? _ _ p2)).trans p2
          have r0 : Y2.cell? ⟨w.heap.size, 0, none⟩ = some (.bool false) := (hb.cell (p := ⟨w.heap.size, 0, none⟩) (Nat.lt_of_lt_of_le (lt_of_heap HR0.out) HB06.out.size)).trans ((HB06.out.cell (p := ⟨w.heap.size, 0, none⟩) (lt_of_heap HR0.out)).trans (cell_of_heap HR0.out 0))
          have rz : Y2.frozen? ⟨w.heap.size, 0, none⟩ = false := (hb.frozen (p := ⟨w.heap.size, 0, none⟩) (Nat.lt_of_lt_of_le (lt_of_heap HR0.out) HB06.out.size)).trans ((HB06.out.frozen (p := ⟨w.heap.size, 0, none⟩) (lt_of_heap HR0.out)).trans (unfrozen_of_heap HR0.out 0))
          have a0 : Y2.cell? ⟨w6.heap.size, 0, none⟩ = some (.slice (some ⟨g1, 0, none⟩) (files m).length k6) := by rw [← e11]; exact cell_of_heap ha 0
          have i0 : Y2.cell? ⟨w6.heap.size + 1, 0, none⟩ = some (.int .i64 (pre.length : Int)) := cell_of_heap hi 0
          have iz := unfrozen_of_heap hi
          have hlt2 : (pre.length : Int) < ((files m).length : Int) := by have := HHL.out; omega
          have hyx : (heads m)[pre.length]? = some (y.1, y.2.length) := by unfold heads; rw [List.getElem?_map, hy]; rfl
          have HYX := Lib.hid hyx
          have HB := Lib.hid hb
          have HA := Lib.hid ha
          have HI := Lib.hid hi
          have HP := Lib.hid hp
          have hyl := (lw_file HL6.out hy).2.2.2
          clear e11 e12 e13 p1 p2 s1 hb ha hi hp hyx hy hlt
          have hpl : (pre.length : Int) ≤ 4096 := by omega
          unfold str
          obtain ⟨x1, x2⟩ := x
          by_cases hx1 : x1 = y.1
          · by_cases hx2 : (x2 : Int) = (y.2.length : Int)
            · have hx2' : x2 = y.2.length := by omega
              subst hx1 hx2'
              clear hx2
              gi_wp2
              exact looks_end HB.out HA.out HI.out HP.out HYX.out
            · have hne : ((x2 : Int) != (y.2.length : Int)) = true := by rw [bne, Bool.not_eq_true', beq_eq_false_iff_ne]; exact hx2
              have HNE := Lib.hid hx2
              subst hx1
              clear hx2
              gi_wp2
              exact ⟨(KeepsOthers.setCell _ _ _).from _, fun hpre => by have h := pre_get hpre; rw [HYX.out] at h; injection h with h; injection h with _ h; exact HNE.out (by omega)⟩
          · have hne : (x1 == y.1) = false := by simpa using hx1
            have HNE := Lib.hid hx1
            clear hx1
            gi_wp2
            exact ⟨(KeepsOthers.setCell _ _ _).from _, fun hpre => by have h := pre_get hpre; rw [HYX.out] at h; injection h with h; injection h with h _; exact HNE.out h.symm⟩
        · rintro D2 ys Y3 hD2 rfl ⟨hb, ha, hi, -⟩ hK2
          have hDD : D1 < w6.heap.size := Nat.lt_of_lt_of_le (lt_of_heap HK1.out) HB6.out.size
          have hK1' := (hb.block D1 hDD).trans ((HB6.out.block D1 (lt_of_heap HK1.out)).trans HK1.out)
          have hDW : w.heap.size < D1 := by have h1 := HD1.out; have h2 := HB4.out.size; have h3 := HZ0.out; omega
          have hD2W : D1 < D2 := by have h1 := HB7.out.size; omega
          have hR3 := (hb.block w.heap.size (by omega)).trans ((HB06.out.block w.heap.size (lt_of_heap HR0.out)).trans HR0.out)
          have r0 : Y3.cell? ⟨w.heap.size, 0, none⟩ = some (.bool false) := cell_of_heap hR3 0
          have rz : Y3.frozen? ⟨w.heap.size, 0, none⟩ = false := unfrozen_of_heap hR3 0
          have a0 : Y3.cell? ⟨w6.heap.size, 0, none⟩ = some (.slice a6 (files m).length k6) := cell_of_heap ha 0
          have i0 : Y3.cell? ⟨w6.heap.size + 1, 0, none⟩ = some (.int .i64 ((files m).length : Int)) := by have h := cell_of_heap hi 0; rw [HHL.out] at h; exact h
          have HBB := Lib.hid hb
          have HKK1 := Lib.hid hK1'
          have HKK2 := Lib.hid hK2
          have HDW := Lib.hid hDW
          have HD2W := Lib.hid hD2W
          have HR3 := Lib.hid hR3
          clear hb ha hi hK2 hK1' hDW hD2W hD2 hDD hR3
          gi_wp2
          have hz : w.heap.size < D1 := HDW.out
          have hz2 : D1 < D2 := HD2W.out
          have h2 : (Y3.setCell ⟨w.heap.size, 0, none⟩ (.bool true)).heap[D2]? = some (.deferred (some [])) := (Below.heap_setCell Y3 ⟨w.heap.size, 0, none⟩ _ D2 (by show D2 ≠ w.heap.size; omega)).trans HKK2.out
          have h1 : ((Y3.setCell ⟨w.heap.size, 0, none⟩ (.bool true)).putObj D2 (.deferred none)).heap[D1]? = some (.deferred (some [])) := (World.putObj_heap_other (by omega)).trans ((Below.heap_setCell Y3 ⟨w.heap.size, 0, none⟩ _ D1 (by show D1 ≠ w.heap.size; omega)).trans HKK1.out)
          have hc : (((Y3.setCell ⟨w.heap.size, 0, none⟩ (.bool true)).putObj D2 (.deferred none)).putObj D1 (.deferred none)).cell? ⟨w.heap.size, 0, none⟩ = some (.bool true) :=
            (World.cell?_of_block (World.putObj_heap_other (k := w.heap.size) (by omega))).trans ((World.cell?_of_block (World.putObj_heap_other (k := w.heap.size) (by omega))).trans (World.cell?_setCell_same' _ _ _ (by rw [r0]; rfl)))
          refine ⟨by simp, .inl ⟨_, _, rfl, run_takeDeferred h2, ?_⟩⟩
          refine ⟨by simp, .inl ⟨_, _, rfl, run_takeDeferred h1, ?_⟩⟩
          refine ⟨.bool true, ?_, rfl, fun S => ?_⟩
          · simp [results, Try.results25, go_sem, hc]
          · exact (((((HK0.out S).trans (Kp.of_below HB06.out) (Cx.refl _ _)).below HBB.out (by have := HB06.out.size; have := HZ0.out; omega)).setCell (fun h => by have h : w.heap.size < w.heap.size := h; omega) _).grown (grownBy_putObj' _ D2 _) (fun g e h => by cases e; omega)).grown (grownBy_putObj' _ D1 _) (fun g e h => by cases e; omega)
end Go.Proofs.Ytepphepcaphlkaa
