/- What a clone under way is, and what a file more makes of it. -/
import Derived.Test.YtepphepcaphlkaaCl
namespace Go.Proofs.Ytepphepcaphlkaa
open Go Go.RowKit Go.MapKept Go.Maps Go.Shelf
open Dk
variable {c c' : Col} {w w' A B : World} {Bx : Nat → Prop}
abbrev NX : Nat → Prop := fun _ => False
theorem KpX.cell (h : KpX Bx A B) {p : Addr} {v : Value} (hv : A.cell? p = some v) (hn : ¬ Bx p.block) : B.cell? p = some v := by
  obtain ⟨o, ho, hc⟩ := cells_of_cell hv
  cases o with
  | cells cs t fz => exact (World.cell?_of_block ((h.2 _ _ _ _ ho hn).trans ho.symm)).trans hv
  | _ => cases hc
theorem kpx_grown {row : Option Nat} (hg : A.grownBy B row) (hr : ∀ r, row = some r → ∃ o : Obj, A.heap[r]? = some o ∧ o.isCells = false) : KpX Bx A B :=
  ⟨hg.size, fun _ _ _ _ hb _ => (grownBy_keeps_cells hg hr hb rfl).trans hb⟩
theorem kpx_below (h : Below A.heap.size A B) : KpX Bx A B := ⟨h.size, fun b _ _ _ hb _ => (h.block b (lt_of_heap hb)).trans hb⟩
theorem Sc.ck {q : Nat × Nat} {v : Value} {xs : List Value} (h : Sc A c q v xs) (hk : KpX NX A B) : Sc B c q v xs := by
  obtain ⟨a, cap, h1, h2, h3, h4, h5⟩ := h
  exact ⟨a, cap, h1, h2, h3, h4, fun ad had => ⟨(h5 ad had).1, fun j u hj => ⟨((h5 ad had).2 j u hj).1, hk.cell ((h5 ad had).2 j u hj).2 (fun h => h)⟩⟩⟩
theorem ChV.ck {v : Value} {x : Chg} (h : ChV A c v x) (hk : KpX NX A B) : ChV B c v x := by
  cases x with
  | wr i b => obtain ⟨vb, h1, h2⟩ := h; exact ⟨vb, h1, h2.ck hk⟩
  | cut n => exact h
theorem owns_ck {base e size n : Nat} {v : Value} {xs : List Value} (h : A.ownsRow base e size v n xs) (hk : KpX NX A B) : B.ownsRow base e size v n xs := by
  obtain ⟨h1, h2⟩ := h
  refine ⟨h1, ?_⟩
  rcases h2 with h2 | ⟨g, cap, cur, rfl, hg, hh, r⟩
  · exact .inl h2
  · exact .inr ⟨g, cap, cur, rfl, hg, hk.2 _ _ _ _ hh (fun h => h), r⟩
theorem FileAt.ck {k fb : Nat} {f : AFile} (h : FileAt A c k fb f) (hk : KpX NX A B) : FileAt B c k fb f := by
  obtain ⟨vs, vc, vn, h1, h2, h3, ⟨xs, h4, h5, h6⟩, h7⟩ := h
  exact ⟨vs, vc, vn, hk.2 _ _ _ _ h1 (fun h => h), h2, h3.ck hk, ⟨xs, owns_ck h4 hk, fun i x y hx hy => (h5 i x y hx hy).ck hk, h6⟩, h7.ck hk⟩
section
variable {k d : Nat} {m : ADisk} {vk vf vu : Value} {mb : Nat} {es : Array MapEntry} {ck : Nat} {fb : Nm → Nat}
theorem DiskAt'.stay (D : DiskAt' A c k d m vk vf vu mb es ck fb) (hk : KpX NX A B) (hm : B.heap[mb]? = A.heap[mb]?) : DiskAt' B c k d m vk vf vu mb es ck fb :=
  ⟨D.ok, hk.2 _ _ _ _ D.heap (fun h => h), D.col, ⟨D.plan.keep.ck hk, D.plan.fail.ck hk, D.plan.full.ck hk⟩, ⟨hm.trans D.map.heap, D.map.col, D.map.fit, D.map.perm, D.map.apart, fun x hx => (D.map.files x hx).ck hk⟩⟩
/-- The same files in another order of the list. -/
theorem DiskAt'.swap {fs : List (Nm × AFile)} (D : DiskAt' w c k d { m with files := fs } vk vf vu mb es ck fb) (hp : fs.Perm m.files) (hok : m.ok) : DiskAt' w c k d m vk vf vu mb es ck fb :=
  ⟨hok, D.heap, D.col, D.plan, ⟨D.map.heap, D.map.col, D.map.fit, D.map.perm.trans (hp.map _), (hp.map _).nodup_iff.1 D.map.apart, fun x hx => D.map.files x (hp.mem_iff.2 hx)⟩⟩
end
/-- A clone under way: it has the files fs. -/
structure Cl (w : World) (c : Col) (k2 d2 : Nat) (m : ADisk) (L0 : Nat) (fs : List (Nm × AFile)) (W : World) : Prop where
  ex : ∃ cW vk vf vu mb es ck fb, Cx w c cW ∧ DiskAt' W cW k2 d2 { m with files := fs } vk vf vu mb es ck fb ∧ mb < L0 ∧ w.heap.size ≤ mb
  below : Below w.heap.size w W
  sub : ∀ z ∈ fs, z ∈ m.files
section
variable {k k2 d d2 L0 : Nat} {m : ADisk} {fs : List (Nm × AFile)} {W : World}
theorem Cl.grown {row : Option Nat} {W' : World} (h : Cl w c k2 d2 m L0 fs W) (hL : w.heap.size ≤ L0) (hg : W.grownBy W' row) (hr : ∀ r, row = some r → L0 ≤ r ∧ ∃ o : Obj, W.heap[r]? = some o ∧ o.isCells = false) : Cl w c k2 d2 m L0 fs W' := by
  obtain ⟨⟨cW, vk, vf, vu, mb, es, ck, fb, h1, D, h2, h3⟩, hb, hs⟩ := h
  refine ⟨⟨cW, vk, vf, vu, mb, es, ck, fb, h1, D.stay (kpx_grown hg (fun r e => (hr r e).2)) (hg.block mb D.map.lt (fun e => by have := (hr mb e.symm).1; omega)), h2, h3⟩, hb.grown hg hb.size (fun r e => Nat.le_trans hL (hr r e).1), hs⟩
theorem rising_perm {a b : List (Nm × AFile)} (ha : Rising a) (hb : Rising b) (h1 : ∀ z ∈ a, z ∈ b) (h2 : ∀ y ∈ b, ∃ z ∈ a, z.1 = y.1) : a.Perm b := by
  have nod : ∀ {l : List (Nm × AFile)}, Rising l → l.Nodup := fun {l} h => h.imp fun {x y} hxy e => by rw [e] at hxy; exact List.lt_irrefl _ hxy
  refine (List.perm_ext_iff_of_nodup (nod ha) (nod hb)).2 fun z => ⟨h1 z, fun hz => ?_⟩
  obtain ⟨y, hy, e⟩ := h2 z hz
  rw [rising_inj hb (h1 y hy) hz e] at hy
  exact hy
/-- The step: a file's clone is laid under its name. -/
theorem Cl.step (h : Cl w c k2 d2 m L0 fs W) (hk20 : k2 ≠ 0) {vk vf vu : Value} {mb : Nat} {es : Array MapEntry} {ck : Nat} {fb : Nm → Nat} (D : DiskAt' w c k d m vk vf vu mb es ck fb) (hops : m.ops ≤ 900000) :
    ∃ mb2, W.cell? ⟨d2, 8, none⟩ = some (.map (some mb2)) ∧ ∀ (n : Nm) (f : AFile), (n, f) ∈ m.files → fs.length < 4096 →
      Calls Try.prog 57 #[ptr (fb n)] W fun e W1 => ∃ nb W2, e = .returned (ptr nb) ∧ W1.cell? ⟨d2, 8, none⟩ = some (.map (some mb2)) ∧ Below W.heap.size W W1 ∧ (Instr.mapUpdate 63 (.map (some mb2)) (str n) (ptr nb)).run Try.prog W1 = .ok () W2 ∧
        Cl w c k2 d2 m L0 (ins n f (del fs n)) W2 ∧ KpX NX W W2 ∧ KeepsFrom L0 W W2 := by
  obtain ⟨⟨cW, vk2, vf2, vu2, mb2, es2, ck2, fb2, h1, D2, h2, h3⟩, hb, hs⟩ := h
  refine ⟨mb2, D2.c8, fun n f hn hl => ?_⟩
  have hF : FileAt W cW k (fb n) f := (D.map.files (n, f) hn).kp (Kp.of_below (S := fun _ => False) hb) (fun h => h) (fun h => h) (fun h => h) h1
  have hfo := D.ok.files _ hn
  refine (fclone_c k k2 (fb n) f W hF (by have := hfo.many; have h0 := D.ok.ops0; show f.chs.length ≤ lim; have : f.chs.length ≤ m.ops.toNat := this; unfold lim; omega)).mono fun e W1 hc => ?_
  obtain ⟨nb, c1, he, hb1, hnb, hx1, F1⟩ := hc
  have D1 := D2.kp (Kp.of_below (c := cW) (S := fun _ => False) hb1) (fun _ h => h.elim) hx1
  obtain ⟨es', ck', fb', hrun, D3⟩ := D1.add (n := n) (f := f) (b := nb) hk20 (D.ok.names _ hn) hl F1 hfo (fun x hx => by
    obtain ⟨_, _, _, hh, _⟩ := D2.map.files x hx
    have := lt_of_heap hh
    omega)
  have hK3 : KpX NX W1 (putMap W1 mb2 es' ck') := ⟨by simp [putMap], fun b cs t fz hbb _ => by
    have hne : mb2 ≠ b := by rintro rfl; have := D1.map.heap; rw [hbb] at this; cases this
    exact (putMap_other hne).trans hbb⟩
  have hK1 : KpX NX W W1 := kpx_below hb1
  refine ⟨nb, _, he, D1.c8, hb1, hrun, ⟨⟨c1, vk2, vf2, vu2, mb2, es', ck', fb', h1.trans hx1 hb.size, D3, h2, h3⟩, ?_, fun z hz => ?_⟩, kpx_t hK1 hK3, ?_⟩
  · have hg : W1.grownBy (putMap W1 mb2 es' ck') (some mb2) := ⟨rfl, rfl, rfl, by simp [putMap], fun b _ hne => putMap_other (fun e => hne (by rw [e]))⟩
    exact (hb.trans (hb1.mono hb.size)).grown hg (Nat.le_trans hb.size hb1.size) (fun r e => by cases e; exact h3)
  · rcases List.mem_cons.1 ((ins_perm n f (del fs n)).mem_iff.1 hz) with rfl | hz
    · exact hn
    · exact hs z (List.mem_filter.1 hz).1
  · refine ⟨Nat.le_trans hb1.size (by simp [putMap]), fun b o hB ho _ => ?_⟩
    have hne : mb2 ≠ b := by omega
    exact (putMap_other hne).trans ((hb1.block b (lt_of_heap ho)).trans ho)
theorem cl_len (n : Nm) (f : AFile) : (ins n f (del fs n)).length ≤ fs.length + 1 := by
  rw [(ins_perm n f (del fs n)).length_eq, List.length_cons]
  have := List.length_filter_le (fun x : Nm × AFile => !(x.1 == n)) fs
  unfold del
  omega
theorem cl_has (n : Nm) (f : AFile) (y : Nm) (h : y = n ∨ ∃ z ∈ fs, z.1 = y) : ∃ z ∈ ins n f (del fs n), z.1 = y := by
  by_cases e : y = n
  · exact ⟨(n, f), (ins_perm n f (del fs n)).mem_iff.2 (List.mem_cons_self ..), e.symm⟩
  · rcases h with h | ⟨z, hz, e'⟩
    · exact absurd h e
    · refine ⟨z, (ins_perm n f (del fs n)).mem_iff.2 (List.mem_cons_of_mem _ (List.mem_filter.2 ⟨hz, ?_⟩)), e'⟩
      rw [e']; simpa using e
end
end Go.Proofs.Ytepphepcaphlkaa
