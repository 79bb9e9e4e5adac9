/- Words for memory: a colour for each block; what a step leaves alone; slices, files and disks as they lie in memory. -/
import Derived.Test.YtnifmoigalmcmaaGreatPure
import Derived.Test.YtnifmoigalmcmaaGreatProg
import Derived.WalkKit
import Derived.ProofKit
import Derived.Handy
import Derived.Lib.Hide
import Derived.Maps.Keyed
import Derived.Maps.Own
import Derived.Deep.QuietTactic
import Derived.BigQuiet
import Derived.WalkLawsBesides
import Derived.WalkSpells
namespace Go.Proofs.YtnifmoigalmcmaaGreat
open Go Go.RowKit Go.MapKept Go.Maps
open Go.WideElems (Fit rd rg pl)
open Dk
/-- The owner of each block, and the part of the owner. -/
abbrev Col := Nat → Nat × Nat
/-- From w0 to w nothing that lay in w0 has turned but blocks whose colour is in S. -/
structure Kp (c : Col) (S : Nat × Nat → Prop) (w0 w : World) : Prop where
  os : w.os = w0.os
  tape : w.tape = w0.tape
  output : w.output = w0.output
  size : w0.heap.size ≤ w.heap.size
  block : ∀ b, b < w0.heap.size → ¬ S (c b) → w.heap[b]? = w0.heap[b]?
def Cx (w : World) (c c' : Col) : Prop := ∀ b, b < w.heap.size → c' b = c b
theorem Cx.refl (w : World) (c : Col) : Cx w c c := fun _ _ => rfl
theorem Cx.trans {w w' : World} {c c' c'' : Col} (h : Cx w c c') (h' : Cx w' c' c'') (hs : w.heap.size ≤ w'.heap.size) : Cx w c c'' :=
  fun b hb => (h' b (by omega)).trans (h b hb)
variable {c c' : Col} {S S' : Nat × Nat → Prop} {w w' w0 w1 w2 : World}
theorem Kp.refl (c : Col) (S : Nat × Nat → Prop) (w : World) : Kp c S w w := ⟨rfl, rfl, rfl, Nat.le_refl _, fun _ _ _ => rfl⟩
theorem Kp.trans (h : Kp c S w0 w1) (h' : Kp c' S w1 w2) (hc : Cx w0 c c') : Kp c S w0 w2 :=
  ⟨h'.os.trans h.os, h'.tape.trans h.tape, h'.output.trans h.output, Nat.le_trans h.size h'.size, fun b hb hs =>
    (h'.block b (Nat.lt_of_lt_of_le hb h.size) (by rw [hc b hb]; exact hs)).trans (h.block b hb hs)⟩
theorem Kp.mono (h : Kp c S w0 w1) (hs : ∀ q, S q → S' q) : Kp c S' w0 w1 :=
  ⟨h.os, h.tape, h.output, h.size, fun b hb hn => h.block b hb fun q => hn (hs _ q)⟩
theorem Kp.of_below (h : Below w0.heap.size w0 w1) : Kp c S w0 w1 := ⟨h.os, h.tape, h.output, h.size, fun b hb _ => h.block b hb⟩
theorem Kp.of_grown {row : Option Nat} (h : w0.grownBy w1 row) (hr : ∀ g, row = some g → g < w0.heap.size → S (c g)) : Kp c S w0 w1 :=
  ⟨h.os, h.tape, h.output, h.size, fun b hb hn => h.block b hb fun e => hn (hr b e.symm hb)⟩
theorem Kp.alloc (h : Kp c S w0 w1) (o : Obj) : Kp c S w0 (w1.alloc o) :=
  ⟨h.os, h.tape, h.output, by have := h.size; simp; omega, fun b hb hn => (Below.heap_alloc _ _ _ (Nat.lt_of_lt_of_le hb h.size)).trans (h.block b hb hn)⟩
theorem Kp.drew (h : Kp c S w0 w1) : Kp c S w0 w1.drew := ⟨h.os, h.tape, h.output, h.size, h.block⟩
theorem Kp.drewN (h : Kp c S w0 w1) (n : Nat) : Kp c S w0 (w1.drewN n) := ⟨h.os, h.tape, h.output, h.size, h.block⟩
theorem Kp.setCell (h : Kp c S w0 w1) {p : Addr} (hp : p.block < w0.heap.size → S (c p.block)) (u : Value) : Kp c S w0 (w1.setCell p u) :=
  ⟨h.os, h.tape, h.output, by simpa using h.size, fun b hb hn => by
    rw [Below.heap_setCell _ _ _ _ (fun e => hn (by subst e; exact hp hb))]; exact h.block b hb hn⟩
theorem Kp.grown (h : Kp c S w0 w1) {row : Option Nat} (hg : w1.grownBy w2 row) (hr : ∀ g, row = some g → g < w0.heap.size → S (c g)) : Kp c S w0 w2 :=
  ⟨hg.os.trans h.os, hg.tape.trans h.tape, hg.output.trans h.output, Nat.le_trans h.size hg.size, fun b hb hn =>
    (hg.block b (Nat.lt_of_lt_of_le hb h.size) (fun e => hn (hr b e.symm hb))).trans (h.block b hb hn)⟩
theorem Kp.below (h : Kp c S w0 w1) {B : Nat} (hb : Below B w1 w2) (hB : w0.heap.size ≤ B) : Kp c S w0 w2 :=
  ⟨hb.os.trans h.os, hb.tape.trans h.tape, hb.output.trans h.output, Nat.le_trans h.size hb.size, fun b hlt hn =>
    (hb.block b (Nat.lt_of_lt_of_le hlt hB)).trans (h.block b hlt hn)⟩
theorem Kp.cell (h : Kp c S w0 w1) {p : Addr} {v : Value} (hv : w0.cell? p = some v) (hn : ¬ S (c p.block)) : w1.cell? p = some v :=
  (World.cell?_of_block (h.block _ (World.block_lt_of_cell? _ _ hv) hn)).trans hv
theorem lt_of_heap {w : World} {b : Nat} {o : Obj} (h : w.heap[b]? = some o) : b < w.heap.size := (Array.getElem?_eq_some_iff.1 h).1
theorem Kp.heap (h : Kp c S w0 w1) {b : Nat} {o : Obj} (hv : w0.heap[b]? = some o) (hn : ¬ S (c b)) : w1.heap[b]? = some o :=
  (h.block _ (lt_of_heap hv) hn).trans hv
theorem cell_of_heap {w : World} {b : Nat} {cs : Array Value} {t : TypeId} {fz : Nat × Nat} (h : w.heap[b]? = some (.cells cs t fz)) (i : Nat) : w.cell? ⟨b, i, none⟩ = cs[i]? := by
  simp [World.cell?, h]
theorem unfrozen_of_heap {w : World} {b : Nat} {cs : Array Value} {t : TypeId} (h : w.heap[b]? = some (.cells cs t (0, 0))) (i : Nat) : w.frozen? ⟨b, i, none⟩ = false := by
  simp [World.frozen?, h]
theorem heap_setCell {w : World} {b : Nat} {cs : Array Value} {t : TypeId} {fz : Nat × Nat} (h : w.heap[b]? = some (.cells cs t fz)) (i : Nat) (v : Value) :
    (w.setCell ⟨b, i, none⟩ v).heap[b]? = some (.cells (cs.setIfInBounds i v) t fz) := by
  simp [World.setCell, Array.getElem?_modify, h]
theorem heap_alloc_new (w : World) (o : Obj) : (w.alloc o).heap[w.heap.size]? = some o := (MapKept.heap_alloc w o).1
theorem heap_alloc_old {w : World} {b : Nat} {x : Obj} (o : Obj) (h : w.heap[b]? = some x) : (w.alloc o).heap[b]? = some x :=
  (Below.heap_alloc w o b (lt_of_heap h)).trans h

/-! ### values -/
def bv (x : UInt8) : Value := .int .u8 (x.toNat : Int)
def iv (n : Int) : Value := .int .i64 n
def str (l : List UInt8) : Value := .string ⟨l.toArray⟩
def ptr (b : Nat) : Value := .pointer (some ⟨b, 0, none⟩)
theorem str_inj {a b : List UInt8} (h : str a = str b) : a = b := by
  unfold str at h
  have h1 : (⟨a.toArray⟩ : ByteArray) = ⟨b.toArray⟩ := Value.string.inj h
  have h2 := congrArg (fun x : ByteArray => x.data.toList) h1
  simpa using h2
/-- A slice of elements of one cell each, in a block of colour q. -/
def Sc (w : World) (c : Col) (q : Nat × Nat) (v : Value) (xs : List Value) : Prop :=
  ∃ a cap, v = .slice a xs.length cap ∧ xs.length ≤ cap ∧ cap ≤ maxLen ∧ (a = none → cap = 0) ∧
    ∀ ad, a = some ad → ad.spot = none ∧ ∀ j u, xs[j]? = some u → c ad.block = q ∧ w.cell? ⟨ad.block, ad.off + j, none⟩ = some u
theorem Sc.kp {q : Nat × Nat} {v : Value} {xs : List Value} (h : Sc w c q v xs) (hk : Kp c S w w') (hq : ¬ S q) (hc : Cx w c c') : Sc w' c' q v xs := by
  obtain ⟨a, cap, h1, h2, h3, h4, h5⟩ := h
  refine ⟨a, cap, h1, h2, h3, h4, fun ad had => ⟨(h5 ad had).1, fun j u hj => ?_⟩⟩
  obtain ⟨e1, e2⟩ := (h5 ad had).2 j u hj
  have hlt := World.block_lt_of_cell? _ _ e2
  exact ⟨(hc _ hlt).trans e1, hk.cell e2 (by rw [e1]; exact hq)⟩
theorem Sc.nil (w : World) (c : Col) (q : Nat × Nat) : Sc w c q (.slice none 0 0) [] := ⟨none, 0, rfl, Nat.le_refl _, by simp [maxLen], fun _ => rfl, fun _ h => by cases h⟩
/-- What the call owns, at a colour. -/
theorem Sc.of_owns {q : Nat × Nat} {v : Value} {base : Nat} {e : TypeId} {n : Nat} {xs : List Value} (h : w.ownsRow base e 1 v n xs) (hc : ∀ g, v.ownBlock = some g → c g = q) : Sc w c q v xs := by
  have hh := h
  obtain ⟨hl, h⟩ := h
  rcases h with ⟨rfl, rfl⟩ | ⟨g, cap, cur, rfl, hg, hh', hn, hm, hcs, ht⟩
  · have : xs = [] := List.eq_nil_of_length_eq_zero (by simpa using hl)
    subst this; exact Sc.nil w c q
  · have e : xs.length = n := by simpa using hl
    refine ⟨some ⟨g, 0, none⟩, cap, by rw [e], by omega, hm, by simp, fun ad had => ?_⟩
    cases had
    refine ⟨rfl, fun j u hj => ⟨hc g rfl, ?_⟩⟩
    have := World.ownsRow.cells hh (g := g) rfl j u hj
    simpa [Addr.add] using (by
      by_cases h0 : j = 0
      · subst h0; simpa [Addr.add] using this
      · simpa [Addr.add, h0] using this)

/-! ### files and disks -/
def ChV (w : World) (c : Col) (v : Value) : Chg → Prop
  | .wr i b => ∃ vb, v = .iface 145 (.agg #[.int .i64 i, vb]) ∧ Sc w c (0, 0) vb (b.map bv)
  | .cut n => v = .iface 195 (.agg #[.int .i64 n])
theorem ChV.kp {v : Value} {x : Chg} (h : ChV w c v x) (hk : Kp c S w w') (hq : ¬ S (0, 0)) (hc : Cx w c c') : ChV w' c' v x := by
  cases x with
  | wr i b => obtain ⟨vb, h1, h2⟩ := h; exact ⟨vb, h1, h2.kp hk hq hc⟩
  | cut n => exact h
def ChsAt (w : World) (c : Col) (q : Nat × Nat) (v : Value) (chs : List Chg) : Prop :=
  ∃ xs, w.ownsRow 0 197 1 v chs.length xs ∧ (∀ (i : Nat) x y, xs[i]? = some x → chs[i]? = some y → ChV w c x y) ∧ ∀ g, v.ownBlock = some g → c g = q
theorem ownsRow_kp {q : Nat × Nat} {base e size n : Nat} {v : Value} {xs : List Value} (h : w.ownsRow base e size v n xs) (hc : ∀ g, v.ownBlock = some g → c g = q) (hk : Kp c S w w') (hq : ¬ S q) : w'.ownsRow base e size v n xs := by
  obtain ⟨h1, h2⟩ := h
  refine ⟨h1, ?_⟩
  rcases h2 with h2 | ⟨g, cap, cur, rfl, hg, hh, r⟩
  · exact .inl h2
  · exact .inr ⟨g, cap, cur, rfl, hg, hk.heap hh (by rw [hc g rfl]; exact hq), r⟩
theorem ownBlock_lt {base e size n : Nat} {v : Value} {xs : List Value} (h : w.ownsRow base e size v n xs) : ∀ g, v.ownBlock = some g → g < w.heap.size := by
  intro g hg
  obtain ⟨_, h2⟩ := h
  rcases h2 with ⟨rfl, _⟩ | ⟨g', cap, cur, rfl, _, hh, _⟩
  · cases hg
  · cases hg; exact lt_of_heap hh
theorem ChsAt.kp {q : Nat × Nat} {v : Value} {chs : List Chg} (h : ChsAt w c q v chs) (hk : Kp c S w w') (hq : ¬ S q) (h0 : ¬ S (0, 0)) (hc : Cx w c c') : ChsAt w' c' q v chs := by
  obtain ⟨xs, h1, h2, h3⟩ := h
  exact ⟨xs, ownsRow_kp h1 h3 hk hq, fun i x y hx hy => (h2 i x y hx hy).kp hk h0 hc, fun g hg => (hc g (ownBlock_lt h1 g hg)).trans (h3 g hg)⟩
/-- A file's own block; the block of its changes. -/
abbrev fcol (k fb : Nat) : Nat × Nat := (k, 2 * fb + 1)
abbrev gcol (k fb : Nat) : Nat × Nat := (k, 2 * fb + 2)
def FileAt (w : World) (c : Col) (k fb : Nat) (f : AFile) : Prop :=
  ∃ vs vc vn, w.heap[fb]? = some (.cells #[vs, vc, vn] 141 (0, 0)) ∧ c fb = fcol k fb ∧ Sc w c (0, 0) vs (f.safe.map bv) ∧ ChsAt w c (gcol k fb) vc f.chs ∧ Sc w c (0, 0) vn (f.now.map bv)
theorem FileAt.kp {k fb : Nat} {f : AFile} (h : FileAt w c k fb f) (hk : Kp c S w w') (hq : ¬ S (fcol k fb)) (hg : ¬ S (gcol k fb)) (h0 : ¬ S (0, 0)) (hc : Cx w c c') : FileAt w' c' k fb f := by
  obtain ⟨vs, vc, vn, h1, h2, h3, h4, h5⟩ := h
  exact ⟨vs, vc, vn, hk.heap h1 (by rw [h2]; exact hq), (hc _ (lt_of_heap h1)).trans h2, h3.kp hk h0 hc, h4.kp hk hg h0 hc, h5.kp hk h0 hc⟩
/-- How a map's element reads, where it is of no account. -/
def Rn (_ : Value) : Option (DataW Unit × List MemPlace) := some (.nil, [])
structure PlanAt (w : World) (c : Col) (vk vf vu : Value) (p : APlan) : Prop where
  keep : Sc w c (0, 0) vk (p.keep.map iv)
  fail : Sc w c (0, 0) vf (p.fail.map iv)
  full : Sc w c (0, 0) vu (p.full.map iv)
theorem PlanAt.kp {vk vf vu : Value} {p : APlan} (h : PlanAt w c vk vf vu p) (hk : Kp c S w w') (h0 : ¬ S (0, 0)) (hc : Cx w c c') : PlanAt w' c' vk vf vu p :=
  ⟨h.keep.kp hk h0 hc, h.fail.kp hk h0 hc, h.full.kp hk h0 hc⟩
/-- The map of files: its block, its entries, where each file lies. -/
structure MapAt (w : World) (c : Col) (k mb : Nat) (es : Array MapEntry) (ck : Nat) (fb : Nm → Nat) (fs : List (Nm × AFile)) : Prop where
  heap : w.heap[mb]? = some (.map es ck)
  col : c mb = (k, 0)
  fit : Fit Tryz.prog 9 Rn es ck
  perm : (es.toList.map fun e => (e.key, e.val)).Perm (fs.map fun x => (str x.1, ptr (fb x.1)))
  apart : (fs.map fun x => fb x.1).Nodup
  files : ∀ x ∈ fs, FileAt w c k (fb x.1) x.2
theorem MapAt.kp {k mb : Nat} {es : Array MapEntry} {ck : Nat} {fb : Nm → Nat} {fs : List (Nm × AFile)} (h : MapAt w c k mb es ck fb fs) (hk : Kp c S w w') (hS : ∀ q, S q → q.1 ≠ k ∧ q ≠ (0, 0)) (hc : Cx w c c') : MapAt w' c' k mb es ck fb fs :=
  ⟨hk.heap h.heap (fun hs => (hS _ hs).1 (by rw [h.col])), (hc _ (lt_of_heap h.heap)).trans h.col, h.fit, h.perm, h.apart,
   fun x hx => (h.files x hx).kp hk (fun hs => (hS _ hs).1 rfl) (fun hs => (hS _ hs).1 rfl) (fun hs => (hS _ hs).2 rfl) hc⟩
def diskCells (m : ADisk) (vk vf vu : Value) (mb : Nat) : Array Value :=
  #[.int .i64 1, .int .i64 m.plan.crash, vk, vf, vu, .int .i64 m.plan.room, .int .i64 m.ops, .bool m.dead, .map (some mb)]
structure DiskAt' (w : World) (c : Col) (k d : Nat) (m : ADisk) (vk vf vu : Value) (mb : Nat) (es : Array MapEntry) (ck : Nat) (fb : Nm → Nat) : Prop where
  ok : m.ok
  heap : w.heap[d]? = some (.cells (diskCells m vk vf vu mb) 119 (0, 0))
  col : c d = (k, 0)
  plan : PlanAt w c vk vf vu m.plan
  map : MapAt w c k mb es ck fb m.files
def DiskAt (w : World) (c : Col) (k d : Nat) (m : ADisk) : Prop := ∃ vk vf vu mb es ck fb, DiskAt' w c k d m vk vf vu mb es ck fb
theorem DiskAt'.kp {k d : Nat} {m : ADisk} {vk vf vu : Value} {mb : Nat} {es : Array MapEntry} {ck : Nat} {fb : Nm → Nat} (h : DiskAt' w c k d m vk vf vu mb es ck fb)
    (hk : Kp c S w w') (hS : ∀ q, S q → q.1 ≠ k ∧ q ≠ (0, 0)) (hc : Cx w c c') : DiskAt' w' c' k d m vk vf vu mb es ck fb :=
  ⟨h.ok, hk.heap h.heap (fun hs => (hS _ hs).1 (by rw [h.col])), (hc _ (lt_of_heap h.heap)).trans h.col, h.plan.kp hk (fun hs => (hS _ hs).2 rfl) hc, h.map.kp hk hS hc⟩
theorem DiskAt.kp {k d : Nat} {m : ADisk} (h : DiskAt w c k d m) (hk : Kp c S w w') (hS : ∀ q, S q → q.1 ≠ k ∧ q ≠ (0, 0)) (hc : Cx w c c') : DiskAt w' c' k d m := by
  obtain ⟨vk, vf, vu, mb, es, ck, fb, h⟩ := h
  exact ⟨vk, vf, vu, mb, es, ck, fb, h.kp hk hS hc⟩

/-- What is not the map's, nor a file's. -/
theorem MapAt.mid {k mb : Nat} {es : Array MapEntry} {ck : Nat} {fb : Nm → Nat} {fs : List (Nm × AFile)} (h : MapAt w c k mb es ck fb fs) (hk : Kp c S w w') (hm : w'.heap[mb]? = w.heap[mb]?) (hS : ∀ q, S q → (q = (k, 0) ∨ q.1 ≠ k) ∧ q ≠ (0, 0)) (hc : Cx w c c') : MapAt w' c' k mb es ck fb fs :=
  ⟨hm.trans h.heap, (hc _ (lt_of_heap h.heap)).trans h.col, h.fit, h.perm, h.apart,
   fun x hx => (h.files x hx).kp hk (fun hs => (hS _ hs).1.elim (fun e => by simp [fcol] at e) (fun e => e rfl)) (fun hs => (hS _ hs).1.elim (fun e => by simp [gcol] at e) (fun e => e rfl)) (fun hs => (hS _ hs).2 rfl) hc⟩
/-- One file turned; the map and the others as they were. -/
theorem MapAt.upd {k mb : Nat} {es : Array MapEntry} {ck : Nat} {fb : Nm → Nat} {fs : List (Nm × AFile)} (h : MapAt w c k mb es ck fb fs) {n : Nm} {f f' : AFile} (hg : get fs n = some f)
    (hk : Kp c S w w') (hS : ∀ q, S q → (q = fcol k (fb n) ∨ q = gcol k (fb n) ∨ q.1 ≠ k) ∧ q ≠ (0, 0)) (hc : Cx w c c') (hf : FileAt w' c' k (fb n) f') : MapAt w' c' k mb es ck fb (Dk.upd fs n f') := by
  have hkeys : ∀ x : Nm × AFile, (if x.1 == n then (n, f') else x).1 = x.1 := fun x => by split <;> simp_all
  refine ⟨hk.heap h.heap (fun hs => ?_), (hc _ (lt_of_heap h.heap)).trans h.col, h.fit, ?_, ?_, ?_⟩
  · rw [h.col] at hs
    rcases (hS _ hs).1 with e | e | e
    · simp only [fcol, Prod.mk.injEq] at e; omega
    · simp only [gcol, Prod.mk.injEq] at e; omega
    · exact e rfl
  · have : (Dk.upd fs n f').map (fun x => (str x.1, ptr (fb x.1))) = fs.map fun x => (str x.1, ptr (fb x.1)) := by
      unfold Dk.upd; rw [List.map_map]; refine List.map_congr_left fun x _ => ?_
      simp only [Function.comp]; rw [hkeys]
    rw [this]; exact h.perm
  · have : (Dk.upd fs n f').map (fun x => fb x.1) = fs.map fun x => fb x.1 := by
      unfold Dk.upd; rw [List.map_map]; refine List.map_congr_left fun x _ => ?_
      simp only [Function.comp]; rw [hkeys]
    rw [this]; exact h.apart
  · intro x hx
    unfold Dk.upd at hx
    obtain ⟨y, hy, rfl⟩ := List.mem_map.1 hx
    by_cases hn : y.1 = n
    · simp only [hn, beq_self_eq_true, if_true]; exact hf
    · have : (y.1 == n) = false := by simpa using hn
      simp only [this, Bool.false_eq_true, if_false]
      have hne : fb y.1 ≠ fb n := fun e => hn (by
        have hinj : ∀ a ∈ fs, ∀ b ∈ fs, fb a.1 = fb b.1 → a = b := by
          have := h.apart
          clear hx hy hf hg h hkeys
          induction fs with
          | nil => intro a ha; cases ha
          | cons z r ih =>
            rw [List.map_cons, List.nodup_cons] at this
            intro a ha b hb e
            rcases List.mem_cons.1 ha with rfl | ha' <;> rcases List.mem_cons.1 hb with rfl | hb'
            · rfl
            · exact absurd (List.mem_map.2 ⟨b, hb', e.symm⟩) this.1
            · exact absurd (List.mem_map.2 ⟨a, ha', e⟩) this.1
            · exact ih this.2 a ha' b hb' e
        have := hinj y hy (n, f) (get_mem hg) e
        rw [this])
      refine (h.files y hy).kp hk (fun hs => ?_) (fun hs => ?_) (fun hs => (hS _ hs).2 rfl) hc
      · rcases (hS _ hs).1 with e | e | e
        · simp only [fcol, Prod.mk.injEq] at e; omega
        · simp only [fcol, gcol, Prod.mk.injEq] at e; omega
        · exact e rfl
      · rcases (hS _ hs).1 with e | e | e
        · simp only [fcol, gcol, Prod.mk.injEq] at e; omega
        · simp only [gcol, Prod.mk.injEq] at e; omega
        · exact e rfl

/-! ### the map of files: its operations -/
theorem strK : Keyed Tryz.prog 9 := string_keyed Tryz.underlying9
theorem keyStr {l : List UInt8} (h : l.length ≤ maxLen) : keyOf Tryz.prog 9 (str l) = some (.string l) := by
  have := WideMaps.keyOf_string_mk (P := Tryz.prog) Tryz.underlying9 (s := ⟨l.toArray⟩) (by simpa [ByteArray.size] using h)
  simpa [str] using this
theorem map_find {k mb ck : Nat} {es : Array MapEntry} {fb : Nm → Nat} {fs : List (Nm × AFile)} (M : MapAt w c k mb es ck fb fs) (hr : fs.Pairwise fun x y => x.1 < y.1) {n : Nm} (hn : n.length ≤ maxLen) :
    (get fs n = none ∧ (Instr.findKey 9 (str n) es.toList).run Tryz.prog w = .ok none w ∧ ∀ e ∈ es.toList, e.key ≠ str n) ∨
    ∃ f j e, get fs n = some f ∧ (Instr.findKey 9 (str n) es.toList).run Tryz.prog w = .ok (some (j, ptr (fb n))) w ∧ es.toList[j]? = some e ∧ e.key = str n ∧ e.val = ptr (fb n) := by
  rcases strK.find w (keyStr hn) es.toList (fun e he => by
      have : (e.key, e.val) ∈ fs.map fun x => (str x.1, ptr (fb x.1)) := M.perm.mem_iff.1 (List.mem_map.2 ⟨e, he, rfl⟩)
      obtain ⟨y, hy⟩ := M.fit.reads e he
      exact ⟨_, Go.WideElems.rd_key hy⟩) with ⟨h1, h2⟩ | ⟨j, e, h1, h2, h3⟩
  · left
    refine ⟨?_, h1, h2⟩
    cases hg : get fs n with
    | none => rfl
    | some f =>
      have hm := get_mem hg
      have : (str n, ptr (fb n)) ∈ es.toList.map fun e => (e.key, e.val) := M.perm.mem_iff.2 (List.mem_map.2 ⟨(n, f), hm, rfl⟩)
      obtain ⟨e, he, heq⟩ := List.mem_map.1 this
      simp only [Prod.mk.injEq] at heq
      exact absurd heq.1 (h2 e he)
  · right
    have he := List.mem_of_getElem? h2
    have : (e.key, e.val) ∈ fs.map fun x => (str x.1, ptr (fb x.1)) := M.perm.mem_iff.1 (List.mem_map.2 ⟨e, he, rfl⟩)
    obtain ⟨x, hx, heq⟩ := List.mem_map.1 this
    simp only [Prod.mk.injEq] at heq
    have hxn : x.1 = n := str_inj (heq.1.trans h3)
    refine ⟨x.2, j, e, by rw [← hxn]; exact get_of_mem hr hx, ?_, h2, h3, by rw [← heq.2, hxn]⟩
    rw [h1, ← heq.2, hxn]
section
variable {k mb ck : Nat} {es : Array MapEntry} {fb : Nm → Nat} {fs : List (Nm × AFile)}
theorem map_check {n : Nm} (hn : n.length ≤ maxLen) (em : Bool) : (Instr.checkKey em 10000 9 (str n)).run Tryz.prog w = .ok () w := strK.check w em (keyStr hn)
theorem look_hit (M : MapAt w c k mb es ck fb fs) (hr : fs.Pairwise fun x y => x.1 < y.1) {n : Nm} (hn : n.length ≤ maxLen) {f : AFile} (hg : get fs n = some f) :
    (Instr.lookup 117 (.map (some mb)) (str n) false).run Tryz.prog w = .ok (ptr (fb n)) w := by
  rcases map_find M hr hn with ⟨h0, _⟩ | ⟨f', j, e, h0, h1, h2, h3, h4⟩
  · rw [h0] at hg; cases hg
  · simp [Instr.lookup, run_underlying Tryz.underlying117, MapKept.run_getObj_map M.heap, map_check hn, h1, Result.andThen]
theorem look_miss (M : MapAt w c k mb es ck fb fs) (hr : fs.Pairwise fun x y => x.1 < y.1) {n : Nm} (hn : n.length ≤ maxLen) (hg : get fs n = none) :
    (Instr.lookup 117 (.map (some mb)) (str n) false).run Tryz.prog w = .ok (.pointer none) w := by
  rcases map_find M hr hn with ⟨_, h1, _⟩ | ⟨f', j, e, h0, h1, h2, h3, h4⟩
  · simp [Instr.lookup, run_underlying Tryz.underlying117, MapKept.run_getObj_map M.heap, map_check hn, h1, Result.andThen]
  · rw [h0] at hg; cases hg
theorem store_new (M : MapAt w c k mb es ck fb fs) (hr : fs.Pairwise fun x y => x.1 < y.1) {n : Nm} (hn : n.length ≤ maxLen) (hg : get fs n = none) (v : Value) :
    (Instr.mapUpdate 117 (.map (some mb)) (str n) v).run Tryz.prog w = .ok () { w with heap := w.heap.setIfInBounds mb (.map (es.push ⟨str n, v, ck⟩) (ck + 1)) } := by
  rcases map_find M hr hn with ⟨_, h1, _⟩ | ⟨f', j, e, h0, h1, h2, h3, h4⟩
  · simp [Instr.mapUpdate, run_underlying Tryz.underlying117, MapKept.run_getObj_map M.heap, map_check hn, h1, MapKept.run_setObj_map _ M.heap, Result.andThen]
  · rw [h0] at hg; cases hg
theorem store_old (M : MapAt w c k mb es ck fb fs) (hr : fs.Pairwise fun x y => x.1 < y.1) {n : Nm} (hn : n.length ≤ maxLen) {f : AFile} (hg : get fs n = some f) (v : Value) :
    ∃ j e, es.toList[j]? = some e ∧ e.key = str n ∧ e.val = ptr (fb n) ∧
    (Instr.mapUpdate 117 (.map (some mb)) (str n) v).run Tryz.prog w = .ok () { w with heap := w.heap.setIfInBounds mb (.map (es.modify j (fun e => { e with key := str n, val := v })) ck) } := by
  rcases map_find M hr hn with ⟨h0, h1, _⟩ | ⟨f', j, e, h0, h1, h2, h3, h4⟩
  · rw [h0] at hg; cases hg
  · have hj : es[j]? = some e := by simpa using h2
    refine ⟨j, e, h2, h3, h4, ?_⟩
    simp [Instr.mapUpdate, run_underlying Tryz.underlying117, MapKept.run_getObj_map M.heap, map_check hn, h1, hj, h3, strK.stays w (keyStr hn), MapKept.run_setObj_map _ M.heap, Result.andThen]
end
end Go.Proofs.YtnifmoigalmcmaaGreat
