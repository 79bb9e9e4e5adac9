/- How bytes, batches and lists of batches that came in lie in memory. -/
import Derived.Test.YtnifmoigalmcmaaGreatYo
import Derived.Test.YtnifmoigalmcmaaGreatRows
import Derived.Deep.Slices
import Derived.Test.YtnifmoigalmcmaaGreatVq
namespace Go.Proofs.YtnifmoigalmcmaaGreat
open Go Go.RowKit Go.MapKept Go.Maps Go.ChangeShapes Go.WideShapes Go.Deep
open Wl
def big : Nat := 1048576
/-- A list of batches that came in. -/
def LogW (w : World) (c : Col) (q : Nat × Nat) (v : Value) (l : List (List Bs)) : Prop :=
  ∃ xs, Sw w c q v xs ∧ xs.length = l.length ∧ ∀ (i : Nat) x y, xs[i]? = some x → l[i]? = some y → BatW w c q q x y
theorem LogW.kp {c c' : Col} {w w' : World} {S : Nat × Nat → Prop} {q : Nat × Nat} {v : Value} {l : List (List Bs)} (h : LogW w c q v l) (hk : Kp c S w w') (h1 : ¬ S q) (hc : Cx w c c') : LogW w' c' q v l := by
  obtain ⟨xs, a, b, d⟩ := h
  exact ⟨xs, a.kp hk h1 hc, b, fun i x y hx hy => (d i x y hx hy).kp hk h1 h1 hc⟩
theorem spot_of_cell {w : World} {a : Addr} {v : Value} (h : w.cell? a = some v) : a.spot = none := by
  cases hs : a.spot with
  | none => rfl
  | some s =>
    exfalso
    unfold World.cell? at h
    split at h
    · simp [hs] at h
    · cases h
section
variable {H : Type} {enc : TypeId × Value → H} {w : World} {base : Nat} {held : Bool}
theorem sw_of {v : Value} {a : Addr} {cap : Nat} {xs : List Value} (hv : v = .slice (some a) xs.length cap) (hl : xs.length ≤ cap) (hm : cap ≤ maxLen) (hc : ∀ (j : Nat) u, xs[j]? = some u → w.cell? (a.add j) = some u) : Sw w c00 (0, 0) v xs := by
  refine ⟨some a, cap, hv, hl, hm, (fun h => by cases h), fun ad had j u hj => ?_⟩
  cases had
  have h0 : ∃ u0, xs[0]? = some u0 := by
    have := (List.getElem?_eq_some_iff.1 hj).1
    exact ⟨xs[0]'(by omega), List.getElem?_eq_getElem _⟩
  obtain ⟨u0, h0⟩ := h0
  have hs : a.spot = none := by
    have := spot_of_cell (hc 0 u0 h0)
    simpa [Addr.add] using this
  exact ⟨hs, rfl, by have := hc j u hj; rwa [add_eq hs] at this⟩
theorem cells_u8 : Tryz.prog.cellsOf 5 = 1 := by kernel_rfl
theorem lits_length (k : IntKind) (l : List Int) : (lits (H := H) k l).length = l.length := by simp [lits]
theorem bulk_slice (elems spare : List (DataW H)) : elems.length + 1 ≤ Rows.uptoBulk (.slice elems spare) := by
  have h1 : ∀ l : List (DataW H), l.length ≤ Rows.uptoBulkAll l := by
    intro l
    induction l with
    | nil => simp [Rows.uptoBulkAll]
    | cons x r ih =>
      have h2 : 1 ≤ Rows.uptoBulk x := by
        cases x with
        | lit l => cases l <;> simp [Rows.uptoBulk]
        | nil => simp [Rows.uptoBulk]
        | ptr d => simp [Rows.uptoBulk]
        | slice elems spare => simp [Rows.uptoBulk]
        | agg parts => simp [Rows.uptoBulk]
        | iface t d => simp [Rows.uptoBulk]
        | map entries => simp [Rows.uptoBulk]
        | held h => simp [Rows.uptoBulk]
      simp only [Rows.uptoBulkAll, List.length_cons]; omega
  have := h1 elems
  simp only [Rows.uptoBulk]
  omega
theorem read_bytes {fuel : Nat} {v : Value} {x : DataW H × List MemPlace} (h : DataW.trod enc Tryz.prog w base (fun _ => true) held fuel 41 [v] = some x) : ∃ l : List UInt8, Sw w c00 (0, 0) v (l.map bv) ∧ l.length + 1 ≤ max 1 (Rows.uptoBulk x.1) := by
  rcases open_ints Tryz.underlying41 Tryz.underlying5 cells_u8 h with ⟨hcs, rfl⟩ | ⟨a, len, cap, zs, hcs, _, hl, hm, hz, rfl, hcell, hwf⟩
  · injection hcs with hcs _; subst hcs
    exact ⟨[], ⟨none, 0, rfl, Nat.le_refl _, by simp [maxLen], (fun _ => rfl), (fun _ h => by cases h)⟩, Nat.le_max_left _ _⟩
  · injection hcs with hcs _; subst hcs
    simp only [if_true] at hz
    have hlen : ((zs.take len).map fun n => UInt8.ofNat n.toNat).length = len := by simp; omega
    refine ⟨(zs.take len).map fun n => UInt8.ofNat n.toNat, sw_of (by rw [List.length_map, hlen]) (by rw [List.length_map, hlen]; exact hl) hm (fun j u hj => ?_), ?_⟩
    · rw [List.getElem?_map, List.getElem?_map] at hj
      cases hz2 : (zs.take len)[j]? with
      | none => rw [hz2] at hj; cases hj
      | some z =>
        rw [hz2] at hj
        simp only [Option.map_some, Option.some.injEq] at hj
        subst hj
        have hmem : z ∈ zs := List.mem_of_mem_take (List.mem_of_getElem? hz2)
        have hw := hwf z hmem
        rw [List.getElem?_take] at hz2
        split at hz2
        · have hj2 := (List.getElem?_eq_some_iff.1 hz2).1
          have hb : 0 ≤ z ∧ z ≤ 255 := by simpa [Lit.wf, IntKind.min, IntKind.max, IntKind.signed, IntKind.bits] using hw
          rw [hcell j hj2]
          have e : ((UInt8.ofNat z.toNat).toNat : Int) = z := by
            rw [UInt8.toNat_ofNat']; omega
          simp [List.getD, hz2, bv]
          omega
        · cases hz2
    · have := bulk_slice (lits (H := H) .u8 (zs.take len)) (lits .u8 (zs.drop len))
      rw [lits_length] at this
      rw [hlen]
      have e : (zs.take len).length = len := by simp; omega
      show _ ≤ max 1 (Rows.uptoBulk (.slice (lits .u8 (zs.take len)) (lits .u8 (zs.drop len))))
      omega
theorem bulk_part {d : DataW H} {l : List (DataW H)} (h : d ∈ l) : Rows.uptoBulk d ≤ Rows.uptoBulkAll l := by
  induction l with
  | nil => cases h
  | cons x r ih =>
    simp only [Rows.uptoBulkAll]
    cases List.mem_cons.1 h with
    | inl e => subst e; omega
    | inr e => have := ih e; omega
theorem lim_of {n b : Nat} (h : n + 1 ≤ max 1 b) (hb : b ≤ big) : n ≤ lim := by unfold big at hb; unfold lim; omega
theorem big_of {n b : Nat} (h : n + 1 ≤ max 1 b) (hb : b ≤ big) : n ≤ big := by unfold big at hb ⊢; omega
theorem cells_bytes : Tryz.prog.cellsOf 41 = 1 := by kernel_rfl
theorem cells_batch : Tryz.prog.cellsOf 40 = 1 := by kernel_rfl
/-- A slice of elements of one cell, each of which reads as some x with p. -/
theorem read_each {α : Type} [Inhabited α] {t e : TypeId} {p : Value → α → Prop} (ht : Tryz.prog.underlying t = some (.slice e)) (he : Tryz.prog.cellsOf e = 1) {fuel : Nat} {v : Value} {x : DataW H × List MemPlace} (h : DataW.trod enc Tryz.prog w base (fun _ => true) held fuel t [v] = some x) (hb : Rows.uptoBulk x.1 ≤ big)
    (hp : ∀ fuel v x, DataW.trod enc Tryz.prog w base (fun _ => true) held fuel e [v] = some x → Rows.uptoBulk x.1 ≤ big → ∃ y, p v y) : ∃ (xs : List Value) (l : List α), Sw w c00 (0, 0) v xs ∧ xs.length = l.length ∧ (∀ (i : Nat) u y, xs[i]? = some u → l[i]? = some y → p u y) ∧ l.length ≤ big := by
  rcases open_slice1 ht he h with ⟨hcs, rfl⟩ | ⟨a, len, cap, m, n, V, D, Pl, hcs, _, hl, hm, hmm, rfl, hx⟩
  · injection hcs with hcs _; subst hcs
    exact ⟨[], [], ⟨none, 0, rfl, Nat.le_refl _, by simp [maxLen], (fun _ => rfl), (fun _ h => by cases h)⟩, rfl, fun i u y h => by simp at h, by simp⟩
  · injection hcs with hcs _; subst hcs
    simp only [if_true] at hmm
    subst hmm
    have hb2 : Rows.uptoBulk (.slice ((List.range len).map D) ((List.range (m - len)).map fun j => D (len + j))) ≤ big := hb
    have hlen := bulk_slice ((List.range len).map D) ((List.range (m - len)).map fun j => D (len + j))
    simp only [List.length_map, List.length_range] at hlen
    have hall : Rows.uptoBulkAll ((List.range len).map D) ≤ big := by
      simp only [Rows.uptoBulk] at hb2
      omega
    obtain ⟨f, hf⟩ := choose_lt (α := α) (n := len) (p := fun i y => p (V i) y) (fun i hi =>
      hp _ _ _ (hx i (by omega)).2 (Nat.le_trans (bulk_part (List.mem_map.2 ⟨i, List.mem_range.2 hi, rfl⟩)) hall))
    have hxl : ((List.range len).map V).length = len := by simp
    refine ⟨(List.range len).map V, (List.range len).map f, sw_of (by rw [hxl]) (by rw [hxl]; exact hl) hm (fun j u hj => ?_), by simp, fun i u y hi hj => ?_, by simp; omega⟩
    · rw [List.getElem?_map] at hj
      have hlt : j < len := by
        by_cases h : j < len
        · exact h
        · rw [List.getElem?_eq_none (by simp; omega)] at hj; cases hj
      rw [List.getElem?_range hlt] at hj
      simp only [Option.map_some, Option.some.injEq] at hj
      subst hj
      exact (hx j (by omega)).1
    · rw [List.getElem?_map] at hi hj
      have hlt : i < len := by
        by_cases h : i < len
        · exact h
        · rw [List.getElem?_eq_none (by simp; omega)] at hj; cases hj
      rw [List.getElem?_range hlt] at hi hj
      simp only [Option.map_some, Option.some.injEq] at hi hj
      subst hi hj
      exact hf i hlt
theorem forall_of_index {α β : Type} {p : α → Prop} {xs : List β} {l : List α} (hl : xs.length = l.length) (h : ∀ (i : Nat) u y, xs[i]? = some u → l[i]? = some y → p y) : ∀ y ∈ l, p y := fun y hy => by
  obtain ⟨i, hi, rfl⟩ := List.getElem_of_mem hy
  exact h i (xs[i]'(by omega)) _ (List.getElem?_eq_getElem _) (List.getElem?_eq_getElem hi)
theorem read_batch {fuel : Nat} {v : Value} {x : DataW H × List MemPlace} (h : DataW.trod enc Tryz.prog w base (fun _ => true) held fuel 40 [v] = some x) (hb : Rows.uptoBulk x.1 ≤ big) :
    ∃ l : List Bs, BatW w c00 (0, 0) (0, 0) v l ∧ l.length ≤ big ∧ ∀ r ∈ l, r.length ≤ big := by
  obtain ⟨xs, l, h1, h2, h3, h4⟩ := read_each (α := Bs) (p := fun u y => Sw w c00 (0, 0) u (y.map bv) ∧ y.length ≤ big) Tryz.underlying40 cells_bytes h hb (fun fuel v x h hb => by
    obtain ⟨y, hy, hl⟩ := read_bytes h
    exact ⟨y, hy, big_of hl hb⟩)
  exact ⟨l, ⟨xs, h1, h2, fun i u y hu hy => (h3 i u y hu hy).1⟩, h4, forall_of_index h2 (fun i u y hu hy => (h3 i u y hu hy).2)⟩
end
end Go.Proofs.YtnifmoigalmcmaaGreat
/- wal.records: a batch's records, one by one, with what they hold: its iterator's contract. -/
namespace Go.Proofs.YtnifmoigalmcmaaGreat
open Go Go.RowKit Go.MapKept Go.Maps Go.Shelf
open Wl
attribute [local go_sem] Oper.semAt_some
variable {c c' : Col} {w w' : World}
/-- A record in memory that no round turns. -/
def RecX (Bx : Nat → Prop) (W : World) (v : Value) (r : Bs) : Prop :=
  ∃ a cap, v = .slice a r.length cap ∧ r.length ≤ cap ∧ cap ≤ maxLen ∧ (a = none → cap = 0) ∧ ∀ ad, a = some ad → r.length ≠ 0 → ad.spot = none ∧ ¬ Bx ad.block ∧ ∃ cs t fz, W.heap[ad.block]? = some (.cells cs t fz) ∧ ∀ (j : Nat) u, (r.map bv)[j]? = some u → cs[ad.off + j]? = some u
theorem RecX.kpx {Bx : Nat → Prop} {v : Value} {r : Bs} (h : RecX Bx w v r) (hk : KpX Bx w w') : RecX Bx w' v r := by
  obtain ⟨a, cap, e, h1, h2, h3, h4⟩ := h
  refine ⟨a, cap, e, h1, h2, h3, fun ad had hr => ?_⟩
  obtain ⟨s0, nb, cs, t, fz, hh, hc⟩ := h4 ad had hr
  exact ⟨s0, nb, cs, t, fz, hk.2 _ cs t fz hh nb, hc⟩
theorem RecX.sw {Bx : Nat → Prop} {v : Value} {r : Bs} (h : RecX Bx w v r) : Sw w c00 (0, 0) v (r.map bv) := by
  obtain ⟨a, cap, e, h1, h2, h3, h4⟩ := h
  refine ⟨a, cap, by rw [List.length_map]; exact e, by rw [List.length_map]; exact h1, h2, h3, fun ad had j u hj => ?_⟩
  have hr : r.length ≠ 0 := fun h0 => by
    have : r = [] := List.eq_nil_of_length_eq_zero h0
    subst this; simp at hj
  obtain ⟨s0, _, cs, t, fz, hh, hc⟩ := h4 ad had hr
  exact ⟨s0, rfl, (cell_of_heap hh _).trans (hc j u hj)⟩
theorem isCells_of_cell {W : World} {a : Addr} {u : Value} {o : Obj} (h : W.cell? a = some u) (ho : W.heap[a.block]? = some o) : o.isCells = true := by
  unfold World.cell? at h
  split at h
  · rename_i heq
    rw [ho] at heq
    cases heq
    rfl
  · cases h
/-- What an element holds, and that no book-keeping turns it. -/
def HoldsR (x : Value × Bs) (W : World) : Prop := Sw W c00 (0, 0) x.1 (x.2.map bv)
theorem holdsR_own (B : Nat) : OwnFrom B HoldsR := fun x W W' row h hg hr => by
  obtain ⟨a, cap, e, h1, h2, h3, h4⟩ := h
  refine ⟨a, cap, e, h1, h2, h3, fun ad had j u hj => ?_⟩
  obtain ⟨s0, c0, hc⟩ := h4 ad had j u hj
  refine ⟨s0, c0, (World.cell?_of_block (hg.block _ (World.block_lt_of_cell? _ _ hc) (fun e' => ?_))).trans hc⟩
  obtain ⟨_, o, ho, hoc⟩ := hr _ e'.symm
  have := isCells_of_cell hc ho
  rw [hoc] at this; cases this
/-- The pairs of a batch's elements and records. -/
def Pairs (Bx : Nat → Prop) (w : World) (v : Value) (L : List (Value × Bs)) : Prop :=
  ∃ a cap, v = .slice a L.length cap ∧ (L.length : Int) ≤ 1000000000 ∧ (0 < L.length → ∃ g o cs t fz, a = some ⟨g, o, none⟩ ∧ ¬ Bx g ∧ w.heap[g]? = some (.cells cs t fz) ∧ ∀ j x, L[j]? = some x → cs[o + j]? = some x.1) ∧ ∀ x ∈ L, RecX Bx w x.1 x.2
theorem Pairs.kpx {Bx : Nat → Prop} {v : Value} {L : List (Value × Bs)} (h : Pairs Bx w v L) (hk : KpX Bx w w') : Pairs Bx w' v L := by
  obtain ⟨a, cap, e, h1, h3, h4⟩ := h
  refine ⟨a, cap, e, h1, fun h0 => ?_, fun x hx => (h4 x hx).kpx hk⟩
  obtain ⟨g, o, cs, t, fz, e1, e2, e3, e4⟩ := h3 h0
  exact ⟨g, o, cs, t, fz, e1, e2, hk.2 g cs t fz e3 e2, e4⟩
set_option maxRecDepth 100000 in
set_option maxHeartbeats 4000000 in
theorem recsq_in (n : Nat) (hn : 1 ≤ n) (l Bn B0 : Nat) (v : Value) (L : List (Value × Bs)) (Bx : Nat → Prop) (J Jx : List (Value × Bs) → World → Prop)
    (hY : ∀ pre x W, J pre W → pre.length < L.length → HoldsR x W → YieldAt Fence.wide (n - 1) Tryz.prog l #[x.1] W fun e W' =>
      (e = .returned (.bool true) ∧ J (pre ++ [x]) W' ∧ KpX Bx W W' ∧ KeepsFrom B0 W W') ∨ (e = .returned (.bool false) ∧ Jx (pre ++ [x]) W' ∧ KeepsFrom B0 W W'))
    (W : World) (hBn : W.cell? ⟨Bn, 0, none⟩ = some v) (hJ : OwnFrom W.heap.size J) (HV : Pairs Bx W v L) (h0 : J [] W) :
    CallsIn Fence.wide n Tryz.prog 171 #[.func (.yield l) #[] #[], .pointer (some ⟨Bn, 0, none⟩)] W fun e W' => (∃ v, e = .returned v) ∧
      ((∃ ys, ys = L ∧ J ys W') ∨ (∃ pre, pre <+: L ∧ Jx pre W')) := by
  obtain ⟨a, cap, rfl, h1, h3, h4⟩ := HV
  have HJ := Lib.hid hJ; clear hJ
  have H0 := Lib.hid h0; clear h0
  have HYY := Lib.hid hY; clear hY
  have H3 := Lib.hid h3; have H4 := Lib.hid h4; clear h3 h4
  refine callsIn_of_wp Tryz.func171 rfl trivial ?_ rfl
  simp only [Tryz.ntmps171, List.size_toArray, List.length_cons, List.length_nil, Nat.reduceAdd, Nat.reduceSub, Array.replicate_succ, Array.replicate_zero, List.push_toArray, List.append_toArray, List.nil_append, List.cons_append]
  gi_wp2
  gi_loopw [7] (fun s wr => ∃ j : Nat, j ≤ L.length ∧ s = .int .i64 j ∧ J (L.take j) wr ∧ Pairs Bx wr (.slice a L.length cap) L) (fun s _ => L.length - (intOf s).toNat)
  case atStart => exact ⟨0, Nat.zero_le _, rfl, H0.out, a, cap, rfl, h1, H3.out, H4.out⟩
  case round =>
    obtain ⟨j, hj, rfl, hJs, hHs⟩ := hrel
    by_cases hlt : j < L.length
    · obtain ⟨x, hx⟩ : ∃ x, L[j]? = some x := ⟨L[j], List.getElem?_eq_getElem hlt⟩
      obtain ⟨a', cap', e', -, hd, hrx⟩ := id hHs
      injection e' with e1 e2 e3
      subst e1 e3
      clear e2
      obtain ⟨g, o, cs, t, fz, rfl, -, hh, hc⟩ := hd (by omega)
      have c1 := hc j x hx
      have hrec := hrx x (List.mem_of_getElem? hx)
      have hsw := hrec.sw
      obtain ⟨ad, kd, ev, -⟩ := id hrec
      obtain ⟨xv, r⟩ := x
      simp only at ev c1 hsw
      subst ev
      have g1 : wr.cell? ⟨g, o + j, none⟩ = some (.slice ad r.length kd) := (cell_of_heap hh _).trans c1
      have HHs := Lib.hid hHs; clear hHs
      have htk : L.take (j + 1) = L.take j ++ [(.slice ad r.length kd, r)] := by rw [List.take_add_one, hx]; rfl
      have HTK := Lib.hid htk; clear htk
      obtain ⟨fn, tmps, assign, body, hy, hR⟩ := HYY.out (L.take j) (.slice ad r.length kd, r) _ hJs (by rw [List.length_take]; omega) hsw
      clear hh hc c1 hd hJs hx hrx hrec hsw
      gi_wp2
      refine hR.mono ?_
      rintro e W3 (⟨rfl, hJ3, hk3, -⟩ | ⟨rfl, hJx3, -⟩)
      · rw [← HTK.out] at hJ3
        have HJ3 := Lib.hid hJ3; clear hJ3
        have HK3 := Lib.hid hk3; clear hk3
        clear hy g1 hR
        gi_wp2
        go_roundw
        case rel => exact ⟨j + 1, by omega, by go_num, HJ3.out, HHs.out.kpx HK3.out⟩
        case measure => simp [intOf]; omega
      · rw [← HTK.out] at hJx3
        have HJ3 := Lib.hid hJx3; clear hJx3
        clear hy g1 hR
        gi_wp2
        refine bodyPost_ret (results_none rfl _ _ _) rfl ?_
        exact ⟨⟨_, rfl⟩, .inr ⟨L.take (j + 1), List.take_prefix _ _, HJ3.out⟩⟩
    · have HJ3 := Lib.hid hJs; clear hJs
      clear hHs
      obtain rfl : j = L.length := by omega
      gi_wp2
      go_end0
      have := HJ3.out
      rw [List.take_length] at this
      exact ⟨⟨_, rfl⟩, .inl ⟨L, rfl, this⟩⟩
/-- A batch's records, handed on one by one, with what they hold. -/
theorem recsq_stops (n : Nat) (hn : 1 ≤ n) (Bn : Nat) (v : Value) (L : List (Value × Bs)) (Bx : Nat → Prop) (w : World) (hBn : w.cell? ⟨Bn, 0, none⟩ = some v) (HV : ∀ W, Below w.heap.size w W → Pairs Bx W v L) :
    SeqStopsQ Fence.wide n Tryz.prog 171 #[.pointer (some ⟨Bn, 0, none⟩)] (fun x : Value × Bs => #[x.1]) HoldsR (KpX Bx) (fun ys => ys = L) (fun pre => pre <+: L) L.length w := fun l J Jx W hW hJ _ hY h0 =>
  recsq_in n hn l Bn W.heap.size v L Bx J Jx hY W ((hW.cell (p := ⟨Bn, 0, none⟩) (World.block_lt_of_cell? _ _ hBn)).trans hBn) hJ (HV W hW) h0
end Go.Proofs.YtnifmoigalmcmaaGreat
