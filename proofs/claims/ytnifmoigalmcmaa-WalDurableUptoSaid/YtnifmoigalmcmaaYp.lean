/- How bytes, batches and lists of batches that came in lie in memory. -/
import Derived.Test.YtnifmoigalmcmaaYo
import Derived.Test.YtnifmoigalmcmaaRows
import Derived.Deep.Slices
namespace Go.Proofs.Ytnifmoigalmcmaa
open Go Go.RowKit Go.MapKept Go.Maps Go.ChangeShapes Go.WideShapes Go.Deep
open Wl
def big : Nat := 1048576
/-- A list of batches that came in. -/
def LogW (w : World) (c : Col) (q : Nat × Nat) (v : Value) (l : List (List Bs)) : Prop :=
  ∃ xs, Sw w c q v xs ∧ xs.length = l.length ∧ ∀ (i : Nat) x y, xs[i]? = some x → l[i]? = some y → BatW w c q q x y
theorem LogW.kp {c c' : Col} {w w' : World} {S : Nat × Nat → Prop} {q : Nat × Nat} {v : Value} {l : List (List Bs)} (h : LogW w c q v l) (hk : Kp c S w w') (h1 : ¬ S q) (hc : Cx w c c') : LogW w' c' q v l := by
  obtain ⟨xs, a, b, d⟩ := h
  exact ⟨xs, a.kp hk h1 hc, b, fun i x y hx hy => (d i x y hx hy).kp hk h1 h1 hc⟩
theorem spot_of_cell {w : World} {a : Addr} {v : Value} (h : w.cell? a = some v) : a.spot = none := by
  cases hs : a.spot with
  | none => rfl
  | some s =>
    exfalso
    unfold World.cell? at h
    split at h
    · simp [hs] at h
    · cases h
section
variable {H : Type} {enc : TypeId × Value → H} {w : World} {base : Nat} {held : Bool}
theorem sw_of {v : Value} {a : Addr} {cap : Nat} {xs : List Value} (hv : v = .slice (some a) xs.length cap) (hl : xs.length ≤ cap) (hm : cap ≤ maxLen) (hc : ∀ (j : Nat) u, xs[j]? = some u → w.cell? (a.add j) = some u) : Sw w c00 (0, 0) v xs := by
  refine ⟨some a, cap, hv, hl, hm, (fun h => by cases h), fun ad had j u hj => ?_⟩
  cases had
  have h0 : ∃ u0, xs[0]? = some u0 := by
    have := (List.getElem?_eq_some_iff.1 hj).1
    exact ⟨xs[0]'(by omega), List.getElem?_eq_getElem _⟩
  obtain ⟨u0, h0⟩ := h0
  have hs : a.spot = none := by
    have := spot_of_cell (hc 0 u0 h0)
    simpa [Addr.add] using this
  exact ⟨hs, rfl, by have := hc j u hj; rwa [add_eq hs] at this⟩
theorem cells_u8 : Try.prog.cellsOf 5 = 1 := by kernel_rfl
theorem lits_length (k : IntKind) (l : List Int) : (lits (H := H) k l).length = l.length := by simp [lits]
theorem bulk_slice (elems spare : List (DataW H)) : elems.length + 1 ≤ Rows.uptoBulk (.slice elems spare) := by
  have h1 : ∀ l : List (DataW H), l.length ≤ Rows.uptoBulkAll l := by
    intro l
    induction l with
    | nil => simp [Rows.uptoBulkAll]
    | cons x r ih =>
      have h2 : 1 ≤ Rows.uptoBulk x := by
        cases x with
        | lit l => cases l <;> simp [Rows.uptoBulk]
        | nil => simp [Rows.uptoBulk]
        | ptr d => simp [Rows.uptoBulk]
        | slice elems spare => simp [Rows.uptoBulk]
        | agg parts => simp [Rows.uptoBulk]
        | iface t d => simp [Rows.uptoBulk]
        | map entries => simp [Rows.uptoBulk]
        | held h => simp [Rows.uptoBulk]
      simp only [Rows.uptoBulkAll, List.length_cons]; omega
  have := h1 elems
  simp only [Rows.uptoBulk]
  omega
theorem read_bytes {fuel : Nat} {v : Value} {x : DataW H × List MemPlace} (h : DataW.trod enc Try.prog w base (fun _ => true) held fuel 23 [v] = some x) : ∃ l : List UInt8, Sw w c00 (0, 0) v (l.map bv) ∧ l.length + 1 ≤ max 1 (Rows.uptoBulk x.1) := by
  rcases open_ints Try.underlying23 Try.underlying5 cells_u8 h with ⟨hcs, rfl⟩ | ⟨a, len, cap, zs, hcs, _, hl, hm, hz, rfl, hcell, hwf⟩
  · injection hcs with hcs _; subst hcs
    exact ⟨[], ⟨none, 0, rfl, Nat.le_refl _, by simp [maxLen], (fun _ => rfl), (fun _ h => by cases h)⟩, Nat.le_max_left _ _⟩
  · injection hcs with hcs _; subst hcs
    simp only [if_true] at hz
    have hlen : ((zs.take len).map fun n => UInt8.ofNat n.toNat).length = len := by simp; omega
    refine ⟨(zs.take len).map fun n => UInt8.ofNat n.toNat, sw_of (by rw [List.length_map, hlen]) (by rw [List.length_map, hlen]; exact hl) hm (fun j u hj => ?_), ?_⟩
    · rw [List.getElem?_map, List.getElem?_map] at hj
      cases hz2 : (zs.take len)[j]? with
      | none => rw [hz2] at hj; cases hj
      | some z =>
        rw [hz2] at hj
        simp only [Option.map_some, Option.some.injEq] at hj
        subst hj
        have hmem : z ∈ zs := List.mem_of_mem_take (List.mem_of_getElem? hz2)
        have hw := hwf z hmem
        rw [List.getElem?_take] at hz2
        split at hz2
        · have hj2 := (List.getElem?_eq_some_iff.1 hz2).1
          have hb : 0 ≤ z ∧ z ≤ 255 := by simpa [Lit.wf, IntKind.min, IntKind.max, IntKind.signed, IntKind.bits] using hw
          rw [hcell j hj2]
          have e : ((UInt8.ofNat z.toNat).toNat : Int) = z := by
            rw [UInt8.toNat_ofNat']; omega
          simp [List.getD, hz2, bv]
          omega
        · cases hz2
    · have := bulk_slice (lits (H := H) .u8 (zs.take len)) (lits .u8 (zs.drop len))
      rw [lits_length] at this
      rw [hlen]
      have e : (zs.take len).length = len := by simp; omega
      show _ ≤ max 1 (Rows.uptoBulk (.slice (lits .u8 (zs.take len)) (lits .u8 (zs.drop len))))
      omega
theorem bulk_part {d : DataW H} {l : List (DataW H)} (h : d ∈ l) : Rows.uptoBulk d ≤ Rows.uptoBulkAll l := by
  induction l with
  | nil => cases h
  | cons x r ih =>
    simp only [Rows.uptoBulkAll]
    cases List.mem_cons.1 h with
    | inl e => subst e; omega
    | inr e => have := ih e; omega
theorem lim_of {n b : Nat} (h : n + 1 ≤ max 1 b) (hb : b ≤ big) : n ≤ lim := by unfold big at hb; unfold lim; omega
theorem big_of {n b : Nat} (h : n + 1 ≤ max 1 b) (hb : b ≤ big) : n ≤ big := by unfold big at hb ⊢; omega
theorem cells_bytes : Try.prog.cellsOf 23 = 1 := by kernel_rfl
theorem cells_batch : Try.prog.cellsOf 22 = 1 := by kernel_rfl
/-- A slice of elements of one cell, each of which reads as some x with p. -/
theorem read_each {α : Type} [Inhabited α] {t e : TypeId} {p : Value → α → Prop} (ht : Try.prog.underlying t = some (.slice e)) (he : Try.prog.cellsOf e = 1) {fuel : Nat} {v : Value} {x : DataW H × List MemPlace} (h : DataW.trod enc Try.prog w base (fun _ => true) held fuel t [v] = some x) (hb : Rows.uptoBulk x.1 ≤ big)
    (hp : ∀ fuel v x, DataW.trod enc Try.prog w base (fun _ => true) held fuel e [v] = some x → Rows.uptoBulk x.1 ≤ big → ∃ y, p v y) : ∃ (xs : List Value) (l : List α), Sw w c00 (0, 0) v xs ∧ xs.length = l.length ∧ (∀ (i : Nat) u y, xs[i]? = some u → l[i]? = some y → p u y) ∧ l.length ≤ big := by
  rcases open_slice1 ht he h with ⟨hcs, rfl⟩ | ⟨a, len, cap, m, n, V, D, Pl, hcs, _, hl, hm, hmm, rfl, hx⟩
  · injection hcs with hcs _; subst hcs
    exact ⟨[], [], ⟨none, 0, rfl, Nat.le_refl _, by simp [maxLen], (fun _ => rfl), (fun _ h => by cases h)⟩, rfl, fun i u y h => by simp at h, by simp⟩
  · injection hcs with hcs _; subst hcs
    simp only [if_true] at hmm
    subst hmm
    have hb2 : Rows.uptoBulk (.slice ((List.range len).map D) ((List.range (m - len)).map fun j => D (len + j))) ≤ big := hb
    have hlen := bulk_slice ((List.range len).map D) ((List.range (m - len)).map fun j => D (len + j))
    simp only [List.length_map, List.length_range] at hlen
    have hall : Rows.uptoBulkAll ((List.range len).map D) ≤ big := by
      simp only [Rows.uptoBulk] at hb2
      omega
    obtain ⟨f, hf⟩ := choose_lt (α := α) (n := len) (p := fun i y => p (V i) y) (fun i hi =>
      hp _ _ _ (hx i (by omega)).2 (Nat.le_trans (bulk_part (List.mem_map.2 ⟨i, List.mem_range.2 hi, rfl⟩)) hall))
    have hxl : ((List.range len).map V).length = len := by simp
    refine ⟨(List.range len).map V, (List.range len).map f, sw_of (by rw [hxl]) (by rw [hxl]; exact hl) hm (fun j u hj => ?_), by simp, fun i u y hi hj => ?_, by simp; omega⟩
    · rw [List.getElem?_map] at hj
      have hlt : j < len := by
        by_cases h : j < len
        · exact h
        · rw [List.getElem?_eq_none (by simp; omega)] at hj; cases hj
      rw [List.getElem?_range hlt] at hj
      simp only [Option.map_some, Option.some.injEq] at hj
      subst hj
      exact (hx j (by omega)).1
    · rw [List.getElem?_map] at hi hj
      have hlt : i < len := by
        by_cases h : i < len
        · exact h
        · rw [List.getElem?_eq_none (by simp; omega)] at hj; cases hj
      rw [List.getElem?_range hlt] at hi hj
      simp only [Option.map_some, Option.some.injEq] at hi hj
      subst hi hj
      exact hf i hlt
theorem forall_of_index {α β : Type} {p : α → Prop} {xs : List β} {l : List α} (hl : xs.length = l.length) (h : ∀ (i : Nat) u y, xs[i]? = some u → l[i]? = some y → p y) : ∀ y ∈ l, p y := fun y hy => by
  obtain ⟨i, hi, rfl⟩ := List.getElem_of_mem hy
  exact h i (xs[i]'(by omega)) _ (List.getElem?_eq_getElem _) (List.getElem?_eq_getElem hi)
theorem read_batch {fuel : Nat} {v : Value} {x : DataW H × List MemPlace} (h : DataW.trod enc Try.prog w base (fun _ => true) held fuel 22 [v] = some x) (hb : Rows.uptoBulk x.1 ≤ big) :
    ∃ l : List Bs, BatW w c00 (0, 0) (0, 0) v l ∧ l.length ≤ big ∧ ∀ r ∈ l, r.length ≤ big := by
  obtain ⟨xs, l, h1, h2, h3, h4⟩ := read_each (α := Bs) (p := fun u y => Sw w c00 (0, 0) u (y.map bv) ∧ y.length ≤ big) Try.underlying22 cells_bytes h hb (fun fuel v x h hb => by
    obtain ⟨y, hy, hl⟩ := read_bytes h
    exact ⟨y, hy, big_of hl hb⟩)
  exact ⟨l, ⟨xs, h1, h2, fun i u y hu hy => (h3 i u y hu hy).1⟩, h4, forall_of_index h2 (fun i u y hu hy => (h3 i u y hu hy).2)⟩
theorem read_log {fuel : Nat} {v : Value} {x : DataW H × List MemPlace} (h : DataW.trod enc Try.prog w base (fun _ => true) held fuel 38 [v] = some x) (hb : Rows.uptoBulk x.1 ≤ big) :
    ∃ l : List (List Bs), LogW w c00 (0, 0) v l ∧ l.length ≤ big ∧ ∀ b ∈ l, b.length ≤ big ∧ ∀ r ∈ b, r.length ≤ big := by
  obtain ⟨xs, l, h1, h2, h3, h4⟩ := read_each (α := List Bs) (p := fun u y => BatW w c00 (0, 0) (0, 0) u y ∧ y.length ≤ big ∧ ∀ r ∈ y, r.length ≤ big) Try.underlying38 cells_batch h hb (fun fuel v x h hb => by
    obtain ⟨y, hy, hl⟩ := read_batch h hb
    exact ⟨y, hy, hl⟩)
  exact ⟨l, ⟨xs, h1, h2, fun i u y hu hy => (h3 i u y hu hy).1⟩, h4, forall_of_index h2 (fun i u y hu hy => (h3 i u y hu hy).2)⟩
end
end Go.Proofs.Ytnifmoigalmcmaa
