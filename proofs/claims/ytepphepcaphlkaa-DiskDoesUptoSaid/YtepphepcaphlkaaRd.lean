/- How a slice of operations that came in lies in memory. -/
import Derived.Test.YtepphepcaphlkaaFew
import Derived.Test.YtepphepcaphlkaaRows
import Derived.Deep.Slices
namespace Go.Proofs.Ytepphepcaphlkaa
open Go Go.RowKit Go.MapKept Go.Maps Go.ChangeShapes Go.WideShapes Go.Deep
open Dk
abbrev c00 : Col := fun _ => (0, 0)
theorem spot_of_cell {w : World} {a : Addr} {v : Value} (h : w.cell? a = some v) : a.spot = none := by
  cases hs : a.spot with
  | none => rfl
  | some s =>
    exfalso
    unfold World.cell? at h
    split at h
    · simp [hs] at h
    · cases h
section
variable {H : Type} {enc : TypeId × Value → H} {w : World} {base : Nat} {held : Bool}
theorem sw_of {v : Value} {a : Addr} {cap : Nat} {xs : List Value} (hv : v = .slice (some a) xs.length cap) (hl : xs.length ≤ cap) (hm : cap ≤ maxLen) (hc : ∀ (j : Nat) u, xs[j]? = some u → w.cell? (a.add j) = some u) : Sw w c00 (0, 0) v xs := by
  refine ⟨some a, cap, hv, hl, hm, (fun h => by cases h), fun ad had j u hj => ?_⟩
  cases had
  have h0 : ∃ u0, xs[0]? = some u0 := by
    have := (List.getElem?_eq_some_iff.1 hj).1
    exact ⟨xs[0]'(by omega), List.getElem?_eq_getElem _⟩
  obtain ⟨u0, h0⟩ := h0
  have hs : a.spot = none := by
    have := spot_of_cell (hc 0 u0 h0)
    simpa [Addr.add] using this
  exact ⟨hs, rfl, by have := hc j u hj; rwa [add_eq hs] at this⟩
theorem cells_u8 : Try.prog.cellsOf 5 = 1 := by kernel_rfl
theorem cells_int : Try.prog.cellsOf 3 = 1 := by kernel_rfl
theorem lits_length (k : IntKind) (l : List Int) : (lits (H := H) k l).length = l.length := by simp [lits]
theorem bulk_slice (elems spare : List (DataW H)) : elems.length + 1 ≤ Rows.uptoBulk (.slice elems spare) := by
  have h1 : ∀ l : List (DataW H), l.length ≤ Rows.uptoBulkAll l := by
    intro l
    induction l with
    | nil => simp [Rows.uptoBulkAll]
    | cons x r ih =>
      have h2 : 1 ≤ Rows.uptoBulk x := by
        cases x with
        | lit l => cases l <;> simp [Rows.uptoBulk]
        | nil => simp [Rows.uptoBulk]
        | ptr d => simp [Rows.uptoBulk]
        | slice elems spare => simp [Rows.uptoBulk]
        | agg parts => simp [Rows.uptoBulk]
        | iface t d => simp [Rows.uptoBulk]
        | map entries => simp [Rows.uptoBulk]
        | held h => simp [Rows.uptoBulk]
      simp only [Rows.uptoBulkAll, List.length_cons]; omega
  have := h1 elems
  simp only [Rows.uptoBulk]
  omega
theorem read_ints {fuel : Nat} {v : Value} {x : DataW H × List MemPlace} (h : DataW.trod enc Try.prog w base (fun _ => true) held fuel 27 [v] = some x) : ∃ l : List Int, Sw w c00 (0, 0) v (l.map iv) ∧ l.length + 1 ≤ max 1 (Rows.uptoBulk x.1) := by
  rcases open_ints Try.underlying27 Try.underlying3 cells_int h with ⟨hcs, rfl⟩ | ⟨a, len, cap, zs, hcs, _, hl, hm, hz, rfl, hcell, _⟩
  · injection hcs with hcs _; subst hcs
    exact ⟨[], ⟨none, 0, rfl, Nat.le_refl _, by simp [maxLen], (fun _ => rfl), (fun _ h => by cases h)⟩, Nat.le_max_left _ _⟩
  · injection hcs with hcs _; subst hcs
    simp only [if_true] at hz
    have hlen : (zs.take len).length = len := by simp; omega
    refine ⟨zs.take len, sw_of (by rw [List.length_map, hlen]) (by rw [List.length_map, hlen]; exact hl) hm (fun j u hj => ?_), ?_⟩
    · rw [List.getElem?_map] at hj
      cases hz2 : (zs.take len)[j]? with
      | none => rw [hz2] at hj; cases hj
      | some z =>
        rw [hz2] at hj
        simp only [Option.map_some, Option.some.injEq] at hj
        subst hj
        rw [List.getElem?_take] at hz2
        split at hz2
        · have hj2 := (List.getElem?_eq_some_iff.1 hz2).1
          rw [hcell j hj2]; simp [List.getD, hz2, iv]
        · cases hz2
    · have := bulk_slice (lits (H := H) .i64 (zs.take len)) (lits .i64 (zs.drop len))
      rw [lits_length] at this
      show _ ≤ max 1 (Rows.uptoBulk (.slice (lits .i64 (zs.take len)) (lits .i64 (zs.drop len))))
      omega
theorem read_bytes {fuel : Nat} {v : Value} {x : DataW H × List MemPlace} (h : DataW.trod enc Try.prog w base (fun _ => true) held fuel 30 [v] = some x) : ∃ l : List UInt8, Sw w c00 (0, 0) v (l.map bv) ∧ l.length + 1 ≤ max 1 (Rows.uptoBulk x.1) := by
  rcases open_ints Try.underlying30 Try.underlying5 cells_u8 h with ⟨hcs, rfl⟩ | ⟨a, len, cap, zs, hcs, _, hl, hm, hz, rfl, hcell, hwf⟩
  · injection hcs with hcs _; subst hcs
    exact ⟨[], ⟨none, 0, rfl, Nat.le_refl _, by simp [maxLen], (fun _ => rfl), (fun _ h => by cases h)⟩, Nat.le_max_left _ _⟩
  · injection hcs with hcs _; subst hcs
    simp only [if_true] at hz
    have hlen : ((zs.take len).map fun n => UInt8.ofNat n.toNat).length = len := by simp; omega
    refine ⟨(zs.take len).map fun n => UInt8.ofNat n.toNat, sw_of (by rw [List.length_map, hlen]) (by rw [List.length_map, hlen]; exact hl) hm (fun j u hj => ?_), ?_⟩
    · rw [List.getElem?_map, List.getElem?_map] at hj
      cases hz2 : (zs.take len)[j]? with
      | none => rw [hz2] at hj; cases hj
      | some z =>
        rw [hz2] at hj
        simp only [Option.map_some, Option.some.injEq] at hj
        subst hj
        have hmem : z ∈ zs := List.mem_of_mem_take (List.mem_of_getElem? hz2)
        have hw := hwf z hmem
        rw [List.getElem?_take] at hz2
        split at hz2
        · have hj2 := (List.getElem?_eq_some_iff.1 hz2).1
          have hb : 0 ≤ z ∧ z ≤ 255 := by simpa [Lit.wf, IntKind.min, IntKind.max, IntKind.signed, IntKind.bits] using hw
          rw [hcell j hj2]
          have e : ((UInt8.ofNat z.toNat).toNat : Int) = z := by
            rw [UInt8.toNat_ofNat']; omega
          simp [List.getD, hz2, bv]
          omega
        · cases hz2
    · have := bulk_slice (lits (H := H) .u8 (zs.take len)) (lits .u8 (zs.drop len))
      rw [lits_length] at this
      rw [hlen]
      have e : (zs.take len).length = len := by simp; omega
      show _ ≤ max 1 (Rows.uptoBulk (.slice (lits .u8 (zs.take len)) (lits .u8 (zs.drop len))))
      omega
end
end Go.Proofs.Ytepphepcaphlkaa
