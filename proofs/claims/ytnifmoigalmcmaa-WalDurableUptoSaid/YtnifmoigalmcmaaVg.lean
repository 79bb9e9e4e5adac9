/- How a plan that came in lies in memory. -/
import Derived.Test.YtnifmoigalmcmaaYp
import Derived.Test.YtnifmoigalmcmaaVf
namespace Go.Proofs.Ytnifmoigalmcmaa
open Go Go.RowKit Go.MapKept Go.Maps Go.ChangeShapes Go.WideShapes Go.Deep
open Dk
theorem cells_int : Try.prog.cellsOf 3 = 1 := by kernel_rfl
section
variable {H : Type} {enc : TypeId × Value → H} {w : World} {base : Nat} {held : Bool}
theorem read_ints {fuel : Nat} {v : Value} {x : DataW H × List MemPlace} (h : DataW.trod enc Try.prog w base (fun _ => true) held fuel 26 [v] = some x) : ∃ l : List Int, Sw w c00 (0, 0) v (l.map iv) ∧ l.length + 1 ≤ max 1 (Rows.uptoBulk x.1) := by
  rcases open_ints Try.underlying26 Try.underlying3 cells_int h with ⟨hcs, rfl⟩ | ⟨a, len, cap, zs, hcs, _, hl, hm, hz, rfl, hcell, _⟩
  · injection hcs with hcs _; subst hcs
    exact ⟨[], ⟨none, 0, rfl, Nat.le_refl _, by simp [maxLen], (fun _ => rfl), (fun _ h => by cases h)⟩, Nat.le_max_left _ _⟩
  · injection hcs with hcs _; subst hcs
    simp only [if_true] at hz
    have hlen : (zs.take len).length = len := by simp; omega
    refine ⟨zs.take len, sw_of (by rw [List.length_map, hlen]) (by rw [List.length_map, hlen]; exact hl) hm (fun j u hj => ?_), ?_⟩
    · rw [List.getElem?_map] at hj
      cases hz2 : (zs.take len)[j]? with
      | none => rw [hz2] at hj; cases hj
      | some z =>
        rw [hz2] at hj
        simp only [Option.map_some, Option.some.injEq] at hj
        subst hj
        rw [List.getElem?_take] at hz2
        split at hz2
        · have hj2 := (List.getElem?_eq_some_iff.1 hz2).1
          rw [hcell j hj2]; simp [List.getD, hz2, iv]
        · cases hz2
    · have := bulk_slice (lits (H := H) .i64 (zs.take len)) (lits .i64 (zs.drop len))
      rw [lits_length] at this
      show _ ≤ max 1 (Rows.uptoBulk (.slice (lits .i64 (zs.take len)) (lits .i64 (zs.drop len))))
      omega
end
def fieldsOf (d : Option TypeDesc) : Option (Array (Nat × Nat)) := match d with
  | some (.struct fs) => some (fs.map fun f => (f.type, f.offset))
  | _ => none
theorem fields_some {d : Option TypeDesc} {l : Array (Nat × Nat)} (h : fieldsOf d = some l) : ∃ fs : Array Field, d = some (.struct fs) ∧ fs.size = l.size ∧ ∀ (i t o : Nat), l[i]? = some (t, o) → ∃ f, fs[i]? = some f ∧ f.type = t ∧ f.offset = o := by
  unfold fieldsOf at h
  split at h
  · rename_i fs
    injection h with h
    subst h
    refine ⟨fs, rfl, by simp, fun i t o hi => ?_⟩
    rw [Array.getElem?_map] at hi
    cases hf : fs[i]? with
    | none => rw [hf] at hi; cases hi
    | some f =>
      rw [hf] at hi
      simp only [Option.map_some, Option.some.injEq, Prod.mk.injEq] at hi
      exact ⟨f, rfl, hi.1, hi.2⟩
  · cases h
theorem plan_fields : fieldsOf (Try.prog.underlying 28) = some #[(3, 0), (26, 1), (26, 2), (26, 3), (3, 4)] := by kernel_rfl
theorem cells_plan : Try.prog.cellsOf 28 = 5 := by kernel_rfl
theorem cells_ints : Try.prog.cellsOf 26 = 1 := by kernel_rfl
section
variable {H : Type} {enc : TypeId × Value → H} {w : World} {base : Nat} {held : Bool}
theorem bulk_agg (l : List (DataW H)) : Rows.uptoBulkAll l ≤ Rows.uptoBulk (.agg l) := by
  simp only [Rows.uptoBulk]; omega
theorem five {α : Type} {l : List α} (h : l.length = 5) : ∃ a b c d e, l = [a, b, c, d, e] := by
  match l, h with
  | [a, b, c, d, e], _ => exact ⟨a, b, c, d, e, rfl⟩
theorem read_plan {fuel : Nat} {cs : List Value} {x : DataW H × List MemPlace} (h : DataW.trod enc Try.prog w base (fun _ => true) held fuel 28 cs = some x) (hb : Rows.uptoBulk x.1 ≤ big) :
    ∃ (p : APlan) (vk vf vu : Value), cs = [.int .i64 p.crash, vk, vf, vu, .int .i64 p.room] ∧ PlanW w c00 vk vf vu p ∧ p.keep.length ≤ lim ∧ p.fail.length ≤ lim ∧ p.full.length ≤ lim := by
  obtain ⟨fs, hfs, hsz, hget⟩ := fields_some plan_fields
  obtain ⟨xs, n, rfl, rfl, hlen, hxl, hf⟩ := DataW.trod_struct hfs h
  obtain ⟨f0, h0, t0, o0⟩ := hget 0 _ _ rfl
  obtain ⟨f1, h1, t1, o1⟩ := hget 1 _ _ rfl
  obtain ⟨f2, h2, t2, o2⟩ := hget 2 _ _ rfl
  obtain ⟨f3, h3, t3, o3⟩ := hget 3 _ _ rfl
  obtain ⟨f4, h4, t4, o4⟩ := hget 4 _ _ rfl
  have g0 := hf 0 f0 h0
  have g1 := hf 1 f1 h1
  have g2 := hf 2 f2 h2
  have g3 := hf 3 f3 h3
  have g4 := hf 4 f4 h4
  rw [cells_plan] at hlen
  have hxl : xs.length = 5 := hxl.trans hsz
  rw [t0, o0, cells_int] at g0
  rw [t1, o1, cells_ints] at g1
  rw [t2, o2, cells_ints] at g2
  rw [t3, o3, cells_ints] at g3
  rw [t4, o4, cells_int] at g4
  obtain ⟨v0, v1, v2, v3, v4, rfl⟩ := five hlen
  obtain ⟨y0, y1, y2, y3, y4, rfl⟩ := five hxl
  · clear hlen hxl hf hget
    simp at g0 g1 g2 g3 g4
    obtain ⟨z0, e0, -, -⟩ := DataW.trod_int Try.underlying3 g0
    obtain ⟨z4, e4, -, -⟩ := DataW.trod_int Try.underlying3 g4
    obtain ⟨l1, s1, b1⟩ := read_ints g1
    obtain ⟨l2, s2, b2⟩ := read_ints g2
    obtain ⟨l3, s3, b3⟩ := read_ints g3
    injection e0 with e0 _
    injection e4 with e4 _
    subst e0 e4
    have hall := bulk_agg [y0.1, y1.1, y2.1, y3.1, y4.1]
    have hb : Rows.uptoBulk (.agg [y0.1, y1.1, y2.1, y3.1, y4.1]) ≤ big := hb
    have p1 := bulk_part (d := y1.1) (l := [y0.1, y1.1, y2.1, y3.1, y4.1]) (by simp)
    have p2 := bulk_part (d := y2.1) (l := [y0.1, y1.1, y2.1, y3.1, y4.1]) (by simp)
    have p3 := bulk_part (d := y3.1) (l := [y0.1, y1.1, y2.1, y3.1, y4.1]) (by simp)
    exact ⟨⟨z0, l1, l2, l3, z4⟩, v1, v2, v3, rfl, ⟨s1, s2, s3⟩, lim_of b1 (Nat.le_trans p1 (Nat.le_trans hall hb)), lim_of b2 (Nat.le_trans p2 (Nat.le_trans hall hb)), lim_of b3 (Nat.le_trans p3 (Nat.le_trans hall hb))⟩
end
end Go.Proofs.Ytnifmoigalmcmaa
