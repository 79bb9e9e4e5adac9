/- How a plan that came in lies in memory. -/
import Derived.Test.YtnifmoigalmcmaaGreatVr
import Derived.Test.YtnifmoigalmcmaaGreatZc
namespace Go.Proofs.YtnifmoigalmcmaaGreat
open Go Go.RowKit Go.MapKept Go.Maps Go.ChangeShapes Go.WideShapes Go.Deep
open Dk
theorem cells_int : Tryz.prog.cellsOf 3 = 1 := by kernel_rfl
section
variable {H : Type} {enc : TypeId × Value → H} {w : World} {base : Nat} {held : Bool}
theorem read_ints {fuel : Nat} {v : Value} {x : DataW H × List MemPlace} (h : DataW.trod enc Tryz.prog w base (fun _ => true) held fuel 22 [v] = some x) : ∃ l : List Int, Sw w c00 (0, 0) v (l.map iv) ∧ l.length + 1 ≤ max 1 (Rows.uptoBulk x.1) := by
  rcases open_ints Tryz.underlying22 Tryz.underlying3 cells_int h with ⟨hcs, rfl⟩ | ⟨a, len, cap, zs, hcs, _, hl, hm, hz, rfl, hcell, _⟩
  · injection hcs with hcs _; subst hcs
    exact ⟨[], ⟨none, 0, rfl, Nat.le_refl _, by simp [maxLen], (fun _ => rfl), (fun _ h => by cases h)⟩, Nat.le_max_left _ _⟩
  · injection hcs with hcs _; subst hcs
    simp only [if_true] at hz
    have hlen : (zs.take len).length = len := by simp; omega
    refine ⟨zs.take len, sw_of (by rw [List.length_map, hlen]) (by rw [List.length_map, hlen]; exact hl) hm (fun j u hj => ?_), ?_⟩
    · rw [List.getElem?_map] at hj
      cases hz2 : (zs.take len)[j]? with
      | none => rw [hz2] at hj; cases hj
      | some z =>
        rw [hz2] at hj
        simp only [Option.map_some, Option.some.injEq] at hj
        subst hj
        rw [List.getElem?_take] at hz2
        split at hz2
        · have hj2 := (List.getElem?_eq_some_iff.1 hz2).1
          rw [hcell j hj2]; simp [List.getD, hz2, iv]
        · cases hz2
    · have := bulk_slice (lits (H := H) .i64 (zs.take len)) (lits .i64 (zs.drop len))
      rw [lits_length] at this
      show _ ≤ max 1 (Rows.uptoBulk (.slice (lits .i64 (zs.take len)) (lits .i64 (zs.drop len))))
      omega
end
def fieldsOf (d : Option TypeDesc) : Option (Array (Nat × Nat)) := match d with
  | some (.struct fs) => some (fs.map fun f => (f.type, f.offset))
  | _ => none
theorem fields_some {d : Option TypeDesc} {l : Array (Nat × Nat)} (h : fieldsOf d = some l) : ∃ fs : Array Field, d = some (.struct fs) ∧ fs.size = l.size ∧ ∀ (i t o : Nat), l[i]? = some (t, o) → ∃ f, fs[i]? = some f ∧ f.type = t ∧ f.offset = o := by
  unfold fieldsOf at h
  split at h
  · rename_i fs
    injection h with h
    subst h
    refine ⟨fs, rfl, by simp, fun i t o hi => ?_⟩
    rw [Array.getElem?_map] at hi
    cases hf : fs[i]? with
    | none => rw [hf] at hi; cases hi
    | some f =>
      rw [hf] at hi
      simp only [Option.map_some, Option.some.injEq, Prod.mk.injEq] at hi
      exact ⟨f, rfl, hi.1, hi.2⟩
  · cases h
theorem plan_fields : fieldsOf (Tryz.prog.underlying 24) = some #[(3, 0), (22, 1), (22, 2), (22, 3), (3, 4)] := by kernel_rfl
theorem cells_plan : Tryz.prog.cellsOf 24 = 5 := by kernel_rfl
theorem cells_ints : Tryz.prog.cellsOf 22 = 1 := by kernel_rfl
section
variable {H : Type} {enc : TypeId × Value → H} {w : World} {base : Nat} {held : Bool}
theorem bulk_agg (l : List (DataW H)) : Rows.uptoBulkAll l ≤ Rows.uptoBulk (.agg l) := by
  simp only [Rows.uptoBulk]; omega
theorem five {α : Type} {l : List α} (h : l.length = 5) : ∃ a b c d e, l = [a, b, c, d, e] := by
  match l, h with
  | [a, b, c, d, e], _ => exact ⟨a, b, c, d, e, rfl⟩
theorem read_plan {fuel : Nat} {cs : List Value} {x : DataW H × List MemPlace} (h : DataW.trod enc Tryz.prog w base (fun _ => true) held fuel 24 cs = some x) (hb : Rows.uptoBulk x.1 ≤ big) :
    ∃ (p : APlan) (vk vf vu : Value), cs = [.int .i64 p.crash, vk, vf, vu, .int .i64 p.room] ∧ PlanW w c00 vk vf vu p ∧ p.keep.length ≤ lim ∧ p.fail.length ≤ lim ∧ p.full.length ≤ lim := by
  obtain ⟨fs, hfs, hsz, hget⟩ := fields_some plan_fields
  obtain ⟨xs, n, rfl, rfl, hlen, hxl, hf⟩ := DataW.trod_struct hfs h
  obtain ⟨f0, h0, t0, o0⟩ := hget 0 _ _ rfl
  obtain ⟨f1, h1, t1, o1⟩ := hget 1 _ _ rfl
  obtain ⟨f2, h2, t2, o2⟩ := hget 2 _ _ rfl
  obtain ⟨f3, h3, t3, o3⟩ := hget 3 _ _ rfl
  obtain ⟨f4, h4, t4, o4⟩ := hget 4 _ _ rfl
  have g0 := hf 0 f0 h0
  have g1 := hf 1 f1 h1
  have g2 := hf 2 f2 h2
  have g3 := hf 3 f3 h3
  have g4 := hf 4 f4 h4
  rw [cells_plan] at hlen
  have hxl : xs.length = 5 := hxl.trans hsz
  rw [t0, o0, cells_int] at g0
  rw [t1, o1, cells_ints] at g1
  rw [t2, o2, cells_ints] at g2
  rw [t3, o3, cells_ints] at g3
  rw [t4, o4, cells_int] at g4
  obtain ⟨v0, v1, v2, v3, v4, rfl⟩ := five hlen
  obtain ⟨y0, y1, y2, y3, y4, rfl⟩ := five hxl
  · clear hlen hxl hf hget
    simp at g0 g1 g2 g3 g4
    obtain ⟨z0, e0, -, -⟩ := DataW.trod_int Tryz.underlying3 g0
    obtain ⟨z4, e4, -, -⟩ := DataW.trod_int Tryz.underlying3 g4
    obtain ⟨l1, s1, b1⟩ := read_ints g1
    obtain ⟨l2, s2, b2⟩ := read_ints g2
    obtain ⟨l3, s3, b3⟩ := read_ints g3
    injection e0 with e0 _
    injection e4 with e4 _
    subst e0 e4
    have hall := bulk_agg [y0.1, y1.1, y2.1, y3.1, y4.1]
    have hb : Rows.uptoBulk (.agg [y0.1, y1.1, y2.1, y3.1, y4.1]) ≤ big := hb
    have p1 := bulk_part (d := y1.1) (l := [y0.1, y1.1, y2.1, y3.1, y4.1]) (by simp)
    have p2 := bulk_part (d := y2.1) (l := [y0.1, y1.1, y2.1, y3.1, y4.1]) (by simp)
    have p3 := bulk_part (d := y3.1) (l := [y0.1, y1.1, y2.1, y3.1, y4.1]) (by simp)
    exact ⟨⟨z0, l1, l2, l3, z4⟩, v1, v2, v3, rfl, ⟨s1, s2, s3⟩, lim_of b1 (Nat.le_trans p1 (Nat.le_trans hall hb)), lim_of b2 (Nat.le_trans p2 (Nat.le_trans hall hb)), lim_of b3 (Nat.le_trans p3 (Nat.le_trans hall hb))⟩
end
end Go.Proofs.YtnifmoigalmcmaaGreat
/- A slice of steps that came in. -/
namespace Go.Proofs.YtnifmoigalmcmaaGreat
open Go Go.RowKit Go.MapKept Go.Maps Go.ChangeShapes Go.WideShapes Go.Deep
open Wl Dk
theorem step_fields : fieldsOf (Tryz.prog.underlying 43) = some #[(3, 0), (40, 1), (24, 2), (41, 7)] := by kernel_rfl
theorem cells_step : Tryz.prog.cellsOf 43 = 8 := by kernel_rfl
section
variable {H : Type} {enc : TypeId × Value → H} {w : World} {base : Nat} {held : Bool}
theorem four {α : Type} {l : List α} (h : l.length = 4) : ∃ a b c d, l = [a, b, c, d] := by
  match l, h with
  | [a, b, c, d], _ => exact ⟨a, b, c, d, rfl⟩
theorem eight {α : Type} {l : List α} (h : l.length = 8) : ∃ a b c d e f g i, l = [a, b, c, d, e, f, g, i] := by
  match l, h with
  | [a, b, c, d, e, f, g, i], _ => exact ⟨a, b, c, d, e, f, g, i, rfl⟩
theorem i64_wf2 {n : Int} (h : (Lit.int .i64 n).wf = true) : -9223372036854775808 ≤ n ∧ n ≤ 9223372036854775807 := by
  simpa [Lit.wf, IntKind.min, IntKind.max, IntKind.signed, IntKind.bits] using h
theorem read_step {fuel : Nat} {cs : List Value} {x : DataW H × List MemPlace} (h : DataW.trod enc Tryz.prog w base (fun _ => true) held fuel 43 cs = some x) (hb : Rows.uptoBulk x.1 ≤ big) :
    ∃ (s : AStep) (vb vk vf vu vy : Value), cs = stepCells s vb vk vf vu vy ∧ BatW w c00 (0, 0) (0, 0) vb s.batch ∧ PlanW w c00 vk vf vu s.plan ∧ Sw w c00 (0, 0) vy (s.bytes.map bv) ∧
      (-9223372036854775808 ≤ s.kind ∧ s.kind ≤ 9223372036854775807) ∧ (s.batch.length ≤ 1048576 ∧ (∀ r ∈ s.batch, r.length ≤ 1048576) ∧ s.bytes.length ≤ 1048576) ∧ (s.plan.keep.length ≤ lim ∧ s.plan.fail.length ≤ lim ∧ s.plan.full.length ≤ lim) := by
  obtain ⟨fs, hfs, hsz, hget⟩ := fields_some step_fields
  obtain ⟨xs, n, rfl, rfl, hlen, hxl, hf⟩ := DataW.trod_struct hfs h
  obtain ⟨f0, h0, t0, o0⟩ := hget 0 _ _ rfl
  obtain ⟨f1, h1, t1, o1⟩ := hget 1 _ _ rfl
  obtain ⟨f2, h2, t2, o2⟩ := hget 2 _ _ rfl
  obtain ⟨f3, h3, t3, o3⟩ := hget 3 _ _ rfl
  have g0 := hf 0 f0 h0
  have g1 := hf 1 f1 h1
  have g2 := hf 2 f2 h2
  have g3 := hf 3 f3 h3
  rw [cells_step] at hlen
  have hxl : xs.length = 4 := hxl.trans hsz
  rw [t0, o0, cells_int] at g0
  rw [t1, o1, cells_batch] at g1
  rw [t2, o2, cells_plan] at g2
  rw [t3, o3, cells_bytes] at g3
  obtain ⟨v0, v1, v2, v3, v4, v5, v6, v7, rfl⟩ := eight hlen
  obtain ⟨y0, y1, y2, y3, rfl⟩ := four hxl
  · clear hlen hxl hf hget
    simp at g0 g1 g2 g3
    obtain ⟨z0, e0, -, w0⟩ := DataW.trod_int Tryz.underlying3 g0
    obtain ⟨l3, s3, b3⟩ := read_bytes g3
    injection e0 with e0 _
    subst e0
    have hall := bulk_agg [y0.1, y1.1, y2.1, y3.1]
    have hb : Rows.uptoBulk (.agg [y0.1, y1.1, y2.1, y3.1]) ≤ big := hb
    have p1 := bulk_part (d := y1.1) (l := [y0.1, y1.1, y2.1, y3.1]) (by simp)
    have p2 := bulk_part (d := y2.1) (l := [y0.1, y1.1, y2.1, y3.1]) (by simp)
    have p3 := bulk_part (d := y3.1) (l := [y0.1, y1.1, y2.1, y3.1]) (by simp)
    obtain ⟨l1, B1, n1, n2⟩ := read_batch g1 (Nat.le_trans p1 (Nat.le_trans hall hb))
    obtain ⟨p, vk, vf, vu, e2, P2, k1, k2, k3⟩ := read_plan g2 (Nat.le_trans p2 (Nat.le_trans hall hb))
    injection e2 with e2 r2; injection r2 with e3 r3; injection r3 with e4 r4; injection r4 with e5 r5; injection r5 with e6 _
    subst e2 e3 e4 e5 e6
    refine ⟨⟨z0, l1, p, l3⟩, v1, v3, v4, v5, v7, rfl, B1, P2, s3, i64_wf2 w0, ⟨n1, n2, big_of b3 (Nat.le_trans p3 (Nat.le_trans hall hb))⟩, k1, k2, k3⟩
instance : Inhabited AStep := ⟨⟨0, [], ⟨0, [], [], [], 0⟩, []⟩⟩
theorem read_steps {fuel : Nat} {v : Value} {x : DataW H × List MemPlace} (h : DataW.trod enc Tryz.prog w base (fun _ => true) held fuel 25 [v] = some x) (hb : Rows.uptoBulk x.1 ≤ big) : ∃ l, StepsAt w c00 v l ∧ l.length ≤ 1048576 := by
  rcases open_slice Tryz.underlying25 h with ⟨hcs, rfl⟩ | ⟨a, len, cap, m, n, D, Pl, hcs, _, hl, hm, hmm, rfl, hx⟩
  · injection hcs with hcs _; subst hcs
    exact ⟨[], ⟨none, 0, rfl, Nat.le_refl _, by simp [maxLen], fun h => absurd rfl h⟩, by simp⟩
  · injection hcs with hcs _; subst hcs
    simp only [if_true] at hmm
    subst hmm
    have hb2 : Rows.uptoBulk (.slice ((List.range len).map D) ((List.range (m - len)).map fun j => D (len + j))) ≤ big := hb
    have hlen := bulk_slice ((List.range len).map D) ((List.range (m - len)).map fun j => D (len + j))
    simp only [List.length_map, List.length_range] at hlen
    have hall : Rows.uptoBulkAll ((List.range len).map D) ≤ big := by
      simp only [Rows.uptoBulk] at hb2
      omega
    obtain ⟨f, hf⟩ := choose_lt (α := AStep) (n := len) (p := fun i s => a.spot = none ∧ ∃ vb vk vf vu vy, StepAt w c00 a.block (a.off + i * 8) s vb vk vf vu vy) (fun i hi => by
      obtain ⟨cs', h1, h2⟩ := hx i (by omega)
      rw [cells_step] at h1
      obtain ⟨_, _, hcell⟩ := World.cells?_some h1
      obtain ⟨s, vb, vk, vf, vu, vy, rfl, hbt, hp, hy, k1, k2, k3⟩ := read_step h2 (Nat.le_trans (bulk_part (List.mem_map.2 ⟨i, List.mem_range.2 hi, rfl⟩)) hall)
      have hs : a.spot = none := by
        obtain ⟨i0, hi0⟩ : ∃ i0 : Nat, i0 = 0 := ⟨0, rfl⟩
        obtain ⟨cs0, q1, q2⟩ := hx i0 (by omega)
        rw [cells_step] at q1
        obtain ⟨_, q3, q4⟩ := World.cells?_some q1
        have q5 := q4 0 (by omega)
        have q6 : 0 < cs0.length := by rw [q3]; decide
        rw [List.getElem?_eq_getElem q6] at q5
        have q7 := spot_of_cell q5
        rw [hi0, Nat.zero_mul] at q7
        exact q7
      refine ⟨s, hs, vb, vk, vf, vu, vy, fun j u hj => ?_, rfl, hbt, hp, hy, k1, k2, k3⟩
      have hj8 : j < 8 := by
        have := (List.getElem?_eq_some_iff.1 hj).1
        simpa [stepCells] using this
      have e := hcell j hj8
      rw [hj, add_eq hs, add_eq rfl] at e
      exact e)
    have hfl : ((List.range len).map f).length = len := by simp
    refine ⟨(List.range len).map f, ⟨some a, m, by rw [hfl], by rw [hfl]; exact hl, hm, fun hn => ?_⟩, by rw [hfl]; unfold big at hb2; omega⟩
    rw [hfl] at hn
    have hs := (hf 0 (by omega)).1
    refine ⟨a.block, a.off, ?_, fun i hi => ?_⟩
    · obtain ⟨b, o, s⟩ := a
      cases hs; rfl
    · rw [hfl] at hi
      have e : ((List.range len).map f)[i]'(by rw [hfl]; exact hi) = f i := by simp
      obtain ⟨_, vb, vk, vf, vu, vy, T⟩ := hf i hi
      exact ⟨vb, vk, vf, vu, vy, by rw [e]; exact T⟩
end
end Go.Proofs.YtnifmoigalmcmaaGreat
