import Derived.Test.YtepphepcaphlkaaRd
namespace Go.Proofs.Ytepphepcaphlkaa
open Go Go.RowKit Go.MapKept Go.Maps Go.ChangeShapes Go.WideShapes Go.Deep
open Dk
def big : Nat := 1048576
def fieldsOf (d : Option TypeDesc) : Option (Array (Nat × Nat)) := match d with
  | some (.struct fs) => some (fs.map fun f => (f.type, f.offset))
  | _ => none
theorem fields_some {d : Option TypeDesc} {l : Array (Nat × Nat)} (h : fieldsOf d = some l) : ∃ fs : Array Field, d = some (.struct fs) ∧ fs.size = l.size ∧ ∀ (i t o : Nat), l[i]? = some (t, o) → ∃ f, fs[i]? = some f ∧ f.type = t ∧ f.offset = o := by
  unfold fieldsOf at h
  split at h
  · rename_i fs
    injection h with h
    subst h
    refine ⟨fs, rfl, by simp, fun i t o hi => ?_⟩
    rw [Array.getElem?_map] at hi
    cases hf : fs[i]? with
    | none => rw [hf] at hi; cases hi
    | some f =>
      rw [hf] at hi
      simp only [Option.map_some, Option.some.injEq, Prod.mk.injEq] at hi
      exact ⟨f, rfl, hi.1, hi.2⟩
  · cases h
theorem op_fields : fieldsOf (Try.prog.underlying 32) = some #[(3, 0), (9, 1), (9, 2), (3, 3), (3, 4), (30, 5), (29, 6)] := by kernel_rfl
theorem plan_fields : fieldsOf (Try.prog.underlying 29) = some #[(3, 0), (27, 1), (27, 2), (27, 3), (3, 4)] := by kernel_rfl
theorem cells_op : Try.prog.cellsOf 32 = 11 := by kernel_rfl
theorem cells_plan : Try.prog.cellsOf 29 = 5 := by kernel_rfl
theorem cells_str : Try.prog.cellsOf 9 = 1 := by kernel_rfl
theorem cells_bytes : Try.prog.cellsOf 30 = 1 := by kernel_rfl
theorem cells_ints : Try.prog.cellsOf 27 = 1 := by kernel_rfl
section
variable {H : Type} {enc : TypeId × Value → H} {w : World} {base : Nat} {held : Bool}
theorem bulk_part {d : DataW H} {l : List (DataW H)} (h : d ∈ l) : Rows.uptoBulk d ≤ Rows.uptoBulkAll l := by
  induction l with
  | nil => cases h
  | cons x r ih =>
    simp only [Rows.uptoBulkAll]
    cases List.mem_cons.1 h with
    | inl e => subst e; omega
    | inr e => have := ih e; omega
theorem bulk_agg (l : List (DataW H)) : Rows.uptoBulkAll l ≤ Rows.uptoBulk (.agg l) := by
  simp only [Rows.uptoBulk]; omega
theorem i64_wf {n : Int} (h : (Lit.int .i64 n).wf = true) : -9223372036854775808 ≤ n ∧ n ≤ 9223372036854775807 := by
  simpa [Lit.wf, IntKind.min, IntKind.max, IntKind.signed, IntKind.bits] using h
theorem lim_of {n b : Nat} (h : n + 1 ≤ max 1 b) (hb : b ≤ big) : n ≤ lim := by unfold big at hb; unfold lim; omega
theorem five {α : Type} {l : List α} (h : l.length = 5) : ∃ a b c d e, l = [a, b, c, d, e] := by
  match l, h with
  | [a, b, c, d, e], _ => exact ⟨a, b, c, d, e, rfl⟩
theorem seven {α : Type} {l : List α} (h : l.length = 7) : ∃ a b c d e f g, l = [a, b, c, d, e, f, g] := by
  match l, h with
  | [a, b, c, d, e, f, g], _ => exact ⟨a, b, c, d, e, f, g, rfl⟩
theorem eleven {α : Type} {l : List α} (h : l.length = 11) : ∃ a b c d e f g i j k m, l = [a, b, c, d, e, f, g, i, j, k, m] := by
  match l, h with
  | [a, b, c, d, e, f, g, i, j, k, m], _ => exact ⟨a, b, c, d, e, f, g, i, j, k, m, rfl⟩
theorem read_plan {fuel : Nat} {cs : List Value} {x : DataW H × List MemPlace} (h : DataW.trod enc Try.prog w base (fun _ => true) held fuel 29 cs = some x) (hb : Rows.uptoBulk x.1 ≤ big) :
    ∃ (p : APlan) (vk vf vu : Value), cs = [.int .i64 p.crash, vk, vf, vu, .int .i64 p.room] ∧ PlanW w c00 vk vf vu p ∧ p.keep.length ≤ lim ∧ p.fail.length ≤ lim ∧ p.full.length ≤ lim := by
  obtain ⟨fs, hfs, hsz, hget⟩ := fields_some plan_fields
  obtain ⟨xs, n, rfl, rfl, hlen, hxl, hf⟩ := DataW.trod_struct hfs h
  obtain ⟨f0, h0, t0, o0⟩ := hget 0 _ _ rfl
  obtain ⟨f1, h1, t1, o1⟩ := hget 1 _ _ rfl
  obtain ⟨f2, h2, t2, o2⟩ := hget 2 _ _ rfl
  obtain ⟨f3, h3, t3, o3⟩ := hget 3 _ _ rfl
  obtain ⟨f4, h4, t4, o4⟩ := hget 4 _ _ rfl
  have g0 := hf 0 f0 h0
  have g1 := hf 1 f1 h1
  have g2 := hf 2 f2 h2
  have g3 := hf 3 f3 h3
  have g4 := hf 4 f4 h4
  rw [cells_plan] at hlen
  have hxl : xs.length = 5 := hxl.trans hsz
  rw [t0, o0, cells_int] at g0
  rw [t1, o1, cells_ints] at g1
  rw [t2, o2, cells_ints] at g2
  rw [t3, o3, cells_ints] at g3
  rw [t4, o4, cells_int] at g4
  obtain ⟨v0, v1, v2, v3, v4, rfl⟩ := five hlen
  obtain ⟨y0, y1, y2, y3, y4, rfl⟩ := five hxl
  · clear hlen hxl hf hget
    simp at g0 g1 g2 g3 g4
    obtain ⟨z0, e0, -, -⟩ := DataW.trod_int Try.underlying3 g0
    obtain ⟨z4, e4, -, -⟩ := DataW.trod_int Try.underlying3 g4
    obtain ⟨l1, s1, b1⟩ := read_ints g1
    obtain ⟨l2, s2, b2⟩ := read_ints g2
    obtain ⟨l3, s3, b3⟩ := read_ints g3
    injection e0 with e0 _
    injection e4 with e4 _
    subst e0 e4
    have hall := bulk_agg [y0.1, y1.1, y2.1, y3.1, y4.1]
    have hb : Rows.uptoBulk (.agg [y0.1, y1.1, y2.1, y3.1, y4.1]) ≤ big := hb
    have p1 := bulk_part (d := y1.1) (l := [y0.1, y1.1, y2.1, y3.1, y4.1]) (by simp)
    have p2 := bulk_part (d := y2.1) (l := [y0.1, y1.1, y2.1, y3.1, y4.1]) (by simp)
    have p3 := bulk_part (d := y3.1) (l := [y0.1, y1.1, y2.1, y3.1, y4.1]) (by simp)
    exact ⟨⟨z0, l1, l2, l3, z4⟩, v1, v2, v3, rfl, ⟨s1, s2, s3⟩, lim_of b1 (Nat.le_trans p1 (Nat.le_trans hall hb)), lim_of b2 (Nat.le_trans p2 (Nat.le_trans hall hb)), lim_of b3 (Nat.le_trans p3 (Nat.le_trans hall hb))⟩
theorem read_op {fuel : Nat} {cs : List Value} {x : DataW H × List MemPlace} (h : DataW.trod enc Try.prog w base (fun _ => true) held fuel 32 cs = some x) (hb : Rows.uptoBulk x.1 ≤ big) :
    ∃ (o : AOp) (vd vk vf vu : Value), cs = opCells o vd vk vf vu ∧ Sw w c00 (0, 0) vd (o.data.map bv) ∧ PlanW w c00 vk vf vu o.plan ∧ o.name.length ≤ maxLen ∧ o.to.length ≤ maxLen ∧
      (-9223372036854775808 ≤ o.kind ∧ o.kind ≤ 9223372036854775807) ∧ (-9223372036854775808 ≤ o.at_ ∧ o.at_ ≤ 9223372036854775807) ∧ (-9223372036854775808 ≤ o.long ∧ o.long ≤ 9223372036854775807) ∧
      (o.data.length ≤ lim ∧ o.plan.keep.length ≤ lim ∧ o.plan.fail.length ≤ lim ∧ o.plan.full.length ≤ lim) := by
  obtain ⟨fs, hfs, hsz, hget⟩ := fields_some op_fields
  obtain ⟨xs, n, rfl, rfl, hlen, hxl, hf⟩ := DataW.trod_struct hfs h
  obtain ⟨f0, h0, t0, o0⟩ := hget 0 _ _ rfl
  obtain ⟨f1, h1, t1, o1⟩ := hget 1 _ _ rfl
  obtain ⟨f2, h2, t2, o2⟩ := hget 2 _ _ rfl
  obtain ⟨f3, h3, t3, o3⟩ := hget 3 _ _ rfl
  obtain ⟨f4, h4, t4, o4⟩ := hget 4 _ _ rfl
  obtain ⟨f5, h5, t5, o5⟩ := hget 5 _ _ rfl
  obtain ⟨f6, h6, t6, o6⟩ := hget 6 _ _ rfl
  have g0 := hf 0 f0 h0
  have g1 := hf 1 f1 h1
  have g2 := hf 2 f2 h2
  have g3 := hf 3 f3 h3
  have g4 := hf 4 f4 h4
  have g5 := hf 5 f5 h5
  have g6 := hf 6 f6 h6
  rw [cells_op] at hlen
  have hxl : xs.length = 7 := hxl.trans hsz
  rw [t0, o0, cells_int] at g0
  rw [t1, o1, cells_str] at g1
  rw [t2, o2, cells_str] at g2
  rw [t3, o3, cells_int] at g3
  rw [t4, o4, cells_int] at g4
  rw [t5, o5, cells_bytes] at g5
  rw [t6, o6, cells_plan] at g6
  obtain ⟨v0, v1, v2, v3, v4, v5, v6, v7, v8, v9, v10, rfl⟩ := eleven hlen
  obtain ⟨y0, y1, y2, y3, y4, y5, y6, rfl⟩ := seven hxl
  · clear hlen hxl hf hget
    simp at g0 g1 g2 g3 g4 g5 g6
    obtain ⟨z0, e0, -, w0⟩ := DataW.trod_int Try.underlying3 g0
    obtain ⟨s1, e1, -, w1⟩ := DataW.trod_string Try.underlying9 g1
    obtain ⟨s2, e2, -, w2⟩ := DataW.trod_string Try.underlying9 g2
    obtain ⟨z3, e3, -, w3⟩ := DataW.trod_int Try.underlying3 g3
    obtain ⟨z4, e4, -, w4⟩ := DataW.trod_int Try.underlying3 g4
    obtain ⟨l5, s5, b5⟩ := read_bytes g5
    injection e0 with e0 _
    injection e1 with e1 _
    injection e2 with e2 _
    injection e3 with e3 _
    injection e4 with e4 _
    subst e0 e1 e2 e3 e4
    have hall := bulk_agg [y0.1, y1.1, y2.1, y3.1, y4.1, y5.1, y6.1]
    have hb : Rows.uptoBulk (.agg [y0.1, y1.1, y2.1, y3.1, y4.1, y5.1, y6.1]) ≤ big := hb
    have p5 := bulk_part (d := y5.1) (l := [y0.1, y1.1, y2.1, y3.1, y4.1, y5.1, y6.1]) (by simp)
    have p6 := bulk_part (d := y6.1) (l := [y0.1, y1.1, y2.1, y3.1, y4.1, y5.1, y6.1]) (by simp)
    obtain ⟨p, vk, vf, vu, e6, P6, k1, k2, k3⟩ := read_plan g6 (Nat.le_trans p6 (Nat.le_trans hall hb))
    injection e6 with e6 r6; injection r6 with e7 r7; injection r7 with e8 r8; injection r8 with e9 r9; injection r9 with e10 _
    subst e6 e7 e8 e9 e10
    refine ⟨⟨z0, s1.data.toList, s2.data.toList, z3, z4, l5, p⟩, v5, v7, v8, v9, ?_, s5, P6, (by rw [Array.length_toList]; exact w1), (by rw [Array.length_toList]; exact w2), i64_wf w0, i64_wf w3, i64_wf w4, lim_of b5 (Nat.le_trans p5 (Nat.le_trans hall hb)), k1, k2, k3⟩
    unfold opCells
    simp only [str_of]
instance : Inhabited AOp := ⟨⟨0, [], [], 0, 0, [], ⟨0, [], [], [], 0⟩⟩⟩
theorem read_ops {fuel : Nat} {v : Value} {x : DataW H × List MemPlace} (h : DataW.trod enc Try.prog w base (fun _ => true) held fuel 22 [v] = some x) (hb : Rows.uptoBulk x.1 ≤ big) : ∃ l, OpsAt w c00 v l := by
  rcases open_slice Try.underlying22 h with ⟨hcs, rfl⟩ | ⟨a, len, cap, m, n, D, Pl, hcs, _, hl, hm, hmm, rfl, hx⟩
  · injection hcs with hcs _; subst hcs
    exact ⟨[], none, 0, rfl, by simp, (fun _ => rfl), (fun ad h => by cases h)⟩
  · injection hcs with hcs _; subst hcs
    simp only [if_true] at hmm
    subst hmm
    have hall : Rows.uptoBulkAll ((List.range len).map D) ≤ big := by
      have hb : Rows.uptoBulk (.slice ((List.range len).map D) ((List.range (m - len)).map fun j => D (len + j))) ≤ big := hb
      simp only [Rows.uptoBulk] at hb
      omega
    obtain ⟨f, hf⟩ := choose_lt (α := AOp) (n := len) (p := fun i o => a.spot = none ∧ ∃ vd vk vf vu, OpAt w c00 a.block (a.off + i * 11) o vd vk vf vu) (fun i hi => by
      obtain ⟨cs', h1, h2⟩ := hx i (by omega)
      rw [cells_op] at h1
      obtain ⟨_, _, hcell⟩ := World.cells?_some h1
      obtain ⟨o, vd, vk, vf, vu, rfl, hd, hp, hn, ht, k1, k2, k3, k4⟩ := read_op h2 (Nat.le_trans (bulk_part (List.mem_map.2 ⟨i, List.mem_range.2 hi, rfl⟩)) hall)
      have hs : a.spot = none := by
        obtain ⟨i0, hi0⟩ : ∃ i0 : Nat, i0 = 0 := ⟨0, rfl⟩
        obtain ⟨cs0, q1, q2⟩ := hx i0 (by omega)
        rw [cells_op] at q1
        obtain ⟨_, q3, q4⟩ := World.cells?_some q1
        have q5 := q4 0 (by omega)
        have q6 : 0 < cs0.length := by rw [q3]; decide
        rw [List.getElem?_eq_getElem q6] at q5
        have q7 := spot_of_cell q5
        rw [hi0, Nat.zero_mul] at q7
        exact q7
      refine ⟨o, hs, vd, vk, vf, vu, rfl, fun j u hj => ?_, hd, hp, hn, ht, k1, k2, k3, k4⟩
      have hj11 : j < 11 := by
        have := (List.getElem?_eq_some_iff.1 hj).1
        simpa [opCells] using this
      have e := hcell j hj11
      rw [hj, add_eq hs, add_eq rfl] at e
      exact e)
    refine ⟨(List.range len).map f, some a, m, (by rw [List.length_map, List.length_range]), (by rw [List.length_map, List.length_range]; exact Nat.le_trans hl hm), (fun h => by cases h), fun ad had i o hi => ?_⟩
    cases had
    rw [List.getElem?_map] at hi
    have hlt : i < len := by
      by_cases h : i < len
      · exact h
      · rw [List.getElem?_eq_none (by simp; omega)] at hi; cases hi
    rw [List.getElem?_range hlt] at hi
    simp only [Option.map_some, Option.some.injEq] at hi
    subst hi
    exact hf i hlt
end
end Go.Proofs.Ytepphepcaphlkaa
