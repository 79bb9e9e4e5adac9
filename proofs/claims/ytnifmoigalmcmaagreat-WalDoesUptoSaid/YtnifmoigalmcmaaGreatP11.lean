/- WalDoes returns true whatever the plan and the steps are, where the arguments' bulk is at most 1048576: a log over any disk answers step by step what the document says, and leaves the disk just so. -/
import Derived.Test.YtnifmoigalmcmaaGreatWq
import Derived.Test.YtnifmoigalmcmaaGreatWs
import Derived.OpenShut
import Derived.JoinedCond
import Derived.Carry
namespace Go.Proofs.YtnifmoigalmcmaaGreat
open Go Go.RowKit Go.ChangeShapes Go.WideShapes Go.ChangeAt
open Wl Dk
namespace walDoes
theorem walDoes_v (p : APlan) (vk vf vu : Value) (vl : Value) (l : List AStep) (w : World) (hp : PlanW w c00 vk vf vu p) (lk : p.keep.length ≤ lim) (lf : p.fail.length ≤ lim) (lu : p.full.length ≤ lim) (hv : StepsAt w c00 vl l) (hlen : l.length ≤ 1048576) :
    Calls Tryz.prog 3 #[.agg #[.int .i64 p.crash, vk, vf, vu, .int .i64 p.room], vl] w fun e w' => e = .returned (.bool true) ∧ ∀ c S, Kp c S w w' := by
  obtain ⟨ak, nk, rfl, -⟩ := id hp.keep
  obtain ⟨af, nf, rfl, -⟩ := id hp.fail
  obtain ⟨au, nu, rfl, -⟩ := id hp.full
  simp only [List.length_map] at hp ⊢
  exact walDoes_c p vl l w hp lk lf lu hv hlen
set_option maxRecDepth 100000 in
theorem okWide_plan {W : World} {r : Reach} {n : Nat} {v : Value} (h : Value.okWide Tryz.prog W r n 24 v) : ∃ cs, v = .agg cs := by
  obtain ⟨fs, hfs, _⟩ := fields_some plan_fields
  unfold Value.okWide at h
  rw [hfs] at h
  obtain ⟨cs, e, _⟩ := h
  exact ⟨cs, e⟩
theorem own : ownKnob Tryz.prog.godebug = none := by kernel_rfl
theorem kept_of {c : Col} {W W' : World} (h : ∀ S, Kp c S W W') (may : MemPlace → Prop) : W.keptBut W' may := by
  have hk := h (fun _ => False)
  refine ⟨hk.os, hk.output, fun i hi => ?_⟩
  rw [hk.block i hi (fun h => h)]
  split <;> simp_all
theorem same_of {c : Col} {W W' : World} (h : ∀ S, Kp c S W W') {p : MemPlace} (hp : p.block < W.heap.size) : W.sameAt W' p := by
  have hk := h (fun _ => False)
  cases p with
  | cell b o => exact World.cell?_of_block (w := W) (hk.block b hp (fun h => h))
  | map b => exact hk.block b hp (fun h => h)
set_option maxRecDepth 100000 in
theorem contract (H : Type) (enc : TypeId × Value → H) (W : World) (base : Nat) (args : Array Value) (ds gs : List (DataW H)) (before : List MemPlace)
    (hval : ∀ (j : Nat) t v, Tryz.f3.params[j]? = some t → args[j]? = some v → Value.okWide Tryz.prog W .any base t v)
    (hW : DataW.Whole enc Tryz.prog Tryz.f3.params.toList Rows.walDoesSpec.vars false W args.toList ds gs before) (hk : Rows.uptoSmall H (ds ++ gs) = true) :
    Calls Tryz.prog 3 args W fun e W' => ∃ v, e = .returned v ∧ Rows.walDoesSpec.post enc Tryz.prog Tryz.f3 false true false false W args v W' := by
  have hW' := hW
  obtain ⟨p, q, hA0, hV, rfl, hfz, hnd⟩ := hW
  have hA : DataW.TrodAll enc Tryz.prog W 0 (fun _ => true) true Tryz.f3.params.toList args.toList ds p := hA0
  rw [Tryz.params3] at hA hval
  obtain ⟨v0, vs0, d0, ds0, p0, q0, hargs, rfl, rfl, h0, r0⟩ := trodAll_cons hA
  obtain ⟨v1, vs1, d1, ds1, p1, q1, rfl, rfl, rfl, h1, r1⟩ := trodAll_cons r0
  obtain ⟨rfl, rfl, rfl⟩ := trodAll_nil r1
  obtain rfl : args = #[v0, v1] := by cases args; simp_all
  obtain ⟨rfl, rfl⟩ := trodVars_none hV
  obtain ⟨cs, rfl⟩ := okWide_plan (hval 0 24 v0 rfl rfl)
  obtain ⟨a1, len1, cap1, rfl⟩ := okWide_slice Tryz.underlying25 (hval 1 25 v1 rfl rfl)
  clear hA0
  simp only [List.append_nil] at hW'
  have h0k := h0
  have h1k := h1
  obtain ⟨fuel0, hf0⟩ := h0
  obtain ⟨fuel1, hf1⟩ := h1
  have hall := of_decide_eq_true hk
  have hb0 : Rows.uptoBulk d0 ≤ big := Nat.le_trans (bulk_part (d := d0) (l := [d0, d1] ++ []) (List.mem_append_left _ (List.mem_cons_self ..))) hall
  have hb1 : Rows.uptoBulk d1 ≤ big := Nat.le_trans (bulk_part (d := d1) (l := [d0, d1] ++ []) (List.mem_append_left _ (List.mem_cons_of_mem _ (List.mem_cons_self ..)))) hall
  obtain ⟨l, hl, hn0⟩ := read_steps (x := (d1, p1)) hf1 hb1
  obtain ⟨pl, vk, vf, vu, hcs, hpl, lk, lf, lu⟩ := read_plan (x := (d0, p0)) hf0 hb0
  have hcs : cs = #[.int .i64 pl.crash, vk, vf, vu, .int .i64 pl.room] := by
    have h : cs.toList = _ := hcs
    cases cs; simp_all
  subst hcs
  have hlt : ∀ x ∈ p0 ++ p1, x.block < W.heap.size := fun x hx => by simpa using hW'.lt x hx
  refine (walDoes_v pl vk vf vu (.slice a1 len1 cap1) l W hpl lk lf lu hl hn0).mono fun e W' ⟨he, hg⟩ => ?_
  subst he
  have hg := fun S => hg c00 S
  refine ⟨_, rfl, _, _, _, [], p0 ++ p1, [], hW', (trodAll_cons_mk (shut_bool Tryz.underlying4 _) trodAll_mk0), ?_, rfl, kept_of hg _, fun h => by cases h⟩
  have hst0 : DataW.Trod enc Tryz.prog W' 0 (fun b => decide (b < W.heap.size)) true 24 (.agg #[.int .i64 pl.crash, vk, vf, vu, .int .i64 pl.room]) d0 p0 :=
    WideElems.Trod_stays (by kernel_rfl) (by kernel_rfl) (of_decide_eq_true (by kernel_rfl)) h0k (fun x hx => same_of hg (hlt x (List.mem_append_left _ hx))) (fun x hx => by simpa using hlt x (List.mem_append_left _ hx))
  have hst1 : DataW.Trod enc Tryz.prog W' 0 (fun b => decide (b < W.heap.size)) true 25 (.slice a1 len1 cap1) d1 p1 :=
    WideElems.Trod_stays (by kernel_rfl) (by kernel_rfl) (of_decide_eq_true (by kernel_rfl)) h1k (fun x hx => same_of hg (hlt x (List.mem_append_right _ hx))) (fun x hx => by simpa using hlt x (List.mem_append_right _ hx))
  have ha := trodAll_cons_mk hst0 (trodAll_cons_mk hst1 trodAll_mk0)
  simp only [List.append_nil] at ha
  exact ha
set_option maxRecDepth 100000 in
theorem lifted (os : Os) (started : os.Started) (H : Type) (enc : TypeId × Value → H) (F : Stop.Interp) :
    ReturnsInHanded {} Tryz.checked os 3 .any ((Rows.OpenSpec.upto Rows.walDoesSpec).pre6 enc Tryz.prog Tryz.f3 Rows.walDoesUptoRow.domain false) (((Rows.OpenSpec.upto Rows.walDoesSpec).at F).post enc Tryz.prog Tryz.f3 false true false false) := by
  refine returnsInHanded_of_cond (C := Tryz.checked) (s := Rows.OpenSpec.upto Rows.walDoesSpec) (k := Rows.uptoSmall) rfl own started (by kernel_rfl) Tryz.func3
    (OpenSpec.witness (enc := enc) (C := Tryz.checked) (s := Rows.OpenSpec.upto Rows.walDoesSpec) (k := Rows.uptoSmall) rfl false ⟨#[], #[.agg #[.int .i64 0, .slice none 0 0, .slice none 0 0, .slice none 0 0, .int .i64 0], .slice none 0 0], []⟩ 8 (by kernel_rfl) (by kernel_rfl) (by kernel_rfl)
      (x := ([.agg [.lit (.int .i64 0), .nil, .nil, .nil, .lit (.int .i64 0)], .nil], [], [])) (by kernel_rfl) rfl (by kernel_rfl)) ?_
  intro W base args ds gs before hval hW _ hk _
  exact contract H enc W base args ds gs before hval hW hk
theorem over : Rows.walDoesUptoRow.holds Tryz.pinned (Rows.OpenSpec.upto Rows.walDoesSpec) :=
  OpenClaim.holds_of_cond 3 Tryz.f3 rfl rfl rfl rfl rfl rfl rfl ⟨rfl, rfl, rfl, rfl, rfl⟩ rfl rfl rfl rfl rfl (by kernel_rfl) Tryz.func3 (by kernel_rfl)
    (of_decide_eq_true (by kernel_rfl)) (by unfold Func.isWrapper; first | (rw [if_pos (by decide +kernel)]; kernel_rfl) | (rw [if_neg (by decide +kernel)]; exact ⟨rfl, rfl⟩))
    (fun os started H enc _ F => lifted os started H enc F)
theorem proved : Rows.WalDoesUptoSaid :=
  over
end walDoes
end Go.Proofs.YtnifmoigalmcmaaGreat
