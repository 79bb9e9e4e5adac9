/- DiskNone returns true whatever the operation is, where the argument's bulk is at most 1048576: a disk that nobody made is dead and empty. -/
import Derived.Test.YtepphepcaphlkaaRe
import Derived.Test.YtepphepcaphlkaaNn
import Derived.OpenShut
import Derived.JoinedCond
import Derived.Carry
namespace Go.Proofs.Ytepphepcaphlkaa
open Go Go.RowKit Go.ChangeShapes Go.WideShapes Go.ChangeAt
open Dk
namespace diskNone
set_option maxRecDepth 100000 in
theorem okWide_op {W : World} {r : Reach} {n : Nat} {v : Value} (h : Value.okWide Try.prog W r n 32 v) : ∃ cs, v = .agg cs := by
  obtain ⟨fs, hfs, _⟩ := fields_some op_fields
  unfold Value.okWide at h
  rw [hfs] at h
  obtain ⟨cs, e, _⟩ := h
  exact ⟨cs, e⟩
theorem own : ownKnob Try.prog.godebug = none := by kernel_rfl
theorem kept_of {c : Col} {W W' : World} (h : ∀ S, Kp c S W W') (may : MemPlace → Prop) : W.keptBut W' may := by
  have hk := h (fun _ => False)
  refine ⟨hk.os, hk.output, fun i hi => ?_⟩
  rw [hk.block i hi (fun h => h)]
  split <;> simp_all
theorem same_of {c : Col} {W W' : World} (h : ∀ S, Kp c S W W') {p : MemPlace} (hp : p.block < W.heap.size) : W.sameAt W' p := by
  have hk := h (fun _ => False)
  cases p with
  | cell b o => exact World.cell?_of_block (w := W) (hk.block b hp (fun h => h))
  | map b => exact hk.block b hp (fun h => h)
set_option maxRecDepth 100000 in
theorem contract (H : Type) (enc : TypeId × Value → H) (W : World) (base : Nat) (args : Array Value) (ds gs : List (DataW H)) (before : List MemPlace)
    (hval : ∀ (j : Nat) t v, Try.f8.params[j]? = some t → args[j]? = some v → Value.okWide Try.prog W .any base t v)
    (hW : DataW.Whole enc Try.prog Try.f8.params.toList Rows.diskNoneSpec.vars false W args.toList ds gs before) (hk : Rows.uptoSmall H (ds ++ gs) = true) :
    Calls Try.prog 8 args W fun e W' => ∃ v, e = .returned v ∧ Rows.diskNoneSpec.post enc Try.prog Try.f8 false true false false W args v W' := by
  have hW' := hW
  obtain ⟨p, q, hA0, hV, rfl, hfz, hnd⟩ := hW
  have hA : DataW.TrodAll enc Try.prog W 0 (fun _ => true) true Try.f8.params.toList args.toList ds p := hA0
  rw [Try.params8] at hA hval
  obtain ⟨v0, vs0, d0, ds0, p0, q0, hargs, rfl, rfl, h0, r0⟩ := trodAll_cons hA
  obtain ⟨rfl, rfl, rfl⟩ := trodAll_nil r0
  obtain rfl : args = #[v0] := by cases args; simp_all
  obtain ⟨rfl, rfl⟩ := trodVars_none hV
  obtain ⟨cs, rfl⟩ := okWide_op (hval 0 32 v0 rfl rfl)
  clear hA0
  simp only [List.append_nil] at hW'
  have h0k := h0
  obtain ⟨fuel0, hf0⟩ := h0
  have hall := of_decide_eq_true hk
  have hb0 : Rows.uptoBulk d0 ≤ big := Nat.le_trans (bulk_part (d := d0) (l := [d0] ++ []) (List.mem_append_left _ (List.mem_cons_self ..))) hall
  obtain ⟨o, vd, vk, vf, vu, hcs, hd, hpw, hn, ht, k1, k2, k3, k4⟩ := read_op (x := (d0, p0)) hf0 hb0
  have hcs : Value.agg cs = opV o vd vk vf vu := by
    have e : cs = ⟨opCells o vd vk vf vu⟩ := by
      cases cs
      exact congrArg Array.mk hcs
    rw [e]
    rfl
  rw [hcs] at h0k hW' ⊢
  have hlt : ∀ x ∈ p0, x.block < W.heap.size := fun x hx => by simpa using hW'.lt x hx
  refine (diskNone_c o vd vk vf vu W hd hpw k4).mono fun e W' ⟨he, hg⟩ => ?_
  subst he
  refine ⟨_, rfl, _, _, _, [], p0, [], hW', (trodAll_cons_mk (shut_bool Try.underlying4 _) trodAll_mk0), ?_, rfl, kept_of hg _, fun h => by cases h⟩
  have hst0 : DataW.Trod enc Try.prog W' 0 (fun b => decide (b < W.heap.size)) true 32 (opV o vd vk vf vu) d0 p0 :=
    WideElems.Trod_stays (by kernel_rfl) (by kernel_rfl) (of_decide_eq_true (by kernel_rfl)) h0k (fun x hx => same_of hg (hlt x hx)) (fun x hx => by simpa using hlt x hx)
  have ha := trodAll_cons_mk hst0 trodAll_mk0
  simp only [List.append_nil] at ha
  exact ha
set_option maxRecDepth 100000 in
theorem lifted (os : Os) (started : os.Started) (H : Type) (enc : TypeId × Value → H) (F : Stop.Interp) :
    ReturnsInHanded {} Try.checked os 8 .any ((Rows.OpenSpec.upto Rows.diskNoneSpec).pre6 enc Try.prog Try.f8 Rows.diskNoneUptoRow.domain false) (((Rows.OpenSpec.upto Rows.diskNoneSpec).at F).post enc Try.prog Try.f8 false true false false) := by
  refine returnsInHanded_of_cond (C := Try.checked) (s := Rows.OpenSpec.upto Rows.diskNoneSpec) (k := Rows.uptoSmall) rfl own started (by kernel_rfl) Try.func8
    (OpenSpec.witness (enc := enc) (C := Try.checked) (s := Rows.OpenSpec.upto Rows.diskNoneSpec) (k := Rows.uptoSmall) rfl false ⟨#[], #[.agg #[.int .i64 0, .string ⟨#[]⟩, .string ⟨#[]⟩, .int .i64 0, .int .i64 0, .slice none 0 0, .int .i64 0, .slice none 0 0, .slice none 0 0, .slice none 0 0, .int .i64 0]], []⟩ 8 (by kernel_rfl) (by kernel_rfl) (by kernel_rfl)
      (x := ([.agg [.lit (.int .i64 0), .lit (.string []), .lit (.string []), .lit (.int .i64 0), .lit (.int .i64 0), .nil, .agg [.lit (.int .i64 0), .nil, .nil, .nil, .lit (.int .i64 0)]]], [], [])) (by kernel_rfl) rfl (by kernel_rfl)) ?_
  intro W base args ds gs before hval hW _ hk _
  exact contract H enc W base args ds gs before hval hW hk
theorem over : Rows.diskNoneUptoRow.holds Try.pinned (Rows.OpenSpec.upto Rows.diskNoneSpec) :=
  OpenClaim.holds_of_cond 8 Try.f8 rfl rfl rfl rfl rfl rfl rfl ⟨rfl, rfl, rfl, rfl, rfl⟩ rfl rfl rfl rfl rfl (by kernel_rfl) Try.func8 (by kernel_rfl)
    (of_decide_eq_true (by kernel_rfl)) (by unfold Func.isWrapper; first | (rw [if_pos (by decide +kernel)]; kernel_rfl) | (rw [if_neg (by decide +kernel)]; exact ⟨rfl, rfl⟩))
    (fun os started H enc _ F => lifted os started H enc F)
theorem proved : Rows.DiskNoneUptoSaid :=
  over
end diskNone
end Go.Proofs.Ytepphepcaphlkaa
