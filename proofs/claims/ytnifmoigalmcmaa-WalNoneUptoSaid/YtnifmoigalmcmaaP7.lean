/- WalNone returns true whatever the batch is, where its bulk is at most 1048576: a log that nobody opened has nothing and takes nothing. -/
import Derived.Test.YtnifmoigalmcmaaYp
import Derived.Test.YtnifmoigalmcmaaYn
import Derived.OpenShut
import Derived.JoinedCond
import Derived.Carry
namespace Go.Proofs.Ytnifmoigalmcmaa
open Go Go.RowKit Go.ChangeShapes Go.WideShapes Go.ChangeAt
open Wl
namespace walNone
theorem own : ownKnob Try.prog.godebug = none := by kernel_rfl
theorem kept_of {c : Col} {W W' : World} (h : ∀ S, Kp c S W W') (may : MemPlace → Prop) : W.keptBut W' may := by
  have hk := h (fun _ => False)
  refine ⟨hk.os, hk.output, fun i hi => ?_⟩
  rw [hk.block i hi (fun h => h)]
  split <;> simp_all
theorem same_of {c : Col} {W W' : World} (h : ∀ S, Kp c S W W') {p : MemPlace} (hp : p.block < W.heap.size) : W.sameAt W' p := by
  have hk := h (fun _ => False)
  cases p with
  | cell b o => exact World.cell?_of_block (w := W) (hk.block b hp (fun h => h))
  | map b => exact hk.block b hp (fun h => h)
set_option maxRecDepth 100000 in
theorem contract (H : Type) (enc : TypeId × Value → H) (W : World) (base : Nat) (args : Array Value) (ds gs : List (DataW H)) (before : List MemPlace)
    (hval : ∀ (j : Nat) t v, Try.f6.params[j]? = some t → args[j]? = some v → Value.okWide Try.prog W .any base t v)
    (hW : DataW.Whole enc Try.prog Try.f6.params.toList Rows.walNoneSpec.vars false W args.toList ds gs before) (hk : Rows.uptoSmall H (ds ++ gs) = true) :
    Calls Try.prog 6 args W fun e W' => ∃ v, e = .returned v ∧ Rows.walNoneSpec.post enc Try.prog Try.f6 false true false false W args v W' := by
  have hW' := hW
  obtain ⟨p, q, hA0, hV, rfl, hfz, hnd⟩ := hW
  have hA : DataW.TrodAll enc Try.prog W 0 (fun _ => true) true Try.f6.params.toList args.toList ds p := hA0
  rw [Try.params6] at hA hval
  obtain ⟨v0, vs0, d0, ds0, p0, q0, hargs, rfl, rfl, h0, r0⟩ := trodAll_cons hA
  obtain ⟨rfl, rfl, rfl⟩ := trodAll_nil r0
  obtain rfl : args = #[v0] := by cases args; simp_all
  obtain ⟨rfl, rfl⟩ := trodVars_none hV
  obtain ⟨a0, len, cap, rfl⟩ := okWide_slice Try.underlying22 (hval 0 22 v0 rfl rfl)
  clear hA0
  simp only [List.append_nil] at hW'
  have h0k := h0
  obtain ⟨fuel0, hf0⟩ := h0
  have hall := of_decide_eq_true hk
  have hb0 : Rows.uptoBulk d0 ≤ big := Nat.le_trans (bulk_part (d := d0) (l := [d0] ++ []) (List.mem_append_left _ (List.mem_cons_self ..))) hall
  obtain ⟨l, hl, hn, hr⟩ := read_batch (x := (d0, p0)) hf0 hb0
  have hlt : ∀ x ∈ p0, x.block < W.heap.size := fun x hx => by simpa using hW'.lt x hx
  refine (walNone_c l (.slice a0 len cap) W hl (Nat.le_trans hn (by decide)) hr).mono fun e W' ⟨he, hg⟩ => ?_
  subst he
  refine ⟨_, rfl, _, _, _, [], p0, [], hW', (trodAll_cons_mk (shut_bool Try.underlying4 _) trodAll_mk0), ?_, rfl, kept_of hg _, fun h => by cases h⟩
  have hst0 : DataW.Trod enc Try.prog W' 0 (fun b => decide (b < W.heap.size)) true 22 (.slice a0 len cap) d0 p0 :=
    WideElems.Trod_stays (by kernel_rfl) (by kernel_rfl) (of_decide_eq_true (by kernel_rfl)) h0k (fun x hx => same_of hg (hlt x hx)) (fun x hx => by simpa using hlt x hx)
  have ha := trodAll_cons_mk hst0 trodAll_mk0
  simp only [List.append_nil] at ha
  exact ha
set_option maxRecDepth 100000 in
theorem lifted (os : Os) (started : os.Started) (H : Type) (enc : TypeId × Value → H) (F : Stop.Interp) :
    ReturnsInHanded {} Try.checked os 6 .any ((Rows.OpenSpec.upto Rows.walNoneSpec).pre6 enc Try.prog Try.f6 Rows.walNoneUptoRow.domain false) (((Rows.OpenSpec.upto Rows.walNoneSpec).at F).post enc Try.prog Try.f6 false true false false) := by
  refine returnsInHanded_of_cond (C := Try.checked) (s := Rows.OpenSpec.upto Rows.walNoneSpec) (k := Rows.uptoSmall) rfl own started (by kernel_rfl) Try.func6
    (OpenSpec.witness (enc := enc) (C := Try.checked) (s := Rows.OpenSpec.upto Rows.walNoneSpec) (k := Rows.uptoSmall) rfl false ⟨#[], #[.slice none 0 0], []⟩ 8 (by kernel_rfl) (by kernel_rfl) (by kernel_rfl)
      (x := ([.nil], [], [])) (by kernel_rfl) rfl (by kernel_rfl)) ?_
  intro W base args ds gs before hval hW _ hk _
  exact contract H enc W base args ds gs before hval hW hk
theorem over : Rows.walNoneUptoRow.holds Try.pinned (Rows.OpenSpec.upto Rows.walNoneSpec) :=
  OpenClaim.holds_of_cond 6 Try.f6 rfl rfl rfl rfl rfl rfl rfl ⟨rfl, rfl, rfl, rfl, rfl⟩ rfl rfl rfl rfl rfl (by kernel_rfl) Try.func6 (by kernel_rfl)
    (of_decide_eq_true (by kernel_rfl)) (by unfold Func.isWrapper; first | (rw [if_pos (by decide +kernel)]; kernel_rfl) | (rw [if_neg (by decide +kernel)]; exact ⟨rfl, rfl⟩))
    (fun os started H enc _ F => lifted os started H enc F)
theorem proved : Rows.WalNoneUptoSaid :=
  over
end walNone
end Go.Proofs.Ytnifmoigalmcmaa
