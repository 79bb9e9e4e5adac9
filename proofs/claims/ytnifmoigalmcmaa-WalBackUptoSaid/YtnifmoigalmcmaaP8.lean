/- WalBack returns true whatever the batches, the cut and the bytes behind are, where the arguments' bulk is at most 1048576: the bytes of batches are read again; cut off anywhere they are a beginning. -/
import Derived.Test.YtnifmoigalmcmaaYp
import Derived.Test.YtnifmoigalmcmaaYt
import Derived.OpenShut
import Derived.JoinedCond
import Derived.Carry
namespace Go.Proofs.Ytnifmoigalmcmaa
open Go Go.RowKit Go.ChangeShapes Go.WideShapes Go.ChangeAt
open Wl
namespace walBack
theorem i64_wf {n : Int} (h : (Lit.int .i64 n).wf = true) : -9223372036854775808 ≤ n ∧ n ≤ 9223372036854775807 := by
  simpa [Lit.wf, IntKind.min, IntKind.max, IntKind.signed, IntKind.bits] using h
theorem own : ownKnob Try.prog.godebug = none := by kernel_rfl
theorem kept_of {c : Col} {W W' : World} (h : ∀ S, Kp c S W W') (may : MemPlace → Prop) : W.keptBut W' may := by
  have hk := h (fun _ => False)
  refine ⟨hk.os, hk.output, fun i hi => ?_⟩
  rw [hk.block i hi (fun h => h)]
  split <;> simp_all
theorem same_of {c : Col} {W W' : World} (h : ∀ S, Kp c S W W') {p : MemPlace} (hp : p.block < W.heap.size) : W.sameAt W' p := by
  have hk := h (fun _ => False)
  cases p with
  | cell b o => exact World.cell?_of_block (w := W) (hk.block b hp (fun h => h))
  | map b => exact hk.block b hp (fun h => h)
set_option maxRecDepth 100000 in
theorem contract (H : Type) (enc : TypeId × Value → H) (W : World) (base : Nat) (args : Array Value) (ds gs : List (DataW H)) (before : List MemPlace)
    (hval : ∀ (j : Nat) t v, Try.f4.params[j]? = some t → args[j]? = some v → Value.okWide Try.prog W .any base t v)
    (hW : DataW.Whole enc Try.prog Try.f4.params.toList Rows.walBackSpec.vars false W args.toList ds gs before) (hk : Rows.uptoSmall H (ds ++ gs) = true) :
    Calls Try.prog 4 args W fun e W' => ∃ v, e = .returned v ∧ Rows.walBackSpec.post enc Try.prog Try.f4 false true false false W args v W' := by
  have hW' := hW
  obtain ⟨p, q, hA0, hV, rfl, hfz, hnd⟩ := hW
  have hA : DataW.TrodAll enc Try.prog W 0 (fun _ => true) true Try.f4.params.toList args.toList ds p := hA0
  rw [Try.params4] at hA hval
  obtain ⟨v0, vs0, d0, ds0, p0, q0, hargs, rfl, rfl, h0, r0⟩ := trodAll_cons hA
  obtain ⟨v1, vs1, d1, ds1, p1, q1, rfl, rfl, rfl, h1, r1⟩ := trodAll_cons r0
  obtain ⟨v2, vs2, d2, ds2, p2, q2, rfl, rfl, rfl, h2, r2⟩ := trodAll_cons r1
  obtain ⟨rfl, rfl, rfl⟩ := trodAll_nil r2
  obtain rfl : args = #[v0, v1, v2] := by cases args; simp_all
  obtain ⟨rfl, rfl⟩ := trodVars_none hV
  obtain ⟨a0, len0, cap0, rfl⟩ := okWide_slice Try.underlying38 (hval 0 38 v0 rfl rfl)
  obtain ⟨r, rfl, rfl, rfl, w1⟩ := open_int Try.underlying3 (hval 1 3 v1 rfl rfl) h1
  obtain ⟨a2, len2, cap2, rfl⟩ := okWide_slice Try.underlying23 (hval 2 23 v2 rfl rfl)
  clear hA0
  simp only [List.append_nil, List.nil_append] at hW'
  have h0k := h0
  have h2k := h2
  obtain ⟨fuel0, hf0⟩ := h0
  obtain ⟨fuel2, hf2⟩ := h2
  have hall := of_decide_eq_true hk
  have hb0 : Rows.uptoBulk d0 ≤ big := Nat.le_trans (bulk_part (d := d0) (l := [d0, DataW.lit (.int .i64 r), d2] ++ []) (List.mem_append_left _ (List.mem_cons_self ..))) hall
  have hb2 : Rows.uptoBulk d2 ≤ big := Nat.le_trans (bulk_part (d := d2) (l := [d0, DataW.lit (.int .i64 r), d2] ++ []) (List.mem_append_left _ (List.mem_cons_of_mem _ (List.mem_cons_of_mem _ (List.mem_cons_self ..))))) hall
  obtain ⟨l, hl, -, hn⟩ := read_log (x := (d0, p0)) hf0 hb0
  obtain ⟨more, hm, hml⟩ := read_bytes hf2
  have hml := big_of hml hb2
  have hr := i64_wf w1
  have hlt0 : ∀ x ∈ p0, x.block < W.heap.size := fun x hx => by simpa using hW'.lt x (List.mem_append_left _ hx)
  have hlt2 : ∀ x ∈ p2, x.block < W.heap.size := fun x hx => by simpa using hW'.lt x (List.mem_append_right _ hx)
  refine (walBack_c l (.slice a0 len0 cap0) (.slice a2 len2 cap2) r more W hl (fun b hb => ⟨Nat.le_trans (hn b hb).1 (by decide), fun r h => Nat.le_trans ((hn b hb).2 r h) (by decide)⟩) hr hm hml).mono fun e W' ⟨he, hg⟩ => ?_
  subst he
  have hg := fun S => hg c00 S
  refine ⟨_, rfl, _, _, _, [], p0 ++ p2, [], hW', (trodAll_cons_mk (shut_bool Try.underlying4 _) trodAll_mk0), ?_, rfl, kept_of hg _, fun h => by cases h⟩
  have hst0 : DataW.Trod enc Try.prog W' 0 (fun b => decide (b < W.heap.size)) true 38 (.slice a0 len0 cap0) d0 p0 :=
    WideElems.Trod_stays (by kernel_rfl) (by kernel_rfl) (of_decide_eq_true (by kernel_rfl)) h0k (fun x hx => same_of hg (hlt0 x hx)) (fun x hx => by simpa using hlt0 x hx)
  have hst2 : DataW.Trod enc Try.prog W' 0 (fun b => decide (b < W.heap.size)) true 23 (.slice a2 len2 cap2) d2 p2 :=
    WideElems.Trod_stays (by kernel_rfl) (by kernel_rfl) (of_decide_eq_true (by kernel_rfl)) h2k (fun x hx => same_of hg (hlt2 x hx)) (fun x hx => by simpa using hlt2 x hx)
  have ha := trodAll_cons_mk hst0 (trodAll_cons_mk (shut_int (enc := enc) (w := W') (base := 0) (spare := fun b => decide (b < W.heap.size)) (held := true) Try.underlying3 w1) (trodAll_cons_mk hst2 trodAll_mk0))
  simp only [List.append_nil, List.nil_append] at ha
  exact ha
set_option maxRecDepth 100000 in
theorem lifted (os : Os) (started : os.Started) (H : Type) (enc : TypeId × Value → H) (F : Stop.Interp) :
    ReturnsInHanded {} Try.checked os 4 .any ((Rows.OpenSpec.upto Rows.walBackSpec).pre6 enc Try.prog Try.f4 Rows.walBackUptoRow.domain false) (((Rows.OpenSpec.upto Rows.walBackSpec).at F).post enc Try.prog Try.f4 false true false false) := by
  refine returnsInHanded_of_cond (C := Try.checked) (s := Rows.OpenSpec.upto Rows.walBackSpec) (k := Rows.uptoSmall) rfl own started (by kernel_rfl) Try.func4
    (OpenSpec.witness (enc := enc) (C := Try.checked) (s := Rows.OpenSpec.upto Rows.walBackSpec) (k := Rows.uptoSmall) rfl false ⟨#[], #[.slice none 0 0, .int .i64 0, .slice none 0 0], []⟩ 8 (by kernel_rfl) (by kernel_rfl) (by kernel_rfl)
      (x := ([.nil, .lit (.int .i64 0), .nil], [], [])) (by kernel_rfl) rfl (by kernel_rfl)) ?_
  intro W base args ds gs before hval hW _ hk _
  exact contract H enc W base args ds gs before hval hW hk
theorem over : Rows.walBackUptoRow.holds Try.pinned (Rows.OpenSpec.upto Rows.walBackSpec) :=
  OpenClaim.holds_of_cond 4 Try.f4 rfl rfl rfl rfl rfl rfl rfl ⟨rfl, rfl, rfl, rfl, rfl⟩ rfl rfl rfl rfl rfl (by kernel_rfl) Try.func4 (by kernel_rfl)
    (of_decide_eq_true (by kernel_rfl)) (by unfold Func.isWrapper; first | (rw [if_pos (by decide +kernel)]; kernel_rfl) | (rw [if_neg (by decide +kernel)]; exact ⟨rfl, rfl⟩))
    (fun os started H enc _ F => lifted os started H enc F)
theorem proved : Rows.WalBackUptoSaid :=
  over
end walBack
end Go.Proofs.Ytnifmoigalmcmaa
