/- WalBytes returns true whatever the number, the batch and the bytes are, where the arguments' bulk is at most 1048576: any batch's bytes, and any bytes as batches, are what the document says. -/
import Derived.Test.YtnifmoigalmcmaaYp
import Derived.Test.YtnifmoigalmcmaaUe
import Derived.OpenShut
import Derived.JoinedCond
import Derived.Carry
namespace Go.Proofs.Ytnifmoigalmcmaa
open Go Go.RowKit Go.ChangeShapes Go.WideShapes Go.ChangeAt
open Wl
namespace walBytes
theorem i64_wf {n : Int} (h : (Lit.int .i64 n).wf = true) : -9223372036854775808 ≤ n ∧ n ≤ 9223372036854775807 := by
  simpa [Lit.wf, IntKind.min, IntKind.max, IntKind.signed, IntKind.bits] using h
theorem own : ownKnob Try.prog.godebug = none := by kernel_rfl
theorem kept_of {c : Col} {W W' : World} (h : ∀ S, Kp c S W W') (may : MemPlace → Prop) : W.keptBut W' may := by
  have hk := h (fun _ => False)
  refine ⟨hk.os, hk.output, fun i hi => ?_⟩
  rw [hk.block i hi (fun h => h)]
  split <;> simp_all
theorem same_of {c : Col} {W W' : World} (h : ∀ S, Kp c S W W') {p : MemPlace} (hp : p.block < W.heap.size) : W.sameAt W' p := by
  have hk := h (fun _ => False)
  cases p with
  | cell b o => exact World.cell?_of_block (w := W) (hk.block b hp (fun h => h))
  | map b => exact hk.block b hp (fun h => h)
set_option maxRecDepth 100000 in
theorem contract (H : Type) (enc : TypeId × Value → H) (W : World) (base : Nat) (args : Array Value) (ds gs : List (DataW H)) (before : List MemPlace)
    (hval : ∀ (j : Nat) t v, Try.f3.params[j]? = some t → args[j]? = some v → Value.okWide Try.prog W .any base t v)
    (hW : DataW.Whole enc Try.prog Try.f3.params.toList Rows.walBytesSpec.vars false W args.toList ds gs before) (hk : Rows.uptoSmall H (ds ++ gs) = true) :
    Calls Try.prog 3 args W fun e W' => ∃ v, e = .returned v ∧ Rows.walBytesSpec.post enc Try.prog Try.f3 false true false false W args v W' := by
  have hW' := hW
  obtain ⟨p, q, hA0, hV, rfl, hfz, hnd⟩ := hW
  have hA : DataW.TrodAll enc Try.prog W 0 (fun _ => true) true Try.f3.params.toList args.toList ds p := hA0
  rw [Try.params3] at hA hval
  obtain ⟨v0, vs0, d0, ds0, p0, q0, hargs, rfl, rfl, h0, r0⟩ := trodAll_cons hA
  obtain ⟨v1, vs1, d1, ds1, p1, q1, rfl, rfl, rfl, h1, r1⟩ := trodAll_cons r0
  obtain ⟨v2, vs2, d2, ds2, p2, q2, rfl, rfl, rfl, h2, r2⟩ := trodAll_cons r1
  obtain ⟨rfl, rfl, rfl⟩ := trodAll_nil r2
  obtain rfl : args = #[v0, v1, v2] := by cases args; simp_all
  obtain ⟨rfl, rfl⟩ := trodVars_none hV
  obtain ⟨r, rfl, rfl, rfl, w0⟩ := open_int Try.underlying3 (hval 0 3 v0 rfl rfl) h0
  obtain ⟨a1, len1, cap1, rfl⟩ := okWide_slice Try.underlying22 (hval 1 22 v1 rfl rfl)
  obtain ⟨a2, len2, cap2, rfl⟩ := okWide_slice Try.underlying23 (hval 2 23 v2 rfl rfl)
  clear hA0
  simp only [List.append_nil, List.nil_append] at hW'
  have h1k := h1
  have h2k := h2
  obtain ⟨fuel1, hf1⟩ := h1
  obtain ⟨fuel2, hf2⟩ := h2
  have hall := of_decide_eq_true hk
  have hb1 : Rows.uptoBulk d1 ≤ big := Nat.le_trans (bulk_part (d := d1) (l := [DataW.lit (.int .i64 r), d1, d2] ++ []) (List.mem_append_left _ (List.mem_cons_of_mem _ (List.mem_cons_self ..)))) hall
  have hb2 : Rows.uptoBulk d2 ≤ big := Nat.le_trans (bulk_part (d := d2) (l := [DataW.lit (.int .i64 r), d1, d2] ++ []) (List.mem_append_left _ (List.mem_cons_of_mem _ (List.mem_cons_of_mem _ (List.mem_cons_self ..))))) hall
  obtain ⟨l, hl, hn1, hn2⟩ := read_batch (x := (d1, p1)) hf1 hb1
  obtain ⟨more, hm, hml⟩ := read_bytes hf2
  have hml := big_of hml hb2
  have hr := i64_wf w0
  have hlt1 : ∀ x ∈ p1, x.block < W.heap.size := fun x hx => by simpa using hW'.lt x (List.mem_append_left _ hx)
  have hlt2 : ∀ x ∈ p2, x.block < W.heap.size := fun x hx => by simpa using hW'.lt x (List.mem_append_right _ hx)
  refine (walBytes_c r (.slice a1 len1 cap1) (.slice a2 len2 cap2) l more W hl ⟨Nat.le_trans hn1 (by decide), fun x h => Nat.le_trans (hn2 x h) (by decide)⟩ hr hm hml).mono fun e W' ⟨he, hg⟩ => ?_
  subst he
  have hg := fun S => hg c00 S
  refine ⟨_, rfl, _, _, _, [], p1 ++ p2, [], hW', (trodAll_cons_mk (shut_bool Try.underlying4 _) trodAll_mk0), ?_, rfl, kept_of hg _, fun h => by cases h⟩
  have hst1 : DataW.Trod enc Try.prog W' 0 (fun b => decide (b < W.heap.size)) true 22 (.slice a1 len1 cap1) d1 p1 :=
    WideElems.Trod_stays (by kernel_rfl) (by kernel_rfl) (of_decide_eq_true (by kernel_rfl)) h1k (fun x hx => same_of hg (hlt1 x hx)) (fun x hx => by simpa using hlt1 x hx)
  have hst2 : DataW.Trod enc Try.prog W' 0 (fun b => decide (b < W.heap.size)) true 23 (.slice a2 len2 cap2) d2 p2 :=
    WideElems.Trod_stays (by kernel_rfl) (by kernel_rfl) (of_decide_eq_true (by kernel_rfl)) h2k (fun x hx => same_of hg (hlt2 x hx)) (fun x hx => by simpa using hlt2 x hx)
  have ha := trodAll_cons_mk (shut_int (enc := enc) (w := W') (base := 0) (spare := fun b => decide (b < W.heap.size)) (held := true) Try.underlying3 w0) (trodAll_cons_mk hst1 (trodAll_cons_mk hst2 trodAll_mk0))
  simp only [List.append_nil, List.nil_append] at ha
  exact ha
set_option maxRecDepth 100000 in
theorem lifted (os : Os) (started : os.Started) (H : Type) (enc : TypeId × Value → H) (F : Stop.Interp) :
    ReturnsInHanded {} Try.checked os 3 .any ((Rows.OpenSpec.upto Rows.walBytesSpec).pre6 enc Try.prog Try.f3 Rows.walBytesUptoRow.domain false) (((Rows.OpenSpec.upto Rows.walBytesSpec).at F).post enc Try.prog Try.f3 false true false false) := by
  refine returnsInHanded_of_cond (C := Try.checked) (s := Rows.OpenSpec.upto Rows.walBytesSpec) (k := Rows.uptoSmall) rfl own started (by kernel_rfl) Try.func3
    (OpenSpec.witness (enc := enc) (C := Try.checked) (s := Rows.OpenSpec.upto Rows.walBytesSpec) (k := Rows.uptoSmall) rfl false ⟨#[], #[.int .i64 0, .slice none 0 0, .slice none 0 0], []⟩ 8 (by kernel_rfl) (by kernel_rfl) (by kernel_rfl)
      (x := ([.lit (.int .i64 0), .nil, .nil], [], [])) (by kernel_rfl) rfl (by kernel_rfl)) ?_
  intro W base args ds gs before hval hW _ hk _
  exact contract H enc W base args ds gs before hval hW hk
theorem over : Rows.walBytesUptoRow.holds Try.pinned (Rows.OpenSpec.upto Rows.walBytesSpec) :=
  OpenClaim.holds_of_cond 3 Try.f3 rfl rfl rfl rfl rfl rfl rfl ⟨rfl, rfl, rfl, rfl, rfl⟩ rfl rfl rfl rfl rfl (by kernel_rfl) Try.func3 (by kernel_rfl)
    (of_decide_eq_true (by kernel_rfl)) (by unfold Func.isWrapper; first | (rw [if_pos (by decide +kernel)]; kernel_rfl) | (rw [if_neg (by decide +kernel)]; exact ⟨rfl, rfl⟩))
    (fun os started H enc _ F => lifted os started H enc F)
theorem proved : Rows.WalBytesUptoSaid :=
  over
end walBytes
end Go.Proofs.Ytnifmoigalmcmaa
