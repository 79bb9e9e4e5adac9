/- wal.Log in memory; its functions on a log that nobody opened. -/
import Derived.Test.YtnifmoigalmcmaaYg
import Derived.Test.YtnifmoigalmcmaaOp
import Derived.Test.YtnifmoigalmcmaaSt
namespace Go.Proofs.Ytnifmoigalmcmaa
open Go Go.RowKit
open Wl
variable {c c' : Col} {w w' : World} {S : Nat × Nat → Prop} {q : Nat × Nat}
theorem wis_one (w : World) (b : Nat) (h : w.cell? ⟨b, 0, none⟩ = some (.int .i64 1)) : Calls Try.prog 39 #[ptr b] w fun e w' => e = .returned (.bool true) ∧ w = w' := by
  unfold ptr
  go_enter Try.func39, Try.ntmps39
  go_wp2
  go_ret
  exact ⟨rfl, rfl⟩
theorem wis_zero (w : World) (b : Nat) (h : w.cell? ⟨b, 0, none⟩ = some (.int .i64 0)) : Calls Try.prog 39 #[ptr b] w fun e w' => e = .returned (.bool false) ∧ w = w' := by
  unfold ptr
  go_enter Try.func39, Try.ntmps39
  go_wp2
  go_ret
  exact ⟨rfl, rfl⟩
theorem wis_nil (w : World) : Calls Try.prog 39 #[.pointer none] w fun e w' => e = .returned (.bool false) ∧ w = w' := by
  go_enter Try.func39, Try.ntmps39
  go_wp2
  go_ret
  exact ⟨rfl, rfl⟩
/-- A log that nobody opened. -/
def NoLog (w : World) (v : Value) : Prop := v = .pointer none ∨ ∃ b, v = ptr b ∧ w.cell? ⟨b, 0, none⟩ = some (.int .i64 0)
theorem wis_no {v : Value} (h : NoLog w v) : Calls Try.prog 39 #[v] w fun e w' => e = .returned (.bool false) ∧ w = w' := by
  rcases h with rfl | ⟨b, rfl, h⟩
  · exact wis_nil w
  · exact wis_zero w b h
theorem wappend_no {v vb : Value} (h : NoLog w v) : Calls Try.prog 19 #[v, vb] w fun e w' => e = .returned (.int .i64 100) ∧ w = w' := by
  have H := Lib.hid (wis_no h)
  clear h
  go_enter Try.func19, Try.ntmps19
  go_wp2_with (go_at_call 39; refine H.out.mono ?_; rintro _ w1 ⟨rfl, rfl⟩)
  go_ret
  exact ⟨rfl, rfl⟩
theorem wreset_no {v : Value} (h : NoLog w v) : Calls Try.prog 24 #[v] w fun e w' => e = .returned (.int .i64 100) ∧ w = w' := by
  have H := Lib.hid (wis_no h)
  clear h
  go_enter Try.func24, Try.ntmps24
  go_wp2_with (go_at_call 39; refine H.out.mono ?_; rintro _ w1 ⟨rfl, rfl⟩)
  go_ret
  exact ⟨rfl, rfl⟩
theorem wbatches_no {v : Value} (h : NoLog w v) : Calls Try.prog 21 #[v] w fun e w' => e = .returned (.slice none 0 0) ∧ w = w' := by
  have H := Lib.hid (wis_no h)
  clear h
  go_enter Try.func21, Try.ntmps21
  go_wp2_with (go_at_call 39; refine H.out.mono ?_; rintro _ w1 ⟨rfl, rfl⟩)
  go_ret
  exact ⟨rfl, rfl⟩
theorem wcount_no {v : Value} (h : NoLog w v) : Calls Try.prog 25 #[v] w fun e w' => e = .returned (.int .i64 0) ∧ w = w' := by
  have H := Lib.hid (wis_no h)
  clear h
  go_enter Try.func25, Try.ntmps25
  go_wp2_with (go_at_call 39; refine H.out.mono ?_; rintro _ w1 ⟨rfl, rfl⟩)
  go_ret
  exact ⟨rfl, rfl⟩
theorem wsize_no {v : Value} (h : NoLog w v) : Calls Try.prog 26 #[v] w fun e w' => e = .returned (.int .i64 0) ∧ w = w' := by
  have H := Lib.hid (wis_no h)
  clear h
  go_enter Try.func26, Try.ntmps26
  go_wp2_with (go_at_call 39; refine H.out.mono ?_; rintro _ w1 ⟨rfl, rfl⟩)
  go_ret
  exact ⟨rfl, rfl⟩
theorem count_c (w : World) (b : Nat) (h : w.cell? ⟨b, 0, none⟩ = some (.int .i64 1)) {a : Option Addr} {n k : Nat} (hb : w.cell? ⟨b, 3, none⟩ = some (.slice a n k)) : Calls Try.prog 25 #[ptr b] w fun e w' => e = .returned (.int .i64 n) ∧ w = w' := by
  have H := Lib.hid (wis_one w b h)
  unfold ptr at H ⊢
  go_enter Try.func25, Try.ntmps25
  go_wp2_with (go_at_call 39; refine H.out.mono ?_; rintro _ w1 ⟨rfl, rfl⟩)
  go_ret
  exact ⟨rfl, rfl⟩
theorem wsize_c (w : World) (b : Nat) (h : w.cell? ⟨b, 0, none⟩ = some (.int .i64 1)) {n : Int} (hb : w.cell? ⟨b, 4, none⟩ = some (.int .i64 n)) : Calls Try.prog 26 #[ptr b] w fun e w' => e = .returned (.int .i64 n) ∧ w = w' := by
  have H := Lib.hid (wis_one w b h)
  unfold ptr at H ⊢
  go_enter Try.func26, Try.ntmps26
  go_wp2_with (go_at_call 39; refine H.out.mono ?_; rintro _ w1 ⟨rfl, rfl⟩)
  go_ret
  exact ⟨rfl, rfl⟩
end Go.Proofs.Ytnifmoigalmcmaa
