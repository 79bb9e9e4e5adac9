/- A disk that nobody made: what each function answers. -/
import Derived.Test.YtnifmoigalmcmaaF
namespace Go.Proofs.Ytnifmoigalmcmaa
open Go Go.RowKit Go.MapKept Go.Maps
open Dk
def NoD (w : World) (p : Option Addr) : Prop := p = none ∨ ∃ b, p = some ⟨b, 0, none⟩ ∧ w.cell? ⟨b, 0, none⟩ = some (.int .i64 0)
theorem is_no (w : World) (p : Option Addr) (h : NoD w p) : Calls Try.prog 43 #[.pointer p] w fun e w' => e = .returned (.bool false) ∧ w = w' := by
  rcases h with rfl | ⟨b, rfl, h⟩
  · go_enter Try.func43, Try.ntmps43
    go_wp2
    go_ret
    exact ⟨rfl, rfl⟩
  · go_enter Try.func43, Try.ntmps43
    go_wp2
    go_ret
    exact ⟨rfl, rfl⟩
theorem begin_no (w : World) (p : Option Addr) (h : NoD w p) : Calls Try.prog 60 #[.pointer p] w fun e w' => e = .returned (.int .i64 10) ∧ w = w' := by
  go_enter Try.func60, Try.ntmps60
  go_wp2_with (go_at_call 43; refine (is_no _ _ h).mono ?_; rintro e w' ⟨rfl, rfl⟩)
  go_ret
  exact ⟨rfl, rfl⟩
theorem open_no (w : World) (p : Option Addr) (h : NoD w p) (s : ByteArray) : Calls Try.prog 63 #[.pointer p, .string s] w fun e w' => e = .returned (.tuple #[.pointer none, .int .i64 10]) ∧ w = w' := by
  go_enter Try.func63, Try.ntmps63
  go_wp2_with (go_at_call 60; refine (begin_no _ _ h).mono ?_; rintro e w' ⟨rfl, rfl⟩)
  go_ret2
  exact ⟨rfl, rfl⟩
theorem look_no (w : World) (p : Option Addr) (h : NoD w p) (s : ByteArray) : Calls Try.prog 59 #[.pointer p, .string s] w fun e w' => e = .returned (.tuple #[.pointer none, .int .i64 10]) ∧ w = w' := by
  go_enter Try.func59, Try.ntmps59
  go_wp2_with (go_at_call 43; refine (is_no _ _ h).mono ?_; rintro e w' ⟨rfl, rfl⟩)
  go_ret2
  exact ⟨rfl, rfl⟩
theorem create_no (w : World) (p : Option Addr) (h : NoD w p) (s : ByteArray) : Calls Try.prog 36 #[.pointer p, .string s] w fun e w' => e = .returned (.int .i64 10) ∧ w = w' := by
  go_enter Try.func36, Try.ntmps36
  go_wp2_with (go_at_call 60; refine (begin_no _ _ h).mono ?_; rintro e w' ⟨rfl, rfl⟩)
  go_ret
  exact ⟨rfl, rfl⟩
theorem append_no (w : World) (p : Option Addr) (h : NoD w p) (s : ByteArray) (a : Option Addr) (n k : Nat) : Calls Try.prog 40 #[.pointer p, .string s, .slice a n k] w fun e w' => e = .returned (.int .i64 10) ∧ w = w' := by
  go_enter Try.func40, Try.ntmps40
  go_wp2_with (go_at_call 63; refine (open_no _ _ h _).mono ?_; rintro e w' ⟨rfl, rfl⟩)
  go_ret
  exact ⟨rfl, rfl⟩
theorem truncate_no (w : World) (p : Option Addr) (h : NoD w p) (s : ByteArray) (i : Int) : Calls Try.prog 48 #[.pointer p, .string s, .int .i64 i] w fun e w' => e = .returned (.int .i64 10) ∧ w = w' := by
  go_enter Try.func48, Try.ntmps48
  go_wp2_with (go_at_call 63; refine (open_no _ _ h _).mono ?_; rintro e w' ⟨rfl, rfl⟩)
  go_ret
  exact ⟨rfl, rfl⟩
theorem sync_no (w : World) (p : Option Addr) (h : NoD w p) (s : ByteArray) : Calls Try.prog 41 #[.pointer p, .string s] w fun e w' => e = .returned (.int .i64 10) ∧ w = w' := by
  go_enter Try.func41, Try.ntmps41
  go_wp2_with (go_at_call 63; refine (open_no _ _ h _).mono ?_; rintro e w' ⟨rfl, rfl⟩)
  go_ret
  exact ⟨rfl, rfl⟩
theorem size_no (w : World) (p : Option Addr) (h : NoD w p) (s : ByteArray) : Calls Try.prog 35 #[.pointer p, .string s] w fun e w' => e = .returned (.tuple #[.int .i64 0, .int .i64 10]) ∧ w = w' := by
  go_enter Try.func35, Try.ntmps35
  go_wp2_with (go_at_call 59; refine (look_no _ _ h _).mono ?_; rintro e w' ⟨rfl, rfl⟩)
  go_ret2
  exact ⟨rfl, rfl⟩
theorem read_no (w : World) (p : Option Addr) (h : NoD w p) (s : ByteArray) (i n : Int) : Calls Try.prog 37 #[.pointer p, .string s, .int .i64 i, .int .i64 n] w fun e w' => e = .returned (.tuple #[.slice none 0 0, .int .i64 10]) ∧ w = w' := by
  go_enter Try.func37, Try.ntmps37
  go_wp2_with (go_at_call 59; refine (look_no _ _ h _).mono ?_; rintro e w' ⟨rfl, rfl⟩)
  go_ret2
  exact ⟨rfl, rfl⟩
theorem start_no (w : World) (p : Option Addr) (h : NoD w p) (x y : Int) (a1 a2 a3 : Option Addr) (n1 n2 n3 k1 k2 k3 : Nat) : Calls Try.prog 20 #[.pointer p, .agg #[.int .i64 x, .slice a1 n1 k1, .slice a2 n2 k2, .slice a3 n3 k3, .int .i64 y]] w fun e w' => e = .returned (.int .i64 10) ∧ ∃ o, w' = w.alloc o := by
  have h1 : NoD (w.alloc (.cells #[.int .i64 x, .slice a1 n1 k1, .slice a2 n2 k2, .slice a3 n3 k3, .int .i64 y] 28)) p := by
    rcases h with rfl | ⟨b, rfl, h⟩
    · exact .inl rfl
    · exact .inr ⟨b, rfl, ((Kp.refl (fun _ => (0, 0)) (fun _ => False) w).alloc _).cell h (fun h => h)⟩
  go_enter Try.func20, Try.ntmps20
  go_wp2_with (go_at_call 43; refine (is_no _ _ h1).mono ?_; rintro e w' ⟨rfl, rfl⟩)
  go_ret
  exact ⟨rfl, _, rfl⟩
end Go.Proofs.Ytnifmoigalmcmaa
