/- A disk that nobody made: what each function answers. -/
import Derived.Test.YtepphepcaphlkaaF
namespace Go.Proofs.Ytepphepcaphlkaa
open Go Go.RowKit Go.MapKept Go.Maps
open Dk
def NoD (w : World) (p : Option Addr) : Prop := p = none ∨ ∃ b, p = some ⟨b, 0, none⟩ ∧ w.cell? ⟨b, 0, none⟩ = some (.int .i64 0)
theorem is_no (w : World) (p : Option Addr) (h : NoD w p) : Calls Try.prog 37 #[.pointer p] w fun e w' => e = .returned (.bool false) ∧ w = w' := by
  rcases h with rfl | ⟨b, rfl, h⟩
  · go_enter Try.func37, Try.ntmps37
    go_wp2
    go_ret
    exact ⟨rfl, rfl⟩
  · go_enter Try.func37, Try.ntmps37
    go_wp2
    go_ret
    exact ⟨rfl, rfl⟩
theorem begin_no (w : World) (p : Option Addr) (h : NoD w p) : Calls Try.prog 60 #[.pointer p] w fun e w' => e = .returned (.int .i64 10) ∧ w = w' := by
  go_enter Try.func60, Try.ntmps60
  go_wp2_with (go_at_call 37; refine (is_no _ _ h).mono ?_; rintro e w' ⟨rfl, rfl⟩)
  go_ret
  exact ⟨rfl, rfl⟩
theorem open_no (w : World) (p : Option Addr) (h : NoD w p) (s : ByteArray) : Calls Try.prog 43 #[.pointer p, .string s] w fun e w' => e = .returned (.tuple #[.pointer none, .int .i64 10]) ∧ w = w' := by
  go_enter Try.func43, Try.ntmps43
  go_wp2_with (go_at_call 60; refine (begin_no _ _ h).mono ?_; rintro e w' ⟨rfl, rfl⟩)
  go_ret2
  exact ⟨rfl, rfl⟩
theorem look_no (w : World) (p : Option Addr) (h : NoD w p) (s : ByteArray) : Calls Try.prog 42 #[.pointer p, .string s] w fun e w' => e = .returned (.tuple #[.pointer none, .int .i64 10]) ∧ w = w' := by
  go_enter Try.func42, Try.ntmps42
  go_wp2_with (go_at_call 37; refine (is_no _ _ h).mono ?_; rintro e w' ⟨rfl, rfl⟩)
  go_ret2
  exact ⟨rfl, rfl⟩
theorem create_no (w : World) (p : Option Addr) (h : NoD w p) (s : ByteArray) : Calls Try.prog 29 #[.pointer p, .string s] w fun e w' => e = .returned (.int .i64 10) ∧ w = w' := by
  go_enter Try.func29, Try.ntmps29
  go_wp2_with (go_at_call 60; refine (begin_no _ _ h).mono ?_; rintro e w' ⟨rfl, rfl⟩)
  go_ret
  exact ⟨rfl, rfl⟩
theorem append_no (w : World) (p : Option Addr) (h : NoD w p) (s : ByteArray) (a : Option Addr) (n k : Nat) : Calls Try.prog 30 #[.pointer p, .string s, .slice a n k] w fun e w' => e = .returned (.int .i64 10) ∧ w = w' := by
  go_enter Try.func30, Try.ntmps30
  go_wp2_with (go_at_call 43; refine (open_no _ _ h _).mono ?_; rintro e w' ⟨rfl, rfl⟩)
  go_ret
  exact ⟨rfl, rfl⟩
theorem writeAt_no (w : World) (p : Option Addr) (h : NoD w p) (s : ByteArray) (i : Int) (a : Option Addr) (n k : Nat) : Calls Try.prog 33 #[.pointer p, .string s, .int .i64 i, .slice a n k] w fun e w' => e = .returned (.int .i64 10) ∧ w = w' := by
  go_enter Try.func33, Try.ntmps33
  go_wp2_with (go_at_call 43; refine (open_no _ _ h _).mono ?_; rintro e w' ⟨rfl, rfl⟩)
  go_ret
  exact ⟨rfl, rfl⟩
theorem truncate_no (w : World) (p : Option Addr) (h : NoD w p) (s : ByteArray) (i : Int) : Calls Try.prog 34 #[.pointer p, .string s, .int .i64 i] w fun e w' => e = .returned (.int .i64 10) ∧ w = w' := by
  go_enter Try.func34, Try.ntmps34
  go_wp2_with (go_at_call 43; refine (open_no _ _ h _).mono ?_; rintro e w' ⟨rfl, rfl⟩)
  go_ret
  exact ⟨rfl, rfl⟩
theorem sync_no (w : World) (p : Option Addr) (h : NoD w p) (s : ByteArray) : Calls Try.prog 20 #[.pointer p, .string s] w fun e w' => e = .returned (.int .i64 10) ∧ w = w' := by
  go_enter Try.func20, Try.ntmps20
  go_wp2_with (go_at_call 43; refine (open_no _ _ h _).mono ?_; rintro e w' ⟨rfl, rfl⟩)
  go_ret
  exact ⟨rfl, rfl⟩
theorem remove_no (w : World) (p : Option Addr) (h : NoD w p) (s : ByteArray) : Calls Try.prog 36 #[.pointer p, .string s] w fun e w' => e = .returned (.int .i64 10) ∧ w = w' := by
  go_enter Try.func36, Try.ntmps36
  go_wp2_with (go_at_call 43; refine (open_no _ _ h _).mono ?_; rintro e w' ⟨rfl, rfl⟩)
  go_ret
  exact ⟨rfl, rfl⟩
theorem rename_no (w : World) (p : Option Addr) (h : NoD w p) (s s2 : ByteArray) : Calls Try.prog 35 #[.pointer p, .string s, .string s2] w fun e w' => e = .returned (.int .i64 10) ∧ w = w' := by
  go_enter Try.func35, Try.ntmps35
  go_wp2_with (go_at_call 43; refine (open_no _ _ h _).mono ?_; rintro e w' ⟨rfl, rfl⟩)
  go_ret
  exact ⟨rfl, rfl⟩
theorem size_no (w : World) (p : Option Addr) (h : NoD w p) (s : ByteArray) : Calls Try.prog 19 #[.pointer p, .string s] w fun e w' => e = .returned (.tuple #[.int .i64 0, .int .i64 10]) ∧ w = w' := by
  go_enter Try.func19, Try.ntmps19
  go_wp2_with (go_at_call 42; refine (look_no _ _ h _).mono ?_; rintro e w' ⟨rfl, rfl⟩)
  go_ret2
  exact ⟨rfl, rfl⟩
theorem read_no (w : World) (p : Option Addr) (h : NoD w p) (s : ByteArray) (i n : Int) : Calls Try.prog 21 #[.pointer p, .string s, .int .i64 i, .int .i64 n] w fun e w' => e = .returned (.tuple #[.slice none 0 0, .int .i64 10]) ∧ w = w' := by
  go_enter Try.func21, Try.ntmps21
  go_wp2_with (go_at_call 42; refine (look_no _ _ h _).mono ?_; rintro e w' ⟨rfl, rfl⟩)
  go_ret2
  exact ⟨rfl, rfl⟩
theorem files_no (w : World) (p : Option Addr) (h : NoD w p) : Calls Try.prog 13 #[.pointer p] w fun e w' => e = .returned (.slice none 0 0) ∧ w = w' := by
  go_enter Try.func13, Try.ntmps13
  go_wp2_with (go_at_call 37; refine (is_no _ _ h).mono ?_; rintro e w' ⟨rfl, rfl⟩)
  go_ret
  exact ⟨rfl, rfl⟩
theorem safe_no (w : World) (p : Option Addr) (h : NoD w p) : Calls Try.prog 14 #[.pointer p] w fun e w' => e = .returned (.slice none 0 0) ∧ w = w' := by
  go_enter Try.func14, Try.ntmps14
  go_wp2_with (go_at_call 37; refine (is_no _ _ h).mono ?_; rintro e w' ⟨rfl, rfl⟩)
  go_ret
  exact ⟨rfl, rfl⟩
theorem ops_no (w : World) (p : Option Addr) (h : NoD w p) : Calls Try.prog 17 #[.pointer p] w fun e w' => e = .returned (.int .i64 0) ∧ w = w' := by
  go_enter Try.func17, Try.ntmps17
  go_wp2_with (go_at_call 37; refine (is_no _ _ h).mono ?_; rintro e w' ⟨rfl, rfl⟩)
  go_ret
  exact ⟨rfl, rfl⟩
theorem dead_no (w : World) (p : Option Addr) (h : NoD w p) : Calls Try.prog 27 #[.pointer p] w fun e w' => e = .returned (.bool true) ∧ w = w' := by
  go_enter Try.func27, Try.ntmps27
  go_wp2_with (go_at_call 37; refine (is_no _ _ h).mono ?_; rintro e w' ⟨rfl, rfl⟩)
  go_ret
  exact ⟨rfl, rfl⟩
theorem start_no (w : World) (p : Option Addr) (h : NoD w p) (x y : Int) (a1 a2 a3 : Option Addr) (n1 n2 n3 k1 k2 k3 : Nat) : Calls Try.prog 15 #[.pointer p, .agg #[.int .i64 x, .slice a1 n1 k1, .slice a2 n2 k2, .slice a3 n3 k3, .int .i64 y]] w fun e w' => e = .returned (.int .i64 10) ∧ ∃ o, w' = w.alloc o := by
  have h1 : NoD (w.alloc (.cells #[.int .i64 x, .slice a1 n1 k1, .slice a2 n2 k2, .slice a3 n3 k3, .int .i64 y] 29)) p := by
    rcases h with rfl | ⟨b, rfl, h⟩
    · exact .inl rfl
    · exact .inr ⟨b, rfl, ((Kp.refl (fun _ => (0, 0)) (fun _ => False) w).alloc _).cell h (fun h => h)⟩
  go_enter Try.func15, Try.ntmps15
  go_wp2_with (go_at_call 37; refine (is_no _ _ h1).mono ?_; rintro e w' ⟨rfl, rfl⟩)
  go_ret
  exact ⟨rfl, _, rfl⟩
end Go.Proofs.Ytepphepcaphlkaa
