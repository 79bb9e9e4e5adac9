import Derived.Test.YtepphepcaphlkaaK
namespace Go.Proofs.Ytepphepcaphlkaa
open Go Go.RowKit Go.MapKept Go.Maps
open Dk
variable {c c' : Col} {w w' : World}
theorem ops_c (k d : Nat) (m : ADisk) (w : World) (DD : DiskAt w c k d m) : Calls Try.prog 17 #[ptr d] w fun e w' => e = .returned (.int .i64 m.ops) ∧ w = w' := by
  obtain ⟨vk, vf, vu, mb, es, ck, fb, D⟩ := DD
  have hc0 := D.c0
  have hc6 := D.c6
  clear D
  unfold ptr
  go_enter Try.func17, Try.ntmps17
  go_wp2_with (go_at_call 37; refine (is_one _ _ hc0).mono ?_; rintro e w' ⟨rfl, rfl⟩)
  go_ret
  exact ⟨rfl, rfl⟩
theorem dead_c (k d : Nat) (m : ADisk) (w : World) (DD : DiskAt w c k d m) : Calls Try.prog 27 #[ptr d] w fun e w' => e = .returned (.bool m.dead) ∧ w = w' := by
  obtain ⟨vk, vf, vu, mb, es, ck, fb, D⟩ := DD
  have hc0 := D.c0
  have hc7 := D.c7
  clear D
  unfold ptr
  cases hd : m.dead
  all_goals
    rw [hd] at hc7
    clear hd
    go_enter Try.func27, Try.ntmps27
    go_wp2_with (go_at_call 37; refine (is_one _ _ hc0).mono ?_; rintro e w' ⟨rfl, rfl⟩)
    go_ret
    exact ⟨rfl, rfl⟩
def planV (p : APlan) (vk vf vu : Value) : Value := .agg #[.int .i64 p.crash, vk, vf, vu, .int .i64 p.room]
end Go.Proofs.Ytepphepcaphlkaa
