/- math/bits: a word turned. -/
import Derived.Test.YtnifmoigalmcmaaZa
namespace Go.Proofs.Ytnifmoigalmcmaa
open Go Go.RowKit
theorem and63 : ∀ k : Nat, k < 64 → bits BinOp.and IntKind.u64 (k : Int) 63 = (k : Int) := by decide +kernel
def rol (x : Int) (k : Nat) : Int := bits BinOp.or IntKind.u64 (IntKind.u64.wrap (x * 2 ^ k)) (x / 2 ^ (64 - k))
theorem rot_c (w : World) (x : Int) (k : Nat) (hk : k < 64) : Calls Try.prog 70 #[.int .u64 x, .int .i64 k] w fun e w' => e = .returned (.int .u64 (rol x k)) ∧ w = w' := by
  have h := and63 k hk
  go_enter Try.func70, Try.ntmps70
  go_wp2
  go_ret
  exact ⟨rfl, rfl⟩
end Go.Proofs.Ytnifmoigalmcmaa
