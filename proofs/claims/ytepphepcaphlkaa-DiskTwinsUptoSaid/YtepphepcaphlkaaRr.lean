/- A region that draws its order, in a round of a range over a function: shown as elsewhere. -/
import Derived.Test.YtepphepcaphlkaaCk
import Derived.Deep.RegionHeld3
import Derived.RangeFuncCalls
import Derived.RangeFuncLeaves
namespace Go.Proofs.Ytepphepcaphlkaa
open Go
section
variable {P : Program} {ops : Array Oper} {Q : Exit → Act → World → Prop} {md : Region.Mode} {l n : Nat}
theorem anyIn_of (hnd : ∀ (i : Nat) o c, ops[i]? = some o → o.op ≠ .defer c) (hlo : ∀ a w, ¬ Q .outgrown a w) :
    ∀ (fuel : Nat) (listed : Array Bool) (a : Act) (w : World), wpAny P md ops Q fuel listed a w → wpAnyIn (Fence.wide.inRound l) n P md ops Q fuel listed a w := by
  intro fuel
  induction fuel with
  | zero => exact fun _ _ _ h => h
  | succ fuel ih =>
    intro listed a w h
    refine ⟨h.1, fun i hi => ?_⟩
    have h := h.2 i hi
    unfold wpOp at h
    unfold wpOpIn
    cases ho : ops[i]? with
    | none => rw [ho] at h; exact ih _ _ _ h
    | some o =>
      rw [ho] at h
      simp only at h ⊢
      split
      · rename_i hw
        rw [if_pos hw] at h
        rcases h with h | ⟨_, a', w', h⟩
        · refine ⟨fun _ _ => trivial, ?_⟩
          unfold Oper.wp at h
          rw [Oper.semAt_eq _ _ _ (fun c => hnd i o c ho)]
          generalize (execOp a.eval o).run P w = r at h ⊢
          cases r with
          | ok x w' =>
            cases x with
            | value v => exact ih _ _ _ h
            | skip => exact ih _ _ _ h
            | defer d => exact ih _ _ _ h
            | enter f args =>
              refine ⟨(fun e => by cases e), CallsIn.inRound l (callsIn_wide.2 (Calls.mono h fun e w2 he => ?_))⟩
              cases e with
              | returned v => exact ih _ _ _ he
              | panicked c => exact he
              | outgrown => exact he
            | row row args =>
              exact ⟨(fun e => by cases e), fun c cs _ => by
                obtain ⟨v, w2, hr, hs⟩ := h c cs
                exact ⟨v, w2, ih _ _ _ hr, stepsIn_wide.2 hs⟩⟩
            | _ => exact (h : False).elim
          | halt x w' =>
            cases x with
            | panic v => exact h
            | _ => exact (h : False).elim
        · exact absurd h (hlo a' w')
      · rename_i hw
        rw [if_neg hw] at h
        exact ⟨fun _ _ => trivial, ih _ _ _ h⟩
theorem region_round {S : World → Prop} {id : Nat} {a : Act} {w : World} (hm : P.follows .mixedOrders = true) (hnd : ∀ (i : Nat) o c, ops[i]? = some o → o.op ≠ .defer c) (hlo : ∀ a w, ¬ Q .outgrown a w)
    (h : wpAnyH P .any ops Q S ops.size (Array.replicate ops.size false) a w.drew) : (Code.region id ops true).wpIn (Fence.wide.inRound l) n P Q a w :=
  wpIn_region_any hm (anyIn_of hnd hlo _ _ _ _ (wpAny_of_held _ _ _ _ h))
theorem region_wide {S : World → Prop} {id : Nat} {a : Act} {w : World} (hm : P.follows .mixedOrders = true)
    (h : wpAnyH P .any ops (NoPanic Q) S ops.size (Array.replicate ops.size false) a w.drew) : (Code.region id ops true).wpIn Fence.wide n P Q a w :=
  wpIn_wide.2 (wp_region_noPanic (wp_region_held hm h))
end
end Go.Proofs.Ytepphepcaphlkaa
