/- wal.Each on a log that nobody opened. -/
import Derived.Test.YtnifmoigalmcmaaYl
import Derived.Test.YtnifmoigalmcmaaEa
namespace Go.Proofs.Ytnifmoigalmcmaa
open Go Go.RowKit Go.Shelf
open Wl
attribute [local go_sem] Oper.semAt_some
variable {c c' : Col} {w w' : World} {S : Nat × Nat → Prop} {q : Nat × Nat}
abbrev NX : Nat → Prop := fun _ => False
theorem weach_c (p : Option Addr) (w : World) : Calls Try.prog 23 #[.pointer p] w fun e w' => e = .returned (.func (.func 46) #[] #[.pointer (some ⟨w.heap.size, 0, none⟩)]) ∧ w' = w.alloc (.cells #[.pointer p] 48) := by
  go_enter Try.func23, Try.ntmps23
  go_wp2
  go_ret
  exact ⟨rfl, rfl⟩
theorem nolog_on {W W' : World} {v : Value} (h : NoLog W v) (hk : Kp (fun _ => (0, 0)) (fun _ => False) W W') : NoLog W' v := by
  rcases h with h | ⟨b, h, hc⟩
  · exact .inl h
  · exact .inr ⟨b, h, hk.cell hc (fun h => h)⟩
set_option maxRecDepth 100000 in
set_option maxHeartbeats 4000000 in
theorem weach1_in (n : Nat) (hn : 1 ≤ n) (l Bn : Nat) (p : Option Addr) (W : World) (hBn : W.cell? ⟨Bn, 0, none⟩ = some (.pointer p)) (h : NoLog W (.pointer p)) :
    CallsIn Fence.wide n Try.prog 46 #[.func (.yield l) #[] #[], .pointer (some ⟨Bn, 0, none⟩)] W fun e W' => (∃ v, e = .returned v) ∧ W' = W.alloc (.cells #[.func (.yield l) #[] #[]] 83) := by
  have hlt : Bn < W.heap.size := World.block_lt_of_cell? _ _ hBn
  have HB := Lib.hid (wbatches_no (nolog_on h ((Kp.refl (fun _ => (0, 0)) (fun _ => False) W).alloc (.cells #[.func (.yield l) #[] #[]] 83))))
  have hB2 : (W.alloc (.cells #[.func (.yield l) #[] #[]] 83)).cell? ⟨Bn, 0, none⟩ = some (.pointer p) := (World.cell?_alloc_lt _ _ _ hlt).trans hBn
  clear h hBn
  refine callsIn_of_wp Try.func46 rfl trivial ?_ rfl
  simp only [Try.ntmps46, List.size_toArray, List.length_cons, List.length_nil, Nat.reduceAdd, Nat.reduceSub, Array.replicate_succ, Array.replicate_zero, List.push_toArray, List.append_toArray, List.nil_append, List.cons_append]
  gi_wp2_with (refine ⟨trivial, ?_⟩; gi_at_call 21; refine (callsIn_wide.2 HB.out).mono ?_; rintro e w1 ⟨rfl, rfl⟩)
  refine wpIn_loop_rounds 1 ?_
  rw [roundsIn_succ]
  gi_wp2
  go_end0
  exact ⟨⟨_, rfl⟩, rfl⟩
theorem grown_alloc (W : World) (o : Obj) : W.grownBy (W.alloc o) none :=
  ⟨rfl, rfl, rfl, by simp, fun b hb _ => Below.heap_alloc _ _ _ hb⟩
/-- A value of Each, on no log, hands on nothing. -/
theorem weach1_stops (n : Nat) (hn : 1 ≤ n) (Bn : Nat) (p : Option Addr) (w : World) (hBn : w.cell? ⟨Bn, 0, none⟩ = some (.pointer p)) (h : NoLog w (.pointer p)) :
    SeqStopsK Fence.wide n Try.prog 46 #[.pointer (some ⟨Bn, 0, none⟩)] (fun _ : Empty => (#[] : Array Value)) (KpX NX) (fun ys => ys = []) (fun pre => pre <+: []) 0 w := fun l J Jx W hW hJ _ _ h0 => by
  refine (weach1_in n hn l Bn p W ((hW.cell (p := ⟨Bn, 0, none⟩) (World.block_lt_of_cell? _ _ hBn)).trans hBn) (nolog_on h (Kp.of_below hW))).mono ?_
  rintro e W' ⟨⟨v, rfl⟩, rfl⟩
  exact ⟨⟨v, rfl⟩, .inl ⟨[], rfl, hJ _ _ _ none h0 (grown_alloc _ _) (fun r e => by cases e)⟩⟩
end Go.Proofs.Ytnifmoigalmcmaa
