/- wal.records: a batch's records, one by one: its iterator's contract. -/
import Derived.Test.YtnifmoigalmcmaaGreatEa
import Derived.Test.YtnifmoigalmcmaaGreatVd
import Derived.RangeFuncWrites
import Derived.RangeFuncLeaves
import Derived.Test.YtnifmoigalmcmaaGreatProg
namespace Go.Proofs.YtnifmoigalmcmaaGreat
open Go Go.RowKit Go.MapKept Go.Maps Go.Shelf
open Wl
attribute [local go_sem] Oper.semAt_some
variable {c c' : Col} {w w' : World}
/-- The values of a slice's elements, as a range reads them. -/
def Vals (Bx : Nat → Prop) (w : World) (v : Value) (L : List Value) : Prop :=
  ∃ a cap, v = .slice a L.length cap ∧ (L.length : Int) ≤ 1000000000 ∧ (0 < L.length → ∃ g o cs t fz, a = some ⟨g, o, none⟩ ∧ ¬ Bx g ∧ w.heap[g]? = some (.cells cs t fz) ∧ ∀ j x, L[j]? = some x → cs[o + j]? = some x ∧ ∃ ad n kd, x = .slice ad n kd)
theorem Vals.kpx {Bx : Nat → Prop} {v : Value} {L : List Value} (h : Vals Bx w v L) (hk : KpX Bx w w') : Vals Bx w' v L := by
  obtain ⟨a, cap, e, h1, h3⟩ := h
  refine ⟨a, cap, e, h1, fun h0 => ?_⟩
  obtain ⟨g, o, cs, t, fz, e1, e2, e3, e4⟩ := h3 h0
  exact ⟨g, o, cs, t, fz, e1, e2, hk.2 g cs t fz e3 e2, e4⟩
theorem recs_c (a : Option Addr) (n cap : Nat) (w : World) : Calls Tryz.prog 140 #[.slice a n cap] w fun e w' => e = .returned (.func (.func 171) #[] #[.pointer (some ⟨w.heap.size, 0, none⟩)]) ∧ w' = w.alloc (.cells #[.slice a n cap] 40) := by
  go_enter Tryz.func140, Tryz.ntmps140
  go_wp2
  go_ret
  exact ⟨rfl, rfl⟩
end Go.Proofs.YtnifmoigalmcmaaGreat
/- A range over an iterator that hands on values which it made itself: what an element holds in memory is a premise of its round. -/
namespace Go.Proofs.YtnifmoigalmcmaaGreat
open Go Go.RowKit
/-- An iterator's contract: of each element that it hands on it says Qx at the round's world. -/
def SeqStopsQ {α : Type} (F : Fence) (n : Nat) (P : Program) (g : Nat) (lb : Array Value) (encs : α → Array Value) (Qx : α → World → Prop) (Kp : World → World → Prop) (S Sp : List α → Prop) (N : Nat) (w : World) : Prop :=
  ∀ (l : Nat) (J Jx : List α → World → Prop) (W : World), Below w.heap.size w W → OwnFrom W.heap.size J → OwnFrom W.heap.size Jx →
    (∀ pre x W1, J pre W1 → pre.length < N → Qx x W1 → YieldAt F (n - 1) P l (encs x) W1 fun e W' =>
      (e = .returned (.bool true) ∧ J (pre ++ [x]) W' ∧ Kp W1 W' ∧ KeepsFrom W.heap.size W1 W') ∨ (e = .returned (.bool false) ∧ Jx (pre ++ [x]) W' ∧ KeepsFrom W.heap.size W1 W')) →
    J [] W →
    CallsIn F n P g (#[.func (.yield l) #[] #[]] ++ lb) W fun e W' => (∃ v, e = .returned v) ∧ ((∃ xs, S xs ∧ J xs W') ∨ (∃ pre, Sp pre ∧ Jx pre W'))
variable {F : Fence} {n : Nat} {P : Program}
/-- The loop's own record and the mark of its rounds' deferred calls, which its rounds leave alone. -/
structure LoopOwn (B : Nat) (rec : Loop) (W : World) : Prop where
  loop : W.heap[B + 1]? = some (.loop rec)
  mark : W.heap[B]? = some (.deferred (some []))
theorem LoopOwn.lt {B : Nat} {rec : Loop} {W : World} (h : LoopOwn B rec W) : B + 1 < W.heap.size := (Array.getElem?_eq_some_iff.1 h.loop).1
theorem LoopOwn.put {B : Nat} {rec rec' : Loop} {W : World} (h : LoopOwn B rec W) : LoopOwn B rec' (W.putObj (B + 1) (.loop rec')) :=
  ⟨World.putObj_heap_same h.lt, (World.putObj_heap_other (by omega)).trans h.mark⟩
theorem LoopOwn.from {B : Nat} {rec : Loop} {W W' : World} (h : LoopOwn B rec W) (hk : KeepsFrom B W W') : LoopOwn B rec W' :=
  ⟨hk.same _ _ (by omega) h.loop rfl, hk.same _ _ (Nat.le_refl _) h.mark rfl⟩
theorem LoopOwn.grow {B : Nat} {rec : Loop} {A C : World} {row : Option Nat} (h : LoopOwn B rec A) (hg : A.grownBy C row) (hr : ∀ r, row = some r → B + 2 ≤ r) : LoopOwn B rec C :=
  ⟨(hg.block _ h.lt (fun e => by have := hr _ e.symm; omega)).trans h.loop, (hg.block _ (by have := h.lt; omega) (fun e => by have := hr _ e.symm; omega)).trans h.mark⟩
/-- The law of such a range: its body's walk may use what the element holds. -/
theorem wpIn_rangeFunc_Q {α : Type} {g : Operand} {ps : Array Tmp} {assign body : Code} {Q : Exit → Act → World → Prop} {a : Act} {w : World}
    (hro : F.round = none) (h1 : 1 ≤ n) {gf : Nat} {lb : Array Value} (hg : a.eval g = .func (.func gf) #[] lb) (hFg : F.fn gf) (eg : ∀ args w, (callFunc gf args).run P w = .ok (.enter gf args) w)
    {encs : α → Array Value} {Qx : α → World → Prop} {Kp : World → World → Prop} {S Sp : List α → Prop} {N : Nat} {w0 : World} (hseq : SeqStopsQ F (n - 1) P gf lb encs Qx Kp S Sp N w0)
    (hKt : ∀ {A B C : World}, Kp A B → Kp B C → Kp A C) (hKb : ∀ (W : World) (l : Nat) (o o' : Obj), w.heap.size ≤ l → W.heap[l]? = some o → o.isCells = false → o.isWalk = false → Kp W (W.putObj l o')) (hb0 : Below w0.heap.size w0 w) (hps : ∀ x, (encs x).size = ps.size)
    (I : List α → World → Prop) (Ix : Code → List α → World → Prop) (hI : OwnFrom w.heap.size I) (hIx : ∀ c, OwnFrom w.heap.size (Ix c)) (hQx : OwnFrom w.heap.size Qx) (h0 : I [] w) (a₁ : α → Act)
    (hassign : ∀ (l : Nat) (x : α) (W : World) (K : Act → World → Prop), K (a₁ x) W →
      assign.wpIn (F.inRound l) (n - 1 - 1) P (Exit.then K (fun _ _ _ => False)) { tmps := (ps.zip (encs x)).foldl (fun t (p, v) => t.setIfInBounds p v) a.tmps, defers := [] } W)
    (hbody : ∀ (l : Nat) (pre : List α) (x : α) (W : World), I pre W → pre.length < N → Qx x W → body.wpIn (F.inRound l) (n - 1 - 1) P (ownPostG w.heap.size Kp I Ix (pre ++ [x]) W) (a₁ x) W)
    (hdone : ∀ (D : Nat) (xs : List α) (W : World), w.heap.size ≤ D → S xs → I xs W → W.heap[D]? = some (.deferred (some [])) → Q .normal { a with defers := { target := .collected D, args := #[] } :: a.defers } W)
    (hstop : ∀ (D : Nat) (c : Code) (pre : List α) (W : World), w.heap.size ≤ D → Sp pre → Ix c pre W → W.heap[D]? = some (.deferred (some [])) → c.wpIn F n P Q { a with defers := { target := .collected D, args := #[] } :: a.defers } W) :
    (Code.rangeFunc g ps assign body).wpIn F n P Q a w := by
  refine wpIn_rangeFunc ?_
  intro fn hfn
  rw [hro]
  obtain ⟨B, hB⟩ : ∃ B, B = w.heap.size := ⟨_, rfl⟩
  obtain ⟨rec, hrec⟩ : ∃ rec : LoopState → Option Code → Loop, rec = fun st pe => { state := st, pending := pe, fn, tmps := a.tmps, params := ps, assign, body, defers := B } := ⟨_, rfl⟩
  obtain ⟨W1, hW1⟩ : ∃ W1, (w.alloc (.deferred (some []))).alloc (.loop (rec .ready none)) = W1 := ⟨_, rfl⟩
  have hsz : W1.heap.size = B + 2 := by rw [← hW1, hB]; simp
  have o1 : LoopOwn B (rec .ready none) W1 := by
    refine ⟨?_, ?_⟩
    · rw [← hW1, hB]
      have h := World.alloc_heap_new (w.alloc (.deferred (some []))) (.loop (rec .ready none))
      rwa [World.size_alloc] at h
    · rw [← hW1, hB]
      exact (Below.heap_alloc _ _ _ (by simp)).trans (World.alloc_heap_new w _)
  have i1 : I [] W1 := by rw [← hW1]; exact hI.alloc _ (hI.alloc _ h0)
  have b1 : Below w0.heap.size w0 W1 := by
    rw [← hW1]; exact hb0.trans ((((Below.refl _ w).alloc (Nat.le_refl _) _).alloc (by simp) _).mono hb0.size)
  rw [← hB] at hI hIx hQx hKb hbody hdone hstop
  refine ⟨B + 1, [{ target := .collected B, args := #[] }], W1, { target := .fn (.func gf) lb, args := #[.func (.yield (B + 1)) #[] #[]] }, W1, gf, #[.func (.yield (B + 1)) #[] #[]] ++ lb, W1, ?_, ?_, ?_, ?_, fun _ => h1, ?_⟩
  · rw [← hW1, hrec, hB]; exact run_enterLoop_outer _ _ _ _ _
  · simp only [resolve, hg]
    simp [go_sem]
  · intro f' hf'; simp [Target.leads] at hf'; subst hf'; exact hFg
  · simp [invoke, go_sem, eg]
  refine (hseq (B + 1) (fun pre W => I pre W ∧ LoopOwn B (rec .ready none) W) (fun pre W => ∃ c, Ix c pre W ∧ LoopOwn B (rec .done (some c)) W) W1 b1
    (fun s A C row h hg' hr => ⟨hI s A C row h.1 hg' (fun r e => ⟨by have := (hr r e).1; omega, (hr r e).2⟩), h.2.grow hg' (fun r e => by have := (hr r e).1; omega)⟩)
    (fun s A C row h hg' hr => by
      obtain ⟨c, hc, ho⟩ := h
      exact ⟨c, hIx c s A C row hc hg' (fun r e => ⟨by have := (hr r e).1; omega, (hr r e).2⟩), ho.grow hg' (fun r e => by have := (hr r e).1; omega)⟩) ?_ ⟨i1, o1⟩).mono ?_
  · rintro pre x W ⟨hi, ho⟩ hlen hq
    have hy := run_yield (P := P) (args := encs x) ho.loop (by rw [hrec]; exact hps x)
    have hbr := run_beginRound (P := P) ho.loop (by rw [hrec])
    have ho2 : LoopOwn B { rec .ready none with state := .busy } (W.putObj (B + 1) (.loop { rec .ready none with state := .busy })) := ho.put
    have hw2 : Kp W (W.putObj (B + 1) (.loop { rec .ready none with state := .busy })) := hKb _ _ _ _ (by omega) ho.loop rfl rfl
    have hi2 := hI.putObj (.loop { rec .ready none with state := .busy }) hi (by omega) ho.loop rfl
    have hq2 := hQx.putObj (.loop { rec .ready none with state := .busy }) hq (by omega) ho.loop rfl
    rw [hrec] at hy
    refine ⟨fn, _, assign, body, hy, roundIn_of_wpIn hfn (hassign _ x W _ ⟨_, hbr, ?_⟩)⟩
    refine wpIn_mono (hbody _ pre x _ hi2 hlen hq2) ?_
    have kf2 : ∀ {A : World} {r r' : Loop}, LoopOwn B r A → KeepsFrom W1.heap.size A (A.putObj (B + 1) (.loop r')) := fun {A r r'} hA => KeepsFrom.of_grownBy (grownBy_putObj' A (B + 1) _) (fun j e => by cases e; omega)
    have kf3 : ∀ {A C : World}, KeepsFrom B A C → KeepsFrom W1.heap.size A C := fun h => ⟨h.size, fun k o hk => h.same k o (by omega)⟩
    have fin : ∀ (jump : Option Code) (W3 : World), LoopOwn B { rec .ready none with state := .busy } W3 →
        (Instr.endRound (B + 1) jump).run P W3 = .ok (.bool jump.isNone) (W3.putObj (B + 1) (.loop (rec (if jump.isNone then .ready else .done) jump))) := fun jump W3 h3 => by
      have h := run_endRound (P := P) jump h3.loop
      rw [hrec] at h ⊢
      exact h
    rintro e a3 W3 hp
    cases e with
    | normal =>
      have h3 := ho2.from hp.1
      exact ⟨_, _, fin none W3 h3, .inl ⟨rfl, ⟨hI.putObj _ hp.2.2 (by omega) h3.loop rfl, h3.put⟩, hKt (hKt hw2 hp.2.1) (hKb _ _ _ _ (by omega) h3.loop rfl rfl), ((kf2 ho).trans (kf3 hp.1)).trans (kf2 h3)⟩⟩
    | ret =>
      have h3 := ho2.from hp.1
      exact ⟨_, _, fin (some .ret) W3 h3, .inr ⟨rfl, ⟨.ret, (hIx _).putObj _ hp.2 (by omega) h3.loop rfl, h3.put⟩, ((kf2 ho).trans (kf3 hp.1)).trans (kf2 h3)⟩⟩
    | exit id =>
      have h3 := ho2.from hp.1
      exact ⟨_, _, fin (some (.exit id)) W3 h3, .inr ⟨rfl, ⟨.exit id, (hIx _).putObj _ hp.2 (by omega) h3.loop rfl, h3.put⟩, ((kf2 ho).trans (kf3 hp.1)).trans (kf2 h3)⟩⟩
    | goto t =>
      have h3 := ho2.from hp.1
      exact ⟨_, _, fin (some (.goto t)) W3 h3, .inr ⟨rfl, ⟨.goto t, (hIx _).putObj _ hp.2 (by omega) h3.loop rfl, h3.put⟩, ((kf2 ho).trans (kf3 hp.1)).trans (kf2 h3)⟩⟩
    | panic ch => exact hp.elim
    | outgrown => exact hp.elim
  · rintro e W2 ⟨⟨v, rfl⟩, (⟨xs, hS, hi, ho⟩ | ⟨pre, hSp, c, hi, ho⟩)⟩
    · exact ⟨none, _, by have h := run_endLoop (P := P) ho.loop (by rw [hrec]; simp); rw [hrec] at h; exact h, hdone _ xs _ (by omega) hS (hI.putObj _ hi (by omega) ho.loop rfl) ((World.putObj_heap_other (by omega)).trans ho.mark)⟩
    · exact ⟨some c, _, by have h := run_endLoop (P := P) ho.loop (by rw [hrec]; simp); rw [hrec] at h; exact h, hstop _ c pre _ (by omega) hSp ((hIx c).putObj _ hi (by omega) ho.loop rfl) ((World.putObj_heap_other (by omega)).trans ho.mark)⟩
/-- A round that the wide fence lets go goes at any depth, in any round. -/
theorem yieldAt_wide {n m l l' : Nat} {args : Array Value} {W : World} {R : Ending → World → Prop} (h : YieldAt Fence.wide n P l args W R) : YieldAt (Fence.wide.inRound l') m P l args W R := by
  obtain ⟨fn, tmps, assign, body, hy, hR⟩ := h
  exact ⟨fn, tmps, assign, body, hy, hR.1, fun c cs _ => hR.2 c cs (fun d hd => by cases hd)⟩
end Go.Proofs.YtnifmoigalmcmaaGreat
