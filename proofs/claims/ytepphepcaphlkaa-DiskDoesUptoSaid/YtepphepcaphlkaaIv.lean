/- What every operation keeps: a dead disk has no change that is not synced; operations are counted by one. -/
import Derived.Test.YtepphepcaphlkaaSy
namespace Go.Proofs.Ytepphepcaphlkaa
open Dk
structure OpsInv (m : ADisk) (i : Nat) : Prop where
  dry : m.dead = true → ∀ x ∈ m.files, x.2.chs = []
  ops0 : 0 ≤ m.ops
  ops : m.ops ≤ i
theorem OpsInv.begin {m : ADisk} {i : Nat} (h : OpsInv m i) : OpsInv (begin_ m).2 (i + 1) ∧ ((begin_ m).1 = 0 → (begin_ m).2.dead = false) := by
  unfold begin_
  cases hd : m.dead with
  | true =>
    simp only [if_true]
    exact ⟨⟨h.dry, h.ops0, by have := h.ops; omega⟩, fun e => by cases e⟩
  | false =>
    simp only [Bool.false_eq_true, if_false]
    have h1 := h.ops0
    have h2 := h.ops
    split
    · refine ⟨⟨fun _ x hx => ?_, by show 0 ≤ m.ops + 1; omega, by show m.ops + 1 ≤ ((i + 1 : Nat) : Int); omega⟩, fun e => by cases e⟩
      obtain ⟨y, _, j, e⟩ := dieAll_mem _ _ _ x hx
      rw [e]
    · split
      · exact ⟨⟨(fun e => by cases e), (by show 0 ≤ m.ops + 1; omega), (by show m.ops + 1 ≤ ((i + 1 : Nat) : Int); omega)⟩, (fun e => by cases e)⟩
      · exact ⟨⟨(fun e => by cases e), (by show 0 ≤ m.ops + 1; omega), (by show m.ops + 1 ≤ ((i + 1 : Nat) : Int); omega)⟩, (fun _ => rfl)⟩
theorem open_inv {m : ADisk} {i : Nat} (h : OpsInv m i) (n : Nm) (g : AFile → ADisk → Int × ADisk) (hg : ∀ f d, (g f d).2.dead = d.dead ∧ (g f d).2.ops = d.ops) :
    OpsInv (let (e, d) := begin_ m; if e ≠ 0 then (e, d) else match Dk.get d.files n with | none => (13, d) | some f => g f d).2 (i + 1) := by
  obtain ⟨h1, h2⟩ := h.begin
  rcases hbe : begin_ m with ⟨e, d⟩
  rw [hbe] at h1 h2
  simp only at *
  split
  · exact h1
  · rename_i he
    have he : e = 0 := by omega
    have hd := h2 he
    split
    · exact h1
    · rename_i f hf
      obtain ⟨g1, g2⟩ := hg f d
      exact ⟨(fun e => by have e : (g f d).2.dead = true := e; rw [g1, hd] at e; cases e), (by show 0 ≤ (g f d).2.ops; rw [g2]; exact h1.ops0), (by show (g f d).2.ops ≤ _; rw [g2]; exact h1.ops)⟩
theorem change_same (d : ADisk) (n : Nm) (f : AFile) (c : Chg) (has : Int) : (change d n f c has).2.dead = d.dead ∧ (change d n f c has).2.ops = d.ops := by
  unfold change; split <;> exact ⟨rfl, rfl⟩
theorem doOp_inv {m : ADisk} {i : Nat} (h : OpsInv m i) (o : AOp) : OpsInv (doOp m o).2 (i + 1) := by
  unfold doOp
  split
  · unfold create
    obtain ⟨h1, h2⟩ := h.begin
    rcases hbe : begin_ m with ⟨e, d⟩
    rw [hbe] at h1 h2
    simp only at *
    split
    · exact h1
    rename_i he
    have hd := h2 (by omega)
    split
    · exact h1
    split
    · exact h1
    split
    · exact h1
    split
    · exact h1
    · exact ⟨(fun e => by have e : d.dead = true := e; rw [hd] at e; cases e), h1.ops0, h1.ops⟩
  split
  · exact open_inv h o.name (fun f d => if maxFile < o.data.length + f.now.length then (2, d) else change d o.name f (.wr f.now.length o.data) (f.now.length + o.data.length)) fun f d => by
      split
      · exact ⟨rfl, rfl⟩
      · exact change_same _ _ _ _ _
  split
  · exact open_inv h o.name (fun f d => if o.at_ < 0 then (1, d) else if (maxFile : Int) < o.at_ + o.data.length then (2, d) else change d o.name f (.wr o.at_.toNat o.data) (max (f.now.length : Int) (o.at_ + o.data.length))) fun f d => by
      split
      · exact ⟨rfl, rfl⟩
      split
      · exact ⟨rfl, rfl⟩
      · exact change_same _ _ _ _ _
  split
  · exact open_inv h o.name (fun f d => if o.long < 0 then (1, d) else if (maxFile : Int) < o.long then (2, d) else change d o.name f (.cut o.long.toNat) o.long) fun f d => by
      split
      · exact ⟨rfl, rfl⟩
      split
      · exact ⟨rfl, rfl⟩
      · exact change_same _ _ _ _ _
  split
  · exact open_inv h o.name (fun f d => (0, { d with files := upd d.files o.name ⟨f.now, [], f.now⟩ })) fun f d => ⟨rfl, rfl⟩
  split
  · exact open_inv h o.name (fun f d => if named o.to = false then (15, d) else (0, { d with files := ins o.to f (del (del d.files o.name) o.to) })) fun f d => by
      split <;> exact ⟨rfl, rfl⟩
  split
  · exact open_inv h o.name (fun f d => (0, { d with files := del d.files o.name })) fun f d => ⟨rfl, rfl⟩
  split
  · refine ⟨fun e => ?_, Int.le_refl _, by show (0 : Int) ≤ ((i + 1 : Nat) : Int); omega⟩
    have e : false = true := e
    cases e
  · exact ⟨h.dry, h.ops0, by have := h.ops; show m.ops ≤ ((i + 1 : Nat) : Int); omega⟩
end Go.Proofs.Ytepphepcaphlkaa
