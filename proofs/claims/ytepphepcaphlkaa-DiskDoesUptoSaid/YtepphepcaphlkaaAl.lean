/- The plain law behind DiskAll: with a plan that keeps all nothing is lost; with one that keeps nothing a file is what it was when it was last synced. -/
import Derived.Test.YtepphepcaphlkaaIv
namespace Go.Proofs.Ytepphepcaphlkaa
open Dk
def folded (f : AFile) : Prop := f.now = f.chs.foldl (fun l c => c.app l) f.safe
structure AllInv (P : APlan) (m : ADisk) (i : Nat) : Prop where
  crash : P.crash = 0
  plan : m.plan = P
  dead : m.dead = false
  fold : ∀ x ∈ m.files, folded x.2
  ops0 : 0 ≤ m.ops
  ops : m.ops ≤ i
theorem AllInv.begin {P : APlan} {m : ADisk} {i : Nat} (h : AllInv P m i) : (begin_ m).2 = { m with ops := m.ops + 1 } := by
  have h1 := h.ops0
  have h2 := h.crash
  unfold begin_
  rw [h.dead]
  simp only [Bool.false_eq_true, if_false]
  rw [if_neg (by rw [h.plan, h2]; omega)]
  split <;> rfl
theorem AllInv.more {P : APlan} {m : ADisk} {i : Nat} (h : AllInv P m i) : AllInv P { m with ops := m.ops + 1 } (i + 1) :=
  ⟨h.crash, h.plan, h.dead, h.fold, by have := h.ops0; show 0 ≤ m.ops + 1; omega, by have := h.ops; show m.ops + 1 ≤ ((i + 1 : Nat) : Int); omega⟩
theorem AllInv.with {P : APlan} {m : ADisk} {i : Nat} (h : AllInv P m i) (fs : List (Nm × AFile)) (hf : ∀ x ∈ fs, folded x.2) : AllInv P { m with files := fs } i :=
  ⟨h.crash, h.plan, h.dead, hf, h.ops0, h.ops⟩
theorem updMem {fs : List (Nm × AFile)} {n : Nm} {f : AFile} {x : Nm × AFile} (h : x ∈ upd fs n f) : x = (n, f) ∨ x ∈ fs := by
  unfold upd at h
  obtain ⟨y, hy, rfl⟩ := List.mem_map.1 h
  split
  · exact .inl rfl
  · exact .inr hy
theorem insMem {fs : List (Nm × AFile)} {n : Nm} {f : AFile} {x : Nm × AFile} (h : x ∈ ins n f fs) : x = (n, f) ∨ x ∈ fs :=
  List.mem_cons.1 ((ins_perm n f fs).mem_iff.1 h)
theorem delMem {fs : List (Nm × AFile)} {n : Nm} {x : Nm × AFile} (h : x ∈ del fs n) : x ∈ fs := (List.mem_filter.1 h).1
theorem open_all {P : APlan} {m : ADisk} {i : Nat} (h : AllInv P m i) (n : Nm) (g : AFile → ADisk → Int × ADisk) (hg : ∀ f d, AllInv P d (i + 1) → folded f → AllInv P (g f d).2 (i + 1)) :
    AllInv P (let (e, d) := begin_ m; if e ≠ 0 then (e, d) else match Dk.get d.files n with | none => (13, d) | some f => g f d).2 (i + 1) := by
  have h1 := h.begin
  have h2 := h.more
  rw [← h1] at h2
  rcases hbe : begin_ m with ⟨e, d⟩
  rw [hbe] at h2
  simp only at *
  split
  · exact h2
  · split
    · exact h2
    · rename_i f hf
      exact hg f d h2 (h2.fold _ (get_mem hf))
theorem change_all {P : APlan} {d : ADisk} {i : Nat} (h : AllInv P d i) (n : Nm) (f : AFile) (hf : folded f) (c : Chg) (has : Int) : AllInv P (change d n f c has).2 i := by
  unfold change
  split
  · exact h
  · refine h.with _ fun x hx => ?_
    rcases updMem hx with rfl | hx
    · show c.app f.now = (f.chs ++ [c]).foldl _ f.safe
      rw [List.foldl_append, ← hf]
      rfl
    · exact h.fold x hx
theorem doOp_all {P : APlan} {m : ADisk} {i : Nat} (h : AllInv P m i) (o : AOp) (h7 : o.kind ≠ 7) : AllInv P (doOp m o).2 (i + 1) := by
  unfold doOp
  split
  · unfold create
    have h1 := h.begin
    have h2 := h.more
    rw [← h1] at h2
    rcases hbe : begin_ m with ⟨e, d⟩
    rw [hbe] at h2
    simp only at *
    split
    · exact h2
    split
    · exact h2
    split
    · exact h2
    split
    · exact h2
    split
    · exact h2
    · refine h2.with _ fun x hx => ?_
      rcases insMem hx with rfl | hx
      · rfl
      · exact h2.fold x hx
  split
  · exact open_all h o.name (fun f d => if maxFile < o.data.length + f.now.length then (2, d) else change d o.name f (.wr f.now.length o.data) (f.now.length + o.data.length)) fun f d hd hf => by
      split
      · exact hd
      · exact change_all hd _ _ hf _ _
  split
  · exact open_all h o.name (fun f d => if o.at_ < 0 then (1, d) else if (maxFile : Int) < o.at_ + o.data.length then (2, d) else change d o.name f (.wr o.at_.toNat o.data) (max (f.now.length : Int) (o.at_ + o.data.length))) fun f d hd hf => by
      split
      · exact hd
      split
      · exact hd
      · exact change_all hd _ _ hf _ _
  split
  · exact open_all h o.name (fun f d => if o.long < 0 then (1, d) else if (maxFile : Int) < o.long then (2, d) else change d o.name f (.cut o.long.toNat) o.long) fun f d hd hf => by
      split
      · exact hd
      split
      · exact hd
      · exact change_all hd _ _ hf _ _
  split
  · exact open_all h o.name (fun f d => (0, { d with files := upd d.files o.name ⟨f.now, [], f.now⟩ })) fun f d hd hf => by
      refine hd.with _ fun x hx => ?_
      rcases updMem hx with rfl | hx
      · rfl
      · exact hd.fold x hx
  split
  · exact open_all h o.name (fun f d => if named o.to = false then (15, d) else (0, { d with files := ins o.to f (del (del d.files o.name) o.to) })) fun f d hd hf => by
      split
      · exact hd
      · refine hd.with _ fun x hx => ?_
        rcases insMem hx with rfl | hx
        · exact hf
        · exact hd.fold x (delMem (delMem hx))
  split
  · exact open_all h o.name (fun f d => (0, { d with files := del d.files o.name })) fun f d hd hf => by
      exact hd.with _ fun x hx => hd.fold x (delMem hx)
  · exact ⟨h.crash, h.plan, h.dead, h.fold, h.ops0, by have := h.ops; show m.ops ≤ ((i + 1 : Nat) : Int); omega⟩
theorem dieFile_all {p : APlan} (hk : p.keep = [-1]) : ∀ (a : List Chg) (N : Nat) (l : List UInt8), dieFile p N l a = a.foldl (fun l c => c.app l) l
  | [], _, _ => rfl
  | c :: r, N, l => by
    have e : c.surv (keepAt p N) = some c := by
      unfold keepAt
      rw [hk]
      have e1 : N % [(-1 : Int)].length = 0 := by simp [Nat.mod_one]
      rw [e1]
      cases c <;> simp [Chg.surv]
    simp only [dieFile, e, List.foldl_cons]
    exact dieFile_all hk r _ _
theorem dieFile_nothing {p : APlan} (hk : p.keep = []) : ∀ (a : List Chg) (N : Nat) (l : List UInt8), dieFile p N l a = l
  | [], _, _ => rfl
  | c :: r, N, l => by
    have e : c.surv (keepAt p N) = none := by
      unfold keepAt
      rw [hk]
      cases c <;> simp [Chg.surv]
    simp only [dieFile, e]
    exact dieFile_nothing hk r _ _
theorem dieAll_map {p : APlan} {g : AFile → List UInt8} : ∀ {fs : List (Nm × AFile)} {N : Nat}, (∀ x ∈ fs, ∀ i, dieFile p i x.2.safe x.2.chs = g x.2) → dieAll p N fs = fs.map fun x => (x.1, ⟨g x.2, [], g x.2⟩)
  | [], _, _ => rfl
  | x :: r, N, h => by
    simp only [dieAll, List.map_cons]
    rw [h x (List.mem_cons_self ..), dieAll_map fun y hy => h y (List.mem_cons_of_mem _ hy)]
def allPlan (b : Bool) : APlan := ⟨0, if b then [-1] else [], [], [], 0⟩
theorem all_start {b : Bool} {m : ADisk} {i : Nat} (h : AllInv (allPlan b) m i) (p : APlan) :
    Dk.files (Dk.start m p) = (if b then Dk.files m else Dk.safe m) ∧ Dk.safe (Dk.start m p) = (if b then Dk.files m else Dk.safe m) ∧ (Dk.start m p).ops = 0 ∧ (Dk.start m p).dead = false := by
  have hd := h.dead
  have hp := h.plan
  cases b with
  | true =>
    have e : dieAll m.plan 0 m.files = m.files.map fun x => (x.1, ⟨x.2.now, [], x.2.now⟩) := dieAll_map (g := fun f => f.now) fun x hx i => by
      rw [dieFile_all (by rw [hp]; rfl)]
      exact (h.fold x hx).symm
    unfold Dk.files Dk.safe Dk.start Dk.die
    rw [hd]
    simp [e, Function.comp_def]
  | false =>
    have e : dieAll m.plan 0 m.files = m.files.map fun x => (x.1, ⟨x.2.safe, [], x.2.safe⟩) := dieAll_map (g := fun f => f.safe) fun x hx i => by
      rw [dieFile_nothing (by rw [hp]; rfl)]
    unfold Dk.files Dk.safe Dk.start Dk.die
    rw [hd]
    simp [e, Function.comp_def]
end Go.Proofs.Ytepphepcaphlkaa
