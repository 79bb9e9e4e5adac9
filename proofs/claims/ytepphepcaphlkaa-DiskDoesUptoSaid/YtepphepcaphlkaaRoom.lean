/- The plain law behind DiskRoom: no operation but a start passes the room. -/
import Derived.Test.YtepphepcaphlkaaOp
namespace Go.Proofs.Ytepphepcaphlkaa
open Dk
structure RoomInv (m : ADisk) (r : Int) (i : Nat) : Prop where
  crash : m.plan.crash = 0
  room : m.plan.room = r
  dead : m.dead = false
  tot : (total m : Int) ≤ r
  ops0 : 0 ≤ m.ops
  ops : m.ops ≤ i
theorem RoomInv.begin {m : ADisk} {r : Int} {i : Nat} (h : RoomInv m r i) : (begin_ m).2 = { m with ops := m.ops + 1 } := by
  have h1 := h.ops0
  have h2 := h.crash
  unfold begin_
  rw [h.dead]
  simp only [Bool.false_eq_true, if_false]
  rw [if_neg (by show ¬ m.ops + 1 = m.plan.crash; omega)]
  split <;> rfl
theorem sum_del (fs : List (Nm × AFile)) (n : Nm) : ((del fs n).map fun x => x.2.now.length).sum ≤ (fs.map fun x => x.2.now.length).sum := by
  induction fs with
  | nil => simp [del]
  | cons x r ih =>
    unfold del at ih ⊢
    rw [List.filter_cons]
    split <;> simp <;> omega
theorem sum_del_get {fs : List (Nm × AFile)} {n : Nm} {f : AFile} (h : get fs n = some f) : ((del fs n).map fun x => x.2.now.length).sum + f.now.length ≤ (fs.map fun x => x.2.now.length).sum := by
  induction fs with
  | nil => simp [Dk.get] at h
  | cons x r ih =>
    unfold Dk.get del at *
    rw [List.find?_cons] at h
    rw [List.filter_cons]
    cases hx : (x.1 == n) with
    | true =>
      rw [hx] at h
      simp at h
      subst h
      have := sum_del r n
      unfold del at this
      simp
      omega
    | false =>
      rw [hx] at h
      have := ih h
      simp
      omega
theorem sum_ins (fs : List (Nm × AFile)) (n : Nm) (f : AFile) : ((ins n f fs).map fun x => x.2.now.length).sum = (fs.map fun x => x.2.now.length).sum + f.now.length := by
  induction fs with
  | nil => simp [ins]
  | cons x r ih =>
    unfold ins
    split
    · simp; omega
    · simp [ih]; omega
theorem sum_upd {fs : List (Nm × AFile)} {n : Nm} {f g : AFile} (hr : Rising fs) (h : get fs n = some f) : ((upd fs n g).map fun x => x.2.now.length).sum + f.now.length = (fs.map fun x => x.2.now.length).sum + g.now.length := by
  induction fs with
  | nil => simp [Dk.get] at h
  | cons x r ih =>
    obtain ⟨h1, h2⟩ := List.pairwise_cons.1 hr
    unfold Dk.get at h
    rw [List.find?_cons] at h
    unfold upd
    rw [List.map_cons]
    cases hx : (x.1 == n) with
    | true =>
      rw [hx] at h
      simp at h
      subst h
      have hn : x.1 = n := by simpa using hx
      have e : r.map (fun x => if x.1 == n then (n, g) else x) = r := by
        refine (List.map_congr_left fun y hy => ?_).trans (List.map_id r)
        have hlt := h1 y hy
        have : (y.1 == n) = false := by
          rw [beq_eq_false_iff_ne]
          intro e; rw [hn, e] at hlt
          exact absurd hlt (List.lt_irrefl _)
        simp [this]
      rw [e]
      simp
      omega
    | false =>
      rw [hx] at h
      have := ih h2 h
      unfold upd at this
      have e0 : (if false = true then (n, g) else x) = x := if_neg (by simp)
      rw [e0]
      simp only [List.map_cons, List.sum_cons]
      omega
theorem RoomInv.with {m : ADisk} {r : Int} {i : Nat} (h : RoomInv m r i) (fs : List (Nm × AFile)) (ht : (((fs.map fun x => x.2.now.length).sum : Nat) : Int) ≤ r) : RoomInv { m with ops := m.ops + 1, files := fs } r (i + 1) :=
  ⟨h.crash, h.room, h.dead, ht, by have := h.ops0; show 0 ≤ m.ops + 1; omega, by have := h.ops; show m.ops + 1 ≤ ((i + 1 : Nat) : Int); omega⟩
theorem RoomInv.step0 {m : ADisk} {r : Int} {i : Nat} (h : RoomInv m r i) : RoomInv { m with ops := m.ops + 1 } r (i + 1) := h.with m.files h.tot
theorem change_room {m : ADisk} {r : Int} {i : Nat} (h : RoomInv m r i) (hr0 : 0 < r) (hr : Rising m.files) {n : Nm} {f : AFile} (hg : get m.files n = some f) (c : Chg) (has : Int) (hhas : ((c.app f.now).length : Int) = has) :
    RoomInv (change { m with ops := m.ops + 1 } n f c has).2 r (i + 1) := by
  unfold change
  split
  · exact h.step0
  · rename_i hz
    have hz : room_ { m with ops := m.ops + 1 } f.now.length has = 0 := by omega
    refine h.with _ ?_
    have e := sum_upd (g := ⟨f.safe, f.chs ++ [c], c.app f.now⟩) hr hg
    have e2 : ((c.app f.now).length : Int) = has := hhas
    have ht := h.tot
    have hrm := h.room
    unfold total at ht
    unfold room_ at hz
    split at hz
    · cases hz
    · split at hz
      · rename_i h1
        rcases h1 with h1 | h1
        · have h1 : m.plan.room ≤ 0 := h1
          omega
        · show ((((upd m.files n ⟨f.safe, f.chs ++ [c], c.app f.now⟩).map fun x => x.2.now.length).sum : Nat) : Int) ≤ r
          have e3 : (⟨f.safe, f.chs ++ [c], c.app f.now⟩ : AFile).now.length = (c.app f.now).length := rfl
          omega
      · split at hz
        · cases hz
        · rename_i h2
          have h2 : ¬ (has - f.now.length) + (((m.files.map fun x => x.2.now.length).sum : Nat) : Int) > m.plan.room := h2
          show ((((upd m.files n ⟨f.safe, f.chs ++ [c], c.app f.now⟩).map fun x => x.2.now.length).sum : Nat) : Int) ≤ r
          have e3 : (⟨f.safe, f.chs ++ [c], c.app f.now⟩ : AFile).now.length = (c.app f.now).length := rfl
          omega
theorem open_room {m : ADisk} {r : Int} {i : Nat} (h : RoomInv m r i) (n : Nm) (g : AFile → ADisk → Int × ADisk) (hg : ∀ f, get m.files n = some f → RoomInv (g f { m with ops := m.ops + 1 }).2 r (i + 1)) :
    RoomInv (let (e, d) := begin_ m; if e ≠ 0 then (e, d) else match get d.files n with | none => (13, d) | some f => g f d).2 r (i + 1) := by
  have hb := h.begin
  rcases hbe : begin_ m with ⟨e, d⟩
  rw [hbe] at hb
  have hb : d = _ := hb
  subst hb
  simp only
  split
  · exact h.step0
  · split
    · exact h.step0
    · rename_i f hf
      exact hg f hf
theorem doOp_room {m : ADisk} {r : Int} {i : Nat} (h : RoomInv m r i) (hr0 : 0 < r) (hok : m.ok) (o : AOp) (h7 : o.kind ≠ 7) : RoomInv (doOp m o).2 r (i + 1) := by
  have hr := hok.rising
  unfold doOp
  split
  · unfold create
    have hb := h.begin
    rcases hbe : begin_ m with ⟨e, d⟩
    rw [hbe] at hb
    have hb : d = _ := hb
    subst hb
    simp only
    split
    · exact h.step0
    split
    · exact h.step0
    split
    · exact h.step0
    split
    · exact h.step0
    split
    · exact h.step0
    · refine h.with _ ?_
      rw [sum_ins]
      have := h.tot
      unfold total at this
      simpa using this
  split
  · exact open_room h o.name (fun f d => if maxFile < o.data.length + f.now.length then (2, d) else change d o.name f (.wr f.now.length o.data) (f.now.length + o.data.length)) fun f hg => by
      split
      · exact h.step0
      · refine change_room h hr0 hr hg _ _ ?_
        rw [app_length]; simp only [Chg.len]; omega
  split
  · exact open_room h o.name (fun f d => if o.at_ < 0 then (1, d) else if (maxFile : Int) < o.at_ + o.data.length then (2, d) else change d o.name f (.wr o.at_.toNat o.data) (max (f.now.length : Int) (o.at_ + o.data.length))) fun f hg => by
      split
      · exact h.step0
      split
      · exact h.step0
      · refine change_room h hr0 hr hg _ _ ?_
        rw [app_length]; simp only [Chg.len]; omega
  split
  · exact open_room h o.name (fun f d => if o.long < 0 then (1, d) else if (maxFile : Int) < o.long then (2, d) else change d o.name f (.cut o.long.toNat) o.long) fun f hg => by
      split
      · exact h.step0
      split
      · exact h.step0
      · refine change_room h hr0 hr hg _ _ ?_
        rw [app_length]; simp only [Chg.len]; omega
  split
  · exact open_room h o.name (fun f d => (0, { d with files := upd d.files o.name ⟨f.now, [], f.now⟩ })) fun f hg => by
      refine h.with _ ?_
      have e := sum_upd (g := ⟨f.now, [], f.now⟩) hr hg
      have e3 : (⟨f.now, [], f.now⟩ : AFile).now.length = f.now.length := rfl
      have := h.tot
      unfold total at this
      show ((((upd m.files o.name ⟨f.now, [], f.now⟩).map fun x => x.2.now.length).sum : Nat) : Int) ≤ r
      omega
  split
  · exact open_room h o.name (fun f d => if named o.to = false then (15, d) else (0, { d with files := ins o.to f (del (del d.files o.name) o.to) })) fun f hg => by
      split
      · exact h.step0
      · refine h.with _ ?_
        have e1 := sum_del_get hg
        have e2 := sum_del (del m.files o.name) o.to
        have := h.tot
        unfold total at this
        show ((((ins o.to f (del (del m.files o.name) o.to)).map fun x => x.2.now.length).sum : Nat) : Int) ≤ r
        rw [sum_ins]
        omega
  split
  · exact open_room h o.name (fun f d => (0, { d with files := del d.files o.name })) fun f hg => by
      refine h.with _ ?_
      have e1 := sum_del m.files o.name
      have := h.tot
      unfold total at this
      show ((((del m.files o.name).map fun x => x.2.now.length).sum : Nat) : Int) ≤ r
      omega
  · exact ⟨h.crash, h.room, h.dead, h.tot, h.ops0, by have := h.ops; show m.ops ≤ ((i + 1 : Nat) : Int); omega⟩
end Go.Proofs.Ytepphepcaphlkaa
