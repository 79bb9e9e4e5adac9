/- WalDurable: the plain law. One file on a disk, appended to and synced, behind any death. -/
import Derived.Test.YtnifmoigalmcmaaPure
import Derived.Test.YtnifmoigalmcmaaWl
namespace Go.Proofs.Ytnifmoigalmcmaa
open Dk Wl
/-- A disk with one file, all of it synced. -/
def logDisk (p : APlan) (o : Int) (nm : Nm) (E : Bs) : ADisk := ⟨p, o, false, [(nm, ⟨E, [], E⟩)]⟩
def plan0 : APlan := ⟨0, [], [], [], 0⟩
theorem get_one (nm : Nm) (f : AFile) : Dk.get [(nm, f)] nm = some f := by simp [Dk.get]
theorem upd_one (nm : Nm) (f g : AFile) : upd [(nm, f)] nm g = [(nm, g)] := by simp [upd]
theorem app_end (E b : Bs) : Chg.app E (.wr E.length b) = E ++ b := by
  have e : max E.length (E.length + b.length) = E.length + b.length := by omega
  simp only [Chg.app, e, over, sized]
  rw [List.take_of_length_le (Nat.le_add_right _ _), List.take_left', List.drop_eq_nil_of_le (by simp), List.append_nil]
  rfl
theorem begin_well {m : ADisk} (h : (begin_ m).1 = 0) : (begin_ m).2 = { m with ops := m.ops + 1 } := by
  unfold begin_ at h ⊢
  by_cases hd : m.dead = true
  · rw [if_pos hd] at h; exact absurd h (by simp)
  · rw [if_neg hd] at h ⊢
    simp only at h ⊢
    by_cases hc : m.ops + 1 = m.plan.crash
    · rw [if_pos hc] at h; exact absurd h (by simp)
    · rw [if_neg hc] at h ⊢
      by_cases hf : m.ops + 1 ∈ m.plan.fail
      · rw [if_pos hf] at h; exact absurd h (by simp)
      · rw [if_neg hf]
/-- The disk behind a beginning that went ill: it has died, or only counted. -/
theorem begin_ill {m : ADisk} (hd : m.dead = false) : (begin_ m).1 ≠ 0 → (begin_ m).2 = Dk.die { m with ops := m.ops + 1 } ∨ (begin_ m).2 = { m with ops := m.ops + 1 } := by
  intro h
  unfold begin_ at h ⊢
  rw [if_neg (by rw [hd]; simp)] at h ⊢
  simp only at h ⊢
  by_cases hc : m.ops + 1 = m.plan.crash
  · rw [if_pos hc]; exact .inl rfl
  · rw [if_neg hc] at h ⊢
    by_cases hf : m.ops + 1 ∈ m.plan.fail
    · rw [if_pos hf]; exact .inr rfl
    · rw [if_neg hf] at h; exact absurd rfl h
/-- Started anew, whether it died before or not, if no change survives a death twice. -/
theorem start_die (m : ADisk) (hd : m.dead = false) (p : APlan) : Dk.start (Dk.die m) p = Dk.start m p := by
  unfold Dk.start
  rw [if_pos (show (Dk.die m).dead = true from rfl), if_neg (by rw [hd]; simp)]
theorem start_ops (m : ADisk) (o : Int) (p : APlan) : Dk.start { m with ops := o } p = Dk.start m p := by
  unfold Dk.start Dk.die
  by_cases h : m.dead = true
  · rw [if_pos h, if_pos h]
  · rw [if_neg h, if_neg h]
theorem start_log (p : APlan) (o : Int) (nm : Nm) (E : Bs) (q : APlan) : Dk.start (logDisk p o nm E) q = logDisk q 0 nm E := rfl
theorem ill_start {m : ADisk} (hd : m.dead = false) (h : (begin_ m).1 ≠ 0) (p : APlan) : Dk.start (begin_ m).2 p = Dk.start m p := by
  rcases begin_ill hd h with e | e
  · rw [e, start_die { m with ops := m.ops + 1 } hd, start_ops]
  · rw [e, start_ops]
/-- A disk that is dead has no changes. -/
def Dry (m : ADisk) : Prop := m.dead = true → ∀ x ∈ m.files, x.2.chs = []
theorem ill_dry {m : ADisk} (hd : m.dead = false) (h : (begin_ m).1 ≠ 0) : Dry (begin_ m).2 := by
  intro h1 x hx
  rcases begin_ill hd h with e | e
  · rw [e] at hx
    obtain ⟨y, _, i, rfl⟩ := dieAll_mem _ _ _ x hx
    rfl
  · rw [e] at h1; rw [hd] at h1; cases h1
variable {p : APlan} {o : Int} {nm : Nm} {E b : Bs}
/-- What an append came to: it went well, and stands behind the file; or it went ill. -/
theorem append_log : ((append (logDisk p o nm E) nm b).1 = 0 ∧ (append (logDisk p o nm E) nm b).2 = ⟨p, o + 1, false, [(nm, ⟨E, [.wr E.length b], E ++ b⟩)]⟩) ∨
    ((append (logDisk p o nm E) nm b).1 ≠ 0 ∧ Dry (append (logDisk p o nm E) nm b).2 ∧ ∀ q, Dk.start (append (logDisk p o nm E) nm b).2 q = logDisk q 0 nm E) := by
  by_cases h : (begin_ (logDisk p o nm E)).1 = 0
  · have hb := begin_well h
    have e : append (logDisk p o nm E) nm b = if maxFile < b.length + E.length then (2, logDisk p (o + 1) nm E) else change (logDisk p (o + 1) nm E) nm ⟨E, [], E⟩ (.wr E.length b) (E.length + b.length) := by
      unfold append
      generalize begin_ (logDisk p o nm E) = r at h hb
      obtain ⟨r1, r2⟩ := r
      simp only at h hb
      subst h hb
      simp only [ne_eq, not_true_eq_false, if_false, logDisk, get_one]
    have hst : ∀ (i : Int) q, Dk.start (logDisk p (o + 1) nm E) q = logDisk q 0 nm E := fun _ _ => rfl
    have hdry : Dry (logDisk p (o + 1) nm E) := fun h => by cases h
    rw [e]
    split
    · exact .inr ⟨by simp, hdry, fun q => rfl⟩
    · unfold change
      split
      · rename_i h1
        exact .inr ⟨h1, hdry, fun q => rfl⟩
      · exact .inl ⟨rfl, by simp only [logDisk, upd_one, app_end, List.nil_append]⟩
  · have e : append (logDisk p o nm E) nm b = begin_ (logDisk p o nm E) := by
      unfold append
      generalize begin_ (logDisk p o nm E) = r at h
      obtain ⟨r1, r2⟩ := r
      simp only at h
      simp only [ne_eq, h, not_false_eq_true, if_true]
    rw [e]
    exact .inr ⟨h, ill_dry rfl h, fun q => by rw [ill_start rfl h, start_log]⟩
theorem die_one (k : Int) (E b : Bs) : ∃ j, j ≤ b.length ∧ (match Chg.surv k (.wr E.length b) with | none => E | some s => s.app E) = E ++ b.take j := by
  have e : Chg.surv k (.wr E.length b) = if k < 0 then some (.wr E.length b) else if (k % ((b.length : Int) + 1)).toNat = 0 then none else some (.wr E.length (b.take (k % ((b.length : Int) + 1)).toNat)) := rfl
  rw [e]
  by_cases h : k < 0
  · exact ⟨b.length, Nat.le_refl _, by simp only [if_pos h, app_end, List.take_length]⟩
  · by_cases h0 : (k % ((b.length : Int) + 1)).toNat = 0
    · exact ⟨0, Nat.zero_le _, by simp only [if_neg h, if_pos h0]; simp⟩
    · have := Int.emod_lt_of_pos k (show (0 : Int) < (b.length : Int) + 1 by omega)
      exact ⟨(k % ((b.length : Int) + 1)).toNat, by omega, by simp only [if_neg h, if_neg h0, app_end]⟩
/-- What a sync behind it came to. -/
theorem sync_log : ((sync ⟨p, o, false, [(nm, ⟨E, [.wr E.length b], E ++ b⟩)]⟩ nm).1 = 0 ∧ (sync ⟨p, o, false, [(nm, ⟨E, [.wr E.length b], E ++ b⟩)]⟩ nm).2 = logDisk p (o + 1) nm (E ++ b)) ∨
    ((sync ⟨p, o, false, [(nm, ⟨E, [.wr E.length b], E ++ b⟩)]⟩ nm).1 ≠ 0 ∧ Dry (sync ⟨p, o, false, [(nm, ⟨E, [.wr E.length b], E ++ b⟩)]⟩ nm).2 ∧
      ∃ j, j ≤ b.length ∧ ∀ q, Dk.start (sync ⟨p, o, false, [(nm, ⟨E, [.wr E.length b], E ++ b⟩)]⟩ nm).2 q = logDisk q 0 nm (E ++ b.take j)) := by
  obtain ⟨m, hm⟩ : ∃ m : ADisk, m = ⟨p, o, false, [(nm, ⟨E, [.wr E.length b], E ++ b⟩)]⟩ := ⟨_, rfl⟩
  rw [← hm]
  have hd : m.dead = false := by rw [hm]
  by_cases h : (begin_ m).1 = 0
  · have hb := begin_well h
    refine .inl ?_
    unfold sync
    generalize begin_ m = r at h hb
    obtain ⟨r1, r2⟩ := r
    simp only at h hb
    subst h hb
    subst hm
    simp only [ne_eq, not_true_eq_false, if_false, get_one, upd_one, logDisk, and_self]
  · have e : sync m nm = begin_ m := by
      unfold sync
      generalize begin_ m = r at h
      obtain ⟨r1, r2⟩ := r
      simp only at h
      simp only [ne_eq, h, not_false_eq_true, if_true]
    rw [e]
    obtain ⟨j, hj, hje⟩ := die_one (keepAt p 0) E b
    refine .inr ⟨h, ill_dry hd h, j, hj, fun q => ?_⟩
    rw [ill_start hd h, hm]
    unfold Dk.start Dk.die logDisk
    simp only [Bool.false_eq_true, if_false, dieAll, dieFile]
    rw [← hje]
    cases Chg.surv (keepAt p 0) (.wr E.length b) <;> rfl
/-- A new disk gets its file. -/
theorem create_log (p : APlan) (nm : Nm) (hn : named nm = true) (h : (create (new_ p) nm).1 = 0) : (create (new_ p) nm).2 = logDisk p 1 nm [] := by
  by_cases h1 : (begin_ (new_ p)).1 = 0
  · have hb := begin_well h1
    have e : create (new_ p) nm = if room_ ⟨p, 1, false, []⟩ 0 0 ≠ 0 then (room_ ⟨p, 1, false, []⟩ 0 0, ⟨p, 1, false, []⟩) else (0, logDisk p 1 nm []) := by
      unfold create
      generalize begin_ (new_ p) = r at h1 hb
      obtain ⟨r1, r2⟩ := r
      simp only at h1 hb
      subst h1
      have hb : r2 = ⟨p, 1, false, []⟩ := hb
      subst hb
      simp only [ne_eq, not_true_eq_false, if_false, hn, Bool.true_eq_false]
      rfl
    rw [e] at h ⊢
    split at h
    · rename_i h2; exact absurd h h2
    · rename_i h2; rw [if_neg h2]
  · have e : create (new_ p) nm = begin_ (new_ p) := by
      unfold create
      generalize begin_ (new_ p) = r at h1
      obtain ⟨r1, r2⟩ := r
      simp only at h1
      simp only [ne_eq, h1, not_false_eq_true, if_true]
    rw [e] at h
    exact absurd h h1
theorem begin_plan0 (o : Int) (ho : 0 ≤ o) (fs : List (Nm × AFile)) : begin_ ⟨plan0, o, false, fs⟩ = (0, ⟨plan0, o + 1, false, fs⟩) := by
  unfold begin_ plan0
  simp only [Bool.false_eq_true, if_false, List.not_mem_nil]
  rw [if_neg (by omega)]
theorem room_plan0 (o : Int) (fs : List (Nm × AFile)) (a c : Int) : room_ ⟨plan0, o, false, fs⟩ a c = 0 := by
  unfold room_ plan0
  simp
/-- On a disk that does all it is asked a file is cut. -/
theorem truncate_plan0 (nm : Nm) (X : Bs) (s : Nat) (hs : s ≤ maxFile) : (truncate (logDisk plan0 0 nm X) nm s).1 = 0 ∧ ∃ f, (truncate (logDisk plan0 0 nm X) nm s).2 = ⟨plan0, 1, false, [(nm, f)]⟩ := by
  unfold truncate logDisk
  rw [begin_plan0 _ (by omega)]
  simp only [ne_eq, not_true_eq_false, if_false, get_one]
  rw [if_neg (by omega), if_neg (by omega)]
  unfold change
  rw [room_plan0, if_neg (by simp)]
  exact ⟨rfl, _, by rw [upd_one]; rfl⟩
theorem sync_plan0 (nm : Nm) (f : AFile) : (sync ⟨plan0, 1, false, [(nm, f)]⟩ nm).1 = 0 := by
  unfold sync
  rw [begin_plan0 _ (by omega)]
  simp only [ne_eq, not_true_eq_false, if_false, get_one]
end Go.Proofs.Ytnifmoigalmcmaa
