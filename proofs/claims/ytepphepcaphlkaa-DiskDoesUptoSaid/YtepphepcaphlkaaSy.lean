/- The plain law behind DiskSynced: what was synced is there behind a start. -/
import Derived.Test.YtepphepcaphlkaaRoom
import Derived.Test.YtepphepcaphlkaaM
namespace Go.Proofs.Ytepphepcaphlkaa
open Dk
theorem get_upd {fs : List (Nm × AFile)} {n : Nm} {f g : AFile} (h : get fs n = some f) : get (upd fs n g) n = some g := by
  induction fs with
  | nil => simp [Dk.get] at h
  | cons x r ih =>
    unfold Dk.get upd at *
    rw [List.map_cons, List.find?_cons]
    cases hx : (x.1 == n) with
    | true => simp
    | false =>
      rw [List.find?_cons, hx] at h
      have e0 : (if false = true then (n, g) else x) = x := if_neg (by simp)
      rw [e0, hx]
      exact ih h
theorem get_dieAll {p : APlan} {n : Nm} {l : List UInt8} {l' : List UInt8} : ∀ {fs : List (Nm × AFile)} {N : Nat}, Dk.get fs n = some ⟨l, [], l'⟩ → Dk.get (dieAll p N fs) n = some ⟨l, [], l⟩
  | [], N, h => by simp [Dk.get] at h
  | x :: r, N, h => by
    unfold Dk.get at *
    unfold dieAll
    rw [List.find?_cons] at h ⊢
    cases hx : (x.1 == n) with
    | true =>
      rw [hx] at h
      simp at h
      simp [h, dieFile]
    | false =>
      rw [hx] at h
      simp only
      exact get_dieAll (fs := r) h
theorem sync_zero {m : ADisk} {n : Nm} (h : (Dk.sync m n).1 = 0) : ∃ f, Dk.get m.files n = some f ∧ Dk.sync m n = (0, { m with ops := m.ops + 1, files := upd m.files n ⟨f.now, [], f.now⟩ }) := by
  by_cases h0 : openErr m n = 0
  · obtain ⟨h1, f, hg⟩ := openErr_zero h0
    exact ⟨f, hg, good_of h1 hg (fun f d => (0, { d with files := upd d.files n ⟨f.now, [], f.now⟩ }))⟩
  · have e : Dk.sync m n = _ := bad_of h0 (fun f d => (0, { d with files := upd d.files n ⟨f.now, [], f.now⟩ }))
    rw [e] at h
    exact absurd h h0
theorem synced {m : ADisk} {n : Nm} {f : AFile} (hd : m.dead = false) (hg : Dk.get m.files n = some f) (h : (Dk.sync m n).1 = 0) (p : APlan) :
    (Dk.sync m n).2.dead = false ∧ Dk.get (Dk.sync m n).2.files n = some ⟨f.now, [], f.now⟩ ∧ (Dk.start (Dk.sync m n).2 p).dead = false ∧ Dk.get (Dk.start (Dk.sync m n).2 p).files n = some ⟨f.now, [], f.now⟩ := by
  obtain ⟨f', hg', e⟩ := sync_zero h
  rw [hg] at hg'
  cases hg'
  rw [e]
  have h1 := get_upd (g := ⟨f.now, [], f.now⟩) hg
  refine ⟨hd, h1, rfl, ?_⟩
  unfold Dk.start
  show Dk.get (if m.dead = true then _ else _ : ADisk).files n = _
  rw [hd]
  exact get_dieAll h1
end Go.Proofs.Ytepphepcaphlkaa
