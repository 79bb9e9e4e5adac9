/- cairnref01.Same: whether two lists of files are alike. -/
import Derived.Test.YtnifmoigalmcmaaLt
import Derived.Laws.IdiomStrings
namespace Go.Proofs.Ytnifmoigalmcmaa
open Go Go.RowKit Go.MapKept Go.Maps
open Dk
variable {c c' : Col} {w w' : World}
theorem conv_sc {q : Nat × Nat} {v : Value} {l : List UInt8} (h : Sc w c q v (l.map bv)) : (convert 23 9 v).run Try.prog w = .ok (.string ⟨l.toArray⟩) w := by
  obtain ⟨a, cap, rfl, hcap, _, h0, h1⟩ := h
  rw [List.length_map]
  cases a with
  | none =>
    have h0 : l = [] := by
      have h2 := h0 rfl
      rw [List.length_map] at hcap
      exact List.eq_nil_of_length_eq_zero (by omega)
    subst h0
    rw [run_convert_bytes_string w 23 9 5 none _ cap Try.underlying23 Try.underlying5 Try.underlying9]
    rfl
  | some ad =>
    refine run_convert_bytes_back w 23 9 5 ad cap l Try.underlying23 Try.underlying5 Try.underlying9 (fun j hj => ?_)
    obtain ⟨h2, h3⟩ := h1 ad rfl
    rw [add_eq h2]
    exact (h3 j (bv (l[j])) (by rw [List.getElem?_map, List.getElem?_eq_getElem hj]; rfl)).2
theorem beq_files {f g : List (Nm × List UInt8)} (j : Nat) (hl : f.length = g.length) (h : f.take j = g.take j) (hj : ¬ j < f.length) : f = g := by
  rw [List.take_of_length_le (by omega), List.take_of_length_le (by omega)] at h
  exact h
theorem take_files {f g : List (Nm × List UInt8)} {j : Nat} {x y : Nm × List UInt8} (h : f.take j = g.take j) (hx : f[j]? = some x) (hy : g[j]? = some y) (h1 : x.1 = y.1) (h2 : x.2 = y.2) : f.take (j + 1) = g.take (j + 1) := by
  rw [List.take_add_one, List.take_add_one, h, hx, hy]
  rw [show x = y from Prod.ext h1 h2]
theorem not_files {f g : List (Nm × List UInt8)} {j : Nat} {x y : Nm × List UInt8} (hx : f[j]? = some x) (hy : g[j]? = some y) (h1 : ¬ (x.1 = y.1 ∧ x.2 = y.2)) : f ≠ g := by
  rintro rfl
  rw [hx] at hy; cases hy
  exact h1 ⟨rfl, rfl⟩
theorem ba_inj {a b : List UInt8} (h : (⟨a.toArray⟩ : ByteArray) = ⟨b.toArray⟩) : a = b := by
  injection h with h
  injection h
end Go.Proofs.Ytnifmoigalmcmaa
