/- cairnref01.Same: whether two lists of files are alike. -/
import Derived.Test.YtnifmoigalmcmaaGreatLt
import Derived.Laws.IdiomStrings
namespace Go.Proofs.YtnifmoigalmcmaaGreat
open Go Go.RowKit Go.MapKept Go.Maps
open Dk
variable {c c' : Col} {w w' : World}
theorem conv_sc {q : Nat × Nat} {v : Value} {l : List UInt8} (h : Sc w c q v (l.map bv)) : (convert 41 9 v).run Tryz.prog w = .ok (.string ⟨l.toArray⟩) w := by
  obtain ⟨a, cap, rfl, hcap, _, h0, h1⟩ := h
  rw [List.length_map]
  cases a with
  | none =>
    have h0 : l = [] := by
      have h2 := h0 rfl
      rw [List.length_map] at hcap
      exact List.eq_nil_of_length_eq_zero (by omega)
    subst h0
    rw [run_convert_bytes_string w 41 9 5 none _ cap Tryz.underlying41 Tryz.underlying5 Tryz.underlying9]
    rfl
  | some ad =>
    refine run_convert_bytes_back w 41 9 5 ad cap l Tryz.underlying41 Tryz.underlying5 Tryz.underlying9 (fun j hj => ?_)
    obtain ⟨h2, h3⟩ := h1 ad rfl
    rw [add_eq h2]
    exact (h3 j (bv (l[j])) (by rw [List.getElem?_map, List.getElem?_eq_getElem hj]; rfl)).2
theorem fcell {v : Value} {fs : List (Nm × List UInt8)} (h : FilesAt w c v fs) {j : Nat} {x : Nm × List UInt8} (hx : fs[j]? = some x) :
    ∃ g cap vd, v = .slice (some ⟨g, 0, none⟩) fs.length cap ∧ w.cell? ⟨g, j * 2, none⟩ = some (.string ⟨x.1.toArray⟩) ∧ w.cell? ⟨g, j * 2 + 1, none⟩ = some vd ∧ Sc w c (0, 0) vd (x.2.map bv) := by
  obtain ⟨xs, hown, hcol, hd⟩ := h
  obtain ⟨vd, h1, h2, h3⟩ := hd j x hx
  have hlt : j < fs.length := (List.getElem?_eq_some_iff.1 hx).1
  rcases hown.2 with ⟨rfl, h0⟩ | ⟨g, cap, cur, hv, _⟩
  · omega
  · refine ⟨g, cap, vd, hv, ?_, ?_, h3⟩
    · have := hown.cells (g := g) (by rw [hv]; rfl) (2 * j) _ h1
      rw [add_eq rfl] at this
      rw [Nat.mul_comm j 2]; simpa [str] using this
    · have := hown.cells (g := g) (by rw [hv]; rfl) (2 * j + 1) _ h2
      rw [add_eq rfl] at this
      rw [Nat.mul_comm j 2]; simpa using this
theorem fshape {v : Value} {fs : List (Nm × List UInt8)} (h : FilesAt w c v fs) : ∃ a cap, v = .slice a fs.length cap := by
  obtain ⟨xs, hown, _, _⟩ := h
  rcases hown.2 with ⟨rfl, h0⟩ | ⟨g, cap, cur, hv, _⟩
  · exact ⟨none, 0, by rw [h0]⟩
  · exact ⟨_, _, hv⟩
theorem beq_files {f g : List (Nm × List UInt8)} (j : Nat) (hl : f.length = g.length) (h : f.take j = g.take j) (hj : ¬ j < f.length) : f = g := by
  rw [List.take_of_length_le (by omega), List.take_of_length_le (by omega)] at h
  exact h
theorem take_files {f g : List (Nm × List UInt8)} {j : Nat} {x y : Nm × List UInt8} (h : f.take j = g.take j) (hx : f[j]? = some x) (hy : g[j]? = some y) (h1 : x.1 = y.1) (h2 : x.2 = y.2) : f.take (j + 1) = g.take (j + 1) := by
  rw [List.take_add_one, List.take_add_one, h, hx, hy]
  rw [show x = y from Prod.ext h1 h2]
theorem not_files {f g : List (Nm × List UInt8)} {j : Nat} {x y : Nm × List UInt8} (hx : f[j]? = some x) (hy : g[j]? = some y) (h1 : ¬ (x.1 = y.1 ∧ x.2 = y.2)) : f ≠ g := by
  rintro rfl
  rw [hx] at hy; cases hy
  exact h1 ⟨rfl, rfl⟩
theorem same_c (v1 v2 : Value) (f1 f2 : List (Nm × List UInt8)) (w : World) (h1 : FilesAt w c v1 f1) (h2 : FilesAt w c v2 f2) (l1 : (f1.length : Int) ≤ 4096) :
    Calls Tryz.prog 26 #[v1, v2] w fun e w' => e = .returned (.bool (decide (f1 = f2))) ∧ ∀ S, Kp c S w w' := by
  obtain ⟨a1, cap1, rfl⟩ := fshape h1
  obtain ⟨a2, cap2, rfl⟩ := fshape h2
  have H1 := Lib.hid h1; clear h1
  have H2 := Lib.hid h2; clear h2
  by_cases hle : f1.length = f2.length
  · rw [← hle] at H2 ⊢
    have HLE := Lib.hid hle
    clear hle
    go_enter Tryz.func26, Tryz.ntmps26
    go_wp2
    have hn1 : (f1.length : Int) ≤ 4096 := l1
    go_loopw [13] (fun s wr => ∃ j : Nat, j ≤ f1.length ∧ s = .int .i64 j ∧ f1.take j = f2.take j ∧ ∀ S, Kp c S w wr) (fun s _ => f1.length - (intOf s).toNat)
    case atStart => exact ⟨0, Nat.zero_le _, rfl, rfl, fun S => Kp.refl _ _ _⟩
    case round =>
      obtain ⟨j, hj, rfl, ht, hk⟩ := hrel
      have HT := Lib.hid ht; clear ht
      have HK := Lib.hid hk; clear hk
      by_cases hlt : j < f1.length
      · obtain ⟨x, hx⟩ : ∃ x, f1[j]? = some x := ⟨f1[j], List.getElem?_eq_getElem hlt⟩
        obtain ⟨y, hy⟩ : ∃ y, f2[j]? = some y := ⟨f2[j]'(by have := HLE.out; omega), List.getElem?_eq_getElem (by have := HLE.out; omega)⟩
        obtain ⟨g1, d1, v1, e1, p1, p2, s1⟩ := fcell H1.out hx
        obtain ⟨g2, d2, v2, e2, q1, q2, s2⟩ := fcell H2.out hy
        injection e1 with e11 e12 e13
        injection e2 with e21 e22 e23
        subst e11 e21
        clear e12 e13 e22 e23
        have c1 := fun n => conv_sc (s1.kp ((HK.out S2F).drewN n) (fun h => h) (Cx.refl _ _))
        have c2 := fun n => conv_sc (s2.kp ((HK.out S2F).drewN n) (fun h => h) (Cx.refl _ _))
        obtain ⟨a3, k3, rfl, -⟩ := id s1
        obtain ⟨a4, k4, rfl, -⟩ := id s2
        rw [List.length_map] at p2 q2 c1 c2
        have r1 := (HK.out S2F).cell p1 (fun h => h)
        have r2 := (HK.out S2F).cell p2 (fun h => h)
        have r3 := (HK.out S2F).cell q1 (fun h => h)
        have r4 := (HK.out S2F).cell q2 (fun h => h)
        have HX := Lib.hid hx; clear hx
        have HY := Lib.hid hy; clear hy
        clear p1 p2 q1 q2 s1 s2
        have hf1 : (j : Int) < f1.length := by omega
        by_cases h1 : x.1 = y.1
        · rw [← h1] at r3
          have H1' := Lib.hid h1; clear h1
          go_wp2
          go_quiet (fail)
          go_wp2
          · have hn2 : (!x.2 == y.2) = true := by assumption
            have hn2 : x.2 ≠ y.2 := by simpa using hn2
            go_ret
            exact ⟨ret_bool (Eq.symm (decide_eq_false (not_files HX.out HY.out (fun h => hn2 h.2)))), fun S => (HK.out S).drewN _⟩
          · have hn2 : (!x.2 == y.2) = false := by assumption
            have hn2 : x.2 = y.2 := by simpa using hn2
            go_roundw
            case rel => exact ⟨j + 1, by omega, by go_num, take_files HT.out HX.out HY.out H1'.out hn2, fun S => (HK.out S).drewN _⟩
            case measure => simp [intOf]; omega
        · have H1' := Lib.hid h1
          go_wp2
          go_quiet (fail)
          go_wp2
          go_ret
          exact ⟨ret_bool (Eq.symm (decide_eq_false (not_files HX.out HY.out (fun h => H1'.out h.1)))), fun S => (HK.out S).drewN _⟩
      · have HJ := Lib.hid hlt
        go_wp2
        go_ret
        exact ⟨ret_bool (Eq.symm (decide_eq_true (beq_files j HLE.out HT.out HJ.out))), HK.out⟩
  · have hle' : ((f1.length : Int) == f2.length) = false := by simp; omega
    have hle2 : ¬ (f1.length : Int) = f2.length := by omega
    go_enter Tryz.func26, Tryz.ntmps26
    go_wp2
    go_ret
    exact ⟨ret_bool (by simp; intro e; exact hle (by rw [e])), fun S => Kp.refl _ _ _⟩
end Go.Proofs.YtnifmoigalmcmaaGreat
