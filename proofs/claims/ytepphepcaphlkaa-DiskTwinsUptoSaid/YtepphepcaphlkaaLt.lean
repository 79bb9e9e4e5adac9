import Derived.Test.YtepphepcaphlkaaFs
namespace Go.Proofs.Ytepphepcaphlkaa
open Go Go.RowKit Go.MapKept Go.Maps
open Dk
variable {c c' : Col} {w w' : World} {q : Nat × Nat}
/-- A slice that came in: where it has no element nothing is asked of its address. -/
def Sw (w : World) (c : Col) (q : Nat × Nat) (v : Value) (xs : List Value) : Prop :=
  ∃ a cap, v = .slice a xs.length cap ∧ xs.length ≤ cap ∧ cap ≤ maxLen ∧ (a = none → cap = 0) ∧
    ∀ ad, a = some ad → ∀ (j : Nat) u, xs[j]? = some u → ad.spot = none ∧ c ad.block = q ∧ w.cell? ⟨ad.block, ad.off + j, none⟩ = some u
theorem Sw.kp {S : Nat × Nat → Prop} {v : Value} {xs : List Value} (h : Sw w c q v xs) (hk : Kp c S w w') (hq : ¬ S q) (hc : Cx w c c') : Sw w' c' q v xs := by
  obtain ⟨a, cap, h1, h2, h3, h4, h5⟩ := h
  refine ⟨a, cap, h1, h2, h3, h4, fun ad had j u hj => ?_⟩
  obtain ⟨e0, e1, e2⟩ := h5 ad had j u hj
  have hlt := World.block_lt_of_cell? _ _ e2
  exact ⟨e0, (hc _ hlt).trans e1, hk.cell e2 (by rw [e1]; exact hq)⟩
theorem ltwin (v : Value) (xs : List Value) (h : Sw w c q v xs) (h1 : ∀ u ∈ xs, u.oneCell' = true) (hl : xs.length ≤ lim) :
    Calls Try.prog 32 #[v] w fun e w' => ∃ v', e = .returned v' ∧ w'.ownsRow w.heap.size 5 1 v' xs.length xs ∧ Below w.heap.size w w' := by
  obtain ⟨a, cap, rfl, hlc, hcm, hn0, hc⟩ := h
  cases a with
  | none =>
    have h0 := hn0 rfl
    subst h0
    have hx : xs = [] := List.eq_nil_of_length_eq_zero (by omega)
    subst hx
    clear hlc hcm hn0 hc h1 hl
    go_enter Try.func32, Try.ntmps32
    go_wp2
    go_ret
    exact ⟨_, rfl, World.ownsRow_nil _ _ _ _, Below.refl _ _⟩
  | some ad =>
    have hcell := hc ad rfl
    obtain ⟨i, hi, hz0, hz1, hz2⟩ := info_parts info_u8
    have H1 : Hid (∀ (j : Nat) u, xs[j]? = some u → w.cell? (ad.add j) = some u) := fun j u hj => by rw [add_eq (hcell j u hj).1]; exact (hcell j u hj).2.2
    have H2 := Lib.hid hl; clear hl
    have H5 := Lib.hid h1; clear h1
    have H6 := Lib.hid hi; clear hi
    have H7 := Lib.hid hz0; clear hz0
    have H8 := Lib.hid hz1; clear hz1
    have H9 := Lib.hid hz2; clear hz2
    clear hn0 hc hlc hcm hcell
    go_enter Try.func32, Try.ntmps32
    go_wp2_with (at_builtin; refine wpList_append_own _ rfl _ _ _ rfl w.heap.size 5 i (.int .u8 0) 1 1 Try.underlying30 H6.out H7.out H8.out H9.out rfl (by decide) _ 0 [] rfl (World.ownsRow_nil w w.heap.size 5 1) ad xs.length cap xs rfl (by simp) H1.out H5.out (lim_len H2.out) (lim_by H2.out (by decide)) (by simp) ?_; intro v' w' hown hgrow _)
    go_ret
    refine ⟨_, rfl, by simpa using hown, (Below.refl _ w).grown hgrow (by simp) (fun g hg => ?_)⟩
    cases hg
end Go.Proofs.Ytepphepcaphlkaa
