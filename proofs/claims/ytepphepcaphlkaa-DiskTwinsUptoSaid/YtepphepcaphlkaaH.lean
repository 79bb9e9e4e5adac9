import Derived.Test.YtepphepcaphlkaaG
namespace Go.Proofs.Ytepphepcaphlkaa
open Go Go.RowKit Go.MapKept Go.Maps
open Dk
variable {c : Col} {w : World}
theorem keepAt_lt (p : APlan) (n : Nat) (h : 0 < p.keep.length) : p.keep[n % p.keep.length]? = some (keepAt p n) := by
  have hlt := Nat.mod_lt n h
  unfold keepAt
  rw [if_neg (by omega)]
  simp [List.getD, hlt]
/-- next, where there is a list of numbers to keep. -/
theorem die1_some (bd bi d n : Nat) (p : APlan) (vk : Value) (w : World) (hk : 0 < p.keep.length) (hn : n < 4611686018427387904) (h1 : w.cell? ⟨bd, 0, none⟩ = some (ptr d)) (h2 : w.cell? ⟨bi, 0, none⟩ = some (.int .i64 n)) (hf : w.frozen? ⟨bi, 0, none⟩ = false)
    (h3 : w.cell? ⟨d, 2, none⟩ = some vk) (hv : Sc w c (0, 0) vk (p.keep.map iv)) :
    Calls Try.prog 65 #[.pointer (some ⟨bd, 0, none⟩), .pointer (some ⟨bi, 0, none⟩)] w fun e w' => e = .returned (.int .i64 (keepAt p n)) ∧ ∃ q, w' = (w.drewN q).setCell ⟨bi, 0, none⟩ (.int .i64 ((n + 1 : Nat) : Int)) := by
  rcases hv.cases with ⟨rfl, hx⟩ | ⟨b, o, cap, rfl, hlc, hcm, _, hc⟩
  · have : p.keep = [] := by simpa using hx
    rw [this] at hk; cases hk
  · rw [List.length_map] at hlc
    rw [List.length_map] at h3
    have hmod := Nat.mod_lt n hk
    obtain ⟨r, hr⟩ : ∃ r, r = n % p.keep.length := ⟨_, rfl⟩
    have hcell : w.cell? ⟨b, o + r, none⟩ = some (.int .i64 (keepAt p n)) := hc r _ (by rw [hr, List.getElem?_map, keepAt_lt p n hk]; rfl)
    have hlen : (p.keep.length : Int) ≤ 9223372036854775807 := by unfold maxLen at hcm; omega
    have ht : ((n : Int).tmod (p.keep.length : Int)) = (r : Int) := by rw [hr, Int.tmod_eq_emod_of_nonneg (by omega)]; rfl
    have hr0 : (r : Int) < (p.keep.length : Int) := by rw [hr]; omega
    have hr1 : (0 : Int) ≤ (r : Int) := by omega
    have hz : ((p.keep.length : Int) == 0) = false := by rw [beq_eq_false_iff_ne]; omega
    have hn1 : (n : Int) + 1 ≤ 9223372036854775807 := by omega
    have hcap : p.keep.length ≤ cap := hlc
    unfold ptr at h1
    have HC := Lib.hid hc; clear hc
    have HR := Lib.hid hr; clear hr
    clear hmod hcm hv hn
    go_enter Try.func65, Try.ntmps65
    go_wp2
    go_quiet (fail)
    go_wp2
    go_ret
    exact ⟨rfl, nq, by rw [Int.natCast_add]; rfl⟩
/-- next, where there is none. -/
theorem die1_none (bd bi d : Nat) (n : Nat) (p : APlan) (vk : Value) (w : World) (hk : p.keep.length = 0) (h1 : w.cell? ⟨bd, 0, none⟩ = some (ptr d))
    (h3 : w.cell? ⟨d, 2, none⟩ = some vk) (hv : Sc w c (0, 0) vk (p.keep.map iv)) :
    Calls Try.prog 65 #[.pointer (some ⟨bd, 0, none⟩), .pointer (some ⟨bi, 0, none⟩)] w fun e w' => e = .returned (.int .i64 (keepAt p n)) ∧ w = w' := by
  have e0 : p.keep = [] := List.eq_nil_of_length_eq_zero hk
  have ek : keepAt p n = 0 := by unfold keepAt; rw [if_pos hk]
  rw [ek]
  obtain ⟨a, cap, rfl, _, _, _, _⟩ := hv
  rw [e0] at h3
  simp only [List.map_nil, List.length_nil] at h3
  unfold ptr at h1
  clear ek e0 hk
  go_enter Try.func65, Try.ntmps65
  go_wp2
  go_ret
  exact ⟨rfl, rfl⟩
/-- what the counter holds. -/
def bx (p : APlan) (n : Nat) : Int := if p.keep.length = 0 then 0 else n
theorem die1_any (bd bi d n : Nat) (p : APlan) (vk : Value) (w : World) (hn : n < 4611686018427387904) (h1 : w.cell? ⟨bd, 0, none⟩ = some (ptr d)) (h2 : w.cell? ⟨bi, 0, none⟩ = some (.int .i64 (bx p n))) (hf : w.frozen? ⟨bi, 0, none⟩ = false)
    (h3 : w.cell? ⟨d, 2, none⟩ = some vk) (hv : Sc w c (0, 0) vk (p.keep.map iv)) :
    Calls Try.prog 65 #[.pointer (some ⟨bd, 0, none⟩), .pointer (some ⟨bi, 0, none⟩)] w fun e w' => e = .returned (.int .i64 (keepAt p n)) ∧ (∀ (c : Col) S, S (c bi) → Kp c S w w') ∧ w'.cell? ⟨bi, 0, none⟩ = some (.int .i64 (bx p (n + 1))) ∧ w'.frozen? ⟨bi, 0, none⟩ = false := by
  by_cases hk : p.keep.length = 0
  · refine (die1_none bd bi d n p vk w hk h1 h3 hv).mono ?_
    rintro e w' ⟨rfl, rfl⟩
    refine ⟨rfl, fun c S _ => Kp.refl _ _ _, ?_, hf⟩
    rw [h2]; unfold bx; rw [if_pos hk, if_pos hk]
  · have e1 : bx p n = n := by unfold bx; rw [if_neg hk]
    have e2 : bx p (n + 1) = ((n + 1 : Nat) : Int) := by unfold bx; rw [if_neg hk]
    rw [e1] at h2
    refine (die1_some bd bi d n p vk w (by omega) hn h1 h2 hf h3 hv).mono ?_
    rintro e w' ⟨rfl, q, rfl⟩
    refine ⟨rfl, fun c S hS => ((Kp.refl _ _ _).drewN q).setCell (fun _ => hS) _, ?_, ?_⟩
    · rw [e2]; exact World.cell?_setCell_same (w := w.drewN q) _ _ h2
    · rw [World.frozen?_setCell]; exact hf
end Go.Proofs.Ytepphepcaphlkaa
