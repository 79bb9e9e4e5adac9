import Derived.Test.YtepphepcaphlkaaA
namespace Go.Proofs.Ytepphepcaphlkaa
open Go Go.RowKit Go.MapKept Go.Maps
open Dk
variable {c : Col} {w : World} {q : Nat × Nat}
theorem ret_int {k : IntKind} {a b : Int} (h : a = b) : Ending.returned (.int k a) = .returned (.int k b) := by rw [h]
theorem ret_bool {a b : Bool} (h : a = b) : Ending.returned (.bool a) = .returned (.bool b) := by rw [h]
/-- The slice's parts, for a walk. -/
theorem Sc.cases {v : Value} {xs : List Value} (h : Sc w c q v xs) : (v = .slice none 0 0 ∧ xs = []) ∨ ∃ b o cap, v = .slice (some ⟨b, o, none⟩) xs.length cap ∧ xs.length ≤ cap ∧ cap ≤ maxLen ∧ (xs ≠ [] → c b = q) ∧ ∀ (j : Nat) u, xs[j]? = some u → w.cell? ⟨b, o + j, none⟩ = some u := by
  obtain ⟨a, cap, rfl, hlc, hcm, hn0, hc⟩ := h
  cases a with
  | none =>
    have := hn0 rfl
    subst this
    have hx : xs = [] := List.eq_nil_of_length_eq_zero (by omega)
    subst hx
    exact .inl ⟨rfl, rfl⟩
  | some ad =>
    obtain ⟨h1, h2⟩ := hc ad rfl
    obtain ⟨b, o, s⟩ := ad
    cases h1
    refine .inr ⟨b, o, cap, rfl, hlc, hcm, fun hne => ?_, fun j u hj => (h2 j u hj).2⟩
    obtain ⟨x, r, rfl⟩ := List.exists_cons_of_ne_nil hne
    exact (h2 0 x rfl).1
def IdxPost (l : List Int) (x : Int) (w : World) (e : Ending) (w' : World) : Prop := ∃ r : Int, e = .returned (.int .i64 r) ∧ w = w' ∧ ((0 ≤ r ∧ x ∈ l) ∨ (r < 0 ∧ x ∉ l))
theorem indexI (v : Value) (l : List Int) (x : Int) (h : Sc w c q v (l.map iv)) :
    Calls Try.prog 83 #[v, .int .i64 x] w (IdxPost l x w) := by
  rcases h.cases with ⟨rfl, hx⟩ | ⟨b, o, cap, rfl, hlc, hcm, _, hc⟩
  · have : l = [] := by simpa using hx
    subst this
    go_enter Try.func83, Try.ntmps83
    go_wp2
    refine wp_loop_rounds 1 ?_
    rw [rounds_succ]
    go_wp2
    go_ret
    exact ⟨-1, rfl, rfl, .inr ⟨by omega, by simp⟩⟩
  · rw [List.length_map] at hlc ⊢
    have hlen : l.length ≤ 9223372036854775807 := by unfold maxLen at hcm; omega
    have HC := Lib.hid hc; clear hc
    clear hcm hlc
    go_enter Try.func83, Try.ntmps83
    go_wp2
    go_loop [8] (fun i => ∃ k : Nat, k ≤ l.length ∧ i = .int .i64 k ∧ x ∉ l.take k) (fun i => l.length - (intOf i).toNat)
    case atStart => exact ⟨0, Nat.zero_le _, rfl, by simp⟩
    case round =>
      obtain ⟨k, hk, rfl, hno⟩ := hrel
      by_cases hlt : k < l.length
      · have hcell : w.cell? ⟨b, o + k, none⟩ = some (.int .i64 l[k]) := HC.out k _ (by simp [hlt, iv])
        by_cases he : x = l[k]
        · have ht : (x == l[k]) = true := by simpa using he
          have HE := Lib.hid he; clear he
          have HN := Lib.hid hno; clear hno
          go_wp2
          go_ret
          exact ⟨k, rfl, rfl, .inl ⟨by omega, by rw [HE.out]; exact List.getElem_mem hlt⟩⟩
        · have ht : (x == l[k]) = false := by simpa using he
          have HE := Lib.hid he; clear he
          have HN := Lib.hid hno; clear hno
          go_wp2
          go_round
          case rel =>
            refine ⟨k + 1, by omega, by go_num, ?_⟩
            rw [List.take_succ_eq_append_getElem hlt]
            simp only [List.mem_append, List.mem_singleton, not_or]
            exact ⟨HN.out, HE.out⟩
          case measure => simp [intOf]; omega
      · have HN := Lib.hid hno; clear hno
        go_wp2
        go_ret
        refine ⟨-1, rfl, rfl, .inr ⟨by omega, ?_⟩⟩
        have := HN.out
        rwa [List.take_of_length_le (by omega)] at this
theorem containsI (v : Value) (l : List Int) (x : Int) (h : Sc w c q v (l.map iv)) :
    Calls Try.prog 77 #[v, .int .i64 x] w fun e w' => e = .returned (.bool (decide (x ∈ l))) ∧ w = w' := by
  go_enter Try.func77, Try.ntmps77
  go_wp2_with (go_at_call 83; refine (indexI _ _ _ h).mono ?_; rintro e w' ⟨r, rfl, rfl, hr⟩)
  go_ret
  refine ⟨ret_bool ?_, rfl⟩
  rcases hr with ⟨h1, h2⟩ | ⟨h1, h2⟩
  · simp [h1, h2]
  · simp [h1, h2]
end Go.Proofs.Ytepphepcaphlkaa
