/- WalBack: two rows that their function owns; the ends of batches. -/
import Derived.Test.YtnifmoigalmcmaaYr
namespace Go.Proofs.Ytnifmoigalmcmaa
open Go Go.RowKit
open Wl
variable {c c' : Col} {w w' : World} {S : Nat × Nat → Prop} {q : Nat × Nat}
theorem Grow.bat {B : Nat} {v : Value} {cf : Col} {l : List Bs} {e : TypeId} (G : Grow QB B w e v cf l) : Bat w cf (1, 0) (0, 0) v l := by
  obtain ⟨⟨xs, ho, hx⟩, hc, -, -⟩ := G
  exact ⟨xs, Sc.of_owns ho hc, by simpa using ho.1, hx⟩
/-- Two rows that their function owns, newer than w. -/
structure Two (w wr : World) (e1 : TypeId) (v1 : Value) (xs1 : List Value) (e2 : TypeId) (v2 : Value) (xs2 : List Value) : Prop where
  one : wr.ownsRow 0 e1 1 v1 xs1.length xs1
  two : wr.ownsRow 0 e2 1 v2 xs2.length xs2
  apart : ∀ g, v1.ownBlock = some g → v2.ownBlock ≠ some g
  new1 : ∀ g, v1.ownBlock = some g → w.heap.size ≤ g
  new2 : ∀ g, v2.ownBlock = some g → w.heap.size ≤ g
  kp : ∀ c S, Kp c S w wr
variable {wr w2 : World} {e1 e2 : TypeId} {v1 v2 v' : Value} {xs1 xs2 ys : List Value}
theorem Two.start (h : ∀ c S, Kp c S w wr) : Two w wr e1 (.slice none 0 0) [] e2 (.slice none 0 0) [] :=
  ⟨World.ownsRow_nil _ _ _ _, World.ownsRow_nil _ _ _ _, (fun _ h => nomatch h), (fun _ h => nomatch h), (fun _ h => nomatch h), h⟩
theorem Two.swap (h : Two w wr e1 v1 xs1 e2 v2 xs2) : Two w wr e2 v2 xs2 e1 v1 xs1 :=
  ⟨h.two, h.one, fun g a b => h.apart g b a, h.new2, h.new1, h.kp⟩
theorem Two.on (h : Two w wr e1 v1 xs1 e2 v2 xs2) (hk : ∀ c S, Kp c S wr w2) : Two w w2 e1 v1 xs1 e2 v2 xs2 :=
  ⟨ownsRow_kp h.one (c := c00) (fun _ _ => rfl) (hk c00 (fun _ => False)) (fun h => h), ownsRow_kp h.two (c := c00) (fun _ _ => rfl) (hk c00 (fun _ => False)) (fun h => h), h.apart, h.new1, h.new2, fun c S => (h.kp c S).alloc_trans (hk c S)⟩
theorem Two.push (h : Two w wr e1 v1 xs1 e2 v2 xs2) (ho : w2.ownsRow 0 e1 1 v' (xs1.length + ys.length) (xs1 ++ ys)) (hg : wr.grownBy w2 v1.ownBlock) (hf : ∀ g, v'.ownBlock = some g → v1.ownBlock = some g ∨ wr.heap.size ≤ g) : Two w w2 e1 v' (xs1 ++ ys) e2 v2 xs2 := by
  refine ⟨by rw [List.length_append]; exact ho, ?_, fun g a b => ?_, fun g a => ?_, h.new2, fun c S => fresh_grown h.new1 h.kp hg c S⟩
  · refine ownsRow_kp h.two (c := fun b => if v1.ownBlock = some b then (1, 0) else (0, 0)) (S := (· = (1, 0))) (q := (0, 0)) (fun g hg => ?_) (Kp.of_grown hg (fun g hg _ => if_pos hg)) (by simp)
    exact if_neg (fun e => h.apart g e hg)
  · rcases hf g a with h1 | h1
    · exact h.apart g h1 b
    · have := ownBlock_lt h.two g b; omega
  · rcases hf g a with h1 | h1
    · exact h.new1 g h1
    · exact Nat.le_trans (h.kp c00 (fun _ => False)).size h1
theorem info_parts_int : ∃ i, Try.prog.info? 3 = some i ∧ i.zero = some (.int .i64 0) ∧ i.size = 1 ∧ i.bytes = 8 := by
  have h := info_int
  cases hi : Try.prog.info? 3 with
  | none => rw [hi] at h; cases h
  | some i =>
    rw [hi] at h
    simp only [Option.map_some, Option.some.injEq, Prod.mk.injEq] at h
    exact ⟨i, rfl, h.1, h.2.1, h.2.2⟩
/-- Behind each batch, how many bytes there are. -/
def ends (K : Bs → Bs) (l : List (List Bs)) (i : Nat) : List Nat := (List.range i).map fun k => (encs K 0 (l.take (k + 1))).length
def nv (n : Nat) : Value := .int .i64 n
theorem ends_succ (K : Bs → Bs) (l : List (List Bs)) (i : Nat) : ends K l (i + 1) = ends K l i ++ [(encs K 0 (l.take (i + 1))).length] := by simp [ends, List.range_succ]
theorem ends_length (K : Bs → Bs) (l : List (List Bs)) (i : Nat) : (ends K l i).length = i := by simp [ends]
theorem encs_succ (K : Bs → Bs) (l : List (List Bs)) (i : Nat) (h : i < l.length) : encs K 0 (l.take (i + 1)) = encs K 0 (l.take i) ++ enc K i l[i] := by
  rw [List.take_succ_eq_append_getElem h, encs_append, List.length_take, Nat.min_eq_left (by omega)]
  simp [encs]
theorem sum_four (l : List Bs) : (l.map fun r => 4 + r.length).sum = 4 * l.length + (l.map List.length).sum := by
  induction l with
  | nil => rfl
  | cons x r ih => simp only [List.map_cons, List.sum_cons, List.length_cons, ih]; omega
theorem enc_few {K : Bs → Bs} (hk : ∀ b, (K b).length = 32) (n : Nat) {l : List Bs} (h : tot l ≤ 20000) : (enc K n l).length ≤ 100024 := by
  rw [enc_length hk, sum_four]
  unfold tot at h
  omega
theorem encs_few {K : Bs → Bs} (hk : ∀ b, (K b).length = 32) (l : List (List Bs)) : ∀ (n : Nat), (∀ x ∈ l, tot x ≤ 20000) → (encs K n l).length ≤ l.length * 100024 := by
  induction l with
  | nil => intro n _; simp [encs]
  | cons x r ih =>
    intro n h
    have h1 := enc_few hk n (h x (by simp))
    have h2 := ih (n + 1) (fun y hy => h y (by simp [hy]))
    simp only [encs, List.length_append, List.length_cons]
    omega
theorem tot_len {l : List Bs} (h : tot l ≤ 20000) : ∀ r ∈ l, r.length ≤ 20000 := by
  have hs : ∀ (m : List Bs), ∀ r ∈ m, r.length ≤ (m.map List.length).sum := by
    intro m
    induction m with
    | nil => intro r hr; cases hr
    | cons x t ih =>
      intro r hr
      simp only [List.map_cons, List.sum_cons]
      rcases List.mem_cons.1 hr with rfl | hr
      · omega
      · have := ih r hr; omega
  intro r hr
  have := hs l r hr
  unfold tot at h
  omega
/-- The batches ahead of i: few, and good. -/
def Ok (l : List (List Bs)) (i : Nat) : Prop := ∀ x ∈ l.take i, good x = true ∧ tot x ≤ 20000
theorem Ok.succ {l : List (List Bs)} {i : Nat} (h : Ok l i) (hi : i < l.length) (h1 : good l[i] = true) (h2 : tot l[i] ≤ 20000) : Ok l (i + 1) := by
  intro x hx
  rw [List.take_succ_eq_append_getElem hi] at hx
  rcases List.mem_append.1 hx with hx | hx
  · exact h x hx
  · rw [List.mem_singleton] at hx; subst hx; exact ⟨h1, h2⟩
theorem own_cap {e : TypeId} {n k m : Nat} {a : Option Addr} {xs : List Value} (h : w.ownsRow 0 e 1 (.slice a n k) m xs) : n ≤ k ∧ k ≤ maxLen := by
  rcases h.2 with ⟨h1, h0⟩ | ⟨g, cap, cur, h1, _, _, h2, h3, _⟩
  · injection h1 with h1 h2 h3; omega
  · injection h1 with h1 h4 h5; omega
theorem Sc.cutb {a : Option Addr} {n k : Nat} {E : Bs} (h : Sc w c q (.slice a n k) (E.map bv)) (m : Nat) (hm : m ≤ E.length) : Sc w c q (.slice a m k) ((E.take m).map bv) := by
  obtain ⟨a', cap, h1, h2, h3, h4, h5⟩ := h
  injection h1 with h1 _ h6
  subst h1 h6
  rw [List.length_map] at h2
  refine ⟨a, k, by rw [List.length_map, List.length_take, Nat.min_eq_left hm], by rw [List.length_map, List.length_take]; omega, h3, h4, fun ad had => ⟨(h5 ad had).1, fun j u hj => (h5 ad had).2 j u ?_⟩⟩
  rw [List.getElem?_map, List.getElem?_take] at hj
  split at hj
  · rw [List.getElem?_map]; exact hj
  · cases hj
theorem Sc.spot {a : Option Addr} {n k : Nat} {xs : List Value} (h : Sc w c q (.slice a n k) xs) (hn : xs.length ≠ 0) : ∃ b o, a = some ⟨b, o, none⟩ := by
  obtain ⟨a', cap, h1, h2, h3, h4, h5⟩ := h
  injection h1 with h1 _ h6
  subst h1 h6
  cases a with
  | none => have := h4 rfl; omega
  | some ad =>
    have := (h5 ad rfl).1
    obtain ⟨b, o, s⟩ := ad
    cases this
    exact ⟨b, o, rfl⟩
theorem Sc.get {b o n k : Nat} {xs : List Value} (h : Sc w c q (.slice (some ⟨b, o, none⟩) n k) xs) (j : Nat) (u : Value) (hj : xs[j]? = some u) : w.cell? ⟨b, o + j, none⟩ = some u := by
  obtain ⟨a', cap, h1, h2, h3, h4, h5⟩ := h
  injection h1 with h1 _ h6
  subst h1
  exact ((h5 _ rfl).2 j u hj).2
theorem LogW.pre {a : Option Addr} {k n : Nat} {l r : List (List Bs)} (h : LogW w c q (.slice a n k) (l ++ r)) : LogW w c q (.slice a l.length k) l := by
  obtain ⟨a', k', e', ht⟩ := h.take l.length (by rw [List.length_append]; omega)
  injection e' with e1 _ e2
  subst e1 e2
  rw [List.take_left] at ht
  exact ht
theorem ends_get (K : Bs → Bs) (l : List (List Bs)) (n i : Nat) (h : i < n) : ((ends K l n).map nv)[i]? = some (nv (encs K 0 (l.take (i + 1))).length) := by
  simp [ends, h]
/-- Where it is cut. -/
theorem cut_in (cut : Int) (n : Nat) (hn : n ≤ 1000000000) (_hc : -9223372036854775808 ≤ cut ∧ cut ≤ 9223372036854775807) : ∃ cv : Nat, (wrap64 (wrap64 (cut.tmod (n + 1) + n) + 1)).tmod (n + 1) = cv ∧ cv ≤ n := by
  have h0 : (0 : Int) < (n : Int) + 1 := by omega
  have h1 : -((n : Int) + 1) < cut.tmod (n + 1) ∧ cut.tmod (n + 1) < n + 1 := by
    have h2 := Int.tmod_lt_of_pos cut h0
    have h3 := Int.tmod_lt_of_pos (-cut) h0
    rw [Int.neg_tmod] at h3
    omega
  obtain ⟨r, hr⟩ : ∃ r, r = cut.tmod (n + 1) := ⟨_, rfl⟩
  rw [← hr] at h1 ⊢
  have e : wrap64 (wrap64 (r + n) + 1) = r + n + 1 := by unfold wrap64; omega
  rw [e]
  have h4 : 0 ≤ (r + n + 1).tmod ((n : Int) + 1) := Int.tmod_nonneg _ (by omega)
  have h5 := Int.tmod_lt_of_pos (r + n + 1) h0
  exact ⟨((r + n + 1).tmod ((n : Int) + 1)).toNat, by omega, by omega⟩
/-- What the rounds hold. -/
structure WB (K : Bs → Bs) (l : List (List Bs)) (w : World) (i : Nat) (wr : World) (vb ve : Value) : Prop where
  le : i ≤ l.length
  few : i ≤ 31
  ok : Ok l i
  two : Two w wr 5 vb ((encs K 0 (l.take i)).map bv) 3 ve ((ends K l i).map nv)
theorem WB.bytes {K : Bs → Bs} (hk : ∀ b, (K b).length = 32) {l : List (List Bs)} {w wr : World} {i : Nat} {vb ve : Value} (h : WB K l w i wr vb ve) : (encs K 0 (l.take i)).length ≤ 3200000 := by
  have h1 := encs_few hk (l.take i) 0 (fun x hx => (h.ok x hx).2)
  have h2 : (l.take i).length ≤ 31 := by rw [List.length_take]; have := h.few; omega
  have h3 : (l.take i).length * 100024 ≤ 31 * 100024 := Nat.mul_le_mul_right _ h2
  omega
end Go.Proofs.Ytnifmoigalmcmaa
