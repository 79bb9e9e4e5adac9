/- A slice that grows, of elements that lie in memory of their own. -/
import Derived.Test.YtnifmoigalmcmaaYb
import Derived.Laws.OwnMore
namespace Go.Proofs.Ytnifmoigalmcmaa
open Go Go.RowKit
open Wl
variable {c c' : Col} {w w' : World} {S : Nat × Nat → Prop} {q : Nat × Nat}
theorem Sc.recol1 {q2 : Nat × Nat} {v : Value} {xs : List Value} (h : Sc w c q v xs) (hc : ∀ b, c b = q → c' b = q2) : Sc w c' q2 v xs := by
  obtain ⟨a, cap, h1, h2, h3, h4, h5⟩ := h
  exact ⟨a, cap, h1, h2, h3, h4, fun ad had => ⟨(h5 ad had).1, fun j u hj => ⟨hc _ ((h5 ad had).2 j u hj).1, ((h5 ad had).2 j u hj).2⟩⟩⟩
theorem Bat.recol {q1 q2 p1 p2 : Nat × Nat} {v : Value} {l : List Bs} (h : Bat w c q1 q2 v l) (h1 : ∀ b, c b = q1 → c' b = p1) (h2 : ∀ b, c b = q2 → c' b = p2) : Bat w c' p1 p2 v l := by
  obtain ⟨xs, a, b, d⟩ := h
  exact ⟨xs, a.recol1 h1, b, fun i x y hx hy => (d i x y hx hy).recol1 h2⟩
/-- What is said of an element, at colour (0, 0), stays. -/
structure Stays {α : Type} (Q : World → Col → Value → α → Prop) : Prop where
  stay : ∀ {w w' : World} {c c' : Col} {S : Nat × Nat → Prop} {x : Value} {y : α}, Q w c x y → Kp c S w w' → ¬ S (0, 0) → Cx w c c' → Q w' c' x y
  one : ∀ {w : World} {c : Col} {x : Value} {y : α}, Q w c x y → x.oneCell' = true
def QB (w : World) (c : Col) (x : Value) (y : Bs) : Prop := Sc w c (0, 0) x (y.map bv)
def QL (w : World) (c : Col) (x : Value) (l : List Bs) : Prop := Bat w c (0, 0) (0, 0) x l
theorem QB.stays : Stays QB where
  stay := fun h hk hs hc => Sc.kp h hk hs hc
  one := fun h => by obtain ⟨a, k, rfl, _⟩ := h; rfl
theorem QL.stays : Stays QL where
  stay := fun h hk hs hc => Bat.kp h hk hs hs hc
  one := fun h => by obtain ⟨xs, ⟨a, k, rfl, _⟩, _⟩ := h; rfl
/-- A slice that its function owns, over elements that lie elsewhere; all of it is newer than block B. -/
structure Grow {α : Type} (Q : World → Col → Value → α → Prop) (B : Nat) (wr : World) (e : TypeId) (v : Value) (cf : Col) (l : List α) : Prop where
  own : ∃ xs, wr.ownsRow 0 e 1 v l.length xs ∧ ∀ (i : Nat) x y, xs[i]? = some x → l[i]? = some y → Q wr cf x y
  col : ∀ g, v.ownBlock = some g → cf g = (1, 0)
  old : ∀ b, b < B → cf b = (9, 9)
  size : B ≤ wr.heap.size
variable {α : Type} {Q : World → Col → Value → α → Prop} {B : Nat} {wr w1 w2 : World} {e : TypeId} {v v' : Value} {cf : Col} {l : List α}
theorem Grow.start (e : TypeId) (h : B ≤ wr.heap.size) : Grow Q B wr e (.slice none 0 0) (fun b => if b < B then (9, 9) else (0, 0)) [] :=
  ⟨⟨[], World.ownsRow_nil _ _ _ _, fun i x y hx => by simp at hx⟩, fun g hg => (by cases hg), fun b hb => if_pos hb, h⟩
theorem Grow.fresh (h : Grow Q B wr e v cf l) : ∀ g, v.ownBlock = some g → B ≤ g := by
  intro g hg
  refine Nat.not_lt.1 fun hlt => ?_
  have h1 := h.col g hg
  rw [h.old g hlt] at h1
  cases h1
theorem own_base' {base size n : Nat} {v : Value} {xs : List Value} (h : wr.ownsRow base e size v n xs) (g : Nat) (hg : v.ownBlock = some g) : base ≤ g := by
  rcases h.2 with ⟨rfl, _⟩ | ⟨g', _, _, rfl, hh, _⟩
  · cases hg
  · cases hg; exact hh
theorem own_slice {base size n : Nat} {v : Value} {xs : List Value} (h : wr.ownsRow base e size v n xs) : ∃ a m k, v = .slice a m k := by
  rcases h.2 with ⟨rfl, _⟩ | ⟨g', _, _, rfl, hh, _⟩
  · exact ⟨_, _, _, rfl⟩
  · exact ⟨_, _, _, rfl⟩
theorem own_zero' {base size n : Nat} {v : Value} {xs : List Value} (h : wr.ownsRow base e size v n xs) : wr.ownsRow 0 e size v n xs := by
  obtain ⟨h1, h2⟩ := h
  refine ⟨h1, ?_⟩
  rcases h2 with h2 | ⟨g, cap, cur, rfl, hg, r⟩
  · exact .inl h2
  · exact .inr ⟨g, cap, cur, rfl, Nat.zero_le _, r⟩
def newCol (w : World) (cf : Col) (p : Nat × Nat) : Col := fun b => if b < w.heap.size then cf b else p
theorem newCol_cx (w : World) (cf : Col) (p : Nat × Nat) : Cx w cf (newCol w cf p) := fun _ hb => if_pos hb
/-- New memory is made; no old block turns but such as are none of the elements'. -/
theorem Grow.kp {S : Nat × Nat → Prop} (hQ : Stays Q) (h : Grow Q B wr e v cf l) (hk : Kp cf S wr w2) (h0 : ¬ S (0, 0)) (h1 : ¬ S (1, 0)) : Grow Q B w2 e v (newCol wr cf (0, 0)) l := by
  obtain ⟨⟨xs, ho, hx⟩, hc, hold, hs⟩ := h
  refine ⟨⟨xs, ownsRow_kp ho hc hk h1, fun i x y hi hj => hQ.stay (hx i x y hi hj) hk h0 (newCol_cx _ _ _)⟩, fun g hg => ?_, fun b hb => ?_, Nat.le_trans hs hk.size⟩
  · exact (newCol_cx _ _ _ g (ownBlock_lt ho g hg)).trans (hc g hg)
  · exact (newCol_cx _ _ _ b (by omega)).trans (hold b hb)
theorem ownsRow_same {w : World} {base e size n : Nat} {v : Value} {xs ys : List Value} (h : w.ownsRow base e size v n xs) (h' : w.ownsRow base e size v n ys) : xs = ys := by
  obtain ⟨hl, h⟩ := h
  obtain ⟨hl', h'⟩ := h'
  rcases h with ⟨rfl, h0⟩ | ⟨g, cap, cur, rfl, _, hh, _, _, _, ht⟩
  · subst h0
    rw [Nat.zero_mul] at hl hl'
    rw [List.eq_nil_of_length_eq_zero hl, List.eq_nil_of_length_eq_zero hl']
  · rcases h' with ⟨h', _⟩ | ⟨g', cap', cur', h', _, hh', _, _, _, ht'⟩
    · cases h'
    · cases h'
      rw [hh] at hh'
      cases hh'
      rw [← ht, ← ht']
/-- One element more. -/
theorem Grow.push {xs : List Value} {x : Value} {y : α} (hQ : Stays Q) (h : Grow Q B w1 e v cf l) (hown : w1.ownsRow 0 e 1 v l.length xs) (hx : Q w1 cf x y) (ho2 : w2.ownsRow 0 e 1 v' (l.length + 1) (xs ++ [x])) (hg : w1.grownBy w2 v.ownBlock) (hf : ∀ g, v'.ownBlock = some g → v.ownBlock = some g ∨ w1.heap.size ≤ g) :
    Grow Q B w2 e v' (newCol w1 cf (1, 0)) (l ++ [y]) := by
  obtain ⟨⟨xs', ho, hx'⟩, hc, hold, hs⟩ := h
  have hxx : xs' = xs := ownsRow_same ho hown
  subst hxx
  have hk : Kp cf (· = (1, 0)) w1 w2 := Kp.of_grown hg (fun g hg _ => hc g hg)
  have hlen : xs'.length = l.length := by simpa using hown.1
  refine ⟨⟨xs' ++ [x], by simpa using ho2, fun i x' y' hi hj => ?_⟩, fun g hg' => ?_, fun b hb => ?_, Nat.le_trans hs hk.size⟩
  · by_cases hlt : i < xs'.length
    · rw [List.getElem?_append_left hlt] at hi
      rw [List.getElem?_append_left (by omega)] at hj
      exact hQ.stay (hx' i x' y' hi hj) hk (by simp) (newCol_cx _ _ _)
    · rw [List.getElem?_append_right (by omega)] at hi
      rw [List.getElem?_append_right (by omega)] at hj
      have h0 : i - xs'.length = 0 := by
        cases hd : i - xs'.length with
        | zero => rfl
        | succ d => rw [hd] at hi; simp at hi
      rw [h0] at hi
      rw [show i - l.length = 0 by omega] at hj
      simp at hi hj
      subst hi hj
      exact hQ.stay hx hk (by simp) (newCol_cx _ _ _)
  · rcases hf g hg' with h1 | h1
    · exact (newCol_cx _ _ _ g (ownBlock_lt hown g h1)).trans (hc g h1)
    · exact if_neg (by omega)
  · exact (newCol_cx _ _ _ b (by omega)).trans (hold b hb)
end Go.Proofs.Ytnifmoigalmcmaa
