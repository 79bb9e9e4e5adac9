/- The log's bytes, as a plain model: batches as lists of lists of bytes. -/
import Derived.Test.YtnifmoigalmcmaaMem
namespace Go.Proofs.Ytnifmoigalmcmaa
namespace Wl
abbrev Bs := List UInt8
def low (n many : Nat) : Bs := (List.range many).map fun i => UInt8.ofNat (n / 2 ^ (8 * i))
def num : Bs → Nat
  | [] => 0
  | b :: r => b.toNat + 256 * num r
theorem low_length (n many : Nat) : (low n many).length = many := by simp [low]
theorem low_succ (n many : Nat) : low n (many + 1) = UInt8.ofNat n :: low (n / 256) many := by
  unfold low
  rw [List.range_succ_eq_map, List.map_cons, List.map_map]
  congr 1
  · simp
  · refine List.map_congr_left fun i _ => ?_
    show UInt8.ofNat (n / 2 ^ (8 * (i + 1))) = _
    rw [show 8 * (i + 1) = 8 + 8 * i by omega, Nat.pow_add, ← Nat.div_div_eq_div_mul]
theorem num_low : ∀ (many n : Nat), n < 256 ^ many → num (low n many) = n
  | 0, n, h => by simp at h; subst h; rfl
  | many + 1, n, h => by
    rw [low_succ, num, num_low many (n / 256) (by rw [Nat.pow_succ] at h; omega)]
    simp; omega
theorem low_snoc (n many : Nat) : low n (many + 1) = low n many ++ [UInt8.ofNat (n / 2 ^ (8 * many))] := by
  simp [low, List.range_succ]
def good (l : List Bs) : Bool := decide (1 ≤ l.length ∧ l.length ≤ 4096 ∧ (∀ r ∈ l, r.length ≤ 1048576) ∧ 12 + (l.map fun r => 4 + r.length).sum ≤ 16777216)
def recs (l : List Bs) : Bs := l.flatMap fun r => low r.length 4 ++ r
theorem recs_length (l : List Bs) : (recs l).length = (l.map fun r => 4 + r.length).sum := by
  induction l with
  | nil => rfl
  | cons a r ih =>
    have e : recs (a :: r) = low a.length 4 ++ a ++ recs r := by simp [recs]
    rw [e, List.length_append, List.length_append, low_length, ih, List.map_cons, List.sum_cons]
def body (n : Nat) (l : List Bs) : Bs := low n 8 ++ low l.length 4 ++ recs l
def head (n : Nat) (l : List Bs) : Bs := low (body n l).length 4 ++ body n l
variable (kec : Bs → Bs)
def enc (n : Nat) (l : List Bs) : Bs := head n l ++ (kec (head n l)).take 8
def parse : Nat → Bs → Option (List Bs)
  | 0, b => if b = [] then some [] else none
  | k + 1, b => if b.length < 4 then none else if num (b.take 4) > 1048576 ∨ num (b.take 4) > b.length - 4 then none else (parse k (b.drop (4 + num (b.take 4)))).map ((b.drop 4).take (num (b.take 4)) :: ·)
def first (b : Bs) (number : Nat) : Option (List Bs × Nat) :=
  if b.length < 4 then none else
  if num (b.take 4) < 12 ∨ num (b.take 4) > 16777216 ∨ b.length < 4 + num (b.take 4) + 8 then none else
  if (kec (b.take (4 + num (b.take 4)))).take 8 ≠ (b.drop (4 + num (b.take 4))).take 8 then none else
  if num ((b.drop 4).take 8) ≠ number then none else
  if num ((b.drop 12).take 4) < 1 ∨ num ((b.drop 12).take 4) > 4096 then none else
  (parse (num ((b.drop 12).take 4)) ((b.drop 16).take (num (b.take 4) - 12))).map fun l => (l, 4 + num (b.take 4) + 8)
def readF : Nat → Bs → Nat → List (List Bs) × Nat
  | 0, _, _ => ([], 0)
  | f + 1, b, k => match first kec b k with
    | none => ([], 0)
    | some (l, n) => (l :: (readF f (b.drop n) (k + 1)).1, n + (readF f (b.drop n) (k + 1)).2)
def read (b : Bs) : List (List Bs) × Nat := readF kec (b.length + 1) b 0
theorem first_pos {b : Bs} {k : Nat} {l : List Bs} {n : Nat} (h : first kec b k = some (l, n)) : 24 ≤ n ∧ n ≤ b.length := by
  unfold first at h
  split at h; · cases h
  split at h; · cases h
  rename_i h2
  split at h; · cases h
  split at h; · cases h
  split at h; · cases h
  cases hp : parse (num ((b.drop 12).take 4)) ((b.drop 16).take (num (b.take 4) - 12)) with
  | none => rw [hp] at h; cases h
  | some x => rw [hp] at h; simp at h; omega
theorem readF_fuel : ∀ (f g : Nat) (b : Bs) (k : Nat), b.length < f → b.length < g → readF kec f b k = readF kec g b k
  | 0, _, _, _, h, _ => absurd h (Nat.not_lt_zero _)
  | _, 0, _, _, _, h => absurd h (Nat.not_lt_zero _)
  | f + 1, g + 1, b, k, hf, hg => by
    unfold readF
    cases h : first kec b k with
    | none => rfl
    | some x =>
      obtain ⟨l, n⟩ := x
      have := first_pos kec h
      simp only
      rw [readF_fuel f g (b.drop n) (k + 1) (by simp; omega) (by simp; omega)]
theorem readF_none {b : Bs} {k f : Nat} (h : first kec b k = none) : readF kec f b k = ([], 0) := by
  cases f with
  | zero => rfl
  | succ f => unfold readF; rw [h]
theorem readF_some {b : Bs} {k f : Nat} {l : List Bs} {n : Nat} (hf : b.length < f) (h : first kec b k = some (l, n)) : readF kec f b k = (l :: (readF kec f (b.drop n) (k + 1)).1, n + (readF kec f (b.drop n) (k + 1)).2) := by
  obtain ⟨g, rfl⟩ : ∃ g, f = g + 1 := ⟨f - 1, by omega⟩
  have := first_pos kec h
  conv => lhs; unfold readF
  rw [h]; simp only
  rw [readF_fuel kec g (g + 1) (b.drop n) (k + 1) (by simp; omega) (by simp; omega)]
theorem parse_recs : ∀ (l : List Bs), (∀ r ∈ l, r.length ≤ 1048576) → parse l.length (recs l) = some l
  | [], _ => by simp [parse, recs]
  | r :: t, h => by
    have hr : r.length ≤ 1048576 := h r (by simp)
    have e1 : recs (r :: t) = low r.length 4 ++ (r ++ recs t) := by simp [recs]
    have hn : num ((recs (r :: t)).take 4) = r.length := by
      rw [e1, List.take_left' (low_length _ _)]; exact num_low 4 _ (by omega)
    have hd : (recs (r :: t)).drop 4 = r ++ recs t := by rw [e1, List.drop_left' (low_length _ _)]
    have hl : (recs (r :: t)).length = 4 + r.length + (recs t).length := by simp [e1, low_length]; omega
    show parse (t.length + 1) _ = _
    unfold parse
    rw [hn, if_neg (by omega), if_neg (by omega), ← List.drop_drop, hd, List.take_left' rfl, List.drop_left' rfl, parse_recs t (fun x hx => h x (List.mem_cons_of_mem _ hx))]
    rfl
theorem good_length {l : List Bs} (h : good l = true) : 1 ≤ l.length ∧ l.length ≤ 4096 ∧ (∀ r ∈ l, r.length ≤ 1048576) ∧ 12 + (l.map fun r => 4 + r.length).sum ≤ 16777216 := by simpa [good] using h
theorem body_length (n : Nat) (l : List Bs) : (body n l).length = 12 + (l.map fun r => 4 + r.length).sum := by simp [body, low_length, recs_length]; omega
theorem head_length (n : Nat) (l : List Bs) : (head n l).length = 16 + (l.map fun r => 4 + r.length).sum := by simp [head, low_length, body_length]; omega
variable {kec}
theorem enc_length (hk : ∀ b, (kec b).length = 32) (n : Nat) (l : List Bs) : (enc kec n l).length = 24 + (l.map fun r => 4 + r.length).sum := by simp [enc, head_length, hk]; omega
theorem first_enc (hk : ∀ b, (kec b).length = 32) {n : Nat} {l : List Bs} (hn : n < 2 ^ 64) (hg : good l = true) (more : Bs) : first kec (enc kec n l ++ more) n = some (l, (enc kec n l).length) := by
  obtain ⟨h1, h2, h3, h4⟩ := good_length hg
  have hel := enc_length hk n l
  obtain ⟨s, hs⟩ : ∃ s, s = (l.map fun r => 4 + r.length).sum := ⟨_, rfl⟩
  have hbl := body_length n l
  have hhl := head_length n l
  rw [← hs] at h4 hel hbl hhl
  have e0 : enc kec n l ++ more = low (12 + s) 4 ++ (body n l ++ ((kec (head n l)).take 8 ++ more)) := by simp [enc, head, hbl]
  have hT : (enc kec n l ++ more).take 4 = low (12 + s) 4 := by rw [e0, List.take_left' (low_length _ _)]
  have hN : num ((enc kec n l ++ more).take 4) = 12 + s := by rw [hT]; exact num_low 4 _ (by omega)
  have hL : (enc kec n l ++ more).length = 24 + s + more.length := by simp [hel]
  have hD4 : (enc kec n l ++ more).drop 4 = body n l ++ ((kec (head n l)).take 8 ++ more) := by rw [e0, List.drop_left' (low_length _ _)]
  have e1 : enc kec n l ++ more = head n l ++ ((kec (head n l)).take 8 ++ more) := by simp [enc]
  have hTh : (enc kec n l ++ more).take (4 + (12 + s)) = head n l := by rw [e1, List.take_left' (by omega)]
  have hDh : ((enc kec n l ++ more).drop (4 + (12 + s))).take 8 = (kec (head n l)).take 8 := by
    rw [e1, List.drop_left' (by omega), List.take_left' (by simp [hk])]
  have b0 : body n l ++ ((kec (head n l)).take 8 ++ more) = low n 8 ++ (low l.length 4 ++ (recs l ++ ((kec (head n l)).take 8 ++ more))) := by simp [body]
  have hD12 : (enc kec n l ++ more).drop 12 = low l.length 4 ++ (recs l ++ ((kec (head n l)).take 8 ++ more)) := by
    rw [show 12 = 4 + 8 from rfl, ← List.drop_drop, hD4, b0, List.drop_left' (low_length _ _)]
  have hD16 : (enc kec n l ++ more).drop 16 = recs l ++ ((kec (head n l)).take 8 ++ more) := by
    rw [show 16 = 12 + 4 from rfl, ← List.drop_drop, hD12, List.drop_left' (low_length _ _)]
  unfold first
  rw [hN, hTh, hDh, hD4, hD12, hD16, b0, List.take_left' (low_length _ _), List.take_left' (low_length _ _), num_low 8 n (by omega), num_low 4 _ (by omega), List.take_left' (by rw [recs_length]; omega), parse_recs l h3]
  rw [if_neg (by omega), if_neg (by omega), if_neg (by simp), if_neg (by simp), if_neg (by omega), hel]
  simp; omega
theorem first_cut (hk : ∀ b, (kec b).length = 32) {n : Nat} {l : List Bs} (hg : good l = true) (k : Nat) (m : Nat) (hm : m < (enc kec n l).length) : first kec ((enc kec n l).take m) k = none := by
  obtain ⟨h1, h2, h3, h4⟩ := good_length hg
  have hel := enc_length hk n l
  have hbl := body_length n l
  unfold first
  have hl : ((enc kec n l).take m).length = m := by simp; omega
  rw [hl]
  by_cases h : m < 4
  · rw [if_pos h]
  · rw [if_neg h]
    have : ((enc kec n l).take m).take 4 = low (body n l).length 4 := by
      rw [List.take_take, Nat.min_eq_left (by omega)]
      show ((low (body n l).length 4 ++ body n l) ++ _).take 4 = _
      rw [List.append_assoc, List.take_left' (low_length _ _)]
    rw [this, num_low 4 _ (by omega), if_pos (by omega)]
/-- The bytes of batches, from a number on. -/
def encs (kec : Bs → Bs) : Nat → List (List Bs) → Bs
  | _, [] => []
  | n, l :: r => enc kec n l ++ encs kec (n + 1) r
theorem encs_append (n : Nat) (a b : List (List Bs)) : encs kec n (a ++ b) = encs kec n a ++ encs kec (n + a.length) b := by
  induction a generalizing n with
  | nil => simp [encs]
  | cons x r ih => simp only [List.cons_append, encs, ih, List.append_assoc, List.length_cons]; rw [show n + 1 + r.length = n + (r.length + 1) by omega]
theorem readF_encs (hk : ∀ b, (kec b).length = 32) (l : List (List Bs)) : ∀ (n f : Nat) (more : Bs), (∀ x ∈ l, good x = true) → n + l.length ≤ 2 ^ 64 → (encs kec n l ++ more).length < f →
    readF kec f (encs kec n l ++ more) n = (l ++ (readF kec f more (n + l.length)).1, (encs kec n l).length + (readF kec f more (n + l.length)).2) := by
  induction l with
  | nil => intro n f more _ _ _; simp [encs]
  | cons x r ih =>
    intro n f more hg hn hf
    have e : encs kec n (x :: r) ++ more = enc kec n x ++ (encs kec (n + 1) r ++ more) := by simp [encs]
    rw [List.length_cons] at hn
    rw [e] at hf ⊢
    rw [readF_some kec hf (first_enc hk (by omega) (hg x (by simp)) _), List.drop_left' rfl, ih (n + 1) f more (fun y hy => hg y (List.mem_cons_of_mem _ hy)) (by omega) (by rw [List.length_append] at hf; omega)]
    simp only [encs, List.length_append, List.cons_append, List.length_cons]
    rw [show n + 1 + r.length = n + (r.length + 1) by omega]
    simp only [Prod.mk.injEq, true_and]; omega
/-- Read, of batches with anything behind them. -/
theorem read_encs (hk : ∀ b, (kec b).length = 32) (l : List (List Bs)) (more : Bs) (hg : ∀ x ∈ l, good x = true) (hl : l.length ≤ 2 ^ 64) : ∃ r n, read kec (encs kec 0 l ++ more) = (l ++ r, (encs kec 0 l).length + n) ∧ (more = [] → r = [] ∧ n = 0) := by
  refine ⟨_, _, readF_encs hk l 0 _ more hg (by omega) (by omega), fun h => ?_⟩
  subst h
  rw [readF_none]; · exact ⟨rfl, rfl⟩
  simp [first]
/-- Cut off anywhere: the batches whose ends are not behind the cut. -/
theorem readF_cut (hk : ∀ b, (kec b).length = 32) (l : List (List Bs)) : ∀ (n f cut : Nat), (∀ x ∈ l, good x = true) → n + l.length ≤ 2 ^ 64 → ((encs kec n l).take cut).length < f → cut ≤ (encs kec n l).length →
    ∃ j, j ≤ l.length ∧ (readF kec f ((encs kec n l).take cut) n).1 = l.take j ∧ (∀ i, i ≤ l.length → (i ≤ j ↔ (encs kec n (l.take i)).length ≤ cut)) := by
  induction l with
  | nil =>
    intro n f cut _ _ _ _
    refine ⟨0, Nat.le_refl _, ?_, ?_⟩
    · rw [readF_none]; · rfl
      simp [encs, first]
    · intro i hi; simp at hi; subst hi; simp [encs]
  | cons x r ih =>
    intro n f cut hg hn hf hc
    rw [List.length_cons] at hn
    have hxg := hg x (by simp)
    by_cases h : cut < (enc kec n x).length
    · refine ⟨0, Nat.zero_le _, ?_, ?_⟩
      · have : (encs kec n (x :: r)).take cut = (enc kec n x).take cut := by
          show (enc kec n x ++ _).take cut = _
          rw [List.take_append_of_le_length (by omega)]
        rw [this, readF_none kec (first_cut hk hxg n cut h)]; rfl
      · intro i hi
        cases i with
        | zero => simp [encs]
        | succ i => simp only [List.take_succ_cons, encs, List.length_append]; omega
    · have e : (encs kec n (x :: r)).take cut = enc kec n x ++ (encs kec (n + 1) r).take (cut - (enc kec n x).length) := by
        show (enc kec n x ++ _).take cut = _
        rw [List.take_append, List.take_of_length_le (by omega)]
      have hce : cut ≤ (enc kec n x).length + (encs kec (n + 1) r).length := by simpa [encs] using hc
      rw [e] at hf ⊢
      have hf2 : ((encs kec (n + 1) r).take (cut - (enc kec n x).length)).length < f := by rw [List.length_append] at hf; omega
      obtain ⟨j, hj, h1, h2⟩ := ih (n + 1) f (cut - (enc kec n x).length) (fun y hy => hg y (List.mem_cons_of_mem _ hy)) (by omega) hf2 (by omega)
      rw [readF_some kec hf (first_enc hk (by omega) hxg _), List.drop_left' rfl]
      refine ⟨j + 1, by simp; omega, by simp [h1], fun i hi => ?_⟩
      cases i with
      | zero => simp [encs]
      | succ i =>
        simp only [List.length_cons] at hi
        have := h2 i (by omega)
        simp only [List.take_succ_cons, encs, List.length_append]; omega
end Wl
end Go.Proofs.Ytnifmoigalmcmaa
