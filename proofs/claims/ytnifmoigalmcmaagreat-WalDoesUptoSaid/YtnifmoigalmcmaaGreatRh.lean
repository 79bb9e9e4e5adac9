/- A region that draws its order: what each operation leaves, shown once an operation, whatever the order. -/
import Derived.Test.YtnifmoigalmcmaaGreatPure
import Derived.WalkKit
import Derived.KernelRfl
import Derived.OrdersHeld
import Derived.Deep.RegionHeld
namespace Go.Proofs.YtnifmoigalmcmaaGreat
open Go
section
variable {P : Program} {ops : Array Oper} {Q : Exit → Act → World → Prop}
end
end Go.Proofs.YtnifmoigalmcmaaGreat
/- A region that draws its order and ends in one store: a load may be taken first although that store hits its cell. -/
namespace Go.Proofs.YtnifmoigalmcmaaGreat
open Go
section
variable {P : Program} {ops : Array Oper} {Q : Exit → Act → World → Prop} {S : World → Prop} {l : Nat}
/-- Whatever order is picked from here on; S holds as long as operation l has not come up. -/
def wpAnyG (P : Program) (ops : Array Oper) (Q : Exit → Act → World → Prop) (S : World → Prop) (l : Nat) : Nat → Array Bool → Act → World → Prop
  | 0, listed, a, w => Region.ready .any ops listed = [] ∧ Q .normal a w
  | fuel + 1, listed, a, w =>
    (Region.ready .any ops listed = [] → Q .normal a w) ∧
    ∀ i ∈ Region.ready .any ops listed, wpOp P ops Q i (fun a' w' => ((listed.setIfInBounds i true).getD l true = false → S w') ∧ wpAnyG P ops Q S l fuel (listed.setIfInBounds i true) a' w') a w
theorem wpAny_of_G : ∀ (fuel : Nat) (listed : Array Bool) (a : Act) (w : World), wpAnyG P ops Q S l fuel listed a w → wpAny P .any ops Q fuel listed a w
  | 0, _, _, _, h => h
  | fuel + 1, _, _, _, h => ⟨h.1, fun i hi => wpOp_mono (fun a' w' h' => wpAny_of_G fuel _ a' w' h'.2) (h.2 i hi)⟩
/-- Every operation ahead of l is waited for by a later one, up to l. -/
def lastX (ops : Array Oper) (l : Nat) (ex : List Nat) : Bool := (List.range l).all fun i => ex.contains i || (List.range (l + 1)).any fun j => decide (i < j) && !(ex.contains j) && (match ops[j]? with | some oj => oj.after.any (fun e => Region.binds .any e && e.on == i) | none => false)
def lastB (ops : Array Oper) (l : Nat) : Bool := lastX ops l []
def Closed (ops : Array Oper) (listed : Array Bool) : Prop := ∀ j oj, ops[j]? = some oj → listed.getD j true = true → ∀ e ∈ oj.after, Region.binds .any e = true → listed.getD e.on true = true
def closedB (ops : Array Oper) (listed : Array Bool) : Bool := (List.range ops.size).all fun j => !(listed.getD j true) || (match ops[j]? with | some oj => oj.after.all (fun e => !(Region.binds .any e) || listed.getD e.on true) | none => true)
theorem closed_of {listed : Array Bool} (h : closedB ops listed = true) : Closed ops listed := by
  intro j oj hj hl e he hb
  unfold closedB at h
  rw [List.all_eq_true] at h
  have h1 := h j (List.mem_range.2 (Array.getElem?_eq_some_iff.1 hj).1)
  rw [hj, hl] at h1
  simp only [Bool.not_true, Bool.false_or] at h1
  rw [Array.all_eq_true_iff_forall_mem] at h1
  have h2 := h1 e he
  simpa [hb] using h2
theorem getD_set_t {listed : Array Bool} {i j : Nat} (h : listed.getD j true = true) : (listed.setIfInBounds i true).getD j true = true := by
  by_cases hij : i = j
  · subst hij
    by_cases hlt : i < listed.size <;> simp [hlt]
  · rw [getD_set_ne true hij]; exact h
theorem Closed.set {listed : Array Bool} (h : Closed ops listed) {i : Nat} (hi : i ∈ Region.ready .any ops listed) : Closed ops (listed.setIfInBounds i true) := by
  intro j oj hj hl e he hb
  obtain ⟨_, oi, hoi, hall⟩ := mem_ready.1 hi
  by_cases hij : i = j
  · subst hij
    rw [hoi] at hj; cases hj
    have h1 := hall e he hb
    refine getD_set_t ?_
    by_cases hlt : e.on < listed.size
    · simpa [hlt] using h1
    · simp [hlt]
  · rw [getD_set_ne true hij] at hl
    exact getD_set_t (h j oj hj hl e he hb)
theorem last_not {listed : Array Bool} {ex : List Nat} (hL : lastX ops l ex = true) (hl : l < ops.size) (hc : Closed ops listed) : ∀ (n i : Nat), l - i ≤ n → i < l → ex.contains i = false → listed.getD i true = false → listed.getD l true = false ∧ l ∉ Region.ready .any ops listed := by
  intro n
  induction n with
  | zero => intro i h1 h2; omega
  | succ n ih =>
    intro i h1 h2 hx0 hu
    have hL' := hL
    unfold lastX at hL'
    rw [List.all_eq_true] at hL'
    have h3 := hL' i (List.mem_range.2 h2)
    rw [hx0, Bool.false_or, List.any_eq_true] at h3
    obtain ⟨j, hj, h5⟩ := h3
    rw [List.mem_range] at hj
    have hjs : j < ops.size := by omega
    rw [Array.getElem?_eq_getElem hjs] at h5
    simp only [Bool.and_eq_true, decide_eq_true_eq] at h5
    obtain ⟨⟨hij, hxj⟩, h5⟩ := h5
    have hxj : ex.contains j = false := by simpa using hxj
    rw [Array.any_eq_true] at h5
    obtain ⟨x, hx, h5⟩ := h5
    obtain ⟨e, hex⟩ : ∃ e, e = ops[j].after[x] := ⟨_, rfl⟩
    have he : e ∈ ops[j].after := by rw [hex]; exact Array.getElem_mem hx
    rw [← hex] at h5
    simp only [Bool.and_eq_true, beq_iff_eq] at h5
    obtain ⟨hb, heo⟩ := h5
    have hju : listed.getD j true = false := by
      cases hlj : listed.getD j true with
      | false => rfl
      | true =>
        have := hc j ops[j] (Array.getElem?_eq_getElem hjs) hlj e he hb
        rw [heo, hu] at this; cases this
    by_cases hjl : j = l
    · subst hjl
      refine ⟨hju, fun hr => ?_⟩
      obtain ⟨_, o, ho, hall⟩ := mem_ready.1 hr
      rw [Array.getElem?_eq_getElem hjs] at ho
      cases ho
      have h6 := hall e he hb
      rw [heo] at h6
      by_cases hlt : i < listed.size
      · simp [hlt] at h6 hu; rw [h6] at hu; cases hu
      · simp [hlt] at hu
    · exact ih j (by omega) (by omega) hxj hju
theorem wpAnyG_first {ex : List Nat} (hL : lastX ops l ex = true) (hls : l < ops.size) {i : Nat} {oi : Oper} {v : Value} (hi : ops[i]? = some oi) (hil : i < l) (hex : ex.contains i = false) (hsel : ∀ (j : Nat) (o : Oper) cs b, ops[j]? = some o → o.op ≠ .select cs b)
    (hQ : ∀ c a w, Q (.panic c) (a.put oi.dst v) w → Q (.panic c) a w) :
    ∀ (fuel : Nat) (listed : Array Bool) (a : Act) (w : World), Closed ops listed →
      (∀ j oj, ops[j]? = some oj → j ≠ i → listed.getD j true = false → (∀ e ∈ oj.after, Region.binds .any e = true → e.on ≠ i) → oi.apart ops oj = true) →
      i ∈ Region.ready .any ops listed → YieldsIf P ops S oi v a → S w →
      wpAnyG P ops Q S l fuel (listed.setIfInBounds i true) (a.put oi.dst v) w → wpAnyG P ops Q S l (fuel + 1) listed a w := by
  intro fuel
  induction fuel with
  | zero =>
    intro listed a w _ _ hr hy hS H
    refine ⟨fun h => (by rw [h] at hr; cases hr), fun j hj => ?_⟩
    by_cases hji : j = i
    · subst hji; exact hy.wpOp hi hS ⟨fun _ => hS, H⟩
    · have := ready_mono hj hji
      rw [H.1] at this
      cases this
  | succ fuel ih =>
    intro listed a w hcl hfree hr hy hS H
    refine ⟨fun h => (by rw [h] at hr; cases hr), fun j hj => ?_⟩
    by_cases hji : j = i
    · subst hji; exact hy.wpOp hi hS ⟨fun _ => hS, H⟩
    · have hln := last_not hL hls hcl _ i (Nat.le_refl _) hil hex (mem_ready.1 hr).1
      have hjl : j ≠ l := fun e => hln.2 (e ▸ hj)
      have hlu : (listed.setIfInBounds j true).getD l true = false := by rw [getD_set_ne true hjl]; exact hln.1
      have hlu2 : ((listed.setIfInBounds i true).setIfInBounds j true).getD l true = false := by
        rw [getD_set_ne true hjl, getD_set_ne true (by omega)]; exact hln.1
      have h1 := H.2 j (ready_mono hj hji)
      obtain ⟨hjun, oj, hoj, hall⟩ := mem_ready.1 hj
      have hnot : ∀ e ∈ oj.after, Region.binds .any e = true → e.on ≠ i := fun e he hb heq => by
        have h1 := hall e he hb
        have h0 := (mem_ready.1 hr).1
        rw [heq] at h1
        rcases Nat.lt_or_ge i listed.size with h' | h'
        · simp [h'] at h0 h1; rw [h0] at h1; cases h1
        · simp [Array.getElem?_eq_none h'] at h1
      have h2 := wpOp_putIf hoj (hfree j oj hoj hji hjun hnot) (fun cs b => hsel i oi cs b hi) (fun cs b => hsel j oj cs b hoj) hQ hy h1
      have hfree' : ∀ k ok, ops[k]? = some ok → k ≠ i → (listed.setIfInBounds j true).getD k true = false →
          (∀ e ∈ ok.after, Region.binds .any e = true → e.on ≠ i) → oi.apart ops ok = true := fun k ok hk hki hun hno => by
        refine hfree k ok hk hki ?_ hno
        by_cases hjk : j = k
        · subst hjk; exact hjun
        · rw [getD_set_ne true hjk] at hun; exact hun
      refine wpOp_mono (fun a' w' h3 => ⟨fun _ => h3.2.1 hlu2, ih (listed.setIfInBounds j true) a' w' (hcl.set hj) hfree' (ready_mono hr (Ne.symm hji)) h3.1 (h3.2.1 hlu2) ?_⟩) h2
      rw [Array.setIfInBounds_comm _ _ hji]
      exact h3.2.2
/-- Take number i first. -/
theorem wpAnyG_take {i : Nat} {oi : Oper} {v : Value} {fuel : Nat} {listed : Array Bool} {a : Act} {w : World} (hi : ops[i]? = some oi) (hL : lastB ops l = true) (hc : closedB ops listed = true)
    (hs : Region.noSelect ops = true) (hf : Region.free .any ops listed i = true) (hr : (Region.ready .any ops listed).contains i = true) (hil : decide (l < ops.size) && decide (i < l) = true)
    (hQ : ∀ c a w, Q (.panic c) (a.put oi.dst v) w → Q (.panic c) a w) (hy : YieldsIf P ops S oi v a) (hS : S w)
    (h : wpAnyG P ops Q S l fuel (listed.setIfInBounds i true) (a.put oi.dst v) w) : wpAnyG P ops Q S l (fuel + 1) listed a w :=
  wpAnyG_first (ex := []) hL (by simpa using (Bool.and_eq_true_iff.1 hil).1) hi (by simpa using (Bool.and_eq_true_iff.1 hil).2) rfl (Region.noSelect_spec hs) hQ fuel listed a w (closed_of hc) (Region.free_spec hi hf) (by simpa using hr) hy hS h
theorem wpAnyG_takeX (ex : List Nat) {i : Nat} {oi : Oper} {v : Value} {fuel : Nat} {listed : Array Bool} {a : Act} {w : World} (hi : ops[i]? = some oi) (hL : lastX ops l ex = true) (hc : closedB ops listed = true)
    (hs : Region.noSelect ops = true) (hf : Region.free .any ops listed i = true) (hr : (Region.ready .any ops listed).contains i = true) (hil : (decide (l < ops.size) && decide (i < l) && !(ex.contains i)) = true)
    (hQ : ∀ c a w, Q (.panic c) (a.put oi.dst v) w → Q (.panic c) a w) (hy : YieldsIf P ops S oi v a) (hS : S w)
    (h : wpAnyG P ops Q S l fuel (listed.setIfInBounds i true) (a.put oi.dst v) w) : wpAnyG P ops Q S l (fuel + 1) listed a w := by
  simp only [Bool.and_eq_true, decide_eq_true_eq, Bool.not_eq_true'] at hil
  exact wpAnyG_first hL hil.1.1 hi hil.1.2 hil.2 (Region.noSelect_spec hs) hQ fuel listed a w (closed_of hc) (Region.free_spec hi hf) (by simpa using hr) hy hS h
/-- An operation that looks at no memory. -/
theorem wpAnyG_firstY {i : Nat} {oi : Oper} {v : Value} (hi : ops[i]? = some oi) (hil : i ≠ l) (hsel : ∀ (j : Nat) (o : Oper) cs b, ops[j]? = some o → o.op ≠ .select cs b)
    (hQ : ∀ c a w, Q (.panic c) (a.put oi.dst v) w → Q (.panic c) a w) :
    ∀ (fuel : Nat) (listed : Array Bool) (a : Act) (w : World),
      (∀ j oj, ops[j]? = some oj → j ≠ i → listed.getD j true = false → (∀ e ∈ oj.after, Region.binds .any e = true → e.on ≠ i) → oi.apart ops oj = true) →
      i ∈ Region.ready .any ops listed → YieldsIf P ops (fun _ => True) oi v a → (listed.getD l true = false → S w) →
      wpAnyG P ops Q S l fuel (listed.setIfInBounds i true) (a.put oi.dst v) w → wpAnyG P ops Q S l (fuel + 1) listed a w := by
  intro fuel
  induction fuel with
  | zero =>
    intro listed a w _ hr hy hS H
    refine ⟨fun h => (by rw [h] at hr; cases hr), fun j hj => ?_⟩
    by_cases hji : j = i
    · subst hji; exact hy.wpOp hi trivial ⟨fun hc => hS (by rwa [getD_set_ne true hil] at hc), H⟩
    · have := ready_mono hj hji
      rw [H.1] at this
      cases this
  | succ fuel ih =>
    intro listed a w hfree hr hy hS H
    refine ⟨fun h => (by rw [h] at hr; cases hr), fun j hj => ?_⟩
    by_cases hji : j = i
    · subst hji; exact hy.wpOp hi trivial ⟨fun hc => hS (by rwa [getD_set_ne true hil] at hc), H⟩
    · have h1 := H.2 j (ready_mono hj hji)
      obtain ⟨hjun, oj, hoj, hall⟩ := mem_ready.1 hj
      have hnot : ∀ e ∈ oj.after, Region.binds .any e = true → e.on ≠ i := fun e he hb heq => by
        have h1 := hall e he hb
        have h0 := (mem_ready.1 hr).1
        rw [heq] at h1
        rcases Nat.lt_or_ge i listed.size with h' | h'
        · simp [h'] at h0 h1; rw [h0] at h1; cases h1
        · simp [Array.getElem?_eq_none h'] at h1
      have h2 := wpOp_putIf hoj (hfree j oj hoj hji hjun hnot) (fun cs b => hsel i oi cs b hi) (fun cs b => hsel j oj cs b hoj) hQ hy h1
      have hfree' : ∀ k ok, ops[k]? = some ok → k ≠ i → (listed.setIfInBounds j true).getD k true = false →
          (∀ e ∈ ok.after, Region.binds .any e = true → e.on ≠ i) → oi.apart ops ok = true := fun k ok hk hki hun hno => by
        refine hfree k ok hk hki ?_ hno
        by_cases hjk : j = k
        · subst hjk; exact hjun
        · rw [getD_set_ne true hjk] at hun; exact hun
      have hcc : ∀ w', (((listed.setIfInBounds i true).setIfInBounds j true).getD l true = false → S w') → ((listed.setIfInBounds j true).getD l true = false → S w') := fun w' hh hc => hh (by
        rw [Array.setIfInBounds_comm _ _ (Ne.symm hji), getD_set_ne true hil]; exact hc)
      refine wpOp_mono (fun a' w' h3 => ⟨hcc w' h3.2.1, ih (listed.setIfInBounds j true) a' w' hfree' (ready_mono hr (Ne.symm hji)) h3.1 (hcc w' h3.2.1) ?_⟩) h2
      rw [Array.setIfInBounds_comm _ _ hji]
      exact h3.2.2
theorem wpAnyG_takeY {i : Nat} {oi : Oper} {v : Value} {fuel : Nat} {listed : Array Bool} {a : Act} {w : World} (hi : ops[i]? = some oi)
    (hs : Region.noSelect ops = true) (hf : Region.free .any ops listed i = true) (hr : (Region.ready .any ops listed).contains i = true) (hil : (!(i == l)) = true)
    (hQ : ∀ c a w, Q (.panic c) (a.put oi.dst v) w → Q (.panic c) a w) (hy : YieldsIf P ops (fun _ => True) oi v a) (hS : listed.getD l true = false → S w)
    (h : wpAnyG P ops Q S l fuel (listed.setIfInBounds i true) (a.put oi.dst v) w) : wpAnyG P ops Q S l (fuel + 1) listed a w :=
  wpAnyG_firstY hi (by simpa using hil) (Region.noSelect_spec hs) hQ fuel listed a w (Region.free_spec hi hf) (by simpa using hr) hy hS h
/-- One alone may come up. -/
theorem wpAnyG_one {i : Nat} {o : Oper} {fuel : Nat} {listed : Array Bool} {a : Act} {w : World} (hr : Region.ready .any ops listed = [i]) (ho : ops[i]? = some o)
    (h : ∀ K' : Act → World → Prop, Shut (∀ a w, ((listed.setIfInBounds i true).getD l true = false → S w) → wpAnyG P ops Q S l fuel (listed.setIfInBounds i true) a w → K' a w) → if Region.wanted o (yielded ops a.tmps) = true then Oper.wp P o a w K' Q else K' (a.put o.dst undef) w) :
    wpAnyG P ops Q S l (fuel + 1) listed a w := by
  refine ⟨fun h0 => absurd h0 (by rw [hr]; simp), fun j hj => ?_⟩
  rw [hr] at hj
  obtain rfl := List.mem_singleton.1 hj
  exact wpOp_step ho (fun K' hK => h K' (fun a w hS hW => hK a w ⟨hS, hW⟩))
theorem wpAnyG_done {fuel : Nat} {listed : Array Bool} {a : Act} {w : World} (hr : Region.ready .any ops listed = []) (h : Q .normal a w) : wpAnyG P ops Q S l fuel listed a w := by
  cases fuel with
  | zero => exact ⟨hr, h⟩
  | succ n => exact ⟨fun _ => h, by rw [hr]; simp⟩
theorem wp_region_G {id : Nat} {a : Act} {w : World} (S : World → Prop) (l : Nat) (hm : P.follows .mixedOrders = true)
    (h : wpAnyG P ops Q S l ops.size (Array.replicate ops.size false) a w.drew) : (Code.region id ops true).wp P Q a w :=
  wp_region_any hm (wpAny_of_G _ _ _ _ h)
end
end Go.Proofs.YtnifmoigalmcmaaGreat
