import Derived.Test.YtnifmoigalmcmaaGreatG
namespace Go.Proofs.YtnifmoigalmcmaaGreat
open Go Go.RowKit Go.MapKept Go.Maps
open Dk
variable {c : Col} {w : World}
theorem keepAt_lt (p : APlan) (n : Nat) (h : 0 < p.keep.length) : p.keep[n % p.keep.length]? = some (keepAt p n) := by
  have hlt := Nat.mod_lt n h
  unfold keepAt
  rw [if_neg (by omega)]
  simp [List.getD, hlt]
/-- next, where there is a list of numbers to keep. -/
theorem die1_some (bd bi d n : Nat) (p : APlan) (vk : Value) (w : World) (hk : 0 < p.keep.length) (hn : n < 4611686018427387904) (h1 : w.cell? ⟨bd, 0, none⟩ = some (ptr d)) (h2 : w.cell? ⟨bi, 0, none⟩ = some (.int .i64 n)) (hf : w.frozen? ⟨bi, 0, none⟩ = false)
    (h3 : w.cell? ⟨d, 2, none⟩ = some vk) (hv : Sc w c (0, 0) vk (p.keep.map iv)) :
    Calls Tryz.prog 136 #[.pointer (some ⟨bd, 0, none⟩), .pointer (some ⟨bi, 0, none⟩)] w fun e w' => e = .returned (.int .i64 (keepAt p n)) ∧ ∃ q, w' = (w.drewN q).setCell ⟨bi, 0, none⟩ (.int .i64 ((n + 1 : Nat) : Int)) := by
  rcases hv.cases with ⟨rfl, hx⟩ | ⟨b, o, cap, rfl, hlc, hcm, _, hc⟩
  · have : p.keep = [] := by simpa using hx
    rw [this] at hk; cases hk
  · rw [List.length_map] at hlc
    rw [List.length_map] at h3
    have hmod := Nat.mod_lt n hk
    obtain ⟨r, hr⟩ : ∃ r, r = n % p.keep.length := ⟨_, rfl⟩
    have hcell : w.cell? ⟨b, o + r, none⟩ = some (.int .i64 (keepAt p n)) := hc r _ (by rw [hr, List.getElem?_map, keepAt_lt p n hk]; rfl)
    have hlen : (p.keep.length : Int) ≤ 9223372036854775807 := by unfold maxLen at hcm; omega
    have ht : ((n : Int).tmod (p.keep.length : Int)) = (r : Int) := by rw [hr, Int.tmod_eq_emod_of_nonneg (by omega)]; rfl
    have hr0 : (r : Int) < (p.keep.length : Int) := by rw [hr]; omega
    have hr1 : (0 : Int) ≤ (r : Int) := by omega
    have hz : ((p.keep.length : Int) == 0) = false := by rw [beq_eq_false_iff_ne]; omega
    have hn1 : (n : Int) + 1 ≤ 9223372036854775807 := by omega
    have hcap : p.keep.length ≤ cap := hlc
    unfold ptr at h1
    have HC := Lib.hid hc; clear hc
    have HR := Lib.hid hr; clear hr
    clear hmod hcm hv hn
    go_enter Tryz.func136, Tryz.ntmps136
    go_wp2
    go_quiet (fail)
    go_wp2
    go_ret
    exact ⟨rfl, nq, by rw [Int.natCast_add]; rfl⟩
/-- next, where there is none. -/
theorem die1_none (bd bi d : Nat) (n : Nat) (p : APlan) (vk : Value) (w : World) (hk : p.keep.length = 0) (h1 : w.cell? ⟨bd, 0, none⟩ = some (ptr d))
    (h3 : w.cell? ⟨d, 2, none⟩ = some vk) (hv : Sc w c (0, 0) vk (p.keep.map iv)) :
    Calls Tryz.prog 136 #[.pointer (some ⟨bd, 0, none⟩), .pointer (some ⟨bi, 0, none⟩)] w fun e w' => e = .returned (.int .i64 (keepAt p n)) ∧ w = w' := by
  have e0 : p.keep = [] := List.eq_nil_of_length_eq_zero hk
  have ek : keepAt p n = 0 := by unfold keepAt; rw [if_pos hk]
  rw [ek]
  obtain ⟨a, cap, rfl, _, _, _, _⟩ := hv
  rw [e0] at h3
  simp only [List.map_nil, List.length_nil] at h3
  unfold ptr at h1
  clear ek e0 hk
  go_enter Tryz.func136, Tryz.ntmps136
  go_wp2
  go_ret
  exact ⟨rfl, rfl⟩
/-- what the counter holds. -/
def bx (p : APlan) (n : Nat) : Int := if p.keep.length = 0 then 0 else n
theorem die1_any (bd bi d n : Nat) (p : APlan) (vk : Value) (w : World) (hn : n < 4611686018427387904) (h1 : w.cell? ⟨bd, 0, none⟩ = some (ptr d)) (h2 : w.cell? ⟨bi, 0, none⟩ = some (.int .i64 (bx p n))) (hf : w.frozen? ⟨bi, 0, none⟩ = false)
    (h3 : w.cell? ⟨d, 2, none⟩ = some vk) (hv : Sc w c (0, 0) vk (p.keep.map iv)) :
    Calls Tryz.prog 136 #[.pointer (some ⟨bd, 0, none⟩), .pointer (some ⟨bi, 0, none⟩)] w fun e w' => e = .returned (.int .i64 (keepAt p n)) ∧ (∀ (c : Col) S, S (c bi) → Kp c S w w') ∧ w'.cell? ⟨bi, 0, none⟩ = some (.int .i64 (bx p (n + 1))) ∧ w'.frozen? ⟨bi, 0, none⟩ = false := by
  by_cases hk : p.keep.length = 0
  · refine (die1_none bd bi d n p vk w hk h1 h3 hv).mono ?_
    rintro e w' ⟨rfl, rfl⟩
    refine ⟨rfl, fun c S _ => Kp.refl _ _ _, ?_, hf⟩
    rw [h2]; unfold bx; rw [if_pos hk, if_pos hk]
  · have e1 : bx p n = n := by unfold bx; rw [if_neg hk]
    have e2 : bx p (n + 1) = ((n + 1 : Nat) : Int) := by unfold bx; rw [if_neg hk]
    rw [e1] at h2
    refine (die1_some bd bi d n p vk w (by omega) hn h1 h2 hf h3 hv).mono ?_
    rintro e w' ⟨rfl, q, rfl⟩
    refine ⟨rfl, fun c S hS => ((Kp.refl _ _ _).drewN q).setCell (fun _ => hS) _, ?_, ?_⟩
    · rw [e2]; exact World.cell?_setCell_same (w := w.drewN q) _ _ h2
    · rw [World.frozen?_setCell]; exact hf
end Go.Proofs.YtnifmoigalmcmaaGreat
namespace Go.Proofs.YtnifmoigalmcmaaGreat
open Go Go.RowKit Go.MapKept Go.Maps
open Dk
variable {c : Col} {w : World}
theorem fresh_col (c : Col) (n k : Nat) : ∃ kk, kk ≠ 0 ∧ kk ≠ k ∧ ∀ b, b < n → (c b).1 ≠ kk := by
  have : ∀ n, ∃ B, ∀ b, b < n → (c b).1 ≤ B := by
    intro n
    induction n with
    | zero => exact ⟨0, fun b h => by omega⟩
    | succ n ih =>
      obtain ⟨B, hB⟩ := ih
      refine ⟨B + (c n).1, fun b h => ?_⟩
      by_cases e : b = n
      · subst e; omega
      · have := hB b (by omega); omega
  obtain ⟨B, hB⟩ := this n
  exact ⟨B + k + 1, by omega, by omega, fun b h => by have := hB b h; omega⟩
abbrev S2F : Nat × Nat → Prop := fun _ => False
def S2 (k kk : Nat) (q : Nat × Nat) : Prop := (q.1 = k ∧ q.2 ≠ 0) ∨ q = (kk, 0)
structure DInv (w2 : World) (c2 : Col) (m : ADisk) (k kk mb bi : Nat) (es : Array MapEntry) (ck : Nat) (fb : Nm → Nat) (j : Nat) (wr : World) : Prop where
  ex : ∃ c', Cx w2 c2 c' ∧ MapAt wr c' k mb es ck fb (dieAll m.plan 0 (m.files.take j) ++ m.files.drop j)
  kp : Kp c2 (S2 k kk) w2 wr
  box : wr.cell? ⟨bi, 0, none⟩ = some (.int .i64 (bx m.plan (cnt (m.files.take j))))
  fz : wr.frozen? ⟨bi, 0, none⟩ = false
abbrev S3 (k kk fbn : Nat) (q : Nat × Nat) : Prop := q = fcol k fbn ∨ q = (kk, 0)
structure DIn (w3 : World) (c3 : Col) (k kk fbn : Nat) (vc vn : Value) (p : APlan) (N0 : Nat) (f : AFile) (bi i : Nat) (wr : World) : Prop where
  ex : ∃ c' vs, Cx w3 c3 c' ∧ wr.heap[fbn]? = some (.cells #[vs, vc, vn] 141 (0, 0)) ∧ Sc wr c' (0, 0) vs ((dieFile p N0 f.safe (f.chs.take i)).map bv)
  kp : Kp c3 (S3 k kk fbn) w3 wr
  box : wr.cell? ⟨bi, 0, none⟩ = some (.int .i64 (bx p (N0 + i)))
  fz : wr.frozen? ⟨bi, 0, none⟩ = false
theorem die_round {w2 wo wr : World} {c2 c3 : Col} {m : ADisk} {k kk mb bi ck j : Nat} {es : Array MapEntry} {fb : Nm → Nat} {nm : Nm} {f : AFile} {L : List (Nm × AFile)} {vc vn vs' : Value} {c' : Col}
    (hkk0 : kk ≠ 0) (hkk : kk ≠ k) (hci : c2 bi = (kk, 0)) (hbi : bi < w2.heap.size)
    (I : DInv w2 c2 m k kk mb bi es ck fb j wo) (hc3 : Cx w2 c2 c3) (M : MapAt wo c3 k mb es ck fb L) (hL : L = dieAll m.plan 0 (m.files.take j) ++ m.files.drop j) (hr : Rising L) (hx : m.files[j]? = some (nm, f))
    (hdrop : m.files.drop j = (nm, f) :: m.files.drop (j + 1)) (hg : get L nm = some f)
    (hc' : Cx wo c3 c') (hh : wr.heap[fb nm]? = some (.cells #[vs', vc, vn] 141 (0, 0))) (hs : Sc wr c' (0, 0) vs' ((dieFile m.plan (cnt (m.files.take j)) f.safe f.chs).map bv))
    (hk : Kp c3 (S3 k kk (fb nm)) wo wr) (hb : wr.cell? ⟨bi, 0, none⟩ = some (.int .i64 (bx m.plan (cnt (m.files.take j) + f.chs.length)))) (hf : wr.frozen? ⟨bi, 0, none⟩ = false) (hcf : c3 (fb nm) = fcol k (fb nm)) :
    DInv w2 c2 m k kk mb bi es ck fb (j + 1) ((wr.setCell ⟨fb nm, 1, none⟩ (.slice none 0 0)).setCell ⟨fb nm, 2, none⟩ vs') := by
  have hne : bi ≠ fb nm := by
    intro e
    have h1 := hc3 bi hbi
    rw [e, hcf, ← e, hci] at h1
    simp only [fcol, Prod.mk.injEq] at h1
    exact hkk h1.1.symm
  have hK : Kp c3 (S3 k kk (fb nm)) wo ((wr.setCell ⟨fb nm, 1, none⟩ (.slice none 0 0)).setCell ⟨fb nm, 2, none⟩ vs') := (hk.setCell (fun _ => .inl hcf) _).setCell (fun _ => .inl hcf) _
  have hn0 : ¬ S3 k kk (fb nm) (0, 0) := by simp [S3]; exact fun h => hkk0 h.symm
  have hset : Kp (fun b => if b = fb nm then (1, 0) else (0, 0)) (fun q => q = (1, 0)) wr ((wr.setCell ⟨fb nm, 1, none⟩ (.slice none 0 0)).setCell ⟨fb nm, 2, none⟩ vs') := ((Kp.refl _ _ _).setCell (fun _ => by simp) _).setCell (fun _ => by simp) _
  have hlt1 : fb nm < wr.heap.size := lt_of_heap hh
  have hs2 : Sc ((wr.setCell ⟨fb nm, 1, none⟩ (.slice none 0 0)).setCell ⟨fb nm, 2, none⟩ vs') c' (0, 0) vs' ((dieFile m.plan (cnt (m.files.take j)) f.safe f.chs).map bv) := by
    refine Sc.kp (c := c') (S := fun q => q = fcol k (fb nm)) hs (((Kp.refl _ _ _).setCell (fun _ => ?_) _).setCell (fun _ => ?_) _) (by simp) (Cx.refl _ _)
    · exact (hc' _ (lt_of_heap (M.files _ (get_mem hg)).choose_spec.choose_spec.choose_spec.1)).trans hcf
    · exact (hc' _ (lt_of_heap (M.files _ (get_mem hg)).choose_spec.choose_spec.choose_spec.1)).trans hcf
  have hFA : FileAt ((wr.setCell ⟨fb nm, 1, none⟩ (.slice none 0 0)).setCell ⟨fb nm, 2, none⟩ vs') c' k (fb nm) { safe := dieFile m.plan (cnt (m.files.take j)) f.safe f.chs, chs := [], now := dieFile m.plan (cnt (m.files.take j)) f.safe f.chs } := by
    refine ⟨vs', .slice none 0 0, vs', ?_, (hc' _ (lt_of_heap (M.files _ (get_mem hg)).choose_spec.choose_spec.choose_spec.1)).trans hcf, hs2, ⟨[], World.ownsRow_nil _ _ _ _, by simp, by simp [Value.ownBlock]⟩, hs2⟩
    have := heap_setCell (heap_setCell hh 1 (.slice none 0 0)) 2 vs'
    simpa using this
  have hM := M.upd hg hK (fun q hq => by
    rcases hq with rfl | rfl
    · exact ⟨.inl rfl, by simp [fcol]⟩
    · exact ⟨.inr (.inr hkk), by simp; exact hkk0⟩) hc' hFA
  have hsz := I.kp.size
  refine ⟨⟨c', hc3.trans hc' hsz, ?_⟩, I.kp.trans (hK.mono ?_) hc3, ?_, ?_⟩
  · have e1 : m.files.take (j + 1) = m.files.take j ++ [(nm, f)] := by rw [List.take_add_one, hx]; rfl
    have e2 : dieAll m.plan 0 (m.files.take (j + 1)) ++ m.files.drop (j + 1) = Dk.upd L nm { safe := dieFile m.plan (cnt (m.files.take j)) f.safe f.chs, chs := [], now := dieFile m.plan (cnt (m.files.take j)) f.safe f.chs } := by
      rw [hL, hdrop] at hr ⊢
      have := upd_mid (x := (nm, f)) hr { safe := dieFile m.plan (cnt (m.files.take j)) f.safe f.chs, chs := [], now := dieFile m.plan (cnt (m.files.take j)) f.safe f.chs }
      rw [this, e1, dieAll_append]
      simp [dieAll]
    rw [e2]; exact hM
  · intro q hq
    rcases hq with rfl | rfl
    · exact .inl ⟨rfl, by simp⟩
    · exact .inr rfl
  · have e1 : cnt (m.files.take (j + 1)) = cnt (m.files.take j) + f.chs.length := by
      rw [List.take_add_one, hx]; simp [cnt]
    rw [e1]
    exact hset.cell hb (by simp; exact hne)
  · rw [World.frozen?_setCell, World.frozen?_setCell]; exact hf
section
variable {wo wr w6 : World} {c3 : Col} {k kk fbn N0 bi i : Nat} {vc vn : Value} {p : APlan} {f : AFile} {x : Chg}
theorem sc_step {c' : Col} {v : Value} {xs : List Value} (hkk0 : kk ≠ 0) (hbi : c3 bi = (kk, 0)) (hlt : bi < wo.heap.size) (hs : Sc wr c' (0, 0) v xs) (hk : ∀ (c : Col) S, S (c bi) → Kp c S wr w6) (hc : Cx wo c3 c') : Sc w6 c' (0, 0) v xs :=
  hs.kp (hk c' (fun q => q = (kk, 0)) ((hc _ hlt).trans hbi)) (by simp; exact fun h => hkk0 h.symm) (Cx.refl _ _)
theorem din_none (I : DIn wo c3 k kk fbn vc vn p N0 f bi i wr) (hx : f.chs[i]? = some x) (hs : x.surv (keepAt p (N0 + i)) = none) (hk : Kp c3 (fun q => q = (kk, 0)) wr w6)
    {c' : Col} {vs : Value} (hc : Cx wo c3 c') (hh : w6.heap[fbn]? = some (.cells #[vs, vc, vn] 141 (0, 0))) (hsc : Sc w6 c' (0, 0) vs ((dieFile p N0 f.safe (f.chs.take i)).map bv))
    (hb : w6.cell? ⟨bi, 0, none⟩ = some (.int .i64 (bx p (N0 + i + 1)))) (hf : w6.frozen? ⟨bi, 0, none⟩ = false) : DIn wo c3 k kk fbn vc vn p N0 f bi (i + 1) w6 := by
  have hi : i < f.chs.length := (List.getElem?_eq_some_iff.1 hx).1
  have e : dieFile p N0 f.safe (f.chs.take (i + 1)) = dieFile p N0 f.safe (f.chs.take i) := by
    rw [List.take_add_one, hx]
    have := dieFile_snoc p x (f.chs.take i) N0 f.safe
    rw [List.length_take, Nat.min_eq_left (by omega), hs] at this
    exact this
  exact ⟨⟨c', vs, hc, hh, by rw [e]; exact hsc⟩, I.kp.trans (hk.mono (fun q hq => .inr hq)) (Cx.refl _ _), hb, hf⟩
theorem din_some {sv : Chg} {w7 : World} {g L : Nat} (hkk : kk ≠ k) (hcf : c3 fbn = fcol k fbn) (hcb : c3 bi = (kk, 0))
    (I : DIn wo c3 k kk fbn vc vn p N0 f bi i wr) (hx : f.chs[i]? = some x) (hs : x.surv (keepAt p (N0 + i)) = some sv) (hk : Kp c3 (fun q => q = (kk, 0)) wr w6)
    {vs : Value} (hh : w6.heap[fbn]? = some (.cells #[vs, vc, vn] 141 (0, 0)))
    (hb : w6.cell? ⟨bi, 0, none⟩ = some (.int .i64 (bx p (N0 + i + 1)))) (hf : w6.frozen? ⟨bi, 0, none⟩ = false) (h7 : Below w6.heap.size w6 w7)
    (hown : w7.ownsRow w6.heap.size 5 1 (.slice (some ⟨g, 0, none⟩) L L) L ((sv.app (dieFile p N0 f.safe (f.chs.take i))).map bv)) :
    DIn wo c3 k kk fbn vc vn p N0 f bi (i + 1) (w7.setCell ⟨fbn, 0, none⟩ (.slice (some ⟨g, 0, none⟩) L L)) := by
  have hi : i < f.chs.length := (List.getElem?_eq_some_iff.1 hx).1
  have e : dieFile p N0 f.safe (f.chs.take (i + 1)) = sv.app (dieFile p N0 f.safe (f.chs.take i)) := by
    rw [List.take_add_one, hx]
    have := dieFile_snoc p x (f.chs.take i) N0 f.safe
    rw [List.length_take, Nat.min_eq_left (by omega), hs] at this
    exact this
  have hlt6 : fbn < w6.heap.size := lt_of_heap hh
  have hg : w6.heap.size ≤ g := by
    rcases hown.2 with ⟨e, _⟩ | ⟨_, _, _, e, h, _⟩
    · cases e
    · cases e; exact h
  have hne : bi ≠ fbn := by
    intro e
    rw [e, hcf] at hcb
    simp only [fcol, Prod.mk.injEq] at hcb
    exact hkk hcb.1.symm
  have hset : Kp (fun b => if b = fbn then (1, 0) else (0, 0)) (fun q => q = (1, 0)) w7 (w7.setCell ⟨fbn, 0, none⟩ (.slice (some ⟨g, 0, none⟩) L L)) := (Kp.refl _ _ _).setCell (fun _ => by simp) _
  have hszo : wo.heap.size ≤ w6.heap.size := Nat.le_trans I.kp.size hk.size
  refine ⟨⟨fun b => if b < wo.heap.size then c3 b else (0, 0), .slice (some ⟨g, 0, none⟩) L L, fun b hb => if_pos hb, ?_, ?_⟩, ?_, ?_, ?_⟩
  · have := heap_setCell ((h7.block fbn hlt6).trans hh) 0 (.slice (some ⟨g, 0, none⟩) L L)
    simpa using this
  · rw [e]
    refine Sc.of_owns (ownsRow_kp (q := (0, 0)) hown (fun g' hg' => ?_) hset (by simp)) (fun g' hg' => ?_)
    · cases hg'; rw [if_neg (by show ¬ g = fbn; omega)]
    · cases hg'; show (if g < wo.heap.size then c3 g else (0, 0)) = _; rw [if_neg (by omega)]
  · exact I.kp.trans (((hk.mono (fun q hq => (.inr hq : S3 k kk fbn q))).below h7 hk.size).setCell (fun _ => .inl hcf) _) (Cx.refl _ _)
  · exact hset.cell ((h7.cell (p := ⟨bi, 0, none⟩) (World.block_lt_of_cell? _ _ hb)).trans hb) (by simp; exact hne)
  · rw [World.frozen?_setCell]; exact (h7.frozen (p := ⟨bi, 0, none⟩) (World.block_lt_of_cell? _ _ hb)).trans hf
end
theorem nilS_write (n : Nat) (w : World) (v : Value) : (nilAhead (n + 1) 145 v "cairn/disk.survivor").run Tryz.prog w = .ok (some false) w := by kernel_rfl
theorem methS_write (n : Nat) (w : World) (v : Value) : (method (n + 1) 145 v "cairn/disk.survivor").run Tryz.prog w = .ok (236, v) w := by kernel_rfl
theorem nilS_cut (n : Nat) (w : World) (v : Value) : (nilAhead (n + 1) 195 v "cairn/disk.survivor").run Tryz.prog w = .ok (some false) w := by kernel_rfl
theorem methS_cut (n : Nat) (w : World) (v : Value) : (method (n + 1) 195 v "cairn/disk.survivor").run Tryz.prog w = .ok (239, v) w := by kernel_rfl
set_option maxHeartbeats 4000000 in
theorem die_c (k d : Nat) (m : ADisk) (vk vf vu : Value) (mb : Nat) (es : Array MapEntry) (ck : Nat) (fb : Nm → Nat) (w : World) (D : DiskAt' w c k d m vk vf vu mb es ck fb) (hk0 : k ≠ 0) (hops : m.ops < 1000000) :
    Calls Tryz.prog 82 #[ptr d] w fun e w' => e = .returned (.tuple #[]) ∧ ∃ c', Cx w c c' ∧ Kp c (fun q => q.1 = k) w w' ∧ DiskAt' w' c' k d (Dk.die m) vk vf vu mb es ck fb := by
  have HD := Lib.hid D
  have HO := Lib.hid hops; clear hops
  have HK0 := Lib.hid hk0; clear hk0
  clear D
  unfold ptr
  go_enter Tryz.func82, Tryz.ntmps82
  go_wp2_with (go_at_call 137; refine (names_c k d m vk vf vu mb es ck fb _ (HD.out.kp (S := fun _ => False) (((Kp.refl c _ w).alloc _).alloc _) (fun _ h => h.elim) (Cx.refl _ _))).mono ?_; rintro e w2 ⟨v, rfl, hrow, hb⟩; obtain ⟨av, capv, rfl, _⟩ := Sc.of_owns (c := fun _ => (0, 0)) (q := (0, 0)) hrow (fun _ _ => rfl); have HR := Lib.hid hrow; have HB := Lib.hid hb; clear hrow hb)
  have K2 : ∀ S, Kp c S w w2 := fun S => (((Kp.refl c S w).alloc _).alloc _).below HB.out (by simp; omega)
  have hbd : w2.cell? ⟨w.heap.size, 0, none⟩ = some (ptr d) := (HB.out.cell (p := ⟨w.heap.size, 0, none⟩) (by simp; omega)).trans (by rw [World.cell?_alloc_lt _ _ _ (by simp)]; simp; rfl)
  have hbi : w2.cell? ⟨w.heap.size + 1, 0, none⟩ = some (.int .i64 0) := (HB.out.cell (p := ⟨w.heap.size + 1, 0, none⟩) (by simp)).trans (World.cell?_alloc_at _ _ _ _ (by simp))
  have hfi : w2.frozen? ⟨w.heap.size + 1, 0, none⟩ = false := (HB.out.frozen (p := ⟨w.heap.size + 1, 0, none⟩) (by simp)).trans (World.frozen?_alloc_at _ _ _ _ (by simp))
  obtain ⟨kk, hkk0, hkk, hkf⟩ := fresh_col c w.heap.size k
  obtain ⟨c2, hc2⟩ : ∃ c2 : Col, c2 = fun b => if b < w.heap.size then c b else if b = w.heap.size + 1 then (kk, 0) else (0, 0) := ⟨_, rfl⟩
  have HCx : Hid (Cx w c c2) := by intro b hb; rw [hc2]; exact if_pos hb
  have D2 := HD.out.kp (K2 (fun _ => False)) (fun _ h => h.elim) HCx.out
  have hcd : c2 w.heap.size = (0, 0) := by rw [hc2]; simp
  have hci : c2 (w.heap.size + 1) = (kk, 0) := by
    rw [hc2]
    show (if w.heap.size + 1 < w.heap.size then _ else if w.heap.size + 1 = w.heap.size + 1 then _ else _) = _
    rw [if_neg (by omega), if_pos rfl]
  have HN : Hid (Sc w2 c2 (0, 0) (.slice av (m.files.map fun x => str x.1).length capv) (m.files.map fun x => str x.1)) := by
    have := HR.out
    have e : (m.files.map (·.1)).map str = m.files.map fun x => str x.1 := by rw [List.map_map]; rfl
    rw [e] at this
    refine Sc.of_owns this (fun g hg => ?_)
    have hg2 := this.2
    rcases hg2 with ⟨h, _⟩ | ⟨g', _, _, h, hle, _⟩
    · injection h with h1; subst h1; cases hg
    · injection h with h1; subst h1; cases hg
      simp at hle
      rw [hc2]
      show (if g' < w.heap.size then c g' else if g' = w.heap.size + 1 then (kk, 0) else (0, 0)) = _
      rw [if_neg (by omega), if_neg (by omega)]
  rename_i hx; clear hx HR HB hc2
  have HKK0 := Lib.hid hkk0; clear hkk0
  have HKK := Lib.hid hkk; clear hkk
  have HKF := Lib.hid hkf; clear hkf
  have HW := Lib.hid K2; clear K2
  have HBD := Lib.hid hbd; clear hbd
  have HBI := Lib.hid hbi; clear hbi
  have HFI := Lib.hid hfi; clear hfi
  have HD2 := Lib.hid D2; clear D2
  have HCD := Lib.hid hcd; clear hcd
  have HCI := Lib.hid hci; clear hci
  obtain ⟨bi, hbi⟩ : ∃ bi, bi = w.heap.size + 1 := ⟨_, rfl⟩
  obtain ⟨bd, hbd⟩ : ∃ bd, bd = w.heap.size := ⟨_, rfl⟩
  rw [← hbi] at HBI HFI HCI ⊢
  rw [← hbd] at HBD HCD ⊢
  clear hbi hbd
  go_loopw [14] (fun s wr => ∃ j : Nat, j ≤ m.files.length ∧ s = .int .i64 j ∧ DInv w2 c2 m k kk mb bi es ck fb j wr) (fun s _ => m.files.length - (intOf s).toNat)
  case atStart =>
    refine ⟨0, Nat.zero_le _, rfl, ⟨c2, Cx.refl _ _, ?_⟩, Kp.refl _ _ _, ?_, HFI.out⟩
    · simpa [dieAll] using HD2.out.map
    · rw [HBI.out]; simp [cnt, bx]
  case round =>
    obtain ⟨j, hj, rfl, I⟩ := hrel
    have HI := Lib.hid I; clear I
    by_cases hlt : j < m.files.length
    · have hmany : (m.files.length : Int) ≤ 4096 := by have := HD.out.ok.many; omega
      obtain ⟨c3, hc3, M⟩ := HI.out.ex
      obtain ⟨nm, f, hx⟩ : ∃ nm f, m.files[j]? = some (nm, f) := ⟨m.files[j].1, m.files[j].2, List.getElem?_eq_getElem hlt⟩
      have hdrop : m.files.drop j = (nm, f) :: m.files.drop (j + 1) := by
        rw [List.drop_eq_getElem_cons hlt]; congr 1; rw [List.getElem?_eq_getElem hlt] at hx; exact Option.some.inj hx
      obtain ⟨L, hL⟩ : ∃ L, L = dieAll m.plan 0 (m.files.take j) ++ m.files.drop j := ⟨_, rfl⟩
      have hnames : L.map (·.1) = m.files.map (·.1) := by
        rw [hL, List.map_append, dieAll_names, ← List.map_append, List.take_append_drop]
      have hrise : Rising L := rising_of_names hnames HD.out.ok.rising
      rw [← hL] at M
      have hget : get L nm = some f := get_of_mem hrise (x := (nm, f)) (by rw [hL, hdrop]; simp)
      have hnl : nm.length ≤ maxLen := by
        have h1 := HD.out.ok.names _ (List.mem_of_getElem? hx)
        have h1 : nm.length ≤ 32 := h1
        unfold maxLen; omega
      have hlook : (Instr.lookup 117 (.map (some mb)) (str nm) false).run Tryz.prog wr = .ok (.pointer (some ⟨fb nm, 0, none⟩)) wr := look_hit M hrise hnl hget
      have hFA : FileAt wr c3 k (fb nm) f := M.files _ (get_mem hget)
      obtain ⟨nb, no, rfl, hnc⟩ : ∃ nb no, av = some ⟨nb, no, none⟩ ∧ wr.cell? ⟨nb, no + j, none⟩ = some (str nm) := by
        obtain ⟨a', cap', e, hle, _, h0, h1⟩ := HN.out
        injection e with e1 e2 e3
        have hj' : (m.files.map fun x => str x.1)[j]? = some (str nm) := by rw [List.getElem?_map, hx]; rfl
        cases a' with
        | none =>
          have := h0 rfl
          rw [List.length_map] at hle
          omega
        | some ad =>
          obtain ⟨h2, h3⟩ := h1 ad rfl
          obtain ⟨b, o, s⟩ := ad
          cases h2
          obtain ⟨h4, h5⟩ := h3 j _ hj'
          exact ⟨b, o, e1, HI.out.kp.cell h5 (by show ¬ S2 k kk (c2 b); rw [h4]; simp [S2]; exact fun h => HKK0.out h.symm)⟩
      obtain ⟨vs, vc, vn, hh, hcf, hs, ⟨xs, hown, hxs, hgc⟩, hnow⟩ := hFA
      obtain ⟨ac, capc, hvc⟩ : ∃ ac capc, vc = .slice ac f.chs.length capc := by
        obtain ⟨a', cap', e, _⟩ := Sc.of_owns (c := fun _ => (0, 0)) (q := (0, 0)) hown (fun _ _ => rfl)
        exact ⟨a', cap', by rw [e, show xs.length = f.chs.length from by have := hown.1; omega]⟩
      subst hvc
      have hb := HI.out.kp.cell HBD.out (by rw [HCD.out]; simp [S2]; exact fun h => HKK0.out h.symm)
      have h8 := HI.out.kp.cell HD2.out.c8 (by rw [HD2.out.col]; simp [S2]; exact fun h => HKK.out h.symm)
      have hc1 := cell_of_heap hh 1
      have hc1 : wr.cell? ⟨fb nm, 1, none⟩ = some (.slice ac f.chs.length capc) := hc1
      have hfok := HD.out.ok.files _ (List.mem_of_getElem? hx)
      have hfok : f.ok m.ops.toNat := hfok
      have hclen : (f.chs.length : Int) ≤ 9223372036854775807 := by have h1 := hfok.many; have h2 := HO.out; omega
      have HFO := Lib.hid hfok; clear hfok
      unfold ptr at hb
      have HM := Lib.hid M; clear M
      have HC3 := Lib.hid hc3; clear hc3
      have HX := Lib.hid hx; clear hx
      have HDR := Lib.hid hdrop; clear hdrop
      have HL := Lib.hid hL; clear hL
      have HNM := Lib.hid hnames; clear hnames
      have HRS := Lib.hid hrise; clear hrise
      have HG := Lib.hid hget; clear hget
      have HH := Lib.hid hh; clear hh
      have HCF := Lib.hid hcf; clear hcf
      have HS := Lib.hid hs; clear hs
      have HOW := Lib.hid hown; clear hown
      have HXS := Lib.hid hxs; clear hxs
      have HGC := Lib.hid hgc; clear hgc
      have HNW := Lib.hid hnow; clear hnow
      go_wp2
      obtain ⟨wo, hwo⟩ : ∃ wo : World, wo = wr := ⟨_, rfl⟩
      subst hwo
      clear hlook hb h8 hc1 hnc
      go_loopw [29] (fun s wr => ∃ i : Nat, i ≤ f.chs.length ∧ s = .int .i64 i ∧ DIn wo c3 k kk (fb nm) (.slice ac f.chs.length capc) vn m.plan (cnt (m.files.take j)) f bi i wr) (fun s _ => f.chs.length - (intOf s).toNat)
      case atStart =>
        refine ⟨0, Nat.zero_le _, rfl, ⟨c3, vs, Cx.refl _ _, HH.out, ?_⟩, Kp.refl _ _ _, HI.out.box, HI.out.fz⟩
        simpa [dieFile] using HS.out
      case round =>
        obtain ⟨i, hi, rfl, I2⟩ := hrel
        have HI2 := Lib.hid I2; clear I2
        by_cases hlt2 : i < f.chs.length
        · obtain ⟨x, hxx⟩ : ∃ x, f.chs[i]? = some x := ⟨_, List.getElem?_eq_getElem hlt2⟩
          have hxl : xs.length = f.chs.length := by have := HOW.out.1; omega
          obtain ⟨xv, hxv⟩ : ∃ xv, xs[i]? = some xv := ⟨_, List.getElem?_eq_getElem (by omega)⟩
          have hch := HXS.out i xv x hxv hxx
          have hxok : x.ok := HFO.out.chs x (List.mem_of_getElem? hxx)
          obtain ⟨gb, rfl, hcell⟩ : ∃ gb, ac = some ⟨gb, 0, none⟩ ∧ wr.cell? ⟨gb, i, none⟩ = some xv := by
            have hsc := Sc.of_owns (c := c3) (q := gcol k (fb nm)) HOW.out HGC.out
            rcases hsc.cases with ⟨e, h0⟩ | ⟨b, o, cap, e, _, _, h3, h4⟩
            · rw [h0] at hxv; cases hxv
            · rcases HOW.out.2 with ⟨e2, _⟩ | ⟨g, cap', cur, e2, _⟩
              · injection e2 with e3; subst e3; cases e
              · injection e2 with e3; subst e3
                injection e with e4
                injection e4 with e4
                injection e4 with e5 e6
                subst e5 e6
                have h5 := h4 i xv hxv
                rw [Nat.zero_add] at h5
                refine ⟨g, rfl, HI2.out.kp.cell h5 ?_⟩
                rw [h3 (by intro h; rw [h] at hxv; cases hxv)]
                simp only [S3, fcol, gcol, Prod.mk.injEq, not_or]
                exact ⟨by omega, by omega⟩
          have hn0 : ¬ S3 k kk (fb nm) (0, 0) := by simp [S3]; exact fun h => HKK0.out h.symm
          have hs0 : ¬ S2 k kk (0, 0) := by simp [S2]; exact fun h => HKK0.out h.symm
          have hs1 : ¬ S2 k kk (k, 0) := by simp [S2]; exact fun h => HKK.out h.symm
          have hn1 : ¬ S3 k kk (fb nm) (k, 0) := by simp [S3, fcol]; exact fun h => HKK.out h.symm
          have hb := HI2.out.kp.cell (HI.out.kp.cell HBD.out (by rw [HCD.out]; exact hs0)) (by
            rw [HC3.out _ (World.block_lt_of_cell? _ _ HBD.out), HCD.out]; exact hn0)
          have h2 := HI2.out.kp.cell (HI.out.kp.cell HD2.out.c2 (by rw [HD2.out.col]; exact hs1)) (by
            rw [HC3.out _ HD2.out.lt, HD2.out.col]; exact hn1)
          have hpk := (HD2.out.plan.keep.kp HI.out.kp hs0 HC3.out).kp HI2.out.kp hn0 (Cx.refl _ _)
          have hbox := HI2.out.box
          have hbf := HI2.out.fz
          have hN : cnt (m.files.take j) + i < 4611686018427387904 := by
            have h1 := cnt_le (K := m.ops.toNat) (fs := m.files.take j) (fun y hy => (HD.out.ok.files y (List.mem_of_mem_take hy)).many)
            have h3 := HD.out.ok.many
            have h4 := HO.out
            have h5 := HFO.out.many
            have h6 : (m.files.take j).length * m.ops.toNat ≤ 4096 * 1000000 := Nat.mul_le_mul (by rw [List.length_take]; omega) (by omega)
            omega
          have HI3 : Hid (c3 bi = (kk, 0)) := (HC3.out _ (World.block_lt_of_cell? _ _ HBI.out)).trans HCI.out
          have HKQ : Hid (¬ ((0, 0) : Nat × Nat) = (kk, 0)) := by intro h; injection h with h; exact HKK0.out h.symm
          have HNN := Lib.hid hN; clear hN
          have HPK := Lib.hid hpk; clear hpk
          have HBX := Lib.hid hbox; clear hbox
          have HBF := Lib.hid hbf; clear hbf
          have HB := Lib.hid hb; clear hb
          have H2 := Lib.hid h2; clear h2
          have HXX := Lib.hid hxx; clear hxx
          have HXV := Lib.hid hxv; clear hxv
          have HXO := Lib.hid hxok; clear hxok
          have HCH := Lib.hid (hch.kp HI2.out.kp hn0 (Cx.refl _ _)); clear hch
          have HN0 := Lib.hid hn0; clear hn0
          clear hs0 hs1 hn1 hxl
          cases x with
          | wr i0 b =>
            obtain ⟨vb, rfl, hvb⟩ := HCH.out
            have HVB := Lib.hid hvb; clear hvb
            go_wp2
            have q1 := nilS_write
            have q2 := methS_write
            go_region_with (first
              | (go_at_call 136; refine (die1_any bd bi d (cnt (m.files.take j) + i) m.plan vk wr.drew HNN.out HB.out HBX.out HBF.out H2.out HPK.out).mono ?_; rintro e w5 ⟨rfl, hk5, hb5, hf5⟩; have HK5 := Lib.hid hk5; have HB5 := Lib.hid hb5; have HF5 := Lib.hid hf5; have HVB5 := Lib.hid (HVB.out.kp (show Kp c3 (fun q => q = (kk, 0)) wr w5 from ((Kp.refl _ _ _).drew).trans (hk5 c3 (fun q => q = (kk, 0)) HI3.out) (Cx.refl _ _)) HKQ.out (Cx.refl _ _)); clear hk5 hb5 hf5)
              | (go_at_call 236; refine (write_surv i0 vb b _ _ HVB5.out HXO.out).mono ?_; rintro e w6 ⟨v6, rfl, hsv, hb6⟩; have HSV := Lib.hid hsv; have HB6 := Lib.hid hb6; clear hsv hb6))
            all_goals
              have hk5' : Hid (∀ (c : Col) S, S (c bi) → Kp c S wr w6) := fun c S h => (((Kp.refl _ _ _).drew).trans (HK5.out c S h) (Cx.refl _ _)).below HB6.out (HK5.out c S h).size
              have hk6 : Hid (Kp c3 (fun q => q = (kk, 0)) wr w6) := hk5'.out c3 _ HI3.out
              have HB66 : Hid (w6.cell? ⟨bi, 0, none⟩ = some (.int .i64 (bx m.plan (cnt (m.files.take j) + i + 1)))) := (HB6.out.cell (p := ⟨bi, 0, none⟩) (World.block_lt_of_cell? _ _ HB5.out)).trans HB5.out
              have HF66 : Hid (w6.frozen? ⟨bi, 0, none⟩ = false) := (HB6.out.frozen (p := ⟨bi, 0, none⟩) (World.block_lt_of_cell? _ _ HB5.out)).trans HF5.out
              obtain ⟨c', vs', hcc, hhr, hsr⟩ := HI2.out.ex
              have HH6 : Hid (w6.heap[fb nm]? = some (.cells #[vs', .slice (some ⟨gb, 0, none⟩) f.chs.length capc, vn] 141 (0, 0))) := hk6.out.heap hhr (by rw [HCF.out]; simp only [fcol, Prod.mk.injEq, not_and]; intro e; exact absurd e.symm HKK.out)
              have HS6 := Lib.hid (sc_step HKK0.out HI3.out (Nat.lt_of_lt_of_le (World.block_lt_of_cell? _ _ HBI.out) HI.out.kp.size) hsr hk5'.out hcc)
              have HCC := Lib.hid hcc
              clear hcc hhr hsr
              have hlt6 : fb nm < w6.heap.size := lt_of_heap HH6.out
              have cf0 : w6.cell? ⟨fb nm, 0, none⟩ = some vs' := cell_of_heap HH6.out 0
              have ff0 : w6.frozen? ⟨fb nm, 0, none⟩ = false := unfrozen_of_heap HH6.out 0
              have HDL : Hid ((dieFile m.plan (cnt (m.files.take j)) f.safe (f.chs.take i)).length ≤ maxFile) := dieFile_len _ _ _ _ HFO.out.safe (fun c hc => HFO.out.chs c (List.mem_of_mem_take hc))
              have HSVo := HSV.out
              clear HSV
              cases hsu : (Chg.wr i0 b).surv (keepAt m.plan (cnt (m.files.take j) + i)) with
              | none =>
                rw [hsu] at HSVo
                have HSVo : v6 = .nilIface := HSVo
                subst HSVo
                have HSU := Lib.hid hsu; clear hsu
                go_wp2
                go_roundw
                case rel => exact ⟨i + 1, by omega, by go_num, din_none HI2.out HXX.out HSU.out hk6.out HCC.out HH6.out HS6.out HB66.out HF66.out⟩
                case measure => simp [intOf]; omega
              | some sv =>
                rw [hsu] at HSVo
                have HSU := Lib.hid hsu; clear hsu
                have HSO := Lib.hid (surv_ok HXO.out HSU.out)
                cases sv with
                | wr i1 b1 =>
                  obtain ⟨vb1, rfl, hvb1⟩ := HSVo
                  have HV1 := Lib.hid hvb1; clear hvb1
                  have q3 := nilA_write
                  have q4 := meth_write
                  go_wp2
                  go_region_with (first | (go_at_call 235; refine (write_apply i1 vb1 vs' b1 _ w6.drew HV1.out.drew HS6.out.drew HDL.out HSO.out).mono ?_; rintro e w7 ⟨g7, rfl, hown7, hb7⟩; have cg0 := (bcell hb7).1 (fb nm) 0 hlt6; have fg0 := (bcell hb7).2 (fb nm) 0 hlt6; have HO7 := Lib.hid hown7; have HB7 : Hid (Below w6.heap.size w6 w7) := ((Below.refl _ w6).drew).trans hb7; clear hown7 hb7))
                  all_goals
                    go_wp2
                    go_roundw
                    case rel => exact ⟨i + 1, by omega, by go_num, din_some HKK.out HCF.out HI3.out HI2.out HXX.out HSU.out hk6.out HH6.out HB66.out HF66.out HB7.out HO7.out⟩
                    case measure => simp [intOf]; omega
                | cut n1 =>
                  have HSVo : v6 = .iface 195 (.agg #[.int .i64 n1]) := HSVo
                  subst HSVo
                  have q3 := nilA_cut
                  have q4 := meth_cut
                  go_wp2
                  go_region_with (first | (go_at_call 238; refine (cut_apply n1 vs' _ w6.drew HS6.out.drew HSO.out).mono ?_; rintro e w7 ⟨g7, rfl, hown7, hb7⟩; have cg0 := (bcell hb7).1 (fb nm) 0 hlt6; have fg0 := (bcell hb7).2 (fb nm) 0 hlt6; have HO7 := Lib.hid hown7; have HB7 : Hid (Below w6.heap.size w6 w7) := ((Below.refl _ w6).drew).trans hb7; clear hown7 hb7))
                  all_goals
                    go_wp2
                    go_roundw
                    case rel => exact ⟨i + 1, by omega, by go_num, din_some HKK.out HCF.out HI3.out HI2.out HXX.out HSU.out hk6.out HH6.out HB66.out HF66.out HB7.out HO7.out⟩
                    case measure => simp [intOf]; omega
          | cut n =>
            have hxe : xv = .iface 195 (.agg #[.int .i64 n]) := HCH.out
            subst hxe
            go_wp2
            have q1 := nilS_cut
            have q2 := methS_cut
            go_region_with (first
              | (go_at_call 136; refine (die1_any bd bi d (cnt (m.files.take j) + i) m.plan vk wr.drew HNN.out HB.out HBX.out HBF.out H2.out HPK.out).mono ?_; rintro e w5 ⟨rfl, hk5, hb5, hf5⟩; have HK5 := Lib.hid hk5; have HB5 := Lib.hid hb5; have HF5 := Lib.hid hf5; clear hk5 hb5 hf5)
              | (go_at_call 239; refine (cut_surv (c := c3) n _ _).mono ?_; rintro e w6 ⟨v6, rfl, hsv, hb6⟩; have HSV := Lib.hid hsv; have HB6 := Lib.hid hb6; clear hsv hb6))
            all_goals
              have hk5' : Hid (∀ (c : Col) S, S (c bi) → Kp c S wr w6) := fun c S h => (((Kp.refl _ _ _).drew).trans (HK5.out c S h) (Cx.refl _ _)).below HB6.out (HK5.out c S h).size
              have hk6 : Hid (Kp c3 (fun q => q = (kk, 0)) wr w6) := hk5'.out c3 _ HI3.out
              have HB66 : Hid (w6.cell? ⟨bi, 0, none⟩ = some (.int .i64 (bx m.plan (cnt (m.files.take j) + i + 1)))) := (HB6.out.cell (p := ⟨bi, 0, none⟩) (World.block_lt_of_cell? _ _ HB5.out)).trans HB5.out
              have HF66 : Hid (w6.frozen? ⟨bi, 0, none⟩ = false) := (HB6.out.frozen (p := ⟨bi, 0, none⟩) (World.block_lt_of_cell? _ _ HB5.out)).trans HF5.out
              obtain ⟨c', vs', hcc, hhr, hsr⟩ := HI2.out.ex
              have HH6 : Hid (w6.heap[fb nm]? = some (.cells #[vs', .slice (some ⟨gb, 0, none⟩) f.chs.length capc, vn] 141 (0, 0))) := hk6.out.heap hhr (by rw [HCF.out]; simp only [fcol, Prod.mk.injEq, not_and]; intro e; exact absurd e.symm HKK.out)
              have HS6 := Lib.hid (sc_step HKK0.out HI3.out (Nat.lt_of_lt_of_le (World.block_lt_of_cell? _ _ HBI.out) HI.out.kp.size) hsr hk5'.out hcc)
              have HCC := Lib.hid hcc
              clear hcc hhr hsr
              have hlt6 : fb nm < w6.heap.size := lt_of_heap HH6.out
              have cf0 : w6.cell? ⟨fb nm, 0, none⟩ = some vs' := cell_of_heap HH6.out 0
              have ff0 : w6.frozen? ⟨fb nm, 0, none⟩ = false := unfrozen_of_heap HH6.out 0
              have HDL : Hid ((dieFile m.plan (cnt (m.files.take j)) f.safe (f.chs.take i)).length ≤ maxFile) := dieFile_len _ _ _ _ HFO.out.safe (fun c hc => HFO.out.chs c (List.mem_of_mem_take hc))
              have HSVo := HSV.out
              clear HSV
              cases hsu : (Chg.cut n).surv (keepAt m.plan (cnt (m.files.take j) + i)) with
              | none =>
                rw [hsu] at HSVo
                have HSVo : v6 = .nilIface := HSVo
                subst HSVo
                have HSU := Lib.hid hsu; clear hsu
                go_wp2
                go_roundw
                case rel => exact ⟨i + 1, by omega, by go_num, din_none HI2.out HXX.out HSU.out hk6.out HCC.out HH6.out HS6.out HB66.out HF66.out⟩
                case measure => simp [intOf]; omega
              | some sv =>
                rw [hsu] at HSVo
                have HSU := Lib.hid hsu; clear hsu
                have HSO := Lib.hid (surv_ok HXO.out HSU.out)
                cases sv with
                | wr i1 b1 =>
                  obtain ⟨vb1, rfl, hvb1⟩ := HSVo
                  have HV1 := Lib.hid hvb1; clear hvb1
                  have q3 := nilA_write
                  have q4 := meth_write
                  go_wp2
                  go_region_with (first | (go_at_call 235; refine (write_apply i1 vb1 vs' b1 _ w6.drew HV1.out.drew HS6.out.drew HDL.out HSO.out).mono ?_; rintro e w7 ⟨g7, rfl, hown7, hb7⟩; have cg0 := (bcell hb7).1 (fb nm) 0 hlt6; have fg0 := (bcell hb7).2 (fb nm) 0 hlt6; have HO7 := Lib.hid hown7; have HB7 : Hid (Below w6.heap.size w6 w7) := ((Below.refl _ w6).drew).trans hb7; clear hown7 hb7))
                  all_goals
                    go_wp2
                    go_roundw
                    case rel => exact ⟨i + 1, by omega, by go_num, din_some HKK.out HCF.out HI3.out HI2.out HXX.out HSU.out hk6.out HH6.out HB66.out HF66.out HB7.out HO7.out⟩
                    case measure => simp [intOf]; omega
                | cut n1 =>
                  have HSVo : v6 = .iface 195 (.agg #[.int .i64 n1]) := HSVo
                  subst HSVo
                  have q3 := nilA_cut
                  have q4 := meth_cut
                  go_wp2
                  go_region_with (first | (go_at_call 238; refine (cut_apply n1 vs' _ w6.drew HS6.out.drew HSO.out).mono ?_; rintro e w7 ⟨g7, rfl, hown7, hb7⟩; have cg0 := (bcell hb7).1 (fb nm) 0 hlt6; have fg0 := (bcell hb7).2 (fb nm) 0 hlt6; have HO7 := Lib.hid hown7; have HB7 : Hid (Below w6.heap.size w6 w7) := ((Below.refl _ w6).drew).trans hb7; clear hown7 hb7))
                  all_goals
                    go_wp2
                    go_roundw
                    case rel => exact ⟨i + 1, by omega, by go_num, din_some HKK.out HCF.out HI3.out HI2.out HXX.out HSU.out hk6.out HH6.out HB66.out HF66.out HB7.out HO7.out⟩
                    case measure => simp [intOf]; omega
        · obtain rfl : i = f.chs.length := by omega
          obtain ⟨c', vs', hc', hh', hs'⟩ := HI2.out.ex
          rw [List.take_of_length_le (Nat.le_refl _)] at hs'
          have g1 : wr.cell? ⟨fb nm, 1, none⟩ = some (.slice ac f.chs.length capc) := cell_of_heap hh' 1
          have g2 : wr.cell? ⟨fb nm, 2, none⟩ = some vn := cell_of_heap hh' 2
          have g0 : wr.cell? ⟨fb nm, 0, none⟩ = some vs' := cell_of_heap hh' 0
          have gf := unfrozen_of_heap hh'
          have HHH := Lib.hid hh'; clear hh'
          have HSS := Lib.hid hs'; clear hs'
          have HCC := Lib.hid hc'; clear hc'
          obtain ⟨asv, caps, rfl⟩ : ∃ asv caps, vs' = .slice asv (dieFile m.plan (cnt (m.files.take j)) f.safe f.chs).length caps := by
            obtain ⟨a', cap', e, _⟩ := HSS.out
            exact ⟨a', cap', by rw [e, List.length_map]⟩
          go_wp2
          go_roundw
          case rel => exact ⟨j + 1, by omega, by go_num, die_round HKK0.out HKK.out HCI.out (World.block_lt_of_cell? _ _ HBI.out) HI.out HC3.out HM.out HL.out HRS.out HX.out HDR.out HG.out HCC.out HHH.out HSS.out HI2.out.kp HI2.out.box HI2.out.fz HCF.out⟩
          case measure => simp [intOf]; omega
    · obtain rfl : j = m.files.length := by omega
      have h7 := HI.out.kp.cell HD2.out.c7 (by rw [HD2.out.col]; simp [S2]; exact fun h => HKK.out h.symm)
      have hf7 : wr.frozen? ⟨d, 7, none⟩ = false := unfrozen_of_heap (HI.out.kp.heap HD2.out.heap (by rw [HD2.out.col]; simp [S2]; exact fun h => HKK.out h.symm)) 7
      have hb := HI.out.kp.cell HBD.out (by rw [HCD.out]; simp [S2]; exact fun h => HKK0.out h.symm)
      unfold ptr at hb
      go_wp2
      go_end0
      refine ⟨rfl, ?_⟩
      obtain ⟨c', hc', M⟩ := HI.out.ex
      rw [List.take_of_length_le (Nat.le_refl _), List.drop_of_length_le (Nat.le_refl _), List.append_nil] at M
      have hC : Cx w c c' := HCx.out.trans hc' (HW.out (fun _ => False)).size
      have hcd : c' d = (k, 0) := (hC d HD.out.lt).trans HD.out.col
      have hw : wr.heap[d]? = _ := HI.out.kp.heap HD2.out.heap (by rw [HD2.out.col]; simp [S2]; exact fun h => HKK.out h.symm)
      have hne : mb ≠ d := by
        intro e
        have := M.heap
        rw [e, hw] at this; cases this
      have hK : Kp c (fun q => q.1 = k) w wr :=
        ⟨HI.out.kp.os.trans (HW.out S2F).os, HI.out.kp.tape.trans (HW.out S2F).tape, HI.out.kp.output.trans (HW.out S2F).output, Nat.le_trans (HW.out S2F).size HI.out.kp.size, fun b hb hn => by
          have h1 := (HW.out (fun _ => False)).block b hb (fun h => h)
          refine (HI.out.kp.block b (Nat.lt_of_lt_of_le hb (HW.out S2F).size) (fun hs => ?_)).trans h1
          rw [HCx.out b hb] at hs
          rcases hs with ⟨h, _⟩ | h
          · exact hn h
          · exact HKF.out b hb (by rw [h])⟩
      have hset : Kp c' (fun q => q = (k, 0)) wr (wr.setCell ⟨d, 7, none⟩ (.bool true)) := (Kp.refl _ _ _).setCell (fun _ => hcd) _
      refine ⟨c', hC, hK.setCell (fun _ => by rw [HD.out.col]) _, die_ok HD.out.ok, ?_, hcd, ?_, ?_⟩
      · have := heap_setCell hw 7 (.bool true)
        simpa [diskCells, Dk.die] using this
      · exact (HD.out.plan.kp hK (fun h => HK0.out h.symm) hC).kp hset (by simp; exact fun h => HK0.out h.symm) (Cx.refl _ _)
      · exact M.mid hset (Below.heap_setCell _ _ _ _ hne) (fun q hq => ⟨.inl hq, by rw [hq]; simp; exact HK0.out⟩) (Cx.refl _ _)
end Go.Proofs.YtnifmoigalmcmaaGreat
namespace Go.Proofs.YtnifmoigalmcmaaGreat
open Go Go.RowKit Go.MapKept Go.Maps
open Dk
variable {c : Col} {w : World}
/-- The tape is never turned. -/
def TapeKept {α : Type} (s : Sem α) : Prop := ∀ (P : Program) (w : World) (a : α) (w' : World), s.run P w = .ok a w' → w'.tape = w.tape
theorem tk_pure {α : Type} (x : α) : TapeKept (pure x : Sem α) := by
  intro P w a w' h
  have h : Result.ok x w = .ok a w' := h
  injection h with _ h
  rw [h]
theorem tk_bind {α β : Type} {s : Sem α} {f : α → Sem β} (hs : TapeKept s) (hf : ∀ a, TapeKept (f a)) : TapeKept (s >>= f) := by
  intro P w a w' h
  rw [Sem.run_bind] at h
  cases hr : s.run P w with
  | ok x w1 =>
    rw [hr] at h
    exact (hf x P w1 a w' h).trans (hs P w x w1 hr)
  | halt x w1 => rw [hr] at h; cases h
theorem tk_halt {α : Type} (x : Halt) : TapeKept (Sem.halt x : Sem α) := by
  intro P w a w' h
  cases h
theorem tk_bind_halt {α β : Type} (x : Halt) (f : α → Sem β) : TapeKept (Sem.halt x >>= f) := by
  intro P w a w' h
  rw [Sem.run_bind] at h
  cases h
theorem tk_get (r : Nat) : TapeKept (getObj r) := by
  intro P w a w' h
  unfold getObj at h
  simp only [Sem.run] at h
  split at h <;> first | (cases h; rfl) | cases h
theorem tk_set (r : Nat) (o : Obj) : TapeKept (setObj r o) := by
  intro P w a w' h
  unfold setObj at h
  simp only [Sem.run] at h
  split at h <;> first | (cases h; rfl) | cases h
theorem tk_choose (q : Question) : TapeKept (choose q) := by
  intro P w a w' h
  unfold choose at h
  simp only [Sem.run] at h
  split at h <;> first | (cases h; rfl) | cases h
theorem tk_next (v : Value) (ty : TypeId) : TapeKept (Instr.next v false ty) := by
  unfold Instr.next
  split
  · refine tk_bind (tk_get _) fun o => ?_
    split
    · split
      · exact tk_bind (tk_set _ _) fun _ => tk_pure _
      · exact tk_pure _
    · exact tk_pure _
    · refine tk_bind (tk_get _) fun o => ?_
      split
      · split
        · exact tk_bind_halt _ _
        · refine tk_bind (tk_choose _) fun o => ?_
          split
          · exact tk_bind (tk_set _ _) fun _ => tk_pure _
          · exact tk_pure _
          · exact tk_halt _
      · exact tk_halt _
    · exact tk_halt _
  · exact tk_halt _
/-- how many bytes the file has that an entry names. -/
def entLen (fs : List (Nm × AFile)) (k : Value) : Nat := match k with | .string s => (match get fs s.data.toList with | some f => f.now.length | none => 0) | _ => 0
def leftSum (fs : List (Nm × AFile)) (es : Array MapEntry) (seen : Array Nat) : Nat := ((leftOf es seen).toList.map fun e => entLen fs e.key).sum
theorem entLen_str {fs : List (Nm × AFile)} (hr : Rising fs) {x : Nm × AFile} (hx : x ∈ fs) : entLen fs (str x.1) = x.2.now.length := by
  simp only [entLen, str]
  rw [get_of_mem hr hx]
theorem leftSum_all {k mb ck : Nat} {es : Array MapEntry} {fb : Nm → Nat} {fs : List (Nm × AFile)} (M : MapAt w c k mb es ck fb fs) (hr : Rising fs) : leftSum fs es #[] = (fs.map fun x => x.2.now.length).sum := by
  have h1 : leftOf es #[] = es := by unfold leftOf; rw [Array.filter_eq_self.2]; intro a _; simp
  unfold leftSum
  rw [h1]
  have h2 : (es.toList.map fun e => entLen fs e.key) = (es.toList.map fun e => (e.key, e.val)).map fun p => entLen fs p.1 := by rw [List.map_map]; rfl
  rw [h2, (M.perm.map fun p => entLen fs p.1).sum_nat, List.map_map]
  congr 1
  exact List.map_congr_left fun x hx => entLen_str hr hx
theorem leftOf_push (es : Array MapEntry) (seen : Array Nat) (b : Nat) : leftOf es (seen.push b) = (leftOf es seen).filter fun e => !(e.born == b) := by
  unfold leftOf
  rw [Array.filter_filter]
  congr 1
  funext e
  rw [Array.contains_push]
  cases seen.contains e.born <;> cases e.born == b <;> rfl
theorem sum_filter_one (g : MapEntry → Nat) (e : MapEntry) : ∀ l : List MapEntry, (l.map (·.born)).Nodup → e ∈ l → ((l.filter fun x => !(x.born == e.born)).map g).sum + g e = (l.map g).sum
  | [], _, h => by cases h
  | x :: r, hn, h => by
    rw [List.map_cons, List.nodup_cons] at hn
    rcases List.mem_cons.1 h with rfl | h
    · have : r.filter (fun x => !(x.born == e.born)) = r := List.filter_eq_self.2 fun y hy => by
        have : y.born ≠ e.born := fun he => hn.1 (he ▸ List.mem_map.2 ⟨y, hy, rfl⟩)
        simp [this]
      rw [List.filter_cons_of_neg (by simp), this]
      simp; omega
    · have hne : x.born ≠ e.born := fun he => hn.1 (he ▸ List.mem_map.2 ⟨e, h, rfl⟩)
      rw [List.filter_cons_of_pos (by simp [hne])]
      have := sum_filter_one g e r hn.2 h
      simp only [List.map_cons, List.sum_cons] at *
      omega
theorem leftSum_push {fs : List (Nm × AFile)} {es : Array MapEntry} {seen : Array Nat} {e : MapEntry} (hn : (es.toList.map (·.born)).Nodup) (he : e ∈ (leftOf es seen).toList) : leftSum fs es (seen.push e.born) + entLen fs e.key = leftSum fs es seen := by
  unfold leftSum
  rw [leftOf_push]
  have h1 : (leftOf es seen).toList.Sublist es.toList := by unfold leftOf; simp only [Array.toList_filter]; exact List.filter_sublist
  have := sum_filter_one (fun e => entLen fs e.key) e (leftOf es seen).toList (hn.sublist (h1.map _)) he
  rw [Array.toList_filter]
  exact this
theorem total_le {fs : List (Nm × AFile)} {k : Nat} (h : ∀ x ∈ fs, x.2.ok k) : (fs.map fun x => x.2.now.length).sum ≤ fs.length * 268435456 := by
  induction fs with
  | nil => simp
  | cons x r ih =>
    have h1 := (h x (List.mem_cons_self ..)).now
    have h2 := ih fun y hy => h y (List.mem_cons_of_mem _ hy)
    unfold maxFile at h1
    simp only [List.map_cons, List.sum_cons, List.length_cons, Nat.add_mul]
    omega
theorem room_c (k d : Nat) (m : ADisk) (vk vf vu : Value) (mb : Nat) (es : Array MapEntry) (ck : Nat) (fb : Nm → Nat) (w : World) (D : DiskAt' w c k d m vk vf vu mb es ck fb) (had has : Int) (h1 : 0 ≤ had) (h2 : had ≤ 1073741824) (h3 : 0 ≤ has) (h4 : has ≤ 1073741824) :
    Calls Tryz.prog 118 #[ptr d, .int .i64 had, .int .i64 has] w fun e w' => e = .returned (.int .i64 (room_ m had has)) ∧ ∀ (c : Col) S, Kp c S w w' := by
  have hc2 := D.c4
  have hc5 := D.c5
  have hc6 := D.c6
  have hc8 := D.c8
  have HD := Lib.hid D
  have HFU := Lib.hid D.plan.full
  clear D
  unfold ptr
  by_cases hin : m.ops ∈ m.plan.full
  · have hd : decide (m.ops ∈ m.plan.full) = true := by simpa using hin
    have HI := Lib.hid hin; clear hin
    go_enter Tryz.func118, Tryz.ntmps118
    go_wp2
    go_quiet ((go_at_call 160; exact Calls.quiet_of_same ((containsI _ _ _ (HFU.out.drewN _)).mono fun e w' h => ⟨h.1, h.2.symm⟩)))
    go_wp2
    go_ret
    refine ⟨ret_int ?_, fun c S => (Kp.refl c S _).drewN _⟩
    unfold room_; rw [if_pos HI.out]
  · have hd : decide (m.ops ∈ m.plan.full) = false := by simpa using hin
    have HI := Lib.hid hin; clear hin
    have hq := fun (n : Nat) => (containsI (w := w.drewN n) _ _ m.ops (HFU.out.drewN n)).mono (R' := fun e w' => e = .returned (.bool (decide (m.ops ∈ m.plan.full))) ∧ w' = w.drewN n) fun e w' h => ⟨h.1, h.2.symm⟩
    have HQ := Lib.hid hq; clear hq
    by_cases hA : m.plan.room ≤ 0
    · go_enter Tryz.func118, Tryz.ntmps118
      go_wp2
      go_quiet ((go_at_call 160; exact Calls.quiet_of_same (HQ.out _)))
      go_wp2
      go_ret
      refine ⟨ret_int ?_, fun c S => (Kp.refl c S _).drewN _⟩
      unfold room_; rw [if_neg HI.out, if_pos (.inl hA)]
    · by_cases hB : has ≤ had
      · go_enter Tryz.func118, Tryz.ntmps118
        go_wp2
        go_quiet ((go_at_call 160; exact Calls.quiet_of_same (HQ.out _)))
        go_wp2
        go_ret
        refine ⟨ret_int ?_, fun c S => (Kp.refl c S _).drewN _⟩
        unfold room_; rw [if_neg HI.out, if_pos (.inr hB)]
      · have M := HD.out.map
        have hr := HD.out.ok.rising
        have htot := total_le HD.out.ok.files
        have htot : total m ≤ m.files.length * 268435456 := htot
        have hmany := HD.out.ok.many
        have htot2 : (total m : Int) ≤ 1099511627776 := by omega
        have hall := leftSum_all M hr
        have hall : leftSum m.files es #[] = total m := hall
        have hrg : ∀ n, (Instr.range 117 (.map (some mb))).run Tryz.prog (w.drewN n) = .ok (.pointer (some ⟨w.heap.size, 0, none⟩)) ((w.drewN n).alloc (.mapIter (some mb) ck #[] ck)) := fun n => run_range_map (P := Tryz.prog) (w.drewN n) _ _ _ mb es ck Tryz.underlying117 M.heap
        have HM := Lib.hid M; clear M
        have HR := Lib.hid hr; clear hr
        have HT := Lib.hid htot; clear htot hmany
        have HAL := Lib.hid hall; clear hall
        go_enter Tryz.func118, Tryz.ntmps118
        go_wp2
        go_quiet ((go_at_call 160; exact Calls.quiet_of_same (HQ.out _)))
        go_wp2
        clear hrg
        go_loopw [7] (fun s w' => ∃ (w1 : World) (seen : Array Nat), w1.Alike w ∧ w1.tape = w.tape ∧ w' = w1.alloc (.mapIter (some mb) ck seen ck) ∧ ∃ a : Nat, a + leftSum m.files es seen = total m ∧ s = .int .i64 (has - had + (a : Int))) (fun _ w' => (leftOf es (w'.iterSeen w.heap.size)).size)
        case atStart => exact ⟨w.drewN nq, #[], ⟨rfl, rfl, rfl⟩, rfl, rfl, 0, by rw [HAL.out]; exact Nat.zero_add _, by simp⟩
        case round =>
          obtain ⟨w1, seen, hal, htp, rfl, a, hle, rfl⟩ := hrel
          have HTP := Lib.hid htp; clear htp
          have ha2 : (a : Int) ≤ 1099511627776 := by omega
          have hsz : w1.heap.size = w.heap.size := by rw [hal.1]
          have hb1 : w1.heap[mb]? = some (.map es ck) := by rw [hal.1]; exact HM.out.heap
          have law := run_next_map (P := Tryz.prog) w1 0 mb ck ck seen es ck hb1 HM.out.fit.stamped.1 (Nat.le_refl _)
          rw [hsz] at law
          have hd5 : w1.cell? ⟨d, 5, none⟩ = some (.int .i64 m.plan.room) := (World.cell?_of_block (w := w) (by rw [hal.1])).trans hc5
          have hds : d < w1.heap.size := by rw [hsz]; exact HD.out.lt
          have hd6 := (World.cell?_alloc_lt w1 (.mapIter (some mb) ck seen ck) ⟨d, 5, none⟩ hds).trans hd5
          have HZ := Lib.hid hsz; clear hsz
          rcases law with ⟨h0, hrun⟩ | ⟨e, he, w2, hal2, hrun⟩
          · have hnx : ∀ ty, (Instr.next (.pointer (some ⟨w.heap.size, 0, none⟩)) false ty).run Tryz.prog (w1.alloc (.mapIter (some mb) ck seen ck)) = _ := fun _ => hrun
            clear hrun hd5 hds
            have hl0 : leftSum m.files es seen = 0 := by
              unfold leftSum
              have : (leftOf es seen).toList = [] := List.eq_nil_of_length_eq_zero (by simpa using h0)
              rw [this]; rfl
            have hat : a = total m := by omega
            subst hat
            clear hl0 hle
            have hKK : ∀ (c : Col) S, Kp c S w w1 := fun c S => ⟨hal.2.1, HTP.out, hal.2.2, by rw [hal.1]; exact Nat.le_refl _, fun b _ _ => by rw [hal.1]⟩
            have HKK := Lib.hid hKK; clear hKK
            by_cases hfin : m.plan.room < has - had + (total m : Int)
            all_goals
              go_wp2
              go_ret
              refine ⟨ret_int ?_, fun c S => (HKK.out c S).alloc _⟩
              unfold room_
              rw [if_neg HI.out, if_neg (by omega)]
              first | rw [if_pos (by omega)] | rw [if_neg (by omega)]
          · obtain ⟨hes, hns⟩ := mem_left he
            have hk : (e.key, e.val) ∈ m.files.map fun x => (str x.1, ptr (fb x.1)) := HM.out.perm.mem_iff.1 (List.mem_map.2 ⟨e, hes, rfl⟩)
            obtain ⟨x, hx, heq⟩ := List.mem_map.1 hk
            simp only [Prod.mk.injEq] at heq
            obtain ⟨hkey, hval⟩ := heq
            have hel : entLen m.files e.key = x.2.now.length := by rw [← hkey]; exact entLen_str HR.out hx
            have HT2 := Lib.hid ((tk_next _ _ _ _ _ _ hrun).trans HTP.out)
            have hpush := leftSum_push (fs := m.files) HM.out.fit.stamped.2.1 he
            rw [hel] at hpush
            rw [← hval] at hrun
            have hnx : ∀ ty, (Instr.next (.pointer (some ⟨w.heap.size, 0, none⟩)) false ty).run Tryz.prog (w1.alloc (.mapIter (some mb) ck seen ck)) = _ := fun _ => hrun
            have hsz2 : w2.heap.size = w.heap.size := by rw [hal2.1, hal.1]
            clear hd6 hd5 hds
            have hb2 : w2.heap[mb]? = some (.map es ck) := by rw [hal2.1]; exact hb1
            have hen := run_entry_map (P := Tryz.prog) w2 mb ck seen es ck e hb2 hes HM.out.fit.stamped.2.1
            rw [hsz2, ← hval] at hen
            obtain ⟨vs, vc, vn, hh, _, _, _, hnow⟩ := HM.out.files x hx
            have hfl : fb x.1 < w2.heap.size := by rw [hsz2]; exact lt_of_heap hh
            obtain ⟨an, capn, rfl, _⟩ := hnow
            have hcn : w2.cell? ⟨fb x.1, 2, none⟩ = some (.slice an x.2.now.length capn) := by
              have h6 := cell_of_heap (w := w2) (b := fb x.1) (by rw [hal2.1, hal.1]; exact hh) 2
              rw [List.length_map] at h6
              exact h6
            have hcn2 := (World.cell?_alloc_lt w2 (.mapIter (some mb) ck (seen.push e.born) ck) ⟨fb x.1, 2, none⟩ hfl).trans hcn
            have HZ2 := Lib.hid hsz2
            have hbd : (a : Int) + (x.2.now.length : Int) ≤ 1099511627776 := by omega
            unfold ptr at hnx hen
            clear hrun hh hb1 hb2 hkey hval hel hk hsz2 hcn hfl
            have HP := Lib.hid hpush; clear hpush
            have HLE := Lib.hid hle; clear hle
            rename_i hz; clear hz
            go_wp2
            go_roundw
            case rel => exact ⟨w2, seen.push e.born, ⟨hal2.1.trans hal.1, hal2.2.1.trans hal.2.1, hal2.2.2.trans hal.2.2⟩, HT2.out, rfl, a + x.2.now.length, by have := HP.out; have := HLE.out; omega, by rw [Int.natCast_add, ← Int.add_assoc]⟩
            case measure =>
              have h6 := HZ2.out
              have h7 := HZ.out
              rw [← h6, World.iterSeen_alloc, h6, ← h7, World.iterSeen_alloc]
              exact left_shrinks es seen e he
end Go.Proofs.YtnifmoigalmcmaaGreat
namespace Go.Proofs.YtnifmoigalmcmaaGreat
open Go Go.RowKit Go.MapKept Go.Maps
open Dk
variable {c c' : Col} {w w' : World}
section
variable {k d : Nat} {m m' : ADisk} {vk vf vu vk' vf' vu' : Value} {mb : Nat} {es : Array MapEntry} {ck : Nat} {fb : Nm → Nat}
theorem DiskAt'.mb_ne (D : DiskAt' w c k d m vk vf vu mb es ck fb) : mb ≠ d := by
  intro e
  have h1 := D.heap
  have h2 := D.map.heap
  rw [e, h1] at h2; cases h2
/-- The disk's own block turned. -/
theorem DiskAt'.redo (D : DiskAt' w c k d m vk vf vu mb es ck fb) (hk0 : k ≠ 0) (hw : Kp c (fun q => q = (k, 0)) w w') (hd : w'.heap[d]? = some (.cells (diskCells m' vk' vf' vu' mb) 119 (0, 0))) (hmb : w'.heap[mb]? = w.heap[mb]?)
    (hf : m'.files = m.files) (hp : PlanAt w' c' vk' vf' vu' m'.plan) (hok : m'.ok) (hc : Cx w c c') : DiskAt' w' c' k d m' vk' vf' vu' mb es ck fb :=
  ⟨hok, hd, (hc _ D.lt).trans D.col, hp, by rw [hf]; exact D.map.mid hw hmb (fun q hq => ⟨.inl hq, by rw [hq]; simp; exact hk0⟩) hc⟩
theorem ok_ops {o : Int} (h : m.ok) (ho : m.ops ≤ o) : ({ m with ops := o } : ADisk).ok :=
  ⟨by have := h.ops0; show 0 ≤ o; omega, fun x hx => ⟨(h.files x hx).safe, (h.files x hx).now, (h.files x hx).chs, by have := (h.files x hx).many; show _ ≤ o.toNat; omega⟩, h.many, h.names, h.rising⟩
theorem DiskAt'.set_ops (D : DiskAt' w c k d m vk vf vu mb es ck fb) (hk0 : k ≠ 0) (o : Int) (ho : m.ops ≤ o) : DiskAt' (w.setCell ⟨d, 6, none⟩ (.int .i64 o)) c k d { m with ops := o } vk vf vu mb es ck fb := by
  have hw : Kp c (fun q => q = (k, 0)) w (w.setCell ⟨d, 6, none⟩ (.int .i64 o)) := (Kp.refl _ _ _).setCell (fun _ => D.col) _
  refine D.redo hk0 hw ?_ (Below.heap_setCell _ _ _ _ D.mb_ne) rfl (D.plan.kp hw (by simp; exact fun h => hk0 h.symm) (Cx.refl _ _)) (ok_ops D.ok ho) (Cx.refl _ _)
  have := heap_setCell D.heap 6 (.int .i64 o)
  simpa [diskCells] using this
theorem DiskAt'.drewN (D : DiskAt' w c k d m vk vf vu mb es ck fb) (n : Nat) : DiskAt' (w.drewN n) c k d m vk vf vu mb es ck fb :=
  D.kp (S := fun _ => False) ((Kp.refl _ _ _).drewN n) (fun _ h => h.elim) (Cx.refl _ _)
theorem DiskAt'.setKp (D : DiskAt' w c k d m vk vf vu mb es ck fb) (i : Nat) (v : Value) : Kp c (fun q => q.1 = k) w (w.setCell ⟨d, i, none⟩ v) :=
  (Kp.refl _ _ _).setCell (fun _ => by rw [D.col]) _
end
theorem begin_c (k d : Nat) (m : ADisk) (w : World) (DD : DiskAt w c k d m) (hk0 : k ≠ 0) (hops : m.ops < 900000) :
    Calls Tryz.prog 116 #[ptr d] w fun e w' => e = .returned (.int .i64 (begin_ m).1) ∧ ∃ c', Cx w c c' ∧ Kp c (fun q => q.1 = k) w w' ∧ DiskAt w' c' k d (begin_ m).2 := by
  obtain ⟨vk, vf, vu, mb, es, ck, fb, D⟩ := DD
  have hc0 := D.c0
  have hc1 := D.c1
  have hc3 := D.c3
  have hc6 := D.c6
  have hc7 := D.c7
  have hff := D.fz
  have ho0 := D.ok.ops0
  have ho1 : m.ops + 1 ≤ 900000 := by omega
  have HD := Lib.hid D; clear D
  have HK := Lib.hid hk0; clear hk0
  unfold ptr
  by_cases hdead : m.dead = true
  · rw [hdead] at hc7
    have HDE := Lib.hid hdead; clear hdead
    go_enter Tryz.func116, Tryz.ntmps116
    go_wp2_with (go_at_call 81; refine (is_one _ _ hc0).mono ?_; rintro e w' ⟨rfl, rfl⟩)
    go_ret
    refine ⟨ret_int ?_, c, Cx.refl _ _, Kp.refl _ _ _, vk, vf, vu, mb, es, ck, fb, ?_⟩
    · unfold begin_; rw [if_pos HDE.out]
    · unfold begin_; rw [if_pos HDE.out]; exact HD.out
  · have hdead : m.dead = false := by simpa using hdead
    rw [hdead] at hc7
    have HDE := Lib.hid hdead; clear hdead
    have HD1 := Lib.hid (HD.out.set_ops HK.out (m.ops + 1) (by omega))
    have HKP := Lib.hid (HD.out.setKp 6 (.int .i64 (m.ops + 1)))
    by_cases hcr : m.ops + 1 = m.plan.crash
    · have hcr' : (m.ops + 1 == m.plan.crash) = true := by simpa using hcr
      have HCR := Lib.hid hcr; clear hcr
      go_enter Tryz.func116, Tryz.ntmps116
      go_wp2_with (go_at_call 81; refine (is_one _ _ hc0).mono ?_; rintro e w' ⟨rfl, rfl⟩)
      go_quiet (fail)
      go_wp2_with (go_at_call 82; refine (die_c k d _ vk vf vu mb es ck fb _ (HD1.out.drewN nq) HK.out (by show m.ops + 1 < _; omega)).mono ?_; rintro e w' ⟨rfl, c2, hc2, hk2, hd2⟩)
      go_ret
      have e : begin_ m = (10, Dk.die { m with ops := m.ops + 1 }) := by
        unfold begin_; rw [if_neg (by rw [HDE.out]; simp)]; simp only []; rw [if_pos HCR.out]
      rw [e]
      have hs1 : Kp c (fun q => q.1 = k) w ((w.setCell ⟨d, 6, none⟩ (.int .i64 (m.ops + 1))).drewN nq) := HKP.out.drewN nq
      have hc2' : Cx w c c2 := fun b hb => hc2 b (by simpa using hb)
      exact ⟨rfl, c2, hc2', hs1.trans hk2 (Cx.refl _ _), vk, vf, vu, mb, es, ck, fb, hd2⟩
    · have hcr' : (m.ops + 1 == m.plan.crash) = false := by simpa using hcr
      have HCR := Lib.hid hcr; clear hcr
      by_cases hin : m.ops + 1 ∈ m.plan.fail
      · have hd : decide (m.ops + 1 ∈ m.plan.fail) = true := by simpa using hin
        have HI := Lib.hid hin; clear hin
        go_enter Tryz.func116, Tryz.ntmps116
        go_wp2_with (go_at_call 81; refine (is_one _ _ hc0).mono ?_; rintro e w' ⟨rfl, rfl⟩)
        go_quiet (fail)
        go_wp2
        obtain ⟨w1, hw1⟩ : ∃ w1, w1 = (w.setCell ⟨d, 6, none⟩ (.int .i64 (m.ops + 1))).drewN nq := ⟨_, rfl⟩
        have D1 : DiskAt' w1 c k d { m with ops := m.ops + 1 } vk vf vu mb es ck fb := by rw [hw1]; exact HD1.out.drewN nq
        have K1 : Kp c (fun q => q.1 = k) w w1 := by rw [hw1]; exact HKP.out.drewN nq
        have g3 := D1.c3
        have g6 := D1.c6
        have g6 : w1.cell? ⟨d, 6, none⟩ = some (.int .i64 (m.ops + 1)) := g6
        have HD2 := Lib.hid D1; clear D1
        have HK2 := Lib.hid K1; clear K1
        have hq : ∀ n, Calls Tryz.prog 160 #[vf, .int .i64 (m.ops + 1)] (w1.drewN n) fun e w' => e = .returned (.bool (decide (m.ops + 1 ∈ m.plan.fail))) ∧ w' = w1.drewN n :=
          fun n => (containsI _ _ _ (HD2.out.drewN n).plan.fail).mono fun e w' h => ⟨h.1, h.2.symm⟩
        have HQ := Lib.hid hq; clear hq
        rw [← hw1]
        clear hw1 hc0 hc1 hc3 hc6 hc7 hff
        go_quiet ((go_at_call 160; exact Calls.quiet_of_same (HQ.out _)))
        go_wp2
        go_ret
        have e : begin_ m = (11, { m with ops := m.ops + 1 }) := by
          unfold begin_; rw [if_neg (by rw [HDE.out]; simp)]; simp only []; rw [if_neg HCR.out, if_pos HI.out]
        rw [e]
        exact ⟨rfl, c, Cx.refl _ _, HK2.out.drewN _, vk, vf, vu, mb, es, ck, fb, HD2.out.drewN _⟩
      · have hd : decide (m.ops + 1 ∈ m.plan.fail) = false := by simpa using hin
        have HI := Lib.hid hin; clear hin
        go_enter Tryz.func116, Tryz.ntmps116
        go_wp2_with (go_at_call 81; refine (is_one _ _ hc0).mono ?_; rintro e w' ⟨rfl, rfl⟩)
        go_quiet (fail)
        go_wp2
        obtain ⟨w1, hw1⟩ : ∃ w1, w1 = (w.setCell ⟨d, 6, none⟩ (.int .i64 (m.ops + 1))).drewN nq := ⟨_, rfl⟩
        have D1 : DiskAt' w1 c k d { m with ops := m.ops + 1 } vk vf vu mb es ck fb := by rw [hw1]; exact HD1.out.drewN nq
        have K1 : Kp c (fun q => q.1 = k) w w1 := by rw [hw1]; exact HKP.out.drewN nq
        have g3 := D1.c3
        have g6 := D1.c6
        have g6 : w1.cell? ⟨d, 6, none⟩ = some (.int .i64 (m.ops + 1)) := g6
        have HD2 := Lib.hid D1; clear D1
        have HK2 := Lib.hid K1; clear K1
        have hq : ∀ n, Calls Tryz.prog 160 #[vf, .int .i64 (m.ops + 1)] (w1.drewN n) fun e w' => e = .returned (.bool (decide (m.ops + 1 ∈ m.plan.fail))) ∧ w' = w1.drewN n :=
          fun n => (containsI _ _ _ (HD2.out.drewN n).plan.fail).mono fun e w' h => ⟨h.1, h.2.symm⟩
        have HQ := Lib.hid hq; clear hq
        rw [← hw1]
        clear hw1 hc0 hc1 hc3 hc6 hc7 hff
        go_quiet ((go_at_call 160; exact Calls.quiet_of_same (HQ.out _)))
        go_wp2
        go_ret
        have e : begin_ m = (0, { m with ops := m.ops + 1 }) := by
          unfold begin_; rw [if_neg (by rw [HDE.out]; simp)]; simp only []; rw [if_neg HCR.out, if_neg HI.out]
        rw [e]
        exact ⟨rfl, c, Cx.refl _ _, HK2.out.drewN _, vk, vf, vu, mb, es, ck, fb, HD2.out.drewN _⟩
end Go.Proofs.YtnifmoigalmcmaaGreat
