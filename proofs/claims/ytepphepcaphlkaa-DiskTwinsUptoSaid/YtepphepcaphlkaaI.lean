import Derived.Test.YtepphepcaphlkaaH
namespace Go.Proofs.Ytepphepcaphlkaa
open Go Go.RowKit Go.MapKept Go.Maps
open Dk
variable {c : Col} {w : World}
theorem fresh_col (c : Col) (n k : Nat) : ∃ kk, kk ≠ 0 ∧ kk ≠ k ∧ ∀ b, b < n → (c b).1 ≠ kk := by
  have : ∀ n, ∃ B, ∀ b, b < n → (c b).1 ≤ B := by
    intro n
    induction n with
    | zero => exact ⟨0, fun b h => by omega⟩
    | succ n ih =>
      obtain ⟨B, hB⟩ := ih
      refine ⟨B + (c n).1, fun b h => ?_⟩
      by_cases e : b = n
      · subst e; omega
      · have := hB b (by omega); omega
  obtain ⟨B, hB⟩ := this n
  exact ⟨B + k + 1, by omega, by omega, fun b h => by have := hB b h; omega⟩
abbrev S2F : Nat × Nat → Prop := fun _ => False
def S2 (k kk : Nat) (q : Nat × Nat) : Prop := (q.1 = k ∧ q.2 ≠ 0) ∨ q = (kk, 0)
structure DInv (w2 : World) (c2 : Col) (m : ADisk) (k kk mb bi : Nat) (es : Array MapEntry) (ck : Nat) (fb : Nm → Nat) (j : Nat) (wr : World) : Prop where
  ex : ∃ c', Cx w2 c2 c' ∧ MapAt wr c' k mb es ck fb (dieAll m.plan 0 (m.files.take j) ++ m.files.drop j)
  kp : Kp c2 (S2 k kk) w2 wr
  box : wr.cell? ⟨bi, 0, none⟩ = some (.int .i64 (bx m.plan (cnt (m.files.take j))))
  fz : wr.frozen? ⟨bi, 0, none⟩ = false
abbrev S3 (k kk fbn : Nat) (q : Nat × Nat) : Prop := q = fcol k fbn ∨ q = (kk, 0)
structure DIn (w3 : World) (c3 : Col) (k kk fbn : Nat) (vc vn : Value) (p : APlan) (N0 : Nat) (f : AFile) (bi i : Nat) (wr : World) : Prop where
  ex : ∃ c' vs, Cx w3 c3 c' ∧ wr.heap[fbn]? = some (.cells #[vs, vc, vn] 80 (0, 0)) ∧ Sc wr c' (0, 0) vs ((dieFile p N0 f.safe (f.chs.take i)).map bv)
  kp : Kp c3 (S3 k kk fbn) w3 wr
  box : wr.cell? ⟨bi, 0, none⟩ = some (.int .i64 (bx p (N0 + i)))
  fz : wr.frozen? ⟨bi, 0, none⟩ = false
theorem die_round {w2 wo wr : World} {c2 c3 : Col} {m : ADisk} {k kk mb bi ck j : Nat} {es : Array MapEntry} {fb : Nm → Nat} {nm : Nm} {f : AFile} {L : List (Nm × AFile)} {vc vn vs' : Value} {c' : Col}
    (hkk0 : kk ≠ 0) (hkk : kk ≠ k) (hci : c2 bi = (kk, 0)) (hbi : bi < w2.heap.size)
    (I : DInv w2 c2 m k kk mb bi es ck fb j wo) (hc3 : Cx w2 c2 c3) (M : MapAt wo c3 k mb es ck fb L) (hL : L = dieAll m.plan 0 (m.files.take j) ++ m.files.drop j) (hr : Rising L) (hx : m.files[j]? = some (nm, f))
    (hdrop : m.files.drop j = (nm, f) :: m.files.drop (j + 1)) (hg : get L nm = some f)
    (hc' : Cx wo c3 c') (hh : wr.heap[fb nm]? = some (.cells #[vs', vc, vn] 80 (0, 0))) (hs : Sc wr c' (0, 0) vs' ((dieFile m.plan (cnt (m.files.take j)) f.safe f.chs).map bv))
    (hk : Kp c3 (S3 k kk (fb nm)) wo wr) (hb : wr.cell? ⟨bi, 0, none⟩ = some (.int .i64 (bx m.plan (cnt (m.files.take j) + f.chs.length)))) (hf : wr.frozen? ⟨bi, 0, none⟩ = false) (hcf : c3 (fb nm) = fcol k (fb nm)) :
    DInv w2 c2 m k kk mb bi es ck fb (j + 1) ((wr.setCell ⟨fb nm, 1, none⟩ (.slice none 0 0)).setCell ⟨fb nm, 2, none⟩ vs') := by
  have hne : bi ≠ fb nm := by
    intro e
    have h1 := hc3 bi hbi
    rw [e, hcf, ← e, hci] at h1
    simp only [fcol, Prod.mk.injEq] at h1
    exact hkk h1.1.symm
  have hK : Kp c3 (S3 k kk (fb nm)) wo ((wr.setCell ⟨fb nm, 1, none⟩ (.slice none 0 0)).setCell ⟨fb nm, 2, none⟩ vs') := (hk.setCell (fun _ => .inl hcf) _).setCell (fun _ => .inl hcf) _
  have hn0 : ¬ S3 k kk (fb nm) (0, 0) := by simp [S3]; exact fun h => hkk0 h.symm
  have hset : Kp (fun b => if b = fb nm then (1, 0) else (0, 0)) (fun q => q = (1, 0)) wr ((wr.setCell ⟨fb nm, 1, none⟩ (.slice none 0 0)).setCell ⟨fb nm, 2, none⟩ vs') := ((Kp.refl _ _ _).setCell (fun _ => by simp) _).setCell (fun _ => by simp) _
  have hlt1 : fb nm < wr.heap.size := lt_of_heap hh
  have hs2 : Sc ((wr.setCell ⟨fb nm, 1, none⟩ (.slice none 0 0)).setCell ⟨fb nm, 2, none⟩ vs') c' (0, 0) vs' ((dieFile m.plan (cnt (m.files.take j)) f.safe f.chs).map bv) := by
    refine Sc.kp (c := c') (S := fun q => q = fcol k (fb nm)) hs (((Kp.refl _ _ _).setCell (fun _ => ?_) _).setCell (fun _ => ?_) _) (by simp) (Cx.refl _ _)
    · exact (hc' _ (lt_of_heap (M.files _ (get_mem hg)).choose_spec.choose_spec.choose_spec.1)).trans hcf
    · exact (hc' _ (lt_of_heap (M.files _ (get_mem hg)).choose_spec.choose_spec.choose_spec.1)).trans hcf
  have hFA : FileAt ((wr.setCell ⟨fb nm, 1, none⟩ (.slice none 0 0)).setCell ⟨fb nm, 2, none⟩ vs') c' k (fb nm) { safe := dieFile m.plan (cnt (m.files.take j)) f.safe f.chs, chs := [], now := dieFile m.plan (cnt (m.files.take j)) f.safe f.chs } := by
    refine ⟨vs', .slice none 0 0, vs', ?_, (hc' _ (lt_of_heap (M.files _ (get_mem hg)).choose_spec.choose_spec.choose_spec.1)).trans hcf, hs2, ⟨[], World.ownsRow_nil _ _ _ _, by simp, by simp [Value.ownBlock]⟩, hs2⟩
    have := heap_setCell (heap_setCell hh 1 (.slice none 0 0)) 2 vs'
    simpa using this
  have hM := M.upd hg hK (fun q hq => by
    rcases hq with rfl | rfl
    · exact ⟨.inl rfl, by simp [fcol]⟩
    · exact ⟨.inr (.inr hkk), by simp; exact hkk0⟩) hc' hFA
  have hsz := I.kp.size
  refine ⟨⟨c', hc3.trans hc' hsz, ?_⟩, I.kp.trans (hK.mono ?_) hc3, ?_, ?_⟩
  · have e1 : m.files.take (j + 1) = m.files.take j ++ [(nm, f)] := by rw [List.take_add_one, hx]; rfl
    have e2 : dieAll m.plan 0 (m.files.take (j + 1)) ++ m.files.drop (j + 1) = Dk.upd L nm { safe := dieFile m.plan (cnt (m.files.take j)) f.safe f.chs, chs := [], now := dieFile m.plan (cnt (m.files.take j)) f.safe f.chs } := by
      rw [hL, hdrop] at hr ⊢
      have := upd_mid (x := (nm, f)) hr { safe := dieFile m.plan (cnt (m.files.take j)) f.safe f.chs, chs := [], now := dieFile m.plan (cnt (m.files.take j)) f.safe f.chs }
      rw [this, e1, dieAll_append]
      simp [dieAll]
    rw [e2]; exact hM
  · intro q hq
    rcases hq with rfl | rfl
    · exact .inl ⟨rfl, by simp⟩
    · exact .inr rfl
  · have e1 : cnt (m.files.take (j + 1)) = cnt (m.files.take j) + f.chs.length := by
      rw [List.take_add_one, hx]; simp [cnt]
    rw [e1]
    exact hset.cell hb (by simp; exact hne)
  · rw [World.frozen?_setCell, World.frozen?_setCell]; exact hf
section
variable {wo wr w6 : World} {c3 : Col} {k kk fbn N0 bi i : Nat} {vc vn : Value} {p : APlan} {f : AFile} {x : Chg}
theorem din_step (hkk : kk ≠ k) (hcf : c3 fbn = fcol k fbn) (I : DIn wo c3 k kk fbn vc vn p N0 f bi i wr) (hk : Kp c3 (fun q => q = (kk, 0)) wr w6) :
    ∃ c' vs, Cx wo c3 c' ∧ w6.heap[fbn]? = some (.cells #[vs, vc, vn] 80 (0, 0)) ∧ Sc wr c' (0, 0) vs ((dieFile p N0 f.safe (f.chs.take i)).map bv) := by
  obtain ⟨c', vs, hc, hh, hs⟩ := I.ex
  exact ⟨c', vs, hc, hk.heap hh (by rw [hcf]; simp only [fcol, Prod.mk.injEq, not_and]; intro e; exact absurd e.symm hkk), hs⟩
theorem sc_step {c' : Col} {v : Value} {xs : List Value} (hkk0 : kk ≠ 0) (hbi : c3 bi = (kk, 0)) (hlt : bi < wo.heap.size) (hs : Sc wr c' (0, 0) v xs) (hk : ∀ (c : Col) S, S (c bi) → Kp c S wr w6) (hc : Cx wo c3 c') : Sc w6 c' (0, 0) v xs :=
  hs.kp (hk c' (fun q => q = (kk, 0)) ((hc _ hlt).trans hbi)) (by simp; exact fun h => hkk0 h.symm) (Cx.refl _ _)
theorem din_none (I : DIn wo c3 k kk fbn vc vn p N0 f bi i wr) (hx : f.chs[i]? = some x) (hs : x.surv (keepAt p (N0 + i)) = none) (hk : Kp c3 (fun q => q = (kk, 0)) wr w6)
    {c' : Col} {vs : Value} (hc : Cx wo c3 c') (hh : w6.heap[fbn]? = some (.cells #[vs, vc, vn] 80 (0, 0))) (hsc : Sc w6 c' (0, 0) vs ((dieFile p N0 f.safe (f.chs.take i)).map bv))
    (hb : w6.cell? ⟨bi, 0, none⟩ = some (.int .i64 (bx p (N0 + i + 1)))) (hf : w6.frozen? ⟨bi, 0, none⟩ = false) : DIn wo c3 k kk fbn vc vn p N0 f bi (i + 1) w6 := by
  have hi : i < f.chs.length := (List.getElem?_eq_some_iff.1 hx).1
  have e : dieFile p N0 f.safe (f.chs.take (i + 1)) = dieFile p N0 f.safe (f.chs.take i) := by
    rw [List.take_add_one, hx]
    have := dieFile_snoc p x (f.chs.take i) N0 f.safe
    rw [List.length_take, Nat.min_eq_left (by omega), hs] at this
    exact this
  exact ⟨⟨c', vs, hc, hh, by rw [e]; exact hsc⟩, I.kp.trans (hk.mono (fun q hq => .inr hq)) (Cx.refl _ _), hb, hf⟩
theorem din_some {sv : Chg} {w7 : World} {g L : Nat} (hkk : kk ≠ k) (hcf : c3 fbn = fcol k fbn) (hcb : c3 bi = (kk, 0))
    (I : DIn wo c3 k kk fbn vc vn p N0 f bi i wr) (hx : f.chs[i]? = some x) (hs : x.surv (keepAt p (N0 + i)) = some sv) (hk : Kp c3 (fun q => q = (kk, 0)) wr w6)
    {vs : Value} (hh : w6.heap[fbn]? = some (.cells #[vs, vc, vn] 80 (0, 0)))
    (hb : w6.cell? ⟨bi, 0, none⟩ = some (.int .i64 (bx p (N0 + i + 1)))) (hf : w6.frozen? ⟨bi, 0, none⟩ = false) (h7 : Below w6.heap.size w6 w7)
    (hown : w7.ownsRow w6.heap.size 5 1 (.slice (some ⟨g, 0, none⟩) L L) L ((sv.app (dieFile p N0 f.safe (f.chs.take i))).map bv)) :
    DIn wo c3 k kk fbn vc vn p N0 f bi (i + 1) (w7.setCell ⟨fbn, 0, none⟩ (.slice (some ⟨g, 0, none⟩) L L)) := by
  have hi : i < f.chs.length := (List.getElem?_eq_some_iff.1 hx).1
  have e : dieFile p N0 f.safe (f.chs.take (i + 1)) = sv.app (dieFile p N0 f.safe (f.chs.take i)) := by
    rw [List.take_add_one, hx]
    have := dieFile_snoc p x (f.chs.take i) N0 f.safe
    rw [List.length_take, Nat.min_eq_left (by omega), hs] at this
    exact this
  have hlt6 : fbn < w6.heap.size := lt_of_heap hh
  have hg : w6.heap.size ≤ g := by
    rcases hown.2 with ⟨e, _⟩ | ⟨_, _, _, e, h, _⟩
    · cases e
    · cases e; exact h
  have hne : bi ≠ fbn := by
    intro e
    rw [e, hcf] at hcb
    simp only [fcol, Prod.mk.injEq] at hcb
    exact hkk hcb.1.symm
  have hset : Kp (fun b => if b = fbn then (1, 0) else (0, 0)) (fun q => q = (1, 0)) w7 (w7.setCell ⟨fbn, 0, none⟩ (.slice (some ⟨g, 0, none⟩) L L)) := (Kp.refl _ _ _).setCell (fun _ => by simp) _
  have hszo : wo.heap.size ≤ w6.heap.size := Nat.le_trans I.kp.size hk.size
  refine ⟨⟨fun b => if b < wo.heap.size then c3 b else (0, 0), .slice (some ⟨g, 0, none⟩) L L, fun b hb => if_pos hb, ?_, ?_⟩, ?_, ?_, ?_⟩
  · have := heap_setCell ((h7.block fbn hlt6).trans hh) 0 (.slice (some ⟨g, 0, none⟩) L L)
    simpa using this
  · rw [e]
    refine Sc.of_owns (ownsRow_kp (q := (0, 0)) hown (fun g' hg' => ?_) hset (by simp)) (fun g' hg' => ?_)
    · cases hg'; rw [if_neg (by show ¬ g = fbn; omega)]
    · cases hg'; show (if g < wo.heap.size then c3 g else (0, 0)) = _; rw [if_neg (by omega)]
  · exact I.kp.trans (((hk.mono (fun q hq => (.inr hq : S3 k kk fbn q))).below h7 hk.size).setCell (fun _ => .inl hcf) _) (Cx.refl _ _)
  · exact hset.cell ((h7.cell (p := ⟨bi, 0, none⟩) (World.block_lt_of_cell? _ _ hb)).trans hb) (by simp; exact hne)
  · rw [World.frozen?_setCell]; exact (h7.frozen (p := ⟨bi, 0, none⟩) (World.block_lt_of_cell? _ _ hb)).trans hf
end
theorem nilS_write (n : Nat) (w : World) (v : Value) : (nilAhead (n + 1) 104 v "cairn/disk.survivor").run Try.prog w = .ok (some false) w := by kernel_rfl
theorem methS_write (n : Nat) (w : World) (v : Value) : (method (n + 1) 104 v "cairn/disk.survivor").run Try.prog w = .ok (121, v) w := by kernel_rfl
theorem nilS_cut (n : Nat) (w : World) (v : Value) : (nilAhead (n + 1) 107 v "cairn/disk.survivor").run Try.prog w = .ok (some false) w := by kernel_rfl
theorem methS_cut (n : Nat) (w : World) (v : Value) : (method (n + 1) 107 v "cairn/disk.survivor").run Try.prog w = .ok (124, v) w := by kernel_rfl
set_option maxHeartbeats 4000000 in
theorem die_c (k d : Nat) (m : ADisk) (vk vf vu : Value) (mb : Nat) (es : Array MapEntry) (ck : Nat) (fb : Nm → Nat) (w : World) (D : DiskAt' w c k d m vk vf vu mb es ck fb) (hk0 : k ≠ 0) (hops : m.ops < 1000000) :
    Calls Try.prog 41 #[ptr d] w fun e w' => e = .returned (.tuple #[]) ∧ ∃ c', Cx w c c' ∧ Kp c (fun q => q.1 = k) w w' ∧ DiskAt' w' c' k d (Dk.die m) vk vf vu mb es ck fb := by
  have HD := Lib.hid D
  have HO := Lib.hid hops; clear hops
  have HK0 := Lib.hid hk0; clear hk0
  clear D
  unfold ptr
  go_enter Try.func41, Try.ntmps41
  go_wp2_with (go_at_call 58; refine (names_c k d m vk vf vu mb es ck fb _ (HD.out.kp (S := fun _ => False) (((Kp.refl c _ w).alloc _).alloc _) (fun _ h => h.elim) (Cx.refl _ _))).mono ?_; rintro e w2 ⟨v, rfl, hrow, hb⟩; obtain ⟨av, capv, rfl, _⟩ := Sc.of_owns (c := fun _ => (0, 0)) (q := (0, 0)) hrow (fun _ _ => rfl); have HR := Lib.hid hrow; have HB := Lib.hid hb; clear hrow hb)
  have K2 : ∀ S, Kp c S w w2 := fun S => (((Kp.refl c S w).alloc _).alloc _).below HB.out (by simp; omega)
  have hbd : w2.cell? ⟨w.heap.size, 0, none⟩ = some (ptr d) := (HB.out.cell (p := ⟨w.heap.size, 0, none⟩) (by simp; omega)).trans (by rw [World.cell?_alloc_lt _ _ _ (by simp)]; simp; rfl)
  have hbi : w2.cell? ⟨w.heap.size + 1, 0, none⟩ = some (.int .i64 0) := (HB.out.cell (p := ⟨w.heap.size + 1, 0, none⟩) (by simp)).trans (World.cell?_alloc_at _ _ _ _ (by simp))
  have hfi : w2.frozen? ⟨w.heap.size + 1, 0, none⟩ = false := (HB.out.frozen (p := ⟨w.heap.size + 1, 0, none⟩) (by simp)).trans (World.frozen?_alloc_at _ _ _ _ (by simp))
  obtain ⟨kk, hkk0, hkk, hkf⟩ := fresh_col c w.heap.size k
  obtain ⟨c2, hc2⟩ : ∃ c2 : Col, c2 = fun b => if b < w.heap.size then c b else if b = w.heap.size + 1 then (kk, 0) else (0, 0) := ⟨_, rfl⟩
  have HCx : Hid (Cx w c c2) := by intro b hb; rw [hc2]; exact if_pos hb
  have D2 := HD.out.kp (K2 (fun _ => False)) (fun _ h => h.elim) HCx.out
  have hcd : c2 w.heap.size = (0, 0) := by rw [hc2]; simp
  have hci : c2 (w.heap.size + 1) = (kk, 0) := by
    rw [hc2]
    show (if w.heap.size + 1 < w.heap.size then _ else if w.heap.size + 1 = w.heap.size + 1 then _ else _) = _
    rw [if_neg (by omega), if_pos rfl]
  have HN : Hid (Sc w2 c2 (0, 0) (.slice av (m.files.map fun x => str x.1).length capv) (m.files.map fun x => str x.1)) := by
    have := HR.out
    have e : (m.files.map (·.1)).map str = m.files.map fun x => str x.1 := by rw [List.map_map]; rfl
    rw [e] at this
    refine Sc.of_owns this (fun g hg => ?_)
    have hg2 := this.2
    rcases hg2 with ⟨h, _⟩ | ⟨g', _, _, h, hle, _⟩
    · injection h with h1; subst h1; cases hg
    · injection h with h1; subst h1; cases hg
      simp at hle
      rw [hc2]
      show (if g' < w.heap.size then c g' else if g' = w.heap.size + 1 then (kk, 0) else (0, 0)) = _
      rw [if_neg (by omega), if_neg (by omega)]
  rename_i hx; clear hx HR HB hc2
  have HKK0 := Lib.hid hkk0; clear hkk0
  have HKK := Lib.hid hkk; clear hkk
  have HKF := Lib.hid hkf; clear hkf
  have HW := Lib.hid K2; clear K2
  have HBD := Lib.hid hbd; clear hbd
  have HBI := Lib.hid hbi; clear hbi
  have HFI := Lib.hid hfi; clear hfi
  have HD2 := Lib.hid D2; clear D2
  have HCD := Lib.hid hcd; clear hcd
  have HCI := Lib.hid hci; clear hci
  obtain ⟨bi, hbi⟩ : ∃ bi, bi = w.heap.size + 1 := ⟨_, rfl⟩
  obtain ⟨bd, hbd⟩ : ∃ bd, bd = w.heap.size := ⟨_, rfl⟩
  rw [← hbi] at HBI HFI HCI ⊢
  rw [← hbd] at HBD HCD ⊢
  clear hbi hbd
  go_loopw [14] (fun s wr => ∃ j : Nat, j ≤ m.files.length ∧ s = .int .i64 j ∧ DInv w2 c2 m k kk mb bi es ck fb j wr) (fun s _ => m.files.length - (intOf s).toNat)
  case atStart =>
    refine ⟨0, Nat.zero_le _, rfl, ⟨c2, Cx.refl _ _, ?_⟩, Kp.refl _ _ _, ?_, HFI.out⟩
    · simpa [dieAll] using HD2.out.map
    · rw [HBI.out]; simp [cnt, bx]
  case round =>
    obtain ⟨j, hj, rfl, I⟩ := hrel
    have HI := Lib.hid I; clear I
    by_cases hlt : j < m.files.length
    · have hmany : (m.files.length : Int) ≤ 4096 := by have := HD.out.ok.many; omega
      obtain ⟨c3, hc3, M⟩ := HI.out.ex
      obtain ⟨nm, f, hx⟩ : ∃ nm f, m.files[j]? = some (nm, f) := ⟨m.files[j].1, m.files[j].2, List.getElem?_eq_getElem hlt⟩
      have hdrop : m.files.drop j = (nm, f) :: m.files.drop (j + 1) := by
        rw [List.drop_eq_getElem_cons hlt]; congr 1; rw [List.getElem?_eq_getElem hlt] at hx; exact Option.some.inj hx
      obtain ⟨L, hL⟩ : ∃ L, L = dieAll m.plan 0 (m.files.take j) ++ m.files.drop j := ⟨_, rfl⟩
      have hnames : L.map (·.1) = m.files.map (·.1) := by
        rw [hL, List.map_append, dieAll_names, ← List.map_append, List.take_append_drop]
      have hrise : Rising L := rising_of_names hnames HD.out.ok.rising
      rw [← hL] at M
      have hget : get L nm = some f := get_of_mem hrise (x := (nm, f)) (by rw [hL, hdrop]; simp)
      have hnl : nm.length ≤ maxLen := by
        have h1 := HD.out.ok.names _ (List.mem_of_getElem? hx)
        have h1 : nm.length ≤ 32 := h1
        unfold maxLen; omega
      have hlook : (Instr.lookup 63 (.map (some mb)) (str nm) false).run Try.prog wr = .ok (.pointer (some ⟨fb nm, 0, none⟩)) wr := look_hit M hrise hnl hget
      have hFA : FileAt wr c3 k (fb nm) f := M.files _ (get_mem hget)
      obtain ⟨nb, no, rfl, hnc⟩ : ∃ nb no, av = some ⟨nb, no, none⟩ ∧ wr.cell? ⟨nb, no + j, none⟩ = some (str nm) := by
        obtain ⟨a', cap', e, hle, _, h0, h1⟩ := HN.out
        injection e with e1 e2 e3
        have hj' : (m.files.map fun x => str x.1)[j]? = some (str nm) := by rw [List.getElem?_map, hx]; rfl
        cases a' with
        | none =>
          have := h0 rfl
          rw [List.length_map] at hle
          omega
        | some ad =>
          obtain ⟨h2, h3⟩ := h1 ad rfl
          obtain ⟨b, o, s⟩ := ad
          cases h2
          obtain ⟨h4, h5⟩ := h3 j _ hj'
          exact ⟨b, o, e1, HI.out.kp.cell h5 (by show ¬ S2 k kk (c2 b); rw [h4]; simp [S2]; exact fun h => HKK0.out h.symm)⟩
      obtain ⟨vs, vc, vn, hh, hcf, hs, ⟨xs, hown, hxs, hgc⟩, hnow⟩ := hFA
      obtain ⟨ac, capc, hvc⟩ : ∃ ac capc, vc = .slice ac f.chs.length capc := by
        obtain ⟨a', cap', e, _⟩ := Sc.of_owns (c := fun _ => (0, 0)) (q := (0, 0)) hown (fun _ _ => rfl)
        exact ⟨a', cap', by rw [e, show xs.length = f.chs.length from by have := hown.1; omega]⟩
      subst hvc
      have hb := HI.out.kp.cell HBD.out (by rw [HCD.out]; simp [S2]; exact fun h => HKK0.out h.symm)
      have h8 := HI.out.kp.cell HD2.out.c8 (by rw [HD2.out.col]; simp [S2]; exact fun h => HKK.out h.symm)
      have hc1 := cell_of_heap hh 1
      have hc1 : wr.cell? ⟨fb nm, 1, none⟩ = some (.slice ac f.chs.length capc) := hc1
      have hfok := HD.out.ok.files _ (List.mem_of_getElem? hx)
      have hfok : f.ok m.ops.toNat := hfok
      have hclen : (f.chs.length : Int) ≤ 9223372036854775807 := by have h1 := hfok.many; have h2 := HO.out; omega
      have HFO := Lib.hid hfok; clear hfok
      unfold ptr at hb
      have HM := Lib.hid M; clear M
      have HC3 := Lib.hid hc3; clear hc3
      have HX := Lib.hid hx; clear hx
      have HDR := Lib.hid hdrop; clear hdrop
      have HL := Lib.hid hL; clear hL
      have HNM := Lib.hid hnames; clear hnames
      have HRS := Lib.hid hrise; clear hrise
      have HG := Lib.hid hget; clear hget
      have HH := Lib.hid hh; clear hh
      have HCF := Lib.hid hcf; clear hcf
      have HS := Lib.hid hs; clear hs
      have HOW := Lib.hid hown; clear hown
      have HXS := Lib.hid hxs; clear hxs
      have HGC := Lib.hid hgc; clear hgc
      have HNW := Lib.hid hnow; clear hnow
      go_wp2
      obtain ⟨wo, hwo⟩ : ∃ wo : World, wo = wr := ⟨_, rfl⟩
      subst hwo
      clear hlook hb h8 hc1 hnc
      go_loopw [29] (fun s wr => ∃ i : Nat, i ≤ f.chs.length ∧ s = .int .i64 i ∧ DIn wo c3 k kk (fb nm) (.slice ac f.chs.length capc) vn m.plan (cnt (m.files.take j)) f bi i wr) (fun s _ => f.chs.length - (intOf s).toNat)
      case atStart =>
        refine ⟨0, Nat.zero_le _, rfl, ⟨c3, vs, Cx.refl _ _, HH.out, ?_⟩, Kp.refl _ _ _, HI.out.box, HI.out.fz⟩
        simpa [dieFile] using HS.out
      case round =>
        obtain ⟨i, hi, rfl, I2⟩ := hrel
        have HI2 := Lib.hid I2; clear I2
        by_cases hlt2 : i < f.chs.length
        · obtain ⟨x, hxx⟩ : ∃ x, f.chs[i]? = some x := ⟨_, List.getElem?_eq_getElem hlt2⟩
          have hxl : xs.length = f.chs.length := by have := HOW.out.1; omega
          obtain ⟨xv, hxv⟩ : ∃ xv, xs[i]? = some xv := ⟨_, List.getElem?_eq_getElem (by omega)⟩
          have hch := HXS.out i xv x hxv hxx
          have hxok : x.ok := HFO.out.chs x (List.mem_of_getElem? hxx)
          obtain ⟨gb, rfl, hcell⟩ : ∃ gb, ac = some ⟨gb, 0, none⟩ ∧ wr.cell? ⟨gb, i, none⟩ = some xv := by
            have hsc := Sc.of_owns (c := c3) (q := gcol k (fb nm)) HOW.out HGC.out
            rcases hsc.cases with ⟨e, h0⟩ | ⟨b, o, cap, e, _, _, h3, h4⟩
            · rw [h0] at hxv; cases hxv
            · rcases HOW.out.2 with ⟨e2, _⟩ | ⟨g, cap', cur, e2, _⟩
              · injection e2 with e3; subst e3; cases e
              · injection e2 with e3; subst e3
                injection e with e4
                injection e4 with e4
                injection e4 with e5 e6
                subst e5 e6
                have h5 := h4 i xv hxv
                rw [Nat.zero_add] at h5
                refine ⟨g, rfl, HI2.out.kp.cell h5 ?_⟩
                rw [h3 (by intro h; rw [h] at hxv; cases hxv)]
                simp only [S3, fcol, gcol, Prod.mk.injEq, not_or]
                exact ⟨by omega, by omega⟩
          have hn0 : ¬ S3 k kk (fb nm) (0, 0) := by simp [S3]; exact fun h => HKK0.out h.symm
          have hs0 : ¬ S2 k kk (0, 0) := by simp [S2]; exact fun h => HKK0.out h.symm
          have hs1 : ¬ S2 k kk (k, 0) := by simp [S2]; exact fun h => HKK.out h.symm
          have hn1 : ¬ S3 k kk (fb nm) (k, 0) := by simp [S3, fcol]; exact fun h => HKK.out h.symm
          have hb := HI2.out.kp.cell (HI.out.kp.cell HBD.out (by rw [HCD.out]; exact hs0)) (by
            rw [HC3.out _ (World.block_lt_of_cell? _ _ HBD.out), HCD.out]; exact hn0)
          have h2 := HI2.out.kp.cell (HI.out.kp.cell HD2.out.c2 (by rw [HD2.out.col]; exact hs1)) (by
            rw [HC3.out _ HD2.out.lt, HD2.out.col]; exact hn1)
          have hpk := (HD2.out.plan.keep.kp HI.out.kp hs0 HC3.out).kp HI2.out.kp hn0 (Cx.refl _ _)
          have hbox := HI2.out.box
          have hbf := HI2.out.fz
          have hN : cnt (m.files.take j) + i < 4611686018427387904 := by
            have h1 := cnt_le (K := m.ops.toNat) (fs := m.files.take j) (fun y hy => (HD.out.ok.files y (List.mem_of_mem_take hy)).many)
            have h3 := HD.out.ok.many
            have h4 := HO.out
            have h5 := HFO.out.many
            have h6 : (m.files.take j).length * m.ops.toNat ≤ 4096 * 1000000 := Nat.mul_le_mul (by rw [List.length_take]; omega) (by omega)
            omega
          have HI3 : Hid (c3 bi = (kk, 0)) := (HC3.out _ (World.block_lt_of_cell? _ _ HBI.out)).trans HCI.out
          have HKQ : Hid (¬ ((0, 0) : Nat × Nat) = (kk, 0)) := by intro h; injection h with h; exact HKK0.out h.symm
          have HNN := Lib.hid hN; clear hN
          have HPK := Lib.hid hpk; clear hpk
          have HBX := Lib.hid hbox; clear hbox
          have HBF := Lib.hid hbf; clear hbf
          have HB := Lib.hid hb; clear hb
          have H2 := Lib.hid h2; clear h2
          have HXX := Lib.hid hxx; clear hxx
          have HXV := Lib.hid hxv; clear hxv
          have HXO := Lib.hid hxok; clear hxok
          have HCH := Lib.hid (hch.kp HI2.out.kp hn0 (Cx.refl _ _)); clear hch
          have HN0 := Lib.hid hn0; clear hn0
          clear hs0 hs1 hn1 hxl
          cases x with
          | wr i0 b =>
            obtain ⟨vb, rfl, hvb⟩ := HCH.out
            have HVB := Lib.hid hvb; clear hvb
            go_wp2
            have q1 := nilS_write
            have q2 := methS_write
            go_region_with (first
              | (go_at_call 65; refine (die1_any bd bi d (cnt (m.files.take j) + i) m.plan vk wr.drew HNN.out HB.out HBX.out HBF.out H2.out HPK.out).mono ?_; rintro e w5 ⟨rfl, hk5, hb5, hf5⟩; have HK5 := Lib.hid hk5; have HB5 := Lib.hid hb5; have HF5 := Lib.hid hf5; have HVB5 := Lib.hid (HVB.out.kp (show Kp c3 (fun q => q = (kk, 0)) wr w5 from ((Kp.refl _ _ _).drew).trans (hk5 c3 (fun q => q = (kk, 0)) HI3.out) (Cx.refl _ _)) HKQ.out (Cx.refl _ _)); clear hk5 hb5 hf5)
              | (go_at_call 121; refine (write_surv i0 vb b _ _ HVB5.out HXO.out).mono ?_; rintro e w6 ⟨v6, rfl, hsv, hb6⟩; have HSV := Lib.hid hsv; have HB6 := Lib.hid hb6; clear hsv hb6))
            all_goals
              have hk5' : Hid (∀ (c : Col) S, S (c bi) → Kp c S wr w6) := fun c S h => (((Kp.refl _ _ _).drew).trans (HK5.out c S h) (Cx.refl _ _)).below HB6.out (HK5.out c S h).size
              have hk6 : Hid (Kp c3 (fun q => q = (kk, 0)) wr w6) := hk5'.out c3 _ HI3.out
              have HB66 : Hid (w6.cell? ⟨bi, 0, none⟩ = some (.int .i64 (bx m.plan (cnt (m.files.take j) + i + 1)))) := (HB6.out.cell (p := ⟨bi, 0, none⟩) (World.block_lt_of_cell? _ _ HB5.out)).trans HB5.out
              have HF66 : Hid (w6.frozen? ⟨bi, 0, none⟩ = false) := (HB6.out.frozen (p := ⟨bi, 0, none⟩) (World.block_lt_of_cell? _ _ HB5.out)).trans HF5.out
              obtain ⟨c', vs', hcc, hhr, hsr⟩ := HI2.out.ex
              have HH6 : Hid (w6.heap[fb nm]? = some (.cells #[vs', .slice (some ⟨gb, 0, none⟩) f.chs.length capc, vn] 80 (0, 0))) := hk6.out.heap hhr (by rw [HCF.out]; simp only [fcol, Prod.mk.injEq, not_and]; intro e; exact absurd e.symm HKK.out)
              have HS6 := Lib.hid (sc_step HKK0.out HI3.out (Nat.lt_of_lt_of_le (World.block_lt_of_cell? _ _ HBI.out) HI.out.kp.size) hsr hk5'.out hcc)
              have HCC := Lib.hid hcc
              clear hcc hhr hsr
              have hlt6 : fb nm < w6.heap.size := lt_of_heap HH6.out
              have cf0 : w6.cell? ⟨fb nm, 0, none⟩ = some vs' := cell_of_heap HH6.out 0
              have ff0 : w6.frozen? ⟨fb nm, 0, none⟩ = false := unfrozen_of_heap HH6.out 0
              have HDL : Hid ((dieFile m.plan (cnt (m.files.take j)) f.safe (f.chs.take i)).length ≤ maxFile) := dieFile_len _ _ _ _ HFO.out.safe (fun c hc => HFO.out.chs c (List.mem_of_mem_take hc))
              have HSVo := HSV.out
              clear HSV
              cases hsu : (Chg.wr i0 b).surv (keepAt m.plan (cnt (m.files.take j) + i)) with
              | none =>
                rw [hsu] at HSVo
                have HSVo : v6 = .nilIface := HSVo
                subst HSVo
                have HSU := Lib.hid hsu; clear hsu
                go_wp2
                go_roundw
                case rel => exact ⟨i + 1, by omega, by go_num, din_none HI2.out HXX.out HSU.out hk6.out HCC.out HH6.out HS6.out HB66.out HF66.out⟩
                case measure => simp [intOf]; omega
              | some sv =>
                rw [hsu] at HSVo
                have HSU := Lib.hid hsu; clear hsu
                have HSO := Lib.hid (surv_ok HXO.out HSU.out)
                cases sv with
                | wr i1 b1 =>
                  obtain ⟨vb1, rfl, hvb1⟩ := HSVo
                  have HV1 := Lib.hid hvb1; clear hvb1
                  have q3 := nilA_write
                  have q4 := meth_write
                  go_wp2
                  go_region_with (first | (go_at_call 120; refine (write_apply i1 vb1 vs' b1 _ w6.drew HV1.out.drew HS6.out.drew HDL.out HSO.out).mono ?_; rintro e w7 ⟨g7, rfl, hown7, hb7⟩; have cg0 := (bcell hb7).1 (fb nm) 0 hlt6; have fg0 := (bcell hb7).2 (fb nm) 0 hlt6; have HO7 := Lib.hid hown7; have HB7 : Hid (Below w6.heap.size w6 w7) := ((Below.refl _ w6).drew).trans hb7; clear hown7 hb7))
                  all_goals
                    go_wp2
                    go_roundw
                    case rel => exact ⟨i + 1, by omega, by go_num, din_some HKK.out HCF.out HI3.out HI2.out HXX.out HSU.out hk6.out HH6.out HB66.out HF66.out HB7.out HO7.out⟩
                    case measure => simp [intOf]; omega
                | cut n1 =>
                  have HSVo : v6 = .iface 107 (.agg #[.int .i64 n1]) := HSVo
                  subst HSVo
                  have q3 := nilA_cut
                  have q4 := meth_cut
                  go_wp2
                  go_region_with (first | (go_at_call 123; refine (cut_apply n1 vs' _ w6.drew HS6.out.drew HSO.out).mono ?_; rintro e w7 ⟨g7, rfl, hown7, hb7⟩; have cg0 := (bcell hb7).1 (fb nm) 0 hlt6; have fg0 := (bcell hb7).2 (fb nm) 0 hlt6; have HO7 := Lib.hid hown7; have HB7 : Hid (Below w6.heap.size w6 w7) := ((Below.refl _ w6).drew).trans hb7; clear hown7 hb7))
                  all_goals
                    go_wp2
                    go_roundw
                    case rel => exact ⟨i + 1, by omega, by go_num, din_some HKK.out HCF.out HI3.out HI2.out HXX.out HSU.out hk6.out HH6.out HB66.out HF66.out HB7.out HO7.out⟩
                    case measure => simp [intOf]; omega
          | cut n =>
            have hxe : xv = .iface 107 (.agg #[.int .i64 n]) := HCH.out
            subst hxe
            go_wp2
            have q1 := nilS_cut
            have q2 := methS_cut
            go_region_with (first
              | (go_at_call 65; refine (die1_any bd bi d (cnt (m.files.take j) + i) m.plan vk wr.drew HNN.out HB.out HBX.out HBF.out H2.out HPK.out).mono ?_; rintro e w5 ⟨rfl, hk5, hb5, hf5⟩; have HK5 := Lib.hid hk5; have HB5 := Lib.hid hb5; have HF5 := Lib.hid hf5; clear hk5 hb5 hf5)
              | (go_at_call 124; refine (cut_surv (c := c3) n _ _).mono ?_; rintro e w6 ⟨v6, rfl, hsv, hb6⟩; have HSV := Lib.hid hsv; have HB6 := Lib.hid hb6; clear hsv hb6))
            all_goals
              have hk5' : Hid (∀ (c : Col) S, S (c bi) → Kp c S wr w6) := fun c S h => (((Kp.refl _ _ _).drew).trans (HK5.out c S h) (Cx.refl _ _)).below HB6.out (HK5.out c S h).size
              have hk6 : Hid (Kp c3 (fun q => q = (kk, 0)) wr w6) := hk5'.out c3 _ HI3.out
              have HB66 : Hid (w6.cell? ⟨bi, 0, none⟩ = some (.int .i64 (bx m.plan (cnt (m.files.take j) + i + 1)))) := (HB6.out.cell (p := ⟨bi, 0, none⟩) (World.block_lt_of_cell? _ _ HB5.out)).trans HB5.out
              have HF66 : Hid (w6.frozen? ⟨bi, 0, none⟩ = false) := (HB6.out.frozen (p := ⟨bi, 0, none⟩) (World.block_lt_of_cell? _ _ HB5.out)).trans HF5.out
              obtain ⟨c', vs', hcc, hhr, hsr⟩ := HI2.out.ex
              have HH6 : Hid (w6.heap[fb nm]? = some (.cells #[vs', .slice (some ⟨gb, 0, none⟩) f.chs.length capc, vn] 80 (0, 0))) := hk6.out.heap hhr (by rw [HCF.out]; simp only [fcol, Prod.mk.injEq, not_and]; intro e; exact absurd e.symm HKK.out)
              have HS6 := Lib.hid (sc_step HKK0.out HI3.out (Nat.lt_of_lt_of_le (World.block_lt_of_cell? _ _ HBI.out) HI.out.kp.size) hsr hk5'.out hcc)
              have HCC := Lib.hid hcc
              clear hcc hhr hsr
              have hlt6 : fb nm < w6.heap.size := lt_of_heap HH6.out
              have cf0 : w6.cell? ⟨fb nm, 0, none⟩ = some vs' := cell_of_heap HH6.out 0
              have ff0 : w6.frozen? ⟨fb nm, 0, none⟩ = false := unfrozen_of_heap HH6.out 0
              have HDL : Hid ((dieFile m.plan (cnt (m.files.take j)) f.safe (f.chs.take i)).length ≤ maxFile) := dieFile_len _ _ _ _ HFO.out.safe (fun c hc => HFO.out.chs c (List.mem_of_mem_take hc))
              have HSVo := HSV.out
              clear HSV
              cases hsu : (Chg.cut n).surv (keepAt m.plan (cnt (m.files.take j) + i)) with
              | none =>
                rw [hsu] at HSVo
                have HSVo : v6 = .nilIface := HSVo
                subst HSVo
                have HSU := Lib.hid hsu; clear hsu
                go_wp2
                go_roundw
                case rel => exact ⟨i + 1, by omega, by go_num, din_none HI2.out HXX.out HSU.out hk6.out HCC.out HH6.out HS6.out HB66.out HF66.out⟩
                case measure => simp [intOf]; omega
              | some sv =>
                rw [hsu] at HSVo
                have HSU := Lib.hid hsu; clear hsu
                have HSO := Lib.hid (surv_ok HXO.out HSU.out)
                cases sv with
                | wr i1 b1 =>
                  obtain ⟨vb1, rfl, hvb1⟩ := HSVo
                  have HV1 := Lib.hid hvb1; clear hvb1
                  have q3 := nilA_write
                  have q4 := meth_write
                  go_wp2
                  go_region_with (first | (go_at_call 120; refine (write_apply i1 vb1 vs' b1 _ w6.drew HV1.out.drew HS6.out.drew HDL.out HSO.out).mono ?_; rintro e w7 ⟨g7, rfl, hown7, hb7⟩; have cg0 := (bcell hb7).1 (fb nm) 0 hlt6; have fg0 := (bcell hb7).2 (fb nm) 0 hlt6; have HO7 := Lib.hid hown7; have HB7 : Hid (Below w6.heap.size w6 w7) := ((Below.refl _ w6).drew).trans hb7; clear hown7 hb7))
                  all_goals
                    go_wp2
                    go_roundw
                    case rel => exact ⟨i + 1, by omega, by go_num, din_some HKK.out HCF.out HI3.out HI2.out HXX.out HSU.out hk6.out HH6.out HB66.out HF66.out HB7.out HO7.out⟩
                    case measure => simp [intOf]; omega
                | cut n1 =>
                  have HSVo : v6 = .iface 107 (.agg #[.int .i64 n1]) := HSVo
                  subst HSVo
                  have q3 := nilA_cut
                  have q4 := meth_cut
                  go_wp2
                  go_region_with (first | (go_at_call 123; refine (cut_apply n1 vs' _ w6.drew HS6.out.drew HSO.out).mono ?_; rintro e w7 ⟨g7, rfl, hown7, hb7⟩; have cg0 := (bcell hb7).1 (fb nm) 0 hlt6; have fg0 := (bcell hb7).2 (fb nm) 0 hlt6; have HO7 := Lib.hid hown7; have HB7 : Hid (Below w6.heap.size w6 w7) := ((Below.refl _ w6).drew).trans hb7; clear hown7 hb7))
                  all_goals
                    go_wp2
                    go_roundw
                    case rel => exact ⟨i + 1, by omega, by go_num, din_some HKK.out HCF.out HI3.out HI2.out HXX.out HSU.out hk6.out HH6.out HB66.out HF66.out HB7.out HO7.out⟩
                    case measure => simp [intOf]; omega
        · obtain rfl : i = f.chs.length := by omega
          obtain ⟨c', vs', hc', hh', hs'⟩ := HI2.out.ex
          rw [List.take_of_length_le (Nat.le_refl _)] at hs'
          have g1 : wr.cell? ⟨fb nm, 1, none⟩ = some (.slice ac f.chs.length capc) := cell_of_heap hh' 1
          have g2 : wr.cell? ⟨fb nm, 2, none⟩ = some vn := cell_of_heap hh' 2
          have g0 : wr.cell? ⟨fb nm, 0, none⟩ = some vs' := cell_of_heap hh' 0
          have gf := unfrozen_of_heap hh'
          have HHH := Lib.hid hh'; clear hh'
          have HSS := Lib.hid hs'; clear hs'
          have HCC := Lib.hid hc'; clear hc'
          obtain ⟨asv, caps, rfl⟩ : ∃ asv caps, vs' = .slice asv (dieFile m.plan (cnt (m.files.take j)) f.safe f.chs).length caps := by
            obtain ⟨a', cap', e, _⟩ := HSS.out
            exact ⟨a', cap', by rw [e, List.length_map]⟩
          go_wp2
          go_roundw
          case rel => exact ⟨j + 1, by omega, by go_num, die_round HKK0.out HKK.out HCI.out (World.block_lt_of_cell? _ _ HBI.out) HI.out HC3.out HM.out HL.out HRS.out HX.out HDR.out HG.out HCC.out HHH.out HSS.out HI2.out.kp HI2.out.box HI2.out.fz HCF.out⟩
          case measure => simp [intOf]; omega
    · obtain rfl : j = m.files.length := by omega
      have h7 := HI.out.kp.cell HD2.out.c7 (by rw [HD2.out.col]; simp [S2]; exact fun h => HKK.out h.symm)
      have hf7 : wr.frozen? ⟨d, 7, none⟩ = false := unfrozen_of_heap (HI.out.kp.heap HD2.out.heap (by rw [HD2.out.col]; simp [S2]; exact fun h => HKK.out h.symm)) 7
      have hb := HI.out.kp.cell HBD.out (by rw [HCD.out]; simp [S2]; exact fun h => HKK0.out h.symm)
      unfold ptr at hb
      go_wp2
      go_end0
      refine ⟨rfl, ?_⟩
      obtain ⟨c', hc', M⟩ := HI.out.ex
      rw [List.take_of_length_le (Nat.le_refl _), List.drop_of_length_le (Nat.le_refl _), List.append_nil] at M
      have hC : Cx w c c' := HCx.out.trans hc' (HW.out (fun _ => False)).size
      have hcd : c' d = (k, 0) := (hC d HD.out.lt).trans HD.out.col
      have hw : wr.heap[d]? = _ := HI.out.kp.heap HD2.out.heap (by rw [HD2.out.col]; simp [S2]; exact fun h => HKK.out h.symm)
      have hne : mb ≠ d := by
        intro e
        have := M.heap
        rw [e, hw] at this; cases this
      have hK : Kp c (fun q => q.1 = k) w wr :=
        ⟨HI.out.kp.os.trans (HW.out S2F).os, HI.out.kp.tape.trans (HW.out S2F).tape, HI.out.kp.output.trans (HW.out S2F).output, Nat.le_trans (HW.out S2F).size HI.out.kp.size, fun b hb hn => by
          have h1 := (HW.out (fun _ => False)).block b hb (fun h => h)
          refine (HI.out.kp.block b (Nat.lt_of_lt_of_le hb (HW.out S2F).size) (fun hs => ?_)).trans h1
          rw [HCx.out b hb] at hs
          rcases hs with ⟨h, _⟩ | h
          · exact hn h
          · exact HKF.out b hb (by rw [h])⟩
      have hset : Kp c' (fun q => q = (k, 0)) wr (wr.setCell ⟨d, 7, none⟩ (.bool true)) := (Kp.refl _ _ _).setCell (fun _ => hcd) _
      refine ⟨c', hC, hK.setCell (fun _ => by rw [HD.out.col]) _, die_ok HD.out.ok, ?_, hcd, ?_, ?_⟩
      · have := heap_setCell hw 7 (.bool true)
        simpa [diskCells, Dk.die] using this
      · exact (HD.out.plan.kp hK (fun h => HK0.out h.symm) hC).kp hset (by simp; exact fun h => HK0.out h.symm) (Cx.refl _ _)
      · exact M.mid hset (Below.heap_setCell _ _ _ _ hne) (fun q hq => ⟨.inl hq, by rw [hq]; simp; exact HK0.out⟩) (Cx.refl _ _)
end Go.Proofs.Ytepphepcaphlkaa
