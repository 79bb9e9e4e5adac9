/- The document's disk: a file taken out. -/
import Derived.Test.YtnifmoigalmcmaaGreatRn
import Derived.Test.YtnifmoigalmcmaaGreatQ
import Derived.IntWalk
import Derived.BigRegion
import Derived.WalkLawsBesides
import Derived.Sort.Walk0
namespace Go.Proofs.YtnifmoigalmcmaaGreat
open Go Go.RowKit Go.MapKept Go.Maps
open Dk
variable {c c' : Col} {S : Nat × Nat → Prop} {w w' : World} {q : Nat × Nat}
end Go.Proofs.YtnifmoigalmcmaaGreat
/- The document's disk: a file laid in its place. -/
namespace Go.Proofs.YtnifmoigalmcmaaGreat
open Go Go.RowKit Go.MapKept Go.Maps
open Dk
variable {c c' : Col} {S : Nat × Nat → Prop} {w w' : World} {q : Nat × Nat}
theorem ins_at {n : Nm} {f : AFile} : ∀ {fs : List (Nm × AFile)} {i : Nat}, i ≤ fs.length → (∀ y ∈ fs.take i, y.1 < n) → (∀ y ∈ fs.drop i, n < y.1) → fs.take i ++ (n, f) :: fs.drop i = Dk.ins n f fs
  | [], i, _, _, _ => by simp [Dk.ins]
  | y :: r, 0, _, _, h => by
    have := h y (List.mem_cons_self ..)
    simp [Dk.ins, this]
  | y :: r, i + 1, hi, h1, h2 => by
    have hy := h1 y (by simp)
    have hn : ¬ n < y.1 := fun h => List.lt_irrefl _ (List.lt_trans hy h)
    rw [List.take_succ_cons, List.drop_succ_cons, List.cons_append, Dk.ins, if_neg hn]
    rw [ins_at (fs := r) (by simpa using hi) (fun z hz => h1 z (by rw [List.take_succ_cons]; exact List.mem_cons_of_mem _ hz)) (fun z hz => h2 z (by rw [List.drop_succ_cons]; exact hz))]
/-- The list with x at place i. -/
def at_ (F : List RFl) (x : RFl) (i : Nat) : List RFl := F.take i ++ x :: F.drop i
theorem at_len (F : List RFl) (x : RFl) {i : Nat} (hi : i ≤ F.length) : (at_ F x i).length = F.length + 1 := by simp [at_]; omega
theorem at_here (F : List RFl) (x : RFl) {i : Nat} (hi : i ≤ F.length) : (at_ F x i)[i]? = some x := by
  unfold at_
  have h : (F.take i).length = i := by rw [List.length_take]; omega
  rw [List.getElem?_append_right (by omega), h, Nat.sub_self]
  rfl
theorem at_prev (F : List RFl) (x : RFl) {i : Nat} (hi : i + 1 ≤ F.length) : (at_ F x (i + 1))[i]? = F[i]? := by
  unfold at_
  rw [List.getElem?_append_left (by simp; omega), List.getElem?_take, if_pos (by omega)]
theorem at_swap (F : List RFl) (x y : RFl) {i : Nat} (hy : F[i]? = some y) : ((at_ F x (i + 1)).set i x).set (i + 1) y = at_ F x i := by
  have hlt : i < F.length := (List.getElem?_eq_some_iff.1 hy).1
  have e1 : F.take (i + 1) = F.take i ++ [y] := by rw [List.take_add_one, hy]; rfl
  have e2 : F.drop i = y :: F.drop (i + 1) := by
    rw [List.drop_eq_getElem_cons hlt, (List.getElem?_eq_some_iff.1 hy).2]
  have e3 : (F.take i).length = i := by simp; omega
  unfold at_
  rw [e1, e2, List.append_assoc, List.set_append_right _ _ (by omega), e3, Nat.sub_self, List.singleton_append, List.set_cons_zero, List.set_append_right _ _ (by omega), e3]
  simp
theorem at_mem {F : List RFl} {x y : RFl} {i : Nat} : y ∈ at_ F x i ↔ y = x ∨ y ∈ F := by
  unfold at_
  rw [List.mem_append, List.mem_cons]
  constructor
  · rintro (h | h | h)
    · exact .inr (List.mem_of_mem_take h)
    · exact .inl h
    · exact .inr (List.mem_of_mem_drop h)
  · rintro (h | h)
    · exact .inr (.inl h)
    · rw [← List.take_append_drop i F] at h
      rcases List.mem_append.1 h with h | h
      · exact .inl h
      · exact .inr (.inr h)
theorem at_end (F : List RFl) (x : RFl) : at_ F x F.length = F ++ [x] := by simp [at_]
theorem rins_ok {m : ADisk} (h : m.ok) {n : Nm} {f : AFile} (hn : ∀ x ∈ m.files, x.1 ≠ n) (hl : n.length ≤ 32) (hm : m.files.length < 4096) (hf : f.ok m.ops.toNat) : ({ m with files := Dk.ins n f m.files } : ADisk).ok :=
  ⟨h.ops0, fun x hx => (insMem hx).elim (fun e => by rw [e]; exact hf) (h.files x), by have := (ins_perm n f m.files).length_eq; show (ins n f m.files).length ≤ 4096; rw [this]; simp; omega, fun x hx => (insMem hx).elim (fun e => by rw [e]; exact hl) (h.names x), ins_rising n f h.rising hn⟩
/-- The walk in the loop: the file stands at place i, all behind it are greater. -/
structure PInv (w1 : World) (c : Col) (k : Nat) (v1 : Value) (F : List RFl) (x : RFl) (i : Nat) (wr : World) : Prop where
  le : i ≤ F.length
  gt : ∀ y ∈ F.drop i, x.n < y.n
  own : wr.ownsRow 0 148 3 v1 (F.length + 1) ((at_ F x i).flatMap rfc)
  kp : Kp c (fun q => q = (k, 1)) w1 wr
theorem PInv.drew {w1 wr : World} {k i : Nat} {v1 : Value} {F : List RFl} {x : RFl} (h : PInv w1 c k v1 F x i wr) : PInv w1 c k v1 F x i wr.drew := ⟨h.le, h.gt, h.own, h.kp.drewN 1⟩
theorem PInv.drewN {w1 wr : World} {k i : Nat} {v1 : Value} {F : List RFl} {x : RFl} (h : PInv w1 c k v1 F x i wr) (n : Nat) : PInv w1 c k v1 F x i (wr.drewN n) := ⟨h.le, h.gt, h.own, h.kp.drewN n⟩
/-- What put leaves. -/
def PutPost (k r : Nat) (m : ADisk) (x : RFl) (c : Col) (w : World) (e : Ending) (w' : World) : Prop :=
  e = .returned (.tuple #[]) ∧ ∃ c', Cx w c c' ∧ Kp c (fun q => q.1 = k) w w' ∧ RD w' c' k r { m with files := Dk.ins x.n x.f m.files }
theorem put_end {k r i : Nat} {m : ADisk} {vk vf vu vF v1 : Value} {F : List RFl} {w w1 wr : World} {x : RFl} {c1 : Col} (D : RD' w c k r m vk vf vu vF F) (hk0 : k ≠ 0) (hx : RF w c k x)
    (hap : ∀ y ∈ F, ∀ g, x.vc.ownBlock = some g → y.vc.ownBlock ≠ some g) (hnew : ∀ y ∈ F, y.n ≠ x.n) (hl : x.n.length ≤ 32) (hm : F.length < 4096) (hf : x.f.ok m.ops.toNat)
    (hc1 : Cx w c c1) (hv1 : ∀ g, v1.ownBlock = some g → c1 g = (k, 1)) (hk1 : Kp c (fun q => q = (k, 1) ∨ q = (k, 0)) w w1) (hr1 : w1.heap[r]? = some (.cells (rdCells m vk vf vu v1) 60 (0, 0)))
    (I : PInv w1 c1 k v1 F x i wr) (hlow : i = 0 ∨ ∃ y, F[i - 1]? = some y ∧ ¬ x.n < y.n) : PutPost k r m x c w (.returned (.tuple #[])) wr := by
  have hmF : m.files.length = F.length := by rw [← D.names, List.length_map]
  have hsz := hk1.size
  have hkr : Kp c (fun q => q = (k, 1) ∨ q = (k, 0)) w wr := hk1.trans (I.kp.mono fun q hq => .inl hq) hc1
  have hn0 : ¬ (((0, 0) : Nat × Nat) = (k, 1) ∨ ((0, 0) : Nat × Nat) = (k, 0)) := by simp; exact fun h => hk0 h.symm
  have hng : ∀ g, ¬ (((k, g + 2) : Nat × Nat) = (k, 1) ∨ ((k, g + 2) : Nat × Nat) = (k, 0)) := by intro g; simp
  have hrf : ∀ y, RF w c k y → RF wr c1 k y := fun y hy => hy.kp hkr hn0 (fun g _ => hng g) hc1
  have hmem : ∀ y ∈ F, RF w c k y := D.files.each
  have hfs : (at_ F x i).map (fun x => (x.n, x.f)) = Dk.ins x.n x.f m.files := by
    rw [← D.names]
    have hr := D.ok.rising
    rw [← D.names] at hr
    unfold at_
    rw [List.map_append, List.map_cons, List.map_take, List.map_drop]
    refine ins_at (by rw [List.length_map]; exact I.le) (fun y hy => ?_) (fun y hy => ?_)
    · rw [← List.map_take] at hy
      obtain ⟨z, hz, rfl⟩ := List.mem_map.1 hy
      rcases hlow with rfl | ⟨y0, hy0, hny⟩
      · cases hz
      · have hzF := List.mem_of_mem_take hz
        obtain ⟨j, hj⟩ := List.mem_iff_getElem?.1 hz
        rw [List.getElem?_take] at hj
        split at hj
        · rename_i hji
          have hle : z.n < y0.n ∨ z = y0 := by
            by_cases e : j = i - 1
            · subst e; rw [hj] at hy0; cases hy0; exact .inr rfl
            · left
              have hp := List.pairwise_iff_getElem.1 (List.pairwise_map.1 hr)
              obtain ⟨a1, b1⟩ := List.getElem?_eq_some_iff.1 hj
              obtain ⟨a2, b2⟩ := List.getElem?_eq_some_iff.1 hy0
              have := hp j (i - 1) a1 a2 (by omega)
              rw [b1, b2] at this
              exact this
          have hy0lt : y0.n < x.n := lt_of_not hny (hnew y0 (List.mem_of_getElem? hy0))
          rcases hle with h | h
          · exact List.lt_trans h hy0lt
          · rw [h]; exact hy0lt
        · cases hj
    · rw [← List.map_drop] at hy
      obtain ⟨z, hz, rfl⟩ := List.mem_map.1 hy
      exact I.gt z hz
  refine ⟨rfl, c1, hc1, hkr.mono ?_, vk, vf, vu, v1, at_ F x i, ?_⟩
  · rintro q (rfl | rfl) <;> rfl
  refine ⟨rins_ok D.ok (fun y hy => ?_) hl (by omega) hf, I.kp.heap hr1 ?_, (hc1 _ D.lt).trans D.col, D.plan.kp hkr hn0 hc1, hfs, ⟨?_, ?_, ?_, ?_⟩⟩
  · rw [← D.names] at hy
    obtain ⟨z, hz, rfl⟩ := List.mem_map.1 hy
    exact hnew z hz
  · rw [hc1 _ D.lt, D.col]; simp
  · rw [at_len F x I.le]; exact I.own
  · exact hv1
  · intro y hy
    rcases at_mem.1 hy with rfl | h
    · exact hrf _ hx
    · exact hrf _ (hmem y h)
  · have hp := D.files.apart
    unfold at_
    rw [← List.take_append_drop i F] at hp
    obtain ⟨p1, p2, p3⟩ := List.pairwise_append.1 hp
    refine List.pairwise_append.2 ⟨p1, List.pairwise_cons.2 ⟨fun y hy g hg => hap y (List.mem_of_mem_drop hy) g hg, p2⟩, fun a ha b hb g hg => ?_⟩
    rcases List.mem_cons.1 hb with rfl | hb
    · exact fun h => hap a (List.mem_of_mem_take ha) g h hg
    · exact p3 a ha b hb g hg
theorem pinv_swap {w1 wr : World} {k g kf i : Nat} {F : List RFl} {x y : RFl} (I : PInv w1 c k (.slice (some ⟨g, 0, none⟩) (F.length + 1) kf) F x (i + 1) wr) (hy : F[i]? = some y) (hlt : x.n < y.n) (hg : c g = (k, 1)) {w2 : World}
    (h2 : w2 = (((((wr.setCell ⟨g, i * 3, none⟩ (str x.n)).setCell ⟨g, i * 3 + 1, none⟩ x.vs).setCell ⟨g, i * 3 + 2, none⟩ x.vc).setCell ⟨g, (i + 1) * 3, none⟩ (str y.n)).setCell ⟨g, (i + 1) * 3 + 1, none⟩ y.vs).setCell ⟨g, (i + 1) * 3 + 2, none⟩ y.vc) :
    PInv w1 c k (.slice (some ⟨g, 0, none⟩) (F.length + 1) kf) F x i w2 := by
  have hi : i < F.length := (List.getElem?_eq_some_iff.1 hy).1
  have hL : (at_ F x (i + 1)).length = F.length + 1 := at_len F x (by omega)
  refine ⟨by omega, ?_, ?_, ?_⟩
  · intro z hz
    rw [List.drop_eq_getElem_cons hi, (List.getElem?_eq_some_iff.1 hy).2] at hz
    rcases List.mem_cons.1 hz with rfl | hz
    · exact hlt
    · exact I.gt z hz
  · have hp := at_prev F x (i := i) (by omega)
    rw [hy] at hp
    have hh := at_here F x (i := i + 1) (by omega)
    have a0 := owns_set I.own (i * 3) (str x.n)
    rw [show i * 3 = i * 3 + 0 from rfl, flat_set rfc_len _ i 0 y ⟨x.n, y.f, y.vs, y.vc, y.L⟩ (str x.n) hp (by omega) rfl] at a0
    have a1 := owns_set a0 (i * 3 + 1) x.vs
    rw [flat_set rfc_len _ i 1 ⟨x.n, y.f, y.vs, y.vc, y.L⟩ ⟨x.n, y.f, x.vs, y.vc, y.L⟩ x.vs (by rw [List.getElem?_set_self (by omega)]) (by omega) rfl, List.set_set] at a1
    have a2 := owns_set a1 (i * 3 + 2) x.vc
    rw [flat_set rfc_len _ i 2 ⟨x.n, y.f, x.vs, y.vc, y.L⟩ x x.vc (by rw [List.getElem?_set_self (by omega)]) (by omega) rfl, List.set_set] at a2
    have a3 := owns_set a2 ((i + 1) * 3) (str y.n)
    rw [show (i + 1) * 3 = (i + 1) * 3 + 0 from rfl, flat_set rfc_len _ (i + 1) 0 x ⟨y.n, x.f, x.vs, x.vc, x.L⟩ (str y.n) (by rw [List.getElem?_set_ne (by omega)]; exact hh) (by omega) rfl] at a3
    have a4 := owns_set a3 ((i + 1) * 3 + 1) y.vs
    rw [flat_set rfc_len _ (i + 1) 1 ⟨y.n, x.f, x.vs, x.vc, x.L⟩ ⟨y.n, x.f, y.vs, x.vc, x.L⟩ y.vs (by rw [List.getElem?_set_self (by rw [List.length_set]; omega)]) (by omega) rfl, List.set_set] at a4
    have a5 := owns_set a4 ((i + 1) * 3 + 2) y.vc
    rw [flat_set rfc_len _ (i + 1) 2 ⟨y.n, x.f, y.vs, x.vc, x.L⟩ y y.vc (by rw [List.getElem?_set_self (by rw [List.length_set]; omega)]) (by omega) rfl, List.set_set, at_swap F x y hy] at a5
    rw [h2]; exact a5
  · rw [h2]
    exact ((((((I.kp.setCell (fun _ => hg) _).setCell (fun _ => hg) _).setCell (fun _ => hg) _).setCell (fun _ => hg) _).setCell (fun _ => hg) _).setCell (fun _ => hg) _)
set_option maxRecDepth 20000 in
set_option maxHeartbeats 4000000 in
theorem rput_c (k r : Nat) (m : ADisk) (vk vf vu vF : Value) (F : List RFl) (w : World) (D : RD' w c k r m vk vf vu vF F) (hk0 : k ≠ 0) (x : RFl) (hx : RF w c k x)
    (hap : ∀ y ∈ F, ∀ g, x.vc.ownBlock = some g → y.vc.ownBlock ≠ some g) (hnew : ∀ y ∈ F, y.n ≠ x.n) (hl : x.n.length ≤ 32) (hm : F.length < 4096) (hf : x.f.ok m.ops.toNat) :
    Calls Tryz.prog 127 #[ptr r, .agg #[.string ⟨x.n.toArray⟩, x.vs, x.vc]] w (PutPost k r m x c w) := by
  have hrl := D.lt
  obtain ⟨af, kf, e⟩ := D.files.shape
  subst e
  obtain ⟨asx, ksx, evs, -⟩ := id hx.safe
  obtain ⟨avc, kvc, evc⟩ := own_shape hx.chs.own
  rw [List.length_map] at evs
  rw [evs, evc]
  have HES := Lib.hid evs; clear evs
  have HEC := Lib.hid evc; clear evc
  have hr5 := D.c5
  have HD := Lib.hid D; clear D
  have HX := Lib.hid hx; clear hx
  have HK0 := Lib.hid hk0; clear hk0
  have HAP := Lib.hid hap; clear hap
  have HNEW := Lib.hid hnew; clear hnew
  have HL := Lib.hid hl; clear hl
  have HF := Lib.hid hf; clear hf
  unfold ptr
  go_enter Tryz.func127, Tryz.ntmps127
  go_wp2_with fail
  obtain ⟨W3, hW3⟩ : ∃ W3, W3 = w.alloc (.cells #[.string ⟨x.n.toArray⟩, .slice asx x.f.safe.length ksx, .slice avc x.L.length kvc] 148) := ⟨_, rfl⟩
  rw [← hW3]
  have HB3 := Lib.hid (show Below w.heap.size w W3 by rw [hW3]; exact (Below.refl _ w).alloc (Nat.le_refl _) _)
  have HS3 := Lib.hid (show W3.heap.size = w.heap.size + 1 by rw [hW3]; simp)
  have HX3 := Lib.hid (show W3.heap[w.heap.size]? = some (.cells #[.string ⟨x.n.toArray⟩, .slice asx x.f.safe.length ksx, .slice avc x.L.length kvc] 148 (0, 0)) by rw [hW3]; exact heap_alloc_new _ _)
  clear hW3
  have hS0 := Lib.hid (show (fun X : World => X.cell? ⟨r, 5, none⟩ = some (.slice af F.length kf) ∧ X.cell? ⟨w.heap.size, 0, none⟩ = some (.string ⟨x.n.toArray⟩) ∧ X.cell? ⟨w.heap.size, 1, none⟩ = some (.slice asx x.f.safe.length ksx) ∧ X.cell? ⟨w.heap.size, 2, none⟩ = some (.slice avc x.L.length kvc)) W3.drew from ⟨(HB3.out.cell (p := ⟨r, 5, none⟩) hrl).trans hr5, cell_of_heap HX3.out 0, cell_of_heap HX3.out 1, cell_of_heap HX3.out 2⟩)
  clear hr5
  obtain ⟨i0, hi0', hz0, hz1, hz2⟩ := info_parts info_rfile
  have HOWN := Lib.hid (show (W3.alloc (.cells #[.string ⟨x.n.toArray⟩, .slice asx x.f.safe.length ksx, .slice avc x.L.length kvc] 148)).drew.ownsRow 0 148 3 (.slice af F.length kf) F.length (F.flatMap rfc) from owns_alloc (ownsRow_kp (c := fun _ => (0, 0)) (q := (0, 0)) (S := S2F) HD.out.files.own (fun _ _ => rfl) (Kp.of_below HB3.out) (fun h => h)) _)
  have HM1 := Lib.hid (show F.length + 1 ≤ maxLen by unfold maxLen; omega)
  have HM2 := Lib.hid (show (F.length + 1) * 64 ≤ 140737488355328 by omega)
  have HBd := Lib.hid (show Below w.heap.size w (W3.alloc (.cells #[.string ⟨x.n.toArray⟩, .slice asx x.f.safe.length ksx, .slice avc x.L.length kvc] 148)).drew from bdrewN (HB3.out.alloc HB3.out.size _) 1)
  have HNE := Lib.hid (show ∀ b, b = r ∨ b = w.heap.size → some b ≠ (Value.slice af F.length kf).ownBlock by
    intro b hb e
    have h1 := HD.out.files.col b e.symm
    have h2 := ownBlock_lt HD.out.files.own b e.symm
    rcases hb with rfl | rfl
    · rw [HD.out.col] at h1; simp at h1
    · omega)
  refine wp_region_G (fun X : World => X.cell? ⟨r, 5, none⟩ = some (.slice af F.length kf) ∧ X.cell? ⟨w.heap.size, 0, none⟩ = some (.string ⟨x.n.toArray⟩) ∧ X.cell? ⟨w.heap.size, 1, none⟩ = some (.slice asx x.f.safe.length ksx) ∧ X.cell? ⟨w.heap.size, 2, none⟩ = some (.slice avc x.L.length kvc)) 10 rfl ?_
  refine wpAnyG_take (i := 0) (oi := _) (v := .pointer (some ⟨r, 0, none⟩)) rfl (by kernel_rfl) (by kernel_rfl) (by kernel_rfl) (by kernel_rfl) (by kernel_rfl) (by kernel_rfl) (fun _ _ _ h => h) (Or.inl ⟨by rfl, fun X hX => ?_⟩) hS0.out ?_
  · obtain ⟨x1, x2, x3, x4⟩ := hX
    go_simp
  simp only [Act.put, List.setIfInBounds_toArray]
  refine wpAnyG_take (i := 1) (oi := _) (v := .pointer (some ⟨r, 0, none⟩)) rfl (by kernel_rfl) (by kernel_rfl) (by kernel_rfl) (by kernel_rfl) (by kernel_rfl) (by kernel_rfl) (fun _ _ _ h => h) (Or.inl ⟨by rfl, fun X hX => ?_⟩) hS0.out ?_
  · obtain ⟨x1, x2, x3, x4⟩ := hX
    go_simp
  simp only [Act.put]
  refine wpAnyG_take (i := 2) (oi := _) (v := .pointer (some ⟨r, 0, none⟩)) rfl (by kernel_rfl) (by kernel_rfl) (by kernel_rfl) (by kernel_rfl) (by kernel_rfl) (by kernel_rfl) (fun _ _ _ h => h) (Or.inl ⟨by rfl, fun X hX => ?_⟩) hS0.out ?_
  · obtain ⟨x1, x2, x3, x4⟩ := hX
    go_simp
  simp only [Act.put]
  refine wpAnyG_take (i := 3) (oi := _) (v := .pointer (some ⟨r, 5, none⟩)) rfl (by kernel_rfl) (by kernel_rfl) (by kernel_rfl) (by kernel_rfl) (by kernel_rfl) (by kernel_rfl) (fun _ _ _ h => h) (Or.inl ⟨by rfl, fun X hX => ?_⟩) hS0.out ?_
  · obtain ⟨x1, x2, x3, x4⟩ := hX
    go_simp
  simp only [Act.put]
  refine wpAnyG_take (i := 4) (oi := _) (v := .slice af F.length kf) rfl (by kernel_rfl) (by kernel_rfl) (by kernel_rfl) (by kernel_rfl) (by kernel_rfl) (by kernel_rfl) (fun _ _ _ h => h) (Or.inl ⟨by rfl, fun X hX => ?_⟩) hS0.out ?_
  · obtain ⟨x1, x2, x3, x4⟩ := hX
    go_simp
  simp only [Act.put]
  refine wpAnyG_take (i := 5) (oi := _) (v := .agg #[.string ⟨x.n.toArray⟩, .slice asx x.f.safe.length ksx, .slice avc x.L.length kvc]) rfl (by kernel_rfl) (by kernel_rfl) (by kernel_rfl) (by kernel_rfl) (by kernel_rfl) (by kernel_rfl) (fun _ _ _ h => h) (Or.inl ⟨by rfl, fun X hX => ?_⟩) hS0.out ?_
  · obtain ⟨x1, x2, x3, x4⟩ := hX
    go_simp
  simp only [Act.put]
  refine wpAnyG_one (i := 6) (by kernel_rfl) rfl (fun K' hK' => ?_)
  go_simp
  have HS1 := Lib.hid (show (fun X : World => X.cell? ⟨r, 5, none⟩ = some (.slice af F.length kf) ∧ X.cell? ⟨w.heap.size, 0, none⟩ = some (.string ⟨x.n.toArray⟩) ∧ X.cell? ⟨w.heap.size, 1, none⟩ = some (.slice asx x.f.safe.length ksx) ∧ X.cell? ⟨w.heap.size, 2, none⟩ = some (.slice avc x.L.length kvc)) (W3.alloc (.cells #[.string ⟨x.n.toArray⟩, .slice asx x.f.safe.length ksx, .slice avc x.L.length kvc] 148)).drew from ⟨alloc_keep hS0.out.1, alloc_keep hS0.out.2.1, alloc_keep hS0.out.2.2.1, alloc_keep hS0.out.2.2.2⟩)
  refine hK'.out _ _ (fun _ => HS1.out) ?_
  refine wpAnyG_one (i := 7) (by kernel_rfl) rfl (fun K' hK' => ?_)
  refine step_append_lies _ rfl (.tmp 9) (.tmp 11) 58 rfl 0 148 i0 (.agg #[.string ⟨#[]⟩, .slice none 0 0, .slice none 0 0]) 3 64 Tryz.underlying58 hi0' hz0 hz1 hz2 rfl (by decide) (.slice af F.length kf) F.length (F.flatMap rfc) (by simp [Act.eval]) HOWN.out ⟨W3.heap.size, 0, none⟩ 1 1 [.string ⟨x.n.toArray⟩, .slice asx x.f.safe.length ksx, .slice avc x.L.length kvc] (by simp [Act.eval]) rfl (World.news_of_block (cs := #[.string ⟨x.n.toArray⟩, .slice asx x.f.safe.length ksx, .slice avc x.L.length kvc]) (t := 148) (fr := (0, 0)) (heap_alloc_new W3 _)) (by simp [Value.oneCell']) (by decide) HM1.out HM2.out (Nat.zero_le _) _ rfl (fun g cap w1 hown1 hgrow1 hat hgl => ?_)
  have HGL := Lib.hid (show g < w1.heap.size from hgl)
  have HAT := Lib.hid hat
  have HSZ := Lib.hid hgrow1.size
  have hne := HNE.out
  have hS1 := HS1.out
  have hS0 := Lib.hid (show (fun X : World => X.cell? ⟨r, 5, none⟩ = some (.slice af F.length kf) ∧ X.cell? ⟨w.heap.size, 0, none⟩ = some (.string ⟨x.n.toArray⟩) ∧ X.cell? ⟨w.heap.size, 1, none⟩ = some (.slice asx x.f.safe.length ksx) ∧ X.cell? ⟨w.heap.size, 2, none⟩ = some (.slice avc x.L.length kvc)) w1 from ⟨(hgrow1.cell_far _ (World.block_lt_of_cell? _ _ hS1.1) (hne _ (.inl rfl))).trans hS1.1, (hgrow1.cell_far _ (World.block_lt_of_cell? _ _ hS1.2.1) (hne _ (.inr rfl))).trans hS1.2.1, (hgrow1.cell_far _ (World.block_lt_of_cell? _ _ hS1.2.2.1) (hne _ (.inr rfl))).trans hS1.2.2.1, (hgrow1.cell_far _ (World.block_lt_of_cell? _ _ hS1.2.2.2) (hne _ (.inr rfl))).trans hS1.2.2.2⟩)
  have HK1 := Lib.hid (show Kp c (fun q => q = (k, 1) ∨ q = (k, 0)) w w1 from (Kp.of_below (HBd.out)).grown hgrow1 (fun g' hg' _ => .inl (HD.out.files.col g' hg')))
  have HR1 := Lib.hid (show w1.heap[r]? = some (.cells (rdCells m vk vf vu (.slice af F.length kf)) 60 (0, 0)) from (hgrow1.block r (Nat.lt_of_lt_of_le hrl HBd.out.size) (hne _ (.inl rfl))).trans ((HBd.out.block r hrl).trans HD.out.heap))
  have HOW1 := Lib.hid hown1
  have hr5 : w1.cell? ⟨r, 5, none⟩ = some (.slice af F.length kf) := hS0.out.1
  have hfz : w1.frozen? ⟨r, 5, none⟩ = false := unfrozen_of_heap HR1.out 5
  have hrl1 : r < w1.heap.size := lt_of_heap HR1.out
  clear hown1 hgrow1 hat hgl hne hS1
  refine hK'.out _ _ (fun _ => hS0.out) ?_
  simp only [Act.put]
  refine wpAnyG_take (i := 8) (oi := _) (v := .pointer (some ⟨r, 0, none⟩)) rfl (by kernel_rfl) (by kernel_rfl) (by kernel_rfl) (by kernel_rfl) (by kernel_rfl) (by kernel_rfl) (fun _ _ _ h => h) (Or.inl ⟨by rfl, fun X hX => ?_⟩) hS0.out ?_
  · obtain ⟨x1, x2, x3, x4⟩ := hX
    go_simp
  simp only [Act.put]
  refine wpAnyG_take (i := 9) (oi := _) (v := .pointer (some ⟨r, 5, none⟩)) rfl (by kernel_rfl) (by kernel_rfl) (by kernel_rfl) (by kernel_rfl) (by kernel_rfl) (by kernel_rfl) (fun _ _ _ h => h) (Or.inl ⟨by rfl, fun X hX => ?_⟩) hS0.out ?_
  · obtain ⟨x1, x2, x3, x4⟩ := hX
    go_simp
  simp only [Act.put]
  refine wpAnyG_one (i := 10) (by kernel_rfl) rfl (fun K' hK' => ?_)
  go_simp
  refine hK'.out _ _ (fun h => absurd h (by decide)) ?_
  refine wpAnyG_done (by kernel_rfl) ?_
  obtain ⟨w2, hw2⟩ : ∃ w2, w2 = w1.setCell ⟨r, 5, none⟩ (.slice (some ⟨g, 0, none⟩) (F.length + 1) cap) := ⟨_, rfl⟩
  rw [← hw2]
  have HR2 := Lib.hid (show w2.heap[r]? = some (.cells (rdCells m vk vf vu (.slice (some ⟨g, 0, none⟩) (F.length + 1) cap)) 60 (0, 0)) by rw [hw2]; have := heap_setCell HR1.out 5 (.slice (some ⟨g, 0, none⟩) (F.length + 1) cap); simpa [rdCells] using this)
  have HK2 := Lib.hid (show Kp c (fun q => q = (k, 1) ∨ q = (k, 0)) w w2 by rw [hw2]; exact HK1.out.setCell (fun _ => .inr HD.out.col) _)
  have hrg : r ≠ g := by
    intro e
    rcases HAT.out with h | h
    · have h1 := HD.out.files.col g h
      rw [← e, HD.out.col] at h1; simp at h1
    · have h1 : W3.heap.size + 1 = g := by simpa using h.symm
      have := HB3.out.size
      omega
  have HOW2 := Lib.hid (show w2.ownsRow 0 148 3 (.slice (some ⟨g, 0, none⟩) (F.length + 1) cap) (F.length + 1) ((at_ F x F.length).flatMap rfc) by
    rw [hw2, at_end, List.flatMap_append]
    have e1 : [x].flatMap rfc = [.string ⟨x.n.toArray⟩, .slice asx x.f.safe.length ksx, .slice avc x.L.length kvc] := by
      rw [← HES.out, ← HEC.out]; rfl
    rw [e1]
    exact ownsRow_setCell_other HOW1.out (fun e => hrg (Option.some.inj e).symm) _)
  clear hw2 hr5 hfz hrl1
  obtain ⟨c1, hc1⟩ : ∃ c1 : Col, c1 = fun b => if b < w.heap.size then c b else if b = g then (k, 1) else (0, 0) := ⟨_, rfl⟩
  have HCX := Lib.hid (show Cx w c c1 by intro b hb; rw [hc1]; exact if_pos hb)
  have HCG := Lib.hid (show c1 g = (k, 1) by
    rw [hc1]
    show (if g < w.heap.size then c g else _) = _
    rcases HAT.out with h | h
    · rw [if_pos (ownBlock_lt HD.out.files.own g h)]; exact HD.out.files.col g h
    · have h1 : W3.heap.size + 1 = g := by simpa using h.symm
      have h2 := HB3.out.size
      rw [if_neg (by omega), if_pos rfl])
  clear hc1 hrg
  have HI0 := Lib.hid (show PInv w2 c1 k (.slice (some ⟨g, 0, none⟩) (F.length + 1) cap) F x F.length w2 from ⟨Nat.le_refl _, (by intro y hy; rw [List.drop_length] at hy; cases hy), HOW2.out, Kp.refl _ _ _⟩)
  have hr5 : w2.cell? ⟨r, 5, none⟩ = some (.slice (some ⟨g, 0, none⟩) (F.length + 1) cap) := cell_of_heap HR2.out 5
  have hm' : (F.length : Int) ≤ 4096 := by omega
  go_wp2
  clear hr5
  go_loopw [4] (fun s wr => ∃ i : Nat, s = .int .i64 i ∧ PInv w2 c1 k (.slice (some ⟨g, 0, none⟩) (F.length + 1) cap) F x i wr) (fun s _ => (intOf s).toNat)
  case atStart => exact ⟨F.length, by go_num, HI0.out⟩
  case round =>
    obtain ⟨i, rfl, I⟩ := hrel
    have HI := Lib.hid I; clear I
    have hile := HI.out.le
    cases i with
    | zero =>
      have h0 : decide ((0 : Int) < 0) = false := rfl
      go_wp2_with fail
      go_quiet (fail)
      go_wp2
      go_end0
      exact put_end (v1 := .slice (some ⟨g, 0, none⟩) (F.length + 1) cap) HD.out HK0.out HX.out HAP.out HNEW.out HL.out hm HF.out HCX.out (fun g' hg' => by cases hg'; exact HCG.out) HK2.out HR2.out (HI.out.drewN nq) (.inl rfl)
    | succ i =>
      have hrr := HI.out.kp.heap HR2.out (show ¬ c1 r = (k, 1) by rw [HCX.out _ hrl, HD.out.col]; simp)
      have hr5 : wr.cell? ⟨r, 5, none⟩ = some (.slice (some ⟨g, 0, none⟩) (F.length + 1) cap) := cell_of_heap hrr 5
      clear hrr
      obtain ⟨y, hy⟩ : ∃ y, F[i]? = some y := ⟨F[i], List.getElem?_eq_getElem (by omega)⟩
      have hy1 := at_prev F x (i := i) (by omega)
      rw [hy] at hy1
      have hh := at_here F x (i := i + 1) (by omega)
      have f0 : wr.cell? ⟨g, i * 3, none⟩ = some (.string ⟨y.n.toArray⟩) := owns_cell HI.out.own (k := i * 3) (flat_get rfc_len _ i 0 y hy1 (by omega))
      have f3 : wr.cell? ⟨g, (i + 1) * 3, none⟩ = some (.string ⟨x.n.toArray⟩) := owns_cell HI.out.own (k := (i + 1) * 3) (flat_get rfc_len _ (i + 1) 0 x hh (by omega))
      have b1 : (i : Int) + 1 < (F.length : Int) + 1 := by omega
      have b2 : (i : Int) < (F.length : Int) + 1 := by omega
      have b3 : (0 : Int) ≤ (i : Int) := by omega
      have b4 : (0 : Int) ≤ (i : Int) + 1 := by omega
      have b5 : (0 : Int) < (i : Int) + 1 := by omega
      have HY := Lib.hid hy; clear hy
      have HY1 := Lib.hid hy1; clear hy1
      have HH := Lib.hid hh; clear hh
      have hyF := List.mem_of_getElem? HY.out
      have hne := HNEW.out y hyF
      have hRy := HD.out.files.each y hyF
      obtain ⟨asy, ksy, evs, -⟩ := id hRy.safe
      obtain ⟨avy, kvy, evc⟩ := own_shape hRy.chs.own
      rw [List.length_map] at evs
      clear hRy hyF
      by_cases hc : x.n < y.n
      · have hb1 : Op.bytesLess y.n x.n = false := by rw [bytesLess_eq]; simpa using (List.not_lt.2 (List.le_of_lt hc))
        have hb2 : (y.n == x.n) = false := by simpa using hne
        have HC := Lib.hid hc; clear hc hne
        go_wp2_with fail
        go_quiet (fail)
        go_wp2_with fail
        obtain ⟨w5, hw5⟩ : ∃ w5, w5 = wr.drewN nq := ⟨_, rfl⟩
        rw [← hw5]
        have HI5 := Lib.hid (show PInv w2 c1 k (.slice (some ⟨g, 0, none⟩) (F.length + 1) cap) F x (i + 1) w5 by rw [hw5]; exact HI.out.drewN nq)
        have g5 : w5.cell? ⟨r, 5, none⟩ = some (.slice (some ⟨g, 0, none⟩) (F.length + 1) cap) := by rw [hw5]; exact hr5
        have g0 : w5.cell? ⟨g, i * 3, none⟩ = some (.string ⟨y.n.toArray⟩) := by rw [hw5]; exact f0
        have g1 : w5.cell? ⟨g, i * 3 + 1, none⟩ = some (.slice asy y.f.safe.length ksy) := by rw [← evs]; exact owns_cell HI5.out.own (flat_get rfc_len _ i 1 y HY1.out (by omega))
        have g2 : w5.cell? ⟨g, i * 3 + 2, none⟩ = some (.slice avy y.L.length kvy) := by rw [← evc]; exact owns_cell HI5.out.own (flat_get rfc_len _ i 2 y HY1.out (by omega))
        have g3 : w5.cell? ⟨g, (i + 1) * 3, none⟩ = some (.string ⟨x.n.toArray⟩) := by rw [hw5]; exact f3
        have g4 : w5.cell? ⟨g, (i + 1) * 3 + 1, none⟩ = some (.slice asx x.f.safe.length ksx) := by rw [← HES.out]; exact owns_cell HI5.out.own (flat_get rfc_len _ (i + 1) 1 x HH.out (by omega))
        have g6 : w5.cell? ⟨g, (i + 1) * 3 + 2, none⟩ = some (.slice avc x.L.length kvc) := by rw [← HEC.out]; exact owns_cell HI5.out.own (flat_get rfc_len _ (i + 1) 2 x HH.out (by omega))
        have gz : ∀ j, w5.frozen? ⟨g, j, none⟩ = false := owns_frozen HI5.out.own
        have HE1 := Lib.hid evs; clear evs
        have HE2 := Lib.hid evc; clear evc
        clear hw5 hr5 f0 f3 hb1 hb2
        go_region
        go_wp2
        go_roundw
        case rel =>
          refine ⟨i, by go_num, ?_⟩
          have hP := pinv_swap HI5.out HY.out HC.out HCG.out rfl
          rw [HES.out, HEC.out, HE1.out, HE2.out] at hP
          exact hP.drew
        case measure => simp [intOf]
      · have hb1 : Op.bytesLess y.n x.n = true := by rw [bytesLess_eq]; simpa using lt_of_not hc hne
        have HC := Lib.hid hc; clear hc hne evs evc
        go_wp2_with fail
        go_quiet (fail)
        go_wp2
        go_end0
        exact put_end (v1 := .slice (some ⟨g, 0, none⟩) (F.length + 1) cap) HD.out HK0.out HX.out HAP.out HNEW.out HL.out hm HF.out HCX.out (fun g' hg' => by cases hg'; exact HCG.out) HK2.out HR2.out (HI.out.drewN nq) (.inr ⟨y, by simpa using HY.out, HC.out⟩)
end Go.Proofs.YtnifmoigalmcmaaGreat
