/- The document's disk: a file taken out. -/
import Derived.Test.YtepphepcaphlkaaRn
import Derived.Test.YtepphepcaphlkaaQ
import Derived.IntWalk
import Derived.BigRegion
import Derived.WalkLawsBesides
import Derived.Sort.Walk0
namespace Go.Proofs.Ytepphepcaphlkaa
open Go Go.RowKit Go.MapKept Go.Maps
open Dk
variable {c c' : Col} {S : Nat × Nat → Prop} {w w' : World} {q : Nat × Nat}
theorem del_at {fs : List (Nm × AFile)} (hr : Rising fs) {i : Nat} {n : Nm} {f : AFile} (h : fs[i]? = some (n, f)) : fs.eraseIdx i = Dk.del fs n := by
  have hlt : i < fs.length := (List.getElem?_eq_some_iff.1 h).1
  have e1 : fs = fs.take i ++ (n, f) :: fs.drop (i + 1) := by
    have h1 := List.drop_eq_getElem_cons hlt
    rw [(List.getElem?_eq_some_iff.1 h).2] at h1
    rw [← h1, List.take_append_drop]
  have h3 : Rising (fs.take i ++ (n, f) :: fs.drop (i + 1)) := e1 ▸ hr
  have h4 := List.pairwise_append.1 h3
  have h5 := List.pairwise_cons.1 h4.2.1
  rw [List.eraseIdx_eq_take_drop_succ]
  conv => rhs; rw [e1]
  unfold Dk.del
  rw [List.filter_append, List.filter_cons]
  have a1 : (fs.take i).filter (fun x => !(x.1 == n)) = fs.take i := List.filter_eq_self.2 fun y hy => by
    have := h4.2.2 y hy (n, f) (List.mem_cons_self ..)
    have hne : y.1 ≠ n := fun e => by simp only [e] at this; exact List.lt_irrefl _ this
    simp [hne]
  have a2 : (fs.drop (i + 1)).filter (fun x => !(x.1 == n)) = fs.drop (i + 1) := List.filter_eq_self.2 fun y hy => by
    have := h5.1 y hy
    have hne : y.1 ≠ n := fun e => by simp only [e] at this; exact List.lt_irrefl _ this
    simp [hne]
  rw [a1, a2]
  simp
theorem rfc_one {k : Nat} {vF : Value} {F : List RFl} (h : RFs w c k vF F) : ∀ u ∈ F.flatMap rfc, u.oneCell' = true := by
  intro u hu
  obtain ⟨x, hx, hu⟩ := List.mem_flatMap.1 hu
  obtain ⟨h1, h2⟩ := (h.each x hx).slices
  simp only [rfc, List.mem_cons, List.not_mem_nil, or_false] at hu
  rcases hu with rfl | rfl | rfl
  · rfl
  · exact h1
  · exact h2
theorem mem_erase {F : List RFl} {i : Nat} {y : RFl} (h : y ∈ F.eraseIdx i) : ∃ j, j ≠ i ∧ F[j]? = some y := by
  obtain ⟨j, hj⟩ := List.mem_iff_getElem?.1 h
  rw [List.getElem?_eraseIdx] at hj
  split at hj
  · exact ⟨j, by omega, hj⟩
  · exact ⟨j + 1, by omega, hj⟩
theorem below_set3 (W : World) (b : Nat) (u0 u1 u2 : Value) : Below b W (((W.setCell ⟨b, 0, none⟩ u0).setCell ⟨b, 1, none⟩ u1).setCell ⟨b, 2, none⟩ u2) :=
  Below.setCell (Below.setCell (Below.setCell (Below.refl b W) (p := ⟨b, 0, none⟩) (Nat.le_refl b) u0) (p := ⟨b, 1, none⟩) (Nat.le_refl b) u1) (p := ⟨b, 2, none⟩) (Nat.le_refl b) u2
/-- What out answers and leaves. -/
def OutPost (k r i : Nat) (m : ADisk) (vk vf vu : Value) (F : List RFl) (x : RFl) (c : Col) (w : World) (e : Ending) (w' : World) : Prop :=
  e = .returned (.agg #[.string ⟨x.n.toArray⟩, x.vs, x.vc]) ∧ ∃ c' vF', Cx w c c' ∧ Kp c (fun q => q.1 = k) w w' ∧ RD' w' c' k r { m with files := Dk.del m.files x.n } vk vf vu vF' (F.eraseIdx i) ∧ RF w' c' k x ∧
    ∀ y ∈ F.eraseIdx i, ∀ g, x.vc.ownBlock = some g → y.vc.ownBlock ≠ some g
theorem out_end {k r i : Nat} {m : ADisk} {vk vf vu vF v2 : Value} {F : List RFl} {w w0 w2 w3 w4 : World} {x : RFl} {B : Nat}
    (D : RD' w c k r m vk vf vu vF F) (hk0 : k ≠ 0) (hx : F[i]? = some x) (h0 : Below w.heap.size w w0) (hB : w.heap.size ≤ B)
    (h2 : w2.ownsRow 0 92 3 v2 (i + (F.length - (i + 1))) ((F.flatMap rfc).take (i * 3) ++ (F.flatMap rfc).drop ((i + 1) * 3))) (h02 : Below B w0 w2) (hv2 : ∀ g, v2.ownBlock = some g → B ≤ g)
    (h3 : w3 = w2.setCell ⟨r, 5, none⟩ v2) (h4 : Below w.heap.size w3 w4) (h34 : ∀ g, v2.ownBlock = some g → w4.heap[g]? = w3.heap[g]?) : OutPost k r i m vk vf vu F x c w (.returned (.agg #[.string ⟨x.n.toArray⟩, x.vs, x.vc])) w4 := by
  have hlt : i < F.length := (List.getElem?_eq_some_iff.1 hx).1
  have hfi : m.files[i]? = some (x.n, x.f) := by rw [← D.names, List.getElem?_map, hx]; rfl
  have hw2 : Below w.heap.size w w2 := h0.trans (h02.mono hB)
  have hvr : v2.ownBlock ≠ some r := fun e => by have := hv2 r e; have := D.lt; omega
  have hkp : Kp c (fun q => q = (k, 0)) w w4 := by
    rw [h3] at h4
    exact ((Kp.of_below hw2).setCell (fun _ => D.col) _).below h4 (Nat.le_refl _)
  have hn0 : ¬ ((0, 0) : Nat × Nat) = (k, 0) := by simp; exact fun h => hk0 h.symm
  obtain ⟨c', hc'⟩ : ∃ c' : Col, c' = fun b => if b < w.heap.size then c b else if v2.ownBlock = some b then (k, 1) else (0, 0) := ⟨_, rfl⟩
  have hcx : Cx w c c' := by intro b hb; rw [hc']; exact if_pos hb
  have hrf : ∀ y ∈ F, RF w4 c' k y := fun y hy => (D.files.each y hy).kp hkp hn0 (fun g _ hs => by simp at hs) hcx
  have hfl : (F.flatMap rfc).take (i * 3) ++ (F.flatMap rfc).drop ((i + 1) * 3) = (F.eraseIdx i).flatMap rfc := by
    rw [flat_take rfc_len, flat_drop rfc_len, List.eraseIdx_eq_take_drop_succ, List.flatMap_append]
  have hle : (F.eraseIdx i).length = i + (F.length - (i + 1)) := by rw [List.length_eraseIdx, if_pos hlt]; omega
  refine ⟨rfl, c', v2, hcx, hkp.mono fun q hq => by rw [hq], ⟨del_ok D.ok, ?_, (hcx _ D.lt).trans D.col, D.plan.kp hkp hn0 hcx, ?_, ⟨?_, ?_, ?_, ?_⟩⟩, hrf x (List.mem_of_getElem? hx), ?_⟩
  · have h5 : w2.heap[r]? = some (.cells (rdCells m vk vf vu vF) 56 (0, 0)) := (hw2.block r D.lt).trans D.heap
    have h6 := heap_setCell h5 5 v2
    rw [← h3] at h6
    rw [h4.block r D.lt, h6]
    simp [rdCells]
  · rw [← del_at D.ok.rising hfi, ← D.names]
    rw [List.eraseIdx_eq_take_drop_succ, List.eraseIdx_eq_take_drop_succ, List.map_append, List.map_take, List.map_drop]
  · rw [hle, ← hfl]
    have h5 : w3.ownsRow 0 92 3 v2 (i + (F.length - (i + 1))) ((F.flatMap rfc).take (i * 3) ++ (F.flatMap rfc).drop ((i + 1) * 3)) := by rw [h3]; exact ownsRow_setCell_other h2 hvr _
    obtain ⟨a1, a2⟩ := h5
    refine ⟨a1, ?_⟩
    rcases a2 with a2 | ⟨g, cap, cur, rfl, hg, hh, rr⟩
    · exact .inl a2
    · exact .inr ⟨g, cap, cur, rfl, hg, (h34 g rfl).trans hh, rr⟩
  · intro g hg
    have := hv2 g hg
    rw [hc']
    show (if g < w.heap.size then _ else _) = _
    rw [if_neg (by omega), if_pos hg]
  · intro y hy
    obtain ⟨j, _, hj⟩ := mem_erase hy
    exact hrf y (List.mem_of_getElem? hj)
  · exact D.files.apart.sublist (List.eraseIdx_sublist ..)
  · intro y hy g hg
    obtain ⟨j, hji, hj⟩ := mem_erase hy
    exact D.files.apart' hx hj (Ne.symm hji) g hg
set_option maxRecDepth 20000 in
set_option maxHeartbeats 4000000 in
theorem out_c (k r : Nat) (m : ADisk) (vk vf vu vF : Value) (F : List RFl) (w : World) (D : RD' w c k r m vk vf vu vF F) (hk0 : k ≠ 0) {i : Nat} {x : RFl} (hx : F[i]? = some x) :
    Calls Try.prog 71 #[ptr r, .int .i64 (i : Int)] w (OutPost k r i m vk vf vu F x c w) := by
  have hrl := D.lt
  have hlen := D.len
  have hlt : i < F.length := (List.getElem?_eq_some_iff.1 hx).1
  obtain ⟨g, kf, e, -⟩ := own_pos D.files.own (by omega)
  subst e
  have hgl : g < w.heap.size := ownBlock_lt D.files.own g rfl
  have hlt' : (i : Int) < (F.length : Int) := by omega
  have hi0 : (0 : Int) ≤ (i : Int) := by omega
  have hlen' : (F.length : Int) ≤ 4096 := by omega
  have HD := Lib.hid D; clear D
  have HX := Lib.hid hx; clear hx
  have HK0 := Lib.hid hk0; clear hk0
  have hr5 := HD.out.c5
  obtain ⟨g2, cap2, e2, hlc, hcm, -, f0, f1, f2, -⟩ := HD.out.files.cells HX.out
  injection e2 with e3 e5 e4
  injection e3 with e3
  injection e3 with e3 e6
  clear e5 e6
  subst e3 e4
  have hkf : (F.length : Int) ≤ (kf : Int) := by omega
  have hkm : (kf : Int) ≤ 9223372036854775807 := by unfold maxLen at hcm; omega
  unfold str at f0
  have hRF := HD.out.files.each x (List.mem_of_getElem? HX.out)
  obtain ⟨asx, ksx, evs, -⟩ := id hRF.safe
  obtain ⟨avc, kvc, evc⟩ := own_shape hRF.chs.own
  rw [List.length_map] at evs
  rw [evs] at f1
  rw [evc] at f2
  have HEC := Lib.hid evc; clear evc
  have HES := Lib.hid evs; clear evs hRF
  clear hcm
  unfold ptr
  go_enter Try.func71, Try.ntmps71
  go_wp2_with fail
  obtain ⟨A, hA⟩ : ∃ A, (if kf = i + 1 then some (⟨g, 0, none⟩ : Addr) else some ⟨g, (i + 1) * 3, none⟩) = some A := by split <;> exact ⟨_, rfl⟩
  have HA := Lib.hid hA; clear hA
  obtain ⟨i0, hi0', hz0, hz1, hz2⟩ := info_parts info_rfile
  obtain ⟨W3, hW3⟩ : ∃ W3, W3 = (w.alloc (.cells #[.string ⟨#[]⟩, .slice none 0 0, .slice none 0 0] 92)).alloc (.cells #[.string ⟨x.n.toArray⟩, .slice asx x.f.safe.length ksx, .slice avc x.L.length kvc] 92) := ⟨_, rfl⟩
  rw [← hW3]
  have HB3 := Lib.hid (show Below w.heap.size w W3 by rw [hW3]; exact ((Below.refl _ w).alloc (Nat.le_refl _) _).alloc (by simp) _)
  have HS3 := Lib.hid (show W3.heap.size = w.heap.size + 2 by rw [hW3]; simp)
  have HR3 := Lib.hid (show W3.heap[w.heap.size]? = some (.cells #[.string ⟨#[]⟩, .slice none 0 0, .slice none 0 0] 92 (0, 0)) by rw [hW3]; exact heap_alloc_old _ (heap_alloc_new _ _))
  have HX3 := Lib.hid (show W3.heap[w.heap.size + 1]? = some (.cells #[.string ⟨x.n.toArray⟩, .slice asx x.f.safe.length ksx, .slice avc x.L.length kvc] 92 (0, 0)) by rw [hW3]; have := heap_alloc_new (w.alloc (.cells #[.string ⟨#[]⟩, .slice none 0 0, .slice none 0 0] 92)) (.cells #[.string ⟨x.n.toArray⟩, .slice asx x.f.safe.length ksx, .slice avc x.L.length kvc] 92); simpa using this)
  clear hW3 f0 f1 f2
  have hS0 := Lib.hid (show (fun X : World => X.cell? ⟨r, 5, none⟩ = some (.slice (some ⟨g, 0, none⟩) F.length kf)) W3.drew from (HB3.out.cell (p := ⟨r, 5, none⟩) hrl).trans hr5)
  clear hr5
  refine wp_region_G (fun X : World => X.cell? ⟨r, 5, none⟩ = some (.slice (some ⟨g, 0, none⟩) F.length kf)) 18 rfl ?_
  refine wpAnyG_take (i := 0) (oi := _) (v := .pointer (some ⟨r, 0, none⟩)) rfl (by kernel_rfl) (by kernel_rfl) (by kernel_rfl) (by kernel_rfl) (by kernel_rfl) (by kernel_rfl) (fun _ _ _ h => h) (Or.inl ⟨by rfl, fun X hX => ?_⟩) hS0.out ?_
  · have x1 := hX
    go_simp
  simp only [Act.put, List.setIfInBounds_toArray]
  refine wpAnyG_take (i := 1) (oi := _) (v := .pointer (some ⟨r, 0, none⟩)) rfl (by kernel_rfl) (by kernel_rfl) (by kernel_rfl) (by kernel_rfl) (by kernel_rfl) (by kernel_rfl) (fun _ _ _ h => h) (Or.inl ⟨by rfl, fun X hX => ?_⟩) hS0.out ?_
  · have x1 := hX
    go_simp
  simp only [Act.put]
  refine wpAnyG_take (i := 2) (oi := _) (v := .pointer (some ⟨r, 0, none⟩)) rfl (by kernel_rfl) (by kernel_rfl) (by kernel_rfl) (by kernel_rfl) (by kernel_rfl) (by kernel_rfl) (fun _ _ _ h => h) (Or.inl ⟨by rfl, fun X hX => ?_⟩) hS0.out ?_
  · have x1 := hX
    go_simp
  simp only [Act.put]
  refine wpAnyG_take (i := 3) (oi := _) (v := .pointer (some ⟨r, 5, none⟩)) rfl (by kernel_rfl) (by kernel_rfl) (by kernel_rfl) (by kernel_rfl) (by kernel_rfl) (by kernel_rfl) (fun _ _ _ h => h) (Or.inl ⟨by rfl, fun X hX => ?_⟩) hS0.out ?_
  · have x1 := hX
    go_simp
  simp only [Act.put]
  refine wpAnyG_take (i := 4) (oi := _) (v := .slice (some ⟨g, 0, none⟩) F.length kf) rfl (by kernel_rfl) (by kernel_rfl) (by kernel_rfl) (by kernel_rfl) (by kernel_rfl) (by kernel_rfl) (fun _ _ _ h => h) (Or.inl ⟨by rfl, fun X hX => ?_⟩) hS0.out ?_
  · have x1 := hX
    go_simp
  simp only [Act.put]
  refine wpAnyG_take (i := 5) (oi := _) (v := .int .i64 (i : Int)) rfl (by kernel_rfl) (by kernel_rfl) (by kernel_rfl) (by kernel_rfl) (by kernel_rfl) (by kernel_rfl) (fun _ _ _ h => h) (Or.inl ⟨by rfl, fun X hX => ?_⟩) hS0.out ?_
  · have x1 := hX
    go_simp
  simp only [Act.put]
  refine wpAnyG_take (i := 6) (oi := _) (v := .slice (some ⟨g, 0, none⟩) i kf) rfl (by kernel_rfl) (by kernel_rfl) (by kernel_rfl) (by kernel_rfl) (by kernel_rfl) (by kernel_rfl) (fun _ _ _ h => h) (Or.inl ⟨by rfl, fun X hX => ?_⟩) hS0.out ?_
  · have x1 := hX
    (go_simp; intro h; omega)
  simp only [Act.put]
  refine wpAnyG_take (i := 8) (oi := _) (v := .pointer (some ⟨r, 0, none⟩)) rfl (by kernel_rfl) (by kernel_rfl) (by kernel_rfl) (by kernel_rfl) (by kernel_rfl) (by kernel_rfl) (fun _ _ _ h => h) (Or.inl ⟨by rfl, fun X hX => ?_⟩) hS0.out ?_
  · have x1 := hX
    go_simp
  simp only [Act.put]
  refine wpAnyG_take (i := 9) (oi := _) (v := .pointer (some ⟨r, 0, none⟩)) rfl (by kernel_rfl) (by kernel_rfl) (by kernel_rfl) (by kernel_rfl) (by kernel_rfl) (by kernel_rfl) (fun _ _ _ h => h) (Or.inl ⟨by rfl, fun X hX => ?_⟩) hS0.out ?_
  · have x1 := hX
    go_simp
  simp only [Act.put]
  refine wpAnyG_take (i := 10) (oi := _) (v := .pointer (some ⟨r, 5, none⟩)) rfl (by kernel_rfl) (by kernel_rfl) (by kernel_rfl) (by kernel_rfl) (by kernel_rfl) (by kernel_rfl) (fun _ _ _ h => h) (Or.inl ⟨by rfl, fun X hX => ?_⟩) hS0.out ?_
  · have x1 := hX
    go_simp
  simp only [Act.put]
  refine wpAnyG_take (i := 11) (oi := _) (v := .slice (some ⟨g, 0, none⟩) F.length kf) rfl (by kernel_rfl) (by kernel_rfl) (by kernel_rfl) (by kernel_rfl) (by kernel_rfl) (by kernel_rfl) (fun _ _ _ h => h) (Or.inl ⟨by rfl, fun X hX => ?_⟩) hS0.out ?_
  · have x1 := hX
    go_simp
  simp only [Act.put]
  refine wpAnyG_take (i := 12) (oi := _) (v := .int .i64 (i : Int)) rfl (by kernel_rfl) (by kernel_rfl) (by kernel_rfl) (by kernel_rfl) (by kernel_rfl) (by kernel_rfl) (fun _ _ _ h => h) (Or.inl ⟨by rfl, fun X hX => ?_⟩) hS0.out ?_
  · have x1 := hX
    go_simp
  simp only [Act.put]
  refine wpAnyG_take (i := 13) (oi := _) (v := .int .i64 ((i : Int) + 1)) rfl (by kernel_rfl) (by kernel_rfl) (by kernel_rfl) (by kernel_rfl) (by kernel_rfl) (by kernel_rfl) (fun _ _ _ h => h) (Or.inl ⟨by rfl, fun X hX => ?_⟩) hS0.out ?_
  · have x1 := hX
    (go_simp; exact IntWalk.i64_in _ (by omega))
  simp only [Act.put]
  refine wpAnyG_take (i := 14) (oi := _) (v := .slice (some A) (F.length - (i + 1)) (kf - (i + 1))) rfl (by kernel_rfl) (by kernel_rfl) (by kernel_rfl) (by kernel_rfl) (by kernel_rfl) (by kernel_rfl) (fun _ _ _ h => h) (Or.inl ⟨by rfl, fun X hX => ?_⟩) hS0.out ?_
  · have x1 := hX
    (go_simp; rw [if_pos ⟨by omega, by omega⟩, HA.out])
  simp only [Act.put]
  have hown0 : ∀ X : World, Below w.heap.size w X → X.ownsRow 0 92 3 (.slice (some ⟨g, 0, none⟩) F.length kf) F.length (F.flatMap rfc) := fun X hX => ownsRow_kp (c := fun _ => (0, 0)) (q := (0, 0)) (S := S2F) HD.out.files.own (fun _ _ => rfl) (Kp.of_below hX) (fun h => h)
  have HOWN := Lib.hid hown0; clear hown0
  have hfl := flat_len rfc_len F
  have HFL := Lib.hid hfl; clear hfl
  have HONE := Lib.hid (rfc_one HD.out.files)
  have hN1 := Lib.hid (show ∀ X : World, Below w.heap.size w X → ∀ (j : Nat) u, ((F.flatMap rfc).take (i * 3))[j]? = some u → X.cell? ((⟨g, 0, none⟩ : Addr).add j) = some u from fun X hX j u hj => by
    rw [List.getElem?_take] at hj
    split at hj
    · exact (HOWN.out X hX).cells (g := g) rfl j u hj
    · cases hj)
  have hN2 := Lib.hid (show ∀ X : World, Below w.heap.size w X → ∀ (j : Nat) u, ((F.flatMap rfc).drop ((i + 1) * 3))[j]? = some u → X.cell? (A.add j) = some u from fun X hX j u hj => by
    rw [List.getElem?_drop] at hj
    have h1 := (HOWN.out X hX).cells (g := g) rfl _ u hj
    have h2 := HFL.out
    have h3 := (List.getElem?_eq_some_iff.1 hj).1
    have h4 := HA.out
    rw [if_neg (by omega)] at h4
    injection h4 with h4
    rw [← h4]
    rw [add_eq rfl] at h1 ⊢
    simpa using h1)
  have HBd := Lib.hid (show Below w.heap.size w W3.drew from bdrewN HB3.out 1)
  have hN1d := Lib.hid (hN1.out _ HBd.out)
  have hL1 := Lib.hid (show ((F.flatMap rfc).take (i * 3)).length = i * 3 by rw [List.length_take, HFL.out]; omega)
  have hM1 := Lib.hid (show 0 + i ≤ maxLen by unfold maxLen; omega)
  have hM2 := Lib.hid (show (0 + i) * 64 ≤ 140737488355328 by omega)
  have hO1 := Lib.hid (show ∀ u ∈ (F.flatMap rfc).take (i * 3), u.oneCell' = true from fun u hu => HONE.out u (List.mem_of_mem_take hu))
  refine wpAnyG_one (i := 7) (by kernel_rfl) rfl (fun K' hK' => ?_)
  refine step_append_lies' rfl (.const (.slice none 0 0)) (.tmp 19) 54 rfl 92 i0 (.agg #[.string ⟨#[]⟩, .slice none 0 0, .slice none 0 0]) 3 64 Try.underlying54 hi0' hz0 hz1 hz2 rfl (by decide) (.slice none 0 0) 0 [] (by rfl) (World.ownsRow_nil _ _ _ _) ⟨g, 0, none⟩ i kf ((F.flatMap rfc).take (i * 3)) (by simp [Act.eval]) hL1.out hN1d.out hO1.out hM1.out hM2.out (fun a1 k1 w1 hown1 hgrow1 hv1 => ?_)
  have hb1 : Below W3.heap.size W3 w1 := (bdrewN (Below.refl _ W3) 1 : Below W3.heap.size W3 W3.drew).grown hgrow1 (Nat.le_refl _) (fun g hg => by cases hg)
  have hS1 := Lib.hid (show (fun X : World => X.cell? ⟨r, 5, none⟩ = some (.slice (some ⟨g, 0, none⟩) F.length kf)) w1 from (hb1.cell (p := ⟨r, 5, none⟩) (show r < W3.heap.size by rw [HS3.out]; omega)).trans hS0.out)
  have hf1 : ∀ g, (Value.slice a1 (0 + i) k1).ownBlock = some g → W3.heap.size ≤ g := fun g hg => (hv1 g hg).elim (fun h => by cases h) id
  have HOW1 := Lib.hid hown1
  have HBL1 := Lib.hid hb1
  have HF1 := Lib.hid hf1
  have hBw1 := Lib.hid (show Below w.heap.size w w1 from HB3.out.trans (hb1.mono HB3.out.size))
  have hN2d := Lib.hid (hN2.out _ hBw1.out)
  have hL2 := Lib.hid (show ((F.flatMap rfc).drop ((i + 1) * 3)).length = (F.length - (i + 1)) * 3 by rw [List.length_drop, HFL.out]; omega)
  have hM3 := Lib.hid (show (0 + i) + (F.length - (i + 1)) ≤ maxLen by unfold maxLen; omega)
  have hM4 := Lib.hid (show ((0 + i) + (F.length - (i + 1))) * 64 ≤ 140737488355328 by omega)
  have hO2 := Lib.hid (show ∀ u ∈ (F.flatMap rfc).drop ((i + 1) * 3), u.oneCell' = true from fun u hu => HONE.out u (List.mem_of_mem_drop hu))
  clear hown1 hgrow1 hv1 hb1 hf1
  refine hK'.out _ _ (fun _ => hS1.out) ?_
  simp only [Act.put]
  refine wpAnyG_one (i := 15) (by kernel_rfl) rfl (fun K' hK' => ?_)
  refine step_append_lies' rfl (.tmp 20) (.tmp 27) 54 rfl 92 i0 (.agg #[.string ⟨#[]⟩, .slice none 0 0, .slice none 0 0]) 3 64 Try.underlying54 hi0' hz0 hz1 hz2 rfl (by decide) (.slice a1 (0 + i) k1) (0 + i) ([] ++ (F.flatMap rfc).take (i * 3)) (by simp [Act.eval]) HOW1.out A (F.length - (i + 1)) (kf - (i + 1)) ((F.flatMap rfc).drop ((i + 1) * 3)) (by simp [Act.eval]) hL2.out hN2d.out hO2.out hM3.out hM4.out (fun a2 k2 w2 hown2 hgrow2 hv2 => ?_)
  have hb2 : Below W3.heap.size W3 w2 := HBL1.out.grown hgrow2 HBL1.out.size HF1.out
  have hS0 := Lib.hid (show (fun X : World => X.cell? ⟨r, 5, none⟩ = some (.slice (some ⟨g, 0, none⟩) F.length kf)) w2 from (hb2.cell (p := ⟨r, 5, none⟩) (show r < W3.heap.size by rw [HS3.out]; omega)).trans hS0.out)
  have hf2 : ∀ g, (Value.slice a2 (0 + i + (F.length - (i + 1))) k2).ownBlock = some g → W3.heap.size ≤ g := fun g hg => (hv2 g hg).elim (HF1.out g) (fun h => Nat.le_trans HBL1.out.size h)
  have HOW2 := Lib.hid hown2
  have HBL2 := Lib.hid hb2
  have HF2 := Lib.hid hf2
  clear hown2 hgrow2 hb2 hf2 hv2
  refine hK'.out _ _ (fun _ => hS0.out) ?_
  simp only [Act.put]
  refine wpAnyG_take (i := 16) (oi := _) (v := .pointer (some ⟨r, 0, none⟩)) rfl (by kernel_rfl) (by kernel_rfl) (by kernel_rfl) (by kernel_rfl) (by kernel_rfl) (by kernel_rfl) (fun _ _ _ h => h) (Or.inl ⟨by rfl, fun X hX => ?_⟩) hS0.out ?_
  · have x1 := hX
    go_simp
  simp only [Act.put]
  refine wpAnyG_take (i := 17) (oi := _) (v := .pointer (some ⟨r, 5, none⟩)) rfl (by kernel_rfl) (by kernel_rfl) (by kernel_rfl) (by kernel_rfl) (by kernel_rfl) (by kernel_rfl) (fun _ _ _ h => h) (Or.inl ⟨by rfl, fun X hX => ?_⟩) hS0.out ?_
  · have x1 := hX
    go_simp
  simp only [Act.put]
  have hr5 : w2.cell? ⟨r, 5, none⟩ = some (.slice (some ⟨g, 0, none⟩) F.length kf) := hS0.out
  have hfz : w2.frozen? ⟨r, 5, none⟩ = false := ((HB3.out.trans (HBL2.out.mono HB3.out.size)).frozen (p := ⟨r, 5, none⟩) hrl).trans (HD.out.fz 5)
  have HX4 := Lib.hid ((HBL2.out.block (w.heap.size + 1) (by rw [HS3.out]; omega)).trans HX3.out)
  have HR4 := Lib.hid ((HBL2.out.block w.heap.size (by rw [HS3.out]; omega)).trans HR3.out)
  have x0 := cell_of_heap HX4.out 0
  have x1 := cell_of_heap HX4.out 1
  have x2 := cell_of_heap HX4.out 2
  have r0 := cell_of_heap HR4.out 0
  have r1 := cell_of_heap HR4.out 1
  have r2 := cell_of_heap HR4.out 2
  have rz := unfrozen_of_heap HR4.out
  refine wpAnyG_one (i := 18) (by kernel_rfl) rfl (fun K' hK' => ?_)
  go_simp
  refine hK'.out _ _ (fun h => absurd h (by decide)) ?_
  refine wpAnyG_done (by kernel_rfl) ?_
  go_wp2
  have HR5 := Lib.hid (heap_setCell (heap_setCell (heap_setCell ((Below.heap_setCell w2 ⟨r, 5, none⟩ (.slice a2 (i + (F.length - (i + 1))) k2) w.heap.size (by show w.heap.size ≠ r; omega)).trans HR4.out) 0 (.string ⟨x.n.toArray⟩)) 1 (.slice asx x.f.safe.length ksx)) 2 (.slice avc x.L.length kvc))
  have y0 := cell_of_heap HR5.out 0
  have y1 := cell_of_heap HR5.out 1
  have y2 := cell_of_heap HR5.out 2
  refine bodyPost_ret (v := .agg #[.string ⟨x.n.toArray⟩, .slice asx x.f.safe.length ksx, .slice avc x.L.length kvc]) (by simp [results, Try.results71, go_sem, y0, y1, y2]) rfl ?_
  have h5 := HOW2.out
  rw [Nat.zero_add, List.nil_append] at h5
  have HOW4 := Lib.hid h5
  have h6 := HF2.out
  rw [Nat.zero_add] at h6
  have HF4 := Lib.hid h6
  rw [← HES.out, ← HEC.out]
  refine out_end (v2 := .slice a2 (i + (F.length - (i + 1))) k2) (w0 := W3) (w2 := w2) (B := W3.heap.size) HD.out HK0.out HX.out HB3.out HB3.out.size HOW4.out HBL2.out HF4.out rfl ?_ ?_
  · exact below_set3 _ _ _ _ _
  · intro g' hg'
    have := HF4.out g' hg'
    have h3 := HS3.out
    rw [Below.heap_setCell _ _ _ _ (show g' ≠ w.heap.size by omega), Below.heap_setCell _ _ _ _ (show g' ≠ w.heap.size by omega), Below.heap_setCell _ _ _ _ (show g' ≠ w.heap.size by omega)]
end Go.Proofs.Ytepphepcaphlkaa
/- The document's disk: a file laid in its place. -/
namespace Go.Proofs.Ytepphepcaphlkaa
open Go Go.RowKit Go.MapKept Go.Maps
open Dk
variable {c c' : Col} {S : Nat × Nat → Prop} {w w' : World} {q : Nat × Nat}
theorem ins_at {n : Nm} {f : AFile} : ∀ {fs : List (Nm × AFile)} {i : Nat}, i ≤ fs.length → (∀ y ∈ fs.take i, y.1 < n) → (∀ y ∈ fs.drop i, n < y.1) → fs.take i ++ (n, f) :: fs.drop i = Dk.ins n f fs
  | [], i, _, _, _ => by simp [Dk.ins]
  | y :: r, 0, _, _, h => by
    have := h y (List.mem_cons_self ..)
    simp [Dk.ins, this]
  | y :: r, i + 1, hi, h1, h2 => by
    have hy := h1 y (by simp)
    have hn : ¬ n < y.1 := fun h => List.lt_irrefl _ (List.lt_trans hy h)
    rw [List.take_succ_cons, List.drop_succ_cons, List.cons_append, Dk.ins, if_neg hn]
    rw [ins_at (fs := r) (by simpa using hi) (fun z hz => h1 z (by rw [List.take_succ_cons]; exact List.mem_cons_of_mem _ hz)) (fun z hz => h2 z (by rw [List.drop_succ_cons]; exact hz))]
/-- The list with x at place i. -/
def at_ (F : List RFl) (x : RFl) (i : Nat) : List RFl := F.take i ++ x :: F.drop i
theorem at_len (F : List RFl) (x : RFl) {i : Nat} (hi : i ≤ F.length) : (at_ F x i).length = F.length + 1 := by simp [at_]; omega
theorem at_here (F : List RFl) (x : RFl) {i : Nat} (hi : i ≤ F.length) : (at_ F x i)[i]? = some x := by
  unfold at_
  have h : (F.take i).length = i := by rw [List.length_take]; omega
  rw [List.getElem?_append_right (by omega), h, Nat.sub_self]
  rfl
theorem at_prev (F : List RFl) (x : RFl) {i : Nat} (hi : i + 1 ≤ F.length) : (at_ F x (i + 1))[i]? = F[i]? := by
  unfold at_
  rw [List.getElem?_append_left (by simp; omega), List.getElem?_take, if_pos (by omega)]
theorem at_swap (F : List RFl) (x y : RFl) {i : Nat} (hy : F[i]? = some y) : ((at_ F x (i + 1)).set i x).set (i + 1) y = at_ F x i := by
  have hlt : i < F.length := (List.getElem?_eq_some_iff.1 hy).1
  have e1 : F.take (i + 1) = F.take i ++ [y] := by rw [List.take_add_one, hy]; rfl
  have e2 : F.drop i = y :: F.drop (i + 1) := by
    rw [List.drop_eq_getElem_cons hlt, (List.getElem?_eq_some_iff.1 hy).2]
  have e3 : (F.take i).length = i := by simp; omega
  unfold at_
  rw [e1, e2, List.append_assoc, List.set_append_right _ _ (by omega), e3, Nat.sub_self, List.singleton_append, List.set_cons_zero, List.set_append_right _ _ (by omega), e3]
  simp
theorem at_mem {F : List RFl} {x y : RFl} {i : Nat} : y ∈ at_ F x i ↔ y = x ∨ y ∈ F := by
  unfold at_
  rw [List.mem_append, List.mem_cons]
  constructor
  · rintro (h | h | h)
    · exact .inr (List.mem_of_mem_take h)
    · exact .inl h
    · exact .inr (List.mem_of_mem_drop h)
  · rintro (h | h)
    · exact .inr (.inl h)
    · rw [← List.take_append_drop i F] at h
      rcases List.mem_append.1 h with h | h
      · exact .inl h
      · exact .inr (.inr h)
theorem at_end (F : List RFl) (x : RFl) : at_ F x F.length = F ++ [x] := by simp [at_]
theorem rins_ok {m : ADisk} (h : m.ok) {n : Nm} {f : AFile} (hn : ∀ x ∈ m.files, x.1 ≠ n) (hl : n.length ≤ 32) (hm : m.files.length < 4096) (hf : f.ok m.ops.toNat) : ({ m with files := Dk.ins n f m.files } : ADisk).ok :=
  ⟨h.ops0, fun x hx => (insMem hx).elim (fun e => by rw [e]; exact hf) (h.files x), by have := (ins_perm n f m.files).length_eq; show (ins n f m.files).length ≤ 4096; rw [this]; simp; omega, fun x hx => (insMem hx).elim (fun e => by rw [e]; exact hl) (h.names x), ins_rising n f h.rising hn⟩
/-- The walk in the loop: the file stands at place i, all behind it are greater. -/
structure PInv (w1 : World) (c : Col) (k : Nat) (v1 : Value) (F : List RFl) (x : RFl) (i : Nat) (wr : World) : Prop where
  le : i ≤ F.length
  gt : ∀ y ∈ F.drop i, x.n < y.n
  own : wr.ownsRow 0 92 3 v1 (F.length + 1) ((at_ F x i).flatMap rfc)
  kp : Kp c (fun q => q = (k, 1)) w1 wr
theorem PInv.drew {w1 wr : World} {k i : Nat} {v1 : Value} {F : List RFl} {x : RFl} (h : PInv w1 c k v1 F x i wr) : PInv w1 c k v1 F x i wr.drew := ⟨h.le, h.gt, h.own, h.kp.drewN 1⟩
theorem PInv.drewN {w1 wr : World} {k i : Nat} {v1 : Value} {F : List RFl} {x : RFl} (h : PInv w1 c k v1 F x i wr) (n : Nat) : PInv w1 c k v1 F x i (wr.drewN n) := ⟨h.le, h.gt, h.own, h.kp.drewN n⟩
/-- What put leaves. -/
def PutPost (k r : Nat) (m : ADisk) (x : RFl) (c : Col) (w : World) (e : Ending) (w' : World) : Prop :=
  e = .returned (.tuple #[]) ∧ ∃ c', Cx w c c' ∧ Kp c (fun q => q.1 = k) w w' ∧ RD w' c' k r { m with files := Dk.ins x.n x.f m.files }
theorem put_end {k r i : Nat} {m : ADisk} {vk vf vu vF v1 : Value} {F : List RFl} {w w1 wr : World} {x : RFl} {c1 : Col} (D : RD' w c k r m vk vf vu vF F) (hk0 : k ≠ 0) (hx : RF w c k x)
    (hap : ∀ y ∈ F, ∀ g, x.vc.ownBlock = some g → y.vc.ownBlock ≠ some g) (hnew : ∀ y ∈ F, y.n ≠ x.n) (hl : x.n.length ≤ 32) (hm : F.length < 4096) (hf : x.f.ok m.ops.toNat)
    (hc1 : Cx w c c1) (hv1 : ∀ g, v1.ownBlock = some g → c1 g = (k, 1)) (hk1 : Kp c (fun q => q = (k, 1) ∨ q = (k, 0)) w w1) (hr1 : w1.heap[r]? = some (.cells (rdCells m vk vf vu v1) 56 (0, 0)))
    (I : PInv w1 c1 k v1 F x i wr) (hlow : i = 0 ∨ ∃ y, F[i - 1]? = some y ∧ ¬ x.n < y.n) : PutPost k r m x c w (.returned (.tuple #[])) wr := by
  have hmF : m.files.length = F.length := by rw [← D.names, List.length_map]
  have hsz := hk1.size
  have hkr : Kp c (fun q => q = (k, 1) ∨ q = (k, 0)) w wr := hk1.trans (I.kp.mono fun q hq => .inl hq) hc1
  have hn0 : ¬ (((0, 0) : Nat × Nat) = (k, 1) ∨ ((0, 0) : Nat × Nat) = (k, 0)) := by simp; exact fun h => hk0 h.symm
  have hng : ∀ g, ¬ (((k, g + 2) : Nat × Nat) = (k, 1) ∨ ((k, g + 2) : Nat × Nat) = (k, 0)) := by intro g; simp
  have hrf : ∀ y, RF w c k y → RF wr c1 k y := fun y hy => hy.kp hkr hn0 (fun g _ => hng g) hc1
  have hmem : ∀ y ∈ F, RF w c k y := D.files.each
  have hfs : (at_ F x i).map (fun x => (x.n, x.f)) = Dk.ins x.n x.f m.files := by
    rw [← D.names]
    have hr := D.ok.rising
    rw [← D.names] at hr
    unfold at_
    rw [List.map_append, List.map_cons, List.map_take, List.map_drop]
    refine ins_at (by rw [List.length_map]; exact I.le) (fun y hy => ?_) (fun y hy => ?_)
    · rw [← List.map_take] at hy
      obtain ⟨z, hz, rfl⟩ := List.mem_map.1 hy
      rcases hlow with rfl | ⟨y0, hy0, hny⟩
      · cases hz
      · have hzF := List.mem_of_mem_take hz
        obtain ⟨j, hj⟩ := List.mem_iff_getElem?.1 hz
        rw [List.getElem?_take] at hj
        split at hj
        · rename_i hji
          have hle : z.n < y0.n ∨ z = y0 := by
            by_cases e : j = i - 1
            · subst e; rw [hj] at hy0; cases hy0; exact .inr rfl
            · left
              have hp := List.pairwise_iff_getElem.1 (List.pairwise_map.1 hr)
              obtain ⟨a1, b1⟩ := List.getElem?_eq_some_iff.1 hj
              obtain ⟨a2, b2⟩ := List.getElem?_eq_some_iff.1 hy0
              have := hp j (i - 1) a1 a2 (by omega)
              rw [b1, b2] at this
              exact this
          have hy0lt : y0.n < x.n := lt_of_not hny (hnew y0 (List.mem_of_getElem? hy0))
          rcases hle with h | h
          · exact List.lt_trans h hy0lt
          · rw [h]; exact hy0lt
        · cases hj
    · rw [← List.map_drop] at hy
      obtain ⟨z, hz, rfl⟩ := List.mem_map.1 hy
      exact I.gt z hz
  refine ⟨rfl, c1, hc1, hkr.mono ?_, vk, vf, vu, v1, at_ F x i, ?_⟩
  · rintro q (rfl | rfl) <;> rfl
  refine ⟨rins_ok D.ok (fun y hy => ?_) hl (by omega) hf, I.kp.heap hr1 ?_, (hc1 _ D.lt).trans D.col, D.plan.kp hkr hn0 hc1, hfs, ⟨?_, ?_, ?_, ?_⟩⟩
  · rw [← D.names] at hy
    obtain ⟨z, hz, rfl⟩ := List.mem_map.1 hy
    exact hnew z hz
  · rw [hc1 _ D.lt, D.col]; simp
  · rw [at_len F x I.le]; exact I.own
  · exact hv1
  · intro y hy
    rcases at_mem.1 hy with rfl | h
    · exact hrf _ hx
    · exact hrf _ (hmem y h)
  · have hp := D.files.apart
    unfold at_
    rw [← List.take_append_drop i F] at hp
    obtain ⟨p1, p2, p3⟩ := List.pairwise_append.1 hp
    refine List.pairwise_append.2 ⟨p1, List.pairwise_cons.2 ⟨fun y hy g hg => hap y (List.mem_of_mem_drop hy) g hg, p2⟩, fun a ha b hb g hg => ?_⟩
    rcases List.mem_cons.1 hb with rfl | hb
    · exact fun h => hap a (List.mem_of_mem_take ha) g h hg
    · exact p3 a ha b hb g hg
theorem pinv_swap {w1 wr : World} {k g kf i : Nat} {F : List RFl} {x y : RFl} (I : PInv w1 c k (.slice (some ⟨g, 0, none⟩) (F.length + 1) kf) F x (i + 1) wr) (hy : F[i]? = some y) (hlt : x.n < y.n) (hg : c g = (k, 1)) {w2 : World}
    (h2 : w2 = (((((wr.setCell ⟨g, i * 3, none⟩ (str x.n)).setCell ⟨g, i * 3 + 1, none⟩ x.vs).setCell ⟨g, i * 3 + 2, none⟩ x.vc).setCell ⟨g, (i + 1) * 3, none⟩ (str y.n)).setCell ⟨g, (i + 1) * 3 + 1, none⟩ y.vs).setCell ⟨g, (i + 1) * 3 + 2, none⟩ y.vc) :
    PInv w1 c k (.slice (some ⟨g, 0, none⟩) (F.length + 1) kf) F x i w2 := by
  have hi : i < F.length := (List.getElem?_eq_some_iff.1 hy).1
  have hL : (at_ F x (i + 1)).length = F.length + 1 := at_len F x (by omega)
  refine ⟨by omega, ?_, ?_, ?_⟩
  · intro z hz
    rw [List.drop_eq_getElem_cons hi, (List.getElem?_eq_some_iff.1 hy).2] at hz
    rcases List.mem_cons.1 hz with rfl | hz
    · exact hlt
    · exact I.gt z hz
  · have hp := at_prev F x (i := i) (by omega)
    rw [hy] at hp
    have hh := at_here F x (i := i + 1) (by omega)
    have a0 := owns_set I.own (i * 3) (str x.n)
    rw [show i * 3 = i * 3 + 0 from rfl, flat_set rfc_len _ i 0 y ⟨x.n, y.f, y.vs, y.vc, y.L⟩ (str x.n) hp (by omega) rfl] at a0
    have a1 := owns_set a0 (i * 3 + 1) x.vs
    rw [flat_set rfc_len _ i 1 ⟨x.n, y.f, y.vs, y.vc, y.L⟩ ⟨x.n, y.f, x.vs, y.vc, y.L⟩ x.vs (by rw [List.getElem?_set_self (by omega)]) (by omega) rfl, List.set_set] at a1
    have a2 := owns_set a1 (i * 3 + 2) x.vc
    rw [flat_set rfc_len _ i 2 ⟨x.n, y.f, x.vs, y.vc, y.L⟩ x x.vc (by rw [List.getElem?_set_self (by omega)]) (by omega) rfl, List.set_set] at a2
    have a3 := owns_set a2 ((i + 1) * 3) (str y.n)
    rw [show (i + 1) * 3 = (i + 1) * 3 + 0 from rfl, flat_set rfc_len _ (i + 1) 0 x ⟨y.n, x.f, x.vs, x.vc, x.L⟩ (str y.n) (by rw [List.getElem?_set_ne (by omega)]; exact hh) (by omega) rfl] at a3
    have a4 := owns_set a3 ((i + 1) * 3 + 1) y.vs
    rw [flat_set rfc_len _ (i + 1) 1 ⟨y.n, x.f, x.vs, x.vc, x.L⟩ ⟨y.n, x.f, y.vs, x.vc, x.L⟩ y.vs (by rw [List.getElem?_set_self (by rw [List.length_set]; omega)]) (by omega) rfl, List.set_set] at a4
    have a5 := owns_set a4 ((i + 1) * 3 + 2) y.vc
    rw [flat_set rfc_len _ (i + 1) 2 ⟨y.n, x.f, y.vs, x.vc, x.L⟩ y y.vc (by rw [List.getElem?_set_self (by rw [List.length_set]; omega)]) (by omega) rfl, List.set_set, at_swap F x y hy] at a5
    rw [h2]; exact a5
  · rw [h2]
    exact ((((((I.kp.setCell (fun _ => hg) _).setCell (fun _ => hg) _).setCell (fun _ => hg) _).setCell (fun _ => hg) _).setCell (fun _ => hg) _).setCell (fun _ => hg) _)
set_option maxRecDepth 20000 in
set_option maxHeartbeats 4000000 in
theorem rput_c (k r : Nat) (m : ADisk) (vk vf vu vF : Value) (F : List RFl) (w : World) (D : RD' w c k r m vk vf vu vF F) (hk0 : k ≠ 0) (x : RFl) (hx : RF w c k x)
    (hap : ∀ y ∈ F, ∀ g, x.vc.ownBlock = some g → y.vc.ownBlock ≠ some g) (hnew : ∀ y ∈ F, y.n ≠ x.n) (hl : x.n.length ≤ 32) (hm : F.length < 4096) (hf : x.f.ok m.ops.toNat) :
    Calls Try.prog 69 #[ptr r, .agg #[.string ⟨x.n.toArray⟩, x.vs, x.vc]] w (PutPost k r m x c w) := by
  have hrl := D.lt
  obtain ⟨af, kf, e⟩ := D.files.shape
  subst e
  obtain ⟨asx, ksx, evs, -⟩ := id hx.safe
  obtain ⟨avc, kvc, evc⟩ := own_shape hx.chs.own
  rw [List.length_map] at evs
  rw [evs, evc]
  have HES := Lib.hid evs; clear evs
  have HEC := Lib.hid evc; clear evc
  have hr5 := D.c5
  have HD := Lib.hid D; clear D
  have HX := Lib.hid hx; clear hx
  have HK0 := Lib.hid hk0; clear hk0
  have HAP := Lib.hid hap; clear hap
  have HNEW := Lib.hid hnew; clear hnew
  have HL := Lib.hid hl; clear hl
  have HF := Lib.hid hf; clear hf
  unfold ptr
  go_enter Try.func69, Try.ntmps69
  go_wp2_with fail
  obtain ⟨W3, hW3⟩ : ∃ W3, W3 = w.alloc (.cells #[.string ⟨x.n.toArray⟩, .slice asx x.f.safe.length ksx, .slice avc x.L.length kvc] 92) := ⟨_, rfl⟩
  rw [← hW3]
  have HB3 := Lib.hid (show Below w.heap.size w W3 by rw [hW3]; exact (Below.refl _ w).alloc (Nat.le_refl _) _)
  have HS3 := Lib.hid (show W3.heap.size = w.heap.size + 1 by rw [hW3]; simp)
  have HX3 := Lib.hid (show W3.heap[w.heap.size]? = some (.cells #[.string ⟨x.n.toArray⟩, .slice asx x.f.safe.length ksx, .slice avc x.L.length kvc] 92 (0, 0)) by rw [hW3]; exact heap_alloc_new _ _)
  clear hW3
  have hS0 := Lib.hid (show (fun X : World => X.cell? ⟨r, 5, none⟩ = some (.slice af F.length kf) ∧ X.cell? ⟨w.heap.size, 0, none⟩ = some (.string ⟨x.n.toArray⟩) ∧ X.cell? ⟨w.heap.size, 1, none⟩ = some (.slice asx x.f.safe.length ksx) ∧ X.cell? ⟨w.heap.size, 2, none⟩ = some (.slice avc x.L.length kvc)) W3.drew from ⟨(HB3.out.cell (p := ⟨r, 5, none⟩) hrl).trans hr5, cell_of_heap HX3.out 0, cell_of_heap HX3.out 1, cell_of_heap HX3.out 2⟩)
  clear hr5
  obtain ⟨i0, hi0', hz0, hz1, hz2⟩ := info_parts info_rfile
  have HOWN := Lib.hid (show (W3.alloc (.cells #[.string ⟨x.n.toArray⟩, .slice asx x.f.safe.length ksx, .slice avc x.L.length kvc] 92)).drew.ownsRow 0 92 3 (.slice af F.length kf) F.length (F.flatMap rfc) from owns_alloc (ownsRow_kp (c := fun _ => (0, 0)) (q := (0, 0)) (S := S2F) HD.out.files.own (fun _ _ => rfl) (Kp.of_below HB3.out) (fun h => h)) _)
  have HM1 := Lib.hid (show F.length + 1 ≤ maxLen by unfold maxLen; omega)
  have HM2 := Lib.hid (show (F.length + 1) * 64 ≤ 140737488355328 by omega)
  have HBd := Lib.hid (show Below w.heap.size w (W3.alloc (.cells #[.string ⟨x.n.toArray⟩, .slice asx x.f.safe.length ksx, .slice avc x.L.length kvc] 92)).drew from bdrewN (HB3.out.alloc HB3.out.size _) 1)
  have HNE := Lib.hid (show ∀ b, b = r ∨ b = w.heap.size → some b ≠ (Value.slice af F.length kf).ownBlock by
    intro b hb e
    have h1 := HD.out.files.col b e.symm
    have h2 := ownBlock_lt HD.out.files.own b e.symm
    rcases hb with rfl | rfl
    · rw [HD.out.col] at h1; simp at h1
    · omega)
  refine wp_region_G (fun X : World => X.cell? ⟨r, 5, none⟩ = some (.slice af F.length kf) ∧ X.cell? ⟨w.heap.size, 0, none⟩ = some (.string ⟨x.n.toArray⟩) ∧ X.cell? ⟨w.heap.size, 1, none⟩ = some (.slice asx x.f.safe.length ksx) ∧ X.cell? ⟨w.heap.size, 2, none⟩ = some (.slice avc x.L.length kvc)) 10 rfl ?_
  refine wpAnyG_take (i := 0) (oi := _) (v := .pointer (some ⟨r, 0, none⟩)) rfl (by kernel_rfl) (by kernel_rfl) (by kernel_rfl) (by kernel_rfl) (by kernel_rfl) (by kernel_rfl) (fun _ _ _ h => h) (Or.inl ⟨by rfl, fun X hX => ?_⟩) hS0.out ?_
  · obtain ⟨x1, x2, x3, x4⟩ := hX
    go_simp
  simp only [Act.put, List.setIfInBounds_toArray]
  refine wpAnyG_take (i := 1) (oi := _) (v := .pointer (some ⟨r, 0, none⟩)) rfl (by kernel_rfl) (by kernel_rfl) (by kernel_rfl) (by kernel_rfl) (by kernel_rfl) (by kernel_rfl) (fun _ _ _ h => h) (Or.inl ⟨by rfl, fun X hX => ?_⟩) hS0.out ?_
  · obtain ⟨x1, x2, x3, x4⟩ := hX
    go_simp
  simp only [Act.put]
  refine wpAnyG_take (i := 2) (oi := _) (v := .pointer (some ⟨r, 0, none⟩)) rfl (by kernel_rfl) (by kernel_rfl) (by kernel_rfl) (by kernel_rfl) (by kernel_rfl) (by kernel_rfl) (fun _ _ _ h => h) (Or.inl ⟨by rfl, fun X hX => ?_⟩) hS0.out ?_
  · obtain ⟨x1, x2, x3, x4⟩ := hX
    go_simp
  simp only [Act.put]
  refine wpAnyG_take (i := 3) (oi := _) (v := .pointer (some ⟨r, 5, none⟩)) rfl (by kernel_rfl) (by kernel_rfl) (by kernel_rfl) (by kernel_rfl) (by kernel_rfl) (by kernel_rfl) (fun _ _ _ h => h) (Or.inl ⟨by rfl, fun X hX => ?_⟩) hS0.out ?_
  · obtain ⟨x1, x2, x3, x4⟩ := hX
    go_simp
  simp only [Act.put]
  refine wpAnyG_take (i := 4) (oi := _) (v := .slice af F.length kf) rfl (by kernel_rfl) (by kernel_rfl) (by kernel_rfl) (by kernel_rfl) (by kernel_rfl) (by kernel_rfl) (fun _ _ _ h => h) (Or.inl ⟨by rfl, fun X hX => ?_⟩) hS0.out ?_
  · obtain ⟨x1, x2, x3, x4⟩ := hX
    go_simp
  simp only [Act.put]
  refine wpAnyG_take (i := 5) (oi := _) (v := .agg #[.string ⟨x.n.toArray⟩, .slice asx x.f.safe.length ksx, .slice avc x.L.length kvc]) rfl (by kernel_rfl) (by kernel_rfl) (by kernel_rfl) (by kernel_rfl) (by kernel_rfl) (by kernel_rfl) (fun _ _ _ h => h) (Or.inl ⟨by rfl, fun X hX => ?_⟩) hS0.out ?_
  · obtain ⟨x1, x2, x3, x4⟩ := hX
    go_simp
  simp only [Act.put]
  refine wpAnyG_one (i := 6) (by kernel_rfl) rfl (fun K' hK' => ?_)
  go_simp
  have HS1 := Lib.hid (show (fun X : World => X.cell? ⟨r, 5, none⟩ = some (.slice af F.length kf) ∧ X.cell? ⟨w.heap.size, 0, none⟩ = some (.string ⟨x.n.toArray⟩) ∧ X.cell? ⟨w.heap.size, 1, none⟩ = some (.slice asx x.f.safe.length ksx) ∧ X.cell? ⟨w.heap.size, 2, none⟩ = some (.slice avc x.L.length kvc)) (W3.alloc (.cells #[.string ⟨x.n.toArray⟩, .slice asx x.f.safe.length ksx, .slice avc x.L.length kvc] 92)).drew from ⟨alloc_keep hS0.out.1, alloc_keep hS0.out.2.1, alloc_keep hS0.out.2.2.1, alloc_keep hS0.out.2.2.2⟩)
  refine hK'.out _ _ (fun _ => HS1.out) ?_
  refine wpAnyG_one (i := 7) (by kernel_rfl) rfl (fun K' hK' => ?_)
  refine step_append_lies _ rfl (.tmp 9) (.tmp 11) 54 rfl 0 92 i0 (.agg #[.string ⟨#[]⟩, .slice none 0 0, .slice none 0 0]) 3 64 Try.underlying54 hi0' hz0 hz1 hz2 rfl (by decide) (.slice af F.length kf) F.length (F.flatMap rfc) (by simp [Act.eval]) HOWN.out ⟨W3.heap.size, 0, none⟩ 1 1 [.string ⟨x.n.toArray⟩, .slice asx x.f.safe.length ksx, .slice avc x.L.length kvc] (by simp [Act.eval]) rfl (World.news_of_block (cs := #[.string ⟨x.n.toArray⟩, .slice asx x.f.safe.length ksx, .slice avc x.L.length kvc]) (t := 92) (fr := (0, 0)) (heap_alloc_new W3 _)) (by simp [Value.oneCell']) (by decide) HM1.out HM2.out (Nat.zero_le _) _ rfl (fun g cap w1 hown1 hgrow1 hat hgl => ?_)
  have HGL := Lib.hid (show g < w1.heap.size from hgl)
  have HAT := Lib.hid hat
  have HSZ := Lib.hid hgrow1.size
  have hne := HNE.out
  have hS1 := HS1.out
  have hS0 := Lib.hid (show (fun X : World => X.cell? ⟨r, 5, none⟩ = some (.slice af F.length kf) ∧ X.cell? ⟨w.heap.size, 0, none⟩ = some (.string ⟨x.n.toArray⟩) ∧ X.cell? ⟨w.heap.size, 1, none⟩ = some (.slice asx x.f.safe.length ksx) ∧ X.cell? ⟨w.heap.size, 2, none⟩ = some (.slice avc x.L.length kvc)) w1 from ⟨(hgrow1.cell_far _ (World.block_lt_of_cell? _ _ hS1.1) (hne _ (.inl rfl))).trans hS1.1, (hgrow1.cell_far _ (World.block_lt_of_cell? _ _ hS1.2.1) (hne _ (.inr rfl))).trans hS1.2.1, (hgrow1.cell_far _ (World.block_lt_of_cell? _ _ hS1.2.2.1) (hne _ (.inr rfl))).trans hS1.2.2.1, (hgrow1.cell_far _ (World.block_lt_of_cell? _ _ hS1.2.2.2) (hne _ (.inr rfl))).trans hS1.2.2.2⟩)
  have HK1 := Lib.hid (show Kp c (fun q => q = (k, 1) ∨ q = (k, 0)) w w1 from (Kp.of_below (HBd.out)).grown hgrow1 (fun g' hg' _ => .inl (HD.out.files.col g' hg')))
  have HR1 := Lib.hid (show w1.heap[r]? = some (.cells (rdCells m vk vf vu (.slice af F.length kf)) 56 (0, 0)) from (hgrow1.block r (Nat.lt_of_lt_of_le hrl HBd.out.size) (hne _ (.inl rfl))).trans ((HBd.out.block r hrl).trans HD.out.heap))
  have HOW1 := Lib.hid hown1
  have hr5 : w1.cell? ⟨r, 5, none⟩ = some (.slice af F.length kf) := hS0.out.1
  have hfz : w1.frozen? ⟨r, 5, none⟩ = false := unfrozen_of_heap HR1.out 5
  have hrl1 : r < w1.heap.size := lt_of_heap HR1.out
  clear hown1 hgrow1 hat hgl hne hS1
  refine hK'.out _ _ (fun _ => hS0.out) ?_
  simp only [Act.put]
  refine wpAnyG_take (i := 8) (oi := _) (v := .pointer (some ⟨r, 0, none⟩)) rfl (by kernel_rfl) (by kernel_rfl) (by kernel_rfl) (by kernel_rfl) (by kernel_rfl) (by kernel_rfl) (fun _ _ _ h => h) (Or.inl ⟨by rfl, fun X hX => ?_⟩) hS0.out ?_
  · obtain ⟨x1, x2, x3, x4⟩ := hX
    go_simp
  simp only [Act.put]
  refine wpAnyG_take (i := 9) (oi := _) (v := .pointer (some ⟨r, 5, none⟩)) rfl (by kernel_rfl) (by kernel_rfl) (by kernel_rfl) (by kernel_rfl) (by kernel_rfl) (by kernel_rfl) (fun _ _ _ h => h) (Or.inl ⟨by rfl, fun X hX => ?_⟩) hS0.out ?_
  · obtain ⟨x1, x2, x3, x4⟩ := hX
    go_simp
  simp only [Act.put]
  refine wpAnyG_one (i := 10) (by kernel_rfl) rfl (fun K' hK' => ?_)
  go_simp
  refine hK'.out _ _ (fun h => absurd h (by decide)) ?_
  refine wpAnyG_done (by kernel_rfl) ?_
  obtain ⟨w2, hw2⟩ : ∃ w2, w2 = w1.setCell ⟨r, 5, none⟩ (.slice (some ⟨g, 0, none⟩) (F.length + 1) cap) := ⟨_, rfl⟩
  rw [← hw2]
  have HR2 := Lib.hid (show w2.heap[r]? = some (.cells (rdCells m vk vf vu (.slice (some ⟨g, 0, none⟩) (F.length + 1) cap)) 56 (0, 0)) by rw [hw2]; have := heap_setCell HR1.out 5 (.slice (some ⟨g, 0, none⟩) (F.length + 1) cap); simpa [rdCells] using this)
  have HK2 := Lib.hid (show Kp c (fun q => q = (k, 1) ∨ q = (k, 0)) w w2 by rw [hw2]; exact HK1.out.setCell (fun _ => .inr HD.out.col) _)
  have hrg : r ≠ g := by
    intro e
    rcases HAT.out with h | h
    · have h1 := HD.out.files.col g h
      rw [← e, HD.out.col] at h1; simp at h1
    · have h1 : W3.heap.size + 1 = g := by simpa using h.symm
      have := HB3.out.size
      omega
  have HOW2 := Lib.hid (show w2.ownsRow 0 92 3 (.slice (some ⟨g, 0, none⟩) (F.length + 1) cap) (F.length + 1) ((at_ F x F.length).flatMap rfc) by
    rw [hw2, at_end, List.flatMap_append]
    have e1 : [x].flatMap rfc = [.string ⟨x.n.toArray⟩, .slice asx x.f.safe.length ksx, .slice avc x.L.length kvc] := by
      rw [← HES.out, ← HEC.out]; rfl
    rw [e1]
    exact ownsRow_setCell_other HOW1.out (fun e => hrg (Option.some.inj e).symm) _)
  clear hw2 hr5 hfz hrl1
  obtain ⟨c1, hc1⟩ : ∃ c1 : Col, c1 = fun b => if b < w.heap.size then c b else if b = g then (k, 1) else (0, 0) := ⟨_, rfl⟩
  have HCX := Lib.hid (show Cx w c c1 by intro b hb; rw [hc1]; exact if_pos hb)
  have HCG := Lib.hid (show c1 g = (k, 1) by
    rw [hc1]
    show (if g < w.heap.size then c g else _) = _
    rcases HAT.out with h | h
    · rw [if_pos (ownBlock_lt HD.out.files.own g h)]; exact HD.out.files.col g h
    · have h1 : W3.heap.size + 1 = g := by simpa using h.symm
      have h2 := HB3.out.size
      rw [if_neg (by omega), if_pos rfl])
  clear hc1 hrg
  have HI0 := Lib.hid (show PInv w2 c1 k (.slice (some ⟨g, 0, none⟩) (F.length + 1) cap) F x F.length w2 from ⟨Nat.le_refl _, (by intro y hy; rw [List.drop_length] at hy; cases hy), HOW2.out, Kp.refl _ _ _⟩)
  have hr5 : w2.cell? ⟨r, 5, none⟩ = some (.slice (some ⟨g, 0, none⟩) (F.length + 1) cap) := cell_of_heap HR2.out 5
  have hm' : (F.length : Int) ≤ 4096 := by omega
  go_wp2
  clear hr5
  go_loopw [4] (fun s wr => ∃ i : Nat, s = .int .i64 i ∧ PInv w2 c1 k (.slice (some ⟨g, 0, none⟩) (F.length + 1) cap) F x i wr) (fun s _ => (intOf s).toNat)
  case atStart => exact ⟨F.length, by go_num, HI0.out⟩
  case round =>
    obtain ⟨i, rfl, I⟩ := hrel
    have HI := Lib.hid I; clear I
    have hile := HI.out.le
    cases i with
    | zero =>
      have h0 : decide ((0 : Int) < 0) = false := rfl
      go_wp2_with fail
      go_quiet (fail)
      go_wp2
      go_end0
      exact put_end (v1 := .slice (some ⟨g, 0, none⟩) (F.length + 1) cap) HD.out HK0.out HX.out HAP.out HNEW.out HL.out hm HF.out HCX.out (fun g' hg' => by cases hg'; exact HCG.out) HK2.out HR2.out (HI.out.drewN nq) (.inl rfl)
    | succ i =>
      have hrr := HI.out.kp.heap HR2.out (show ¬ c1 r = (k, 1) by rw [HCX.out _ hrl, HD.out.col]; simp)
      have hr5 : wr.cell? ⟨r, 5, none⟩ = some (.slice (some ⟨g, 0, none⟩) (F.length + 1) cap) := cell_of_heap hrr 5
      clear hrr
      obtain ⟨y, hy⟩ : ∃ y, F[i]? = some y := ⟨F[i], List.getElem?_eq_getElem (by omega)⟩
      have hy1 := at_prev F x (i := i) (by omega)
      rw [hy] at hy1
      have hh := at_here F x (i := i + 1) (by omega)
      have f0 : wr.cell? ⟨g, i * 3, none⟩ = some (.string ⟨y.n.toArray⟩) := owns_cell HI.out.own (k := i * 3) (flat_get rfc_len _ i 0 y hy1 (by omega))
      have f3 : wr.cell? ⟨g, (i + 1) * 3, none⟩ = some (.string ⟨x.n.toArray⟩) := owns_cell HI.out.own (k := (i + 1) * 3) (flat_get rfc_len _ (i + 1) 0 x hh (by omega))
      have b1 : (i : Int) + 1 < (F.length : Int) + 1 := by omega
      have b2 : (i : Int) < (F.length : Int) + 1 := by omega
      have b3 : (0 : Int) ≤ (i : Int) := by omega
      have b4 : (0 : Int) ≤ (i : Int) + 1 := by omega
      have b5 : (0 : Int) < (i : Int) + 1 := by omega
      have HY := Lib.hid hy; clear hy
      have HY1 := Lib.hid hy1; clear hy1
      have HH := Lib.hid hh; clear hh
      have hyF := List.mem_of_getElem? HY.out
      have hne := HNEW.out y hyF
      have hRy := HD.out.files.each y hyF
      obtain ⟨asy, ksy, evs, -⟩ := id hRy.safe
      obtain ⟨avy, kvy, evc⟩ := own_shape hRy.chs.own
      rw [List.length_map] at evs
      clear hRy hyF
      by_cases hc : x.n < y.n
      · have hb1 : Op.bytesLess y.n x.n = false := by rw [bytesLess_eq]; simpa using (List.not_lt.2 (List.le_of_lt hc))
        have hb2 : (y.n == x.n) = false := by simpa using hne
        have HC := Lib.hid hc; clear hc hne
        go_wp2_with fail
        go_quiet (fail)
        go_wp2_with fail
        obtain ⟨w5, hw5⟩ : ∃ w5, w5 = wr.drewN nq := ⟨_, rfl⟩
        rw [← hw5]
        have HI5 := Lib.hid (show PInv w2 c1 k (.slice (some ⟨g, 0, none⟩) (F.length + 1) cap) F x (i + 1) w5 by rw [hw5]; exact HI.out.drewN nq)
        have g5 : w5.cell? ⟨r, 5, none⟩ = some (.slice (some ⟨g, 0, none⟩) (F.length + 1) cap) := by rw [hw5]; exact hr5
        have g0 : w5.cell? ⟨g, i * 3, none⟩ = some (.string ⟨y.n.toArray⟩) := by rw [hw5]; exact f0
        have g1 : w5.cell? ⟨g, i * 3 + 1, none⟩ = some (.slice asy y.f.safe.length ksy) := by rw [← evs]; exact owns_cell HI5.out.own (flat_get rfc_len _ i 1 y HY1.out (by omega))
        have g2 : w5.cell? ⟨g, i * 3 + 2, none⟩ = some (.slice avy y.L.length kvy) := by rw [← evc]; exact owns_cell HI5.out.own (flat_get rfc_len _ i 2 y HY1.out (by omega))
        have g3 : w5.cell? ⟨g, (i + 1) * 3, none⟩ = some (.string ⟨x.n.toArray⟩) := by rw [hw5]; exact f3
        have g4 : w5.cell? ⟨g, (i + 1) * 3 + 1, none⟩ = some (.slice asx x.f.safe.length ksx) := by rw [← HES.out]; exact owns_cell HI5.out.own (flat_get rfc_len _ (i + 1) 1 x HH.out (by omega))
        have g6 : w5.cell? ⟨g, (i + 1) * 3 + 2, none⟩ = some (.slice avc x.L.length kvc) := by rw [← HEC.out]; exact owns_cell HI5.out.own (flat_get rfc_len _ (i + 1) 2 x HH.out (by omega))
        have gz : ∀ j, w5.frozen? ⟨g, j, none⟩ = false := owns_frozen HI5.out.own
        have HE1 := Lib.hid evs; clear evs
        have HE2 := Lib.hid evc; clear evc
        clear hw5 hr5 f0 f3 hb1 hb2
        go_region
        go_wp2
        go_roundw
        case rel =>
          refine ⟨i, by go_num, ?_⟩
          have hP := pinv_swap HI5.out HY.out HC.out HCG.out rfl
          rw [HES.out, HEC.out, HE1.out, HE2.out] at hP
          exact hP.drew
        case measure => simp [intOf]
      · have hb1 : Op.bytesLess y.n x.n = true := by rw [bytesLess_eq]; simpa using lt_of_not hc hne
        have HC := Lib.hid hc; clear hc hne evs evc
        go_wp2_with fail
        go_quiet (fail)
        go_wp2
        go_end0
        exact put_end (v1 := .slice (some ⟨g, 0, none⟩) (F.length + 1) cap) HD.out HK0.out HX.out HAP.out HNEW.out HL.out hm HF.out HCX.out (fun g' hg' => by cases hg'; exact HCG.out) HK2.out HR2.out (HI.out.drewN nq) (.inr ⟨y, by simpa using HY.out, HC.out⟩)
end Go.Proofs.Ytepphepcaphlkaa
