/- The document's disk: Rename. -/
import Derived.Test.YtnifmoigalmcmaaGreatRs
import Derived.Test.YtnifmoigalmcmaaGreatOp
namespace Go.Proofs.YtnifmoigalmcmaaGreat
open Go Go.RowKit Go.MapKept Go.Maps
open Dk
variable {c c' : Col} {S : Nat × Nat → Prop} {w w' : World} {q : Nat × Nat}
theorem get_or (fs : List (Nm × AFile)) (n : Nm) : Dk.get fs n = none ∨ ∃ f, Dk.get fs n = some f := by cases Dk.get fs n <;> simp
end Go.Proofs.YtnifmoigalmcmaaGreat
/- The document's disk: Sync. -/
namespace Go.Proofs.YtnifmoigalmcmaaGreat
open Go Go.RowKit Go.MapKept Go.Maps
open Dk
variable {c c' : Col} {S : Nat × Nat → Prop} {w w' : World} {q : Nat × Nat}
theorem below_drewN {w1 w2 : World} {n : Nat} (h : Below (w1.drewN n).heap.size (w1.drewN n) w2) : Below w1.heap.size w1 w2 := ⟨h.os, h.tape, h.output, h.size, h.block⟩
theorem sync_end {k r i g kf a2 : Nat} {a : Option Addr} {m : ADisk} {vk vf vu : Value} {F : List RFl} {w2 w3 : World} {x : RFl} (D : RD' w c k r m vk vf vu (.slice (some ⟨g, 0, none⟩) F.length kf) F) (hx : F[i]? = some x)
    (h2 : Below w.heap.size w w2) (ho : w2.ownsRow w.heap.size 5 1 (.slice a x.f.now.length a2) x.f.now.length (x.f.now.map bv))
    (h3 : w3 = (w2.setCell ⟨g, i * 3 + 1, none⟩ (.slice a x.f.now.length a2)).setCell ⟨g, i * 3 + 2, none⟩ (.slice none 0 0)) :
    RPost k r (0, { m with files := Dk.upd m.files x.n ⟨x.f.now, [], x.f.now⟩ }) c w (.returned (.int .i64 0)) w3 := by
  have hfok := D.fok (List.mem_of_getElem? hx)
  have hgc : c g = (k, 1) := D.files.col g rfl
  have hgl : g < w.heap.size := ownBlock_lt D.files.own g rfl
  have hvg : (Value.slice a x.f.now.length a2).ownBlock ≠ some g := fun e => by have := own_base ho g e; omega
  have hK : Kp c (fun q => q = (k, 1) ∨ ∃ g, x.vc.ownBlock = some g ∧ q = (k, g + 2)) w w3 := by
    rw [h3]
    exact ((Kp.of_below h2).setCell (fun _ => .inl hgc) _).setCell (fun _ => .inl hgc) _
  obtain ⟨c', hc'⟩ : ∃ c' : Col, c' = fun b => if b < w.heap.size then c b else (0, 0) := ⟨_, rfl⟩
  have hcx : Cx w c c' := by intro b hb; rw [hc']; exact if_pos hb
  obtain ⟨x', hx'⟩ : ∃ x' : RFl, x' = ⟨x.n, ⟨x.f.now, [], x.f.now⟩, .slice a x.f.now.length a2, .slice none 0 0, []⟩ := ⟨_, rfl⟩
  have hFo : w2.ownsRow 0 148 3 (.slice (some ⟨g, 0, none⟩) F.length kf) F.length (F.flatMap rfc) :=
    ownsRow_kp (c := c) (q := (k, 1)) (S := S2F) D.files.own (fun g' hg' => D.files.col g' hg') (Kp.of_below h2) (fun h => h)
  refine ⟨rfl, c', hcx, hK.mono ?_, vk, vf, vu, .slice (some ⟨g, 0, none⟩) F.length kf, F.set i x', ?_⟩
  · rintro q (rfl | ⟨g', _, rfl⟩) <;> rfl
  have e3 : ({ m with files := Dk.upd m.files x.n ⟨x.f.now, [], x.f.now⟩ } : ADisk) = { m with files := Dk.upd m.files x.n x'.f } := by rw [hx']
  show RD' w3 c' k r { m with files := Dk.upd m.files x.n ⟨x.f.now, [], x.f.now⟩ } vk vf vu _ _
  rw [e3]
  refine D.file1 hx hK hcx ?_ ?_ ?_ (by rw [hx']) ?_
  · have := RFs.set2 hFo hx (x' := x') (by rw [hx'])
    rw [hx'] at this ⊢
    rw [h3]; exact this
  · rw [hx']
    refine ⟨Sc.of_owns (base := w.heap.size) (e := 5) (n := x.f.now.length) ?_ (fun g' hg' => ?_), rfl, ⟨World.ownsRow_nil _ _ _ _, (fun p hp => by cases hp), (fun g hg => by cases hg)⟩, rfl⟩
    · rw [h3]; exact ownsRow_setCell_other (ownsRow_setCell_other ho hvg _) hvg _
    · rw [hc']; exact if_neg (Nat.not_lt.2 (own_base ho g' hg'))
  · intro g' hg'
    rw [hx'] at hg'; cases hg'
  · rw [hx']
    exact ⟨hfok.now, hfok.now, (fun y hy => by cases hy), Nat.zero_le _⟩
set_option maxRecDepth 20000 in
set_option maxHeartbeats 4000000 in
theorem rsync_good (k r : Nat) (m : ADisk) (n : Nm) (w : World) (DD : RD w c k r m) (hk0 : k ≠ 0) (hops : m.ops < 900000) (f : AFile) (h : (begin_ m).1 = 0) (hg : get m.files n = some f) :
    Calls Tryz.prog 66 #[ptr r, .string ⟨n.toArray⟩] w (RPost k r (Dk.sync m n) c w) := by
  have e : Dk.sync m n = (0, { ({ m with ops := m.ops + 1 } : ADisk) with files := Dk.upd ({ m with ops := m.ops + 1 } : ADisk).files n ⟨f.now, [], f.now⟩ }) := good_of h hg (fun f d => (0, { d with files := Dk.upd d.files n ⟨f.now, [], f.now⟩ }))
  rw [e]
  clear e
  have hok : m.ok := by obtain ⟨_, _, _, _, _, D⟩ := DD; exact D.ok
  have HMANY := rmany hok hg
  have HB := rbegin_ok k r m w DD hk0 hops h
  have HO : ({ m with ops := m.ops + 1 } : ADisk).ops ≤ 1000000 := by show m.ops + 1 ≤ _; omega
  have HK0 := Lib.hid hk0
  have HG : get ({ m with ops := m.ops + 1 } : ADisk).files n = some f := hg
  clear DD hk0 hops h hg hok
  generalize ({ m with ops := m.ops + 1 } : ADisk) = m1 at HMANY HB HO HG ⊢
  have HB := Lib.hid HB
  have HO := Lib.hid HO
  have HG := Lib.hid HG
  have HMANY := Lib.hid HMANY
  unfold ptr at *
  go_enter Tryz.func66, Tryz.ntmps66
  go_wp2_with (go_at_call 76; refine HB.out.mono ?_; rintro e w1 ⟨rfl, c1, hc1, hk1, D1⟩)
  obtain ⟨vk, vf, vu, vF, F, D⟩ := D1
  obtain ⟨i, x, hix, hxn, hxf, hfy⟩ := find_yes D n HG.out
  have HFY := Lib.hid (hfy D)
  have hi0 : (0 : Int) ≤ (i : Int) := Int.natCast_nonneg _
  have hilt : i < F.length := (List.getElem?_eq_some_iff.1 hix).1
  have hlen := D.len
  have hlen' : (F.length : Int) ≤ 4096 := by omega
  have hilt' : (i : Int) < (F.length : Int) := by omega
  have HC := Lib.hid hc1
  have HK := Lib.hid hk1
  have HD := Lib.hid D
  have HIX := Lib.hid hix
  have HXN := Lib.hid hxn
  have HXF := Lib.hid hxf
  obtain ⟨g, kf, e2, hlc, hcm, -, f0, f1, f2, -⟩ := D.files.cells hix
  have hr5 := D.c5
  rw [e2] at hr5
  have hrl : r < w1.heap.size := D.lt
  have hgl : g < w1.heap.size := World.block_lt_of_cell? _ _ f1
  have HE2 := Lib.hid e2
  have hRF := D.files.each x (List.mem_of_getElem? hix)
  obtain ⟨asx, ksx, evs, -⟩ := id hRF.safe
  obtain ⟨avc, kvc, evc⟩ := own_shape hRF.chs.own
  rw [List.length_map] at evs
  have hnow := (D.fok (List.mem_of_getElem? hix)).now
  have hnow' : (x.f.now.length : Int) ≤ 268435456 := by unfold maxFile at hnow; omega
  have hdc := fun W hW => data_c (c := c1) k x W hW (D.fok (List.mem_of_getElem? hix)) (by have := HO.out; omega) (D.nok (List.mem_of_getElem? hix))
  rw [evs] at f1 hdc
  rw [evc] at f2 hdc
  unfold str at f0
  have HDC := Lib.hid hdc
  have HRF := Lib.hid hRF
  clear hc1 hk1 D hix hxn hxf hfy e2 hlc hcm hRF evs evc hnow hdc hlen hilt
  go_wp2_with (first | (go_at_call 77; refine HFY.out.mono ?_; rintro e w2 ⟨rfl, rfl⟩))
  have hS0 := Lib.hid (show (fun X : World => X.cell? ⟨r, 5, none⟩ = some (.slice (some ⟨g, 0, none⟩) F.length kf) ∧ X.cell? ⟨g, i * 3, none⟩ = some (.string ⟨x.n.toArray⟩) ∧ X.cell? ⟨g, i * 3 + 1, none⟩ = some (.slice asx x.f.safe.length ksx) ∧ X.cell? ⟨g, i * 3 + 2, none⟩ = some (.slice avc x.L.length kvc)) w1.drew from ⟨hr5, f0, f1, f2⟩)
  have hD2 := HD.out
  rw [HE2.out] at hD2
  have HD2 := Lib.hid hD2
  have HFZ := Lib.hid (show ∀ j, w1.frozen? ⟨g, j, none⟩ = false from (by obtain ⟨g2, cap2, e2, -, -, -, -, -, -, f3⟩ := HD.out.files.cells HIX.out; rw [HE2.out] at e2; injection e2 with e3 _ _; injection e3 with e3; injection e3 with e3 _; subst e3; exact f3))
  clear hr5 f0 f1 f2 hD2
  refine wp_region_G (fun X : World => X.cell? ⟨r, 5, none⟩ = some (.slice (some ⟨g, 0, none⟩) F.length kf) ∧ X.cell? ⟨g, i * 3, none⟩ = some (.string ⟨x.n.toArray⟩) ∧ X.cell? ⟨g, i * 3 + 1, none⟩ = some (.slice asx x.f.safe.length ksx) ∧ X.cell? ⟨g, i * 3 + 2, none⟩ = some (.slice avc x.L.length kvc)) 20 rfl ?_
  refine wpAnyG_takeX [9] (i := 0) (oi := _) (v := .pointer (some ⟨r, 0, none⟩)) rfl (by kernel_rfl) (by kernel_rfl) (by kernel_rfl) (by kernel_rfl) (by kernel_rfl) (by kernel_rfl) (fun _ _ _ h => h) (Or.inl ⟨by rfl, fun X hX => ?_⟩) hS0.out ?_
  · obtain ⟨x1, x2, x3, x4⟩ := hX
    go_simp
  simp only [Act.put, List.setIfInBounds_toArray]
  refine wpAnyG_takeX [9] (i := 1) (oi := _) (v := .pointer (some ⟨r, 0, none⟩)) rfl (by kernel_rfl) (by kernel_rfl) (by kernel_rfl) (by kernel_rfl) (by kernel_rfl) (by kernel_rfl) (fun _ _ _ h => h) (Or.inl ⟨by rfl, fun X hX => ?_⟩) hS0.out ?_
  · obtain ⟨x1, x2, x3, x4⟩ := hX
    go_simp
  simp only [Act.put]
  refine wpAnyG_takeX [9] (i := 2) (oi := _) (v := .pointer (some ⟨r, 5, none⟩)) rfl (by kernel_rfl) (by kernel_rfl) (by kernel_rfl) (by kernel_rfl) (by kernel_rfl) (by kernel_rfl) (fun _ _ _ h => h) (Or.inl ⟨by rfl, fun X hX => ?_⟩) hS0.out ?_
  · obtain ⟨x1, x2, x3, x4⟩ := hX
    go_simp
  simp only [Act.put]
  refine wpAnyG_takeX [9] (i := 3) (oi := _) (v := .slice (some ⟨g, 0, none⟩) F.length kf) rfl (by kernel_rfl) (by kernel_rfl) (by kernel_rfl) (by kernel_rfl) (by kernel_rfl) (by kernel_rfl) (fun _ _ _ h => h) (Or.inl ⟨by rfl, fun X hX => ?_⟩) hS0.out ?_
  · obtain ⟨x1, x2, x3, x4⟩ := hX
    go_simp
  simp only [Act.put]
  refine wpAnyG_takeX [9] (i := 4) (oi := _) (v := .int .i64 (i : Int)) rfl (by kernel_rfl) (by kernel_rfl) (by kernel_rfl) (by kernel_rfl) (by kernel_rfl) (by kernel_rfl) (fun _ _ _ h => h) (Or.inl ⟨by rfl, fun X hX => ?_⟩) hS0.out ?_
  · obtain ⟨x1, x2, x3, x4⟩ := hX
    go_simp
  simp only [Act.put]
  refine wpAnyG_takeX [9] (i := 5) (oi := _) (v := .pointer (some ⟨r, 0, none⟩)) rfl (by kernel_rfl) (by kernel_rfl) (by kernel_rfl) (by kernel_rfl) (by kernel_rfl) (by kernel_rfl) (fun _ _ _ h => h) (Or.inl ⟨by rfl, fun X hX => ?_⟩) hS0.out ?_
  · obtain ⟨x1, x2, x3, x4⟩ := hX
    go_simp
  simp only [Act.put]
  refine wpAnyG_takeX [9] (i := 6) (oi := _) (v := .pointer (some ⟨r, 0, none⟩)) rfl (by kernel_rfl) (by kernel_rfl) (by kernel_rfl) (by kernel_rfl) (by kernel_rfl) (by kernel_rfl) (fun _ _ _ h => h) (Or.inl ⟨by rfl, fun X hX => ?_⟩) hS0.out ?_
  · obtain ⟨x1, x2, x3, x4⟩ := hX
    go_simp
  simp only [Act.put]
  refine wpAnyG_takeX [9] (i := 7) (oi := _) (v := .pointer (some ⟨r, 5, none⟩)) rfl (by kernel_rfl) (by kernel_rfl) (by kernel_rfl) (by kernel_rfl) (by kernel_rfl) (by kernel_rfl) (fun _ _ _ h => h) (Or.inl ⟨by rfl, fun X hX => ?_⟩) hS0.out ?_
  · obtain ⟨x1, x2, x3, x4⟩ := hX
    go_simp
  simp only [Act.put]
  refine wpAnyG_takeX [9] (i := 8) (oi := _) (v := .slice (some ⟨g, 0, none⟩) F.length kf) rfl (by kernel_rfl) (by kernel_rfl) (by kernel_rfl) (by kernel_rfl) (by kernel_rfl) (by kernel_rfl) (fun _ _ _ h => h) (Or.inl ⟨by rfl, fun X hX => ?_⟩) hS0.out ?_
  · obtain ⟨x1, x2, x3, x4⟩ := hX
    go_simp
  simp only [Act.put]
  refine wpAnyG_takeY (i := 9) (oi := _) (v := .int .i64 (i : Int)) rfl (by kernel_rfl) (by kernel_rfl) (by kernel_rfl) (by kernel_rfl) (fun _ _ _ h => h) (Or.inl ⟨by rfl, fun X _ => ?_⟩) (fun _ => hS0.out) ?_
  · go_simp
  simp only [Act.put]
  refine wpAnyG_takeX [9] (i := 10) (oi := _) (v := .pointer (some ⟨r, 0, none⟩)) rfl (by kernel_rfl) (by kernel_rfl) (by kernel_rfl) (by kernel_rfl) (by kernel_rfl) (by kernel_rfl) (fun _ _ _ h => h) (Or.inl ⟨by rfl, fun X hX => ?_⟩) hS0.out ?_
  · obtain ⟨x1, x2, x3, x4⟩ := hX
    go_simp
  simp only [Act.put]
  refine wpAnyG_takeX [9] (i := 11) (oi := _) (v := .pointer (some ⟨r, 0, none⟩)) rfl (by kernel_rfl) (by kernel_rfl) (by kernel_rfl) (by kernel_rfl) (by kernel_rfl) (by kernel_rfl) (fun _ _ _ h => h) (Or.inl ⟨by rfl, fun X hX => ?_⟩) hS0.out ?_
  · obtain ⟨x1, x2, x3, x4⟩ := hX
    go_simp
  simp only [Act.put]
  refine wpAnyG_takeX [9] (i := 12) (oi := _) (v := .pointer (some ⟨r, 5, none⟩)) rfl (by kernel_rfl) (by kernel_rfl) (by kernel_rfl) (by kernel_rfl) (by kernel_rfl) (by kernel_rfl) (fun _ _ _ h => h) (Or.inl ⟨by rfl, fun X hX => ?_⟩) hS0.out ?_
  · obtain ⟨x1, x2, x3, x4⟩ := hX
    go_simp
  simp only [Act.put]
  refine wpAnyG_takeX [9] (i := 13) (oi := _) (v := .slice (some ⟨g, 0, none⟩) F.length kf) rfl (by kernel_rfl) (by kernel_rfl) (by kernel_rfl) (by kernel_rfl) (by kernel_rfl) (by kernel_rfl) (fun _ _ _ h => h) (Or.inl ⟨by rfl, fun X hX => ?_⟩) hS0.out ?_
  · obtain ⟨x1, x2, x3, x4⟩ := hX
    go_simp
  simp only [Act.put]
  refine wpAnyG_takeX [9] (i := 14) (oi := _) (v := .int .i64 (i : Int)) rfl (by kernel_rfl) (by kernel_rfl) (by kernel_rfl) (by kernel_rfl) (by kernel_rfl) (by kernel_rfl) (fun _ _ _ h => h) (Or.inl ⟨by rfl, fun X hX => ?_⟩) hS0.out ?_
  · obtain ⟨x1, x2, x3, x4⟩ := hX
    go_simp
  simp only [Act.put]
  refine wpAnyG_takeX [9] (i := 15) (oi := _) (v := .pointer (some ⟨g, i * 3, none⟩)) rfl (by kernel_rfl) (by kernel_rfl) (by kernel_rfl) (by kernel_rfl) (by kernel_rfl) (by kernel_rfl) (fun _ _ _ h => h) (Or.inl ⟨by rfl, fun X hX => ?_⟩) hS0.out ?_
  · obtain ⟨x1, x2, x3, x4⟩ := hX
    go_simp
  simp only [Act.put]
  refine wpAnyG_takeX [9] (i := 16) (oi := _) (v := .agg #[.string ⟨x.n.toArray⟩, .slice asx x.f.safe.length ksx, .slice avc x.L.length kvc]) rfl (by kernel_rfl) (by kernel_rfl) (by kernel_rfl) (by kernel_rfl) (by kernel_rfl) (by kernel_rfl) (fun _ _ _ h => h) (Or.inl ⟨by rfl, fun X hX => ?_⟩) hS0.out ?_
  · obtain ⟨x1, x2, x3, x4⟩ := hX
    go_simp
  simp only [Act.put]
  refine wpAnyG_one (i := 17) (by kernel_rfl) rfl (fun K' hK' => ?_)
  go_simp
  refine (HDC.out _ (HRF.out.kp (S := S2F) ((Kp.refl _ _ _).drewN 1) (fun h => h) (fun _ _ h => h) (Cx.refl _ _))).mono ?_
  rintro e w2 ⟨v2, rfl, hown2, hb2⟩
  obtain ⟨a2, cap2, rfl⟩ := own_shape hown2
  have HOW := Lib.hid hown2
  have hb2 := below_drewN hb2
  have HB2 := Lib.hid hb2
  have HS1 := Lib.hid (show (fun X : World => X.cell? ⟨r, 5, none⟩ = some (.slice (some ⟨g, 0, none⟩) F.length kf) ∧ X.cell? ⟨g, i * 3, none⟩ = some (.string ⟨x.n.toArray⟩) ∧ X.cell? ⟨g, i * 3 + 1, none⟩ = some (.slice asx x.f.safe.length ksx) ∧ X.cell? ⟨g, i * 3 + 2, none⟩ = some (.slice avc x.L.length kvc)) w2 from ⟨(hb2.cell (p := ⟨r, 5, none⟩) hrl).trans hS0.out.1, (hb2.cell (p := ⟨g, i * 3, none⟩) hgl).trans hS0.out.2.1, (hb2.cell (p := ⟨g, i * 3 + 1, none⟩) hgl).trans hS0.out.2.2.1, (hb2.cell (p := ⟨g, i * 3 + 2, none⟩) hgl).trans hS0.out.2.2.2⟩)
  have hz : ∀ j, w2.frozen? ⟨g, j, none⟩ = false := fun j => (hb2.frozen (p := ⟨g, j, none⟩) hgl).trans (HFZ.out j)
  have HZ := Lib.hid hz
  clear hown2 hb2 hz
  refine hK'.out _ _ (fun _ => HS1.out) ?_
  have hS0 := HS1
  refine wpAnyG_takeX [9] (i := 18) (oi := _) (v := .pointer (some ⟨g, i * 3, none⟩)) rfl (by kernel_rfl) (by kernel_rfl) (by kernel_rfl) (by kernel_rfl) (by kernel_rfl) (by kernel_rfl) (fun _ _ _ h => h) (Or.inl ⟨by rfl, fun X hX => ?_⟩) hS0.out ?_
  · obtain ⟨x1, x2, x3, x4⟩ := hX
    go_simp
  simp only [Act.put]
  refine wpAnyG_takeX [9] (i := 19) (oi := _) (v := .pointer (some ⟨g, i * 3 + 1, none⟩)) rfl (by kernel_rfl) (by kernel_rfl) (by kernel_rfl) (by kernel_rfl) (by kernel_rfl) (by kernel_rfl) (fun _ _ _ h => h) (Or.inl ⟨by rfl, fun X hX => ?_⟩) hS0.out ?_
  · obtain ⟨x1, x2, x3, x4⟩ := hX
    go_simp
  simp only [Act.put]
  refine wpAnyG_one (i := 20) (by kernel_rfl) rfl (fun K' hK' => ?_)
  have hc1 := HS1.out.2.2.1
  have hc2 := HS1.out.2.2.2
  have hz := HZ.out
  go_simp
  refine hK'.out _ _ (fun h => absurd h (by decide)) ?_
  refine wpAnyG_takeY (i := 21) (oi := _) (v := .pointer (some ⟨g, i * 3, none⟩)) rfl (by kernel_rfl) (by kernel_rfl) (by kernel_rfl) (by kernel_rfl) (fun _ _ _ h => h) (Or.inl ⟨by rfl, fun X _ => ?_⟩) (fun h => absurd h (by decide)) ?_
  · go_simp
  simp only [Act.put]
  refine wpAnyG_takeY (i := 22) (oi := _) (v := .pointer (some ⟨g, i * 3 + 2, none⟩)) rfl (by kernel_rfl) (by kernel_rfl) (by kernel_rfl) (by kernel_rfl) (fun _ _ _ h => h) (Or.inl ⟨by rfl, fun X _ => ?_⟩) (fun h => absurd h (by decide)) ?_
  · go_simp
  simp only [Act.put]
  refine wpAnyG_one (i := 23) (by kernel_rfl) rfl (fun K' hK' => ?_)
  go_simp
  refine hK'.out _ _ (fun h => absurd h (by decide)) ?_
  refine wpAnyG_done (by kernel_rfl) ?_
  go_wp2
  go_ret
  have hp := sync_end HD2.out HIX.out HB2.out HOW.out rfl
  rw [HXN.out, HXF.out] at hp ⊢
  exact RPost.of HC.out HK.out hp
end Go.Proofs.YtnifmoigalmcmaaGreat
/- The document's disk: Read. -/
namespace Go.Proofs.YtnifmoigalmcmaaGreat
open Go Go.RowKit Go.MapKept Go.Maps
open Dk
variable {c c' : Col} {S : Nat × Nat → Prop} {w w' : World} {q : Nat × Nat}
set_option maxRecDepth 20000 in
set_option maxHeartbeats 4000000 in
theorem rread_c (k r : Nat) (m : ADisk) (n : Nm) (i j : Int) (w : World) (DD : RD w c k r m) (hops : m.ops ≤ 1000000) (hi : -9223372036854775808 ≤ i ∧ i ≤ 9223372036854775807) (hj : -9223372036854775808 ≤ j ∧ j ≤ 9223372036854775807) :
    Calls Tryz.prog 63 #[ptr r, .string ⟨n.toArray⟩, .int .i64 i, .int .i64 j] w (ReadPost m n i j c w) := by
  obtain ⟨vk, vf, vu, vF, F, D⟩ := DD
  have hc7 := D.c7
  rcases get_or m.files n with hg | ⟨f, hg⟩
  · have hf := find_no D n hg
    unfold ptr at hf
    have HF := Lib.hid hf
    cases hd : m.dead with
    | true =>
      have e : read m n i j = ([], 10) := by unfold Dk.read; rw [if_pos hd]
      have HE := Lib.hid e
      rw [hd] at hc7
      clear e D hf hd hi hj hg hops
      unfold ptr
      go_enter Tryz.func63, Tryz.ntmps63
      go_wp2_with (go_at_call 77; (with_reducible refine HF.out.mono ?_); rintro e w2 ⟨rfl, rfl⟩)
      go_ret2
      exact ⟨_, c, by rw [HE.out]; rfl, Cx.refl _ _, fun S => Kp.refl _ _ _, by rw [HE.out]; exact Sc.nil _ _ _⟩
    | false =>
      have e : read m n i j = ([], 13) := by unfold Dk.read; rw [if_neg (by rw [hd]; simp), hg]
      have HE := Lib.hid e
      rw [hd] at hc7
      clear e D hf hd hi hj hg hops
      unfold ptr
      go_enter Tryz.func63, Tryz.ntmps63
      go_wp2_with (go_at_call 77; (with_reducible refine HF.out.mono ?_); rintro e w2 ⟨rfl, rfl⟩)
      go_ret2
      exact ⟨_, c, by rw [HE.out]; rfl, Cx.refl _ _, fun S => Kp.refl _ _ _, by rw [HE.out]; exact Sc.nil _ _ _⟩
  · obtain ⟨t, x, htx, hxn, hxf, hfy⟩ := find_yes D n hg
    have hf := hfy D
    unfold ptr at hf
    have HF := Lib.hid hf
    have ht0 : (0 : Int) ≤ (t : Int) := Int.natCast_nonneg _
    cases hd : m.dead with
    | true =>
      have e : read m n i j = ([], 10) := by unfold Dk.read; rw [if_pos hd]
      have HE := Lib.hid e
      rw [hd] at hc7
      clear e D hf hd hi hj hg hops htx hxn hxf hfy
      unfold ptr
      go_enter Tryz.func63, Tryz.ntmps63
      go_wp2_with (go_at_call 77; (with_reducible refine HF.out.mono ?_); rintro e w2 ⟨rfl, rfl⟩)
      go_ret2
      exact ⟨_, c, by rw [HE.out]; rfl, Cx.refl _ _, fun S => Kp.refl _ _ _, by rw [HE.out]; exact Sc.nil _ _ _⟩
    | false =>
      rw [hd] at hc7
      obtain ⟨g, kf, e2, hlc, hcm, -, f0, f1, f2, -⟩ := D.files.cells htx
      have hr5 := D.c5
      rw [e2] at hr5
      have hlt : t < F.length := (List.getElem?_eq_some_iff.1 htx).1
      have hlen := D.len
      have hlen' : (F.length : Int) ≤ 4096 := by omega
      have hlt' : (t : Int) < (F.length : Int) := by omega
      have hRF := D.files.each x (List.mem_of_getElem? htx)
      obtain ⟨asx, ksx, evs, -⟩ := id hRF.safe
      obtain ⟨avc, kvc, evc⟩ := own_shape hRF.chs.own
      rw [List.length_map] at evs
      have hnow := (D.fok (List.mem_of_getElem? htx)).now
      have hnow' : (x.f.now.length : Int) ≤ 268435456 := by unfold maxFile at hnow; omega
      have hdc := fun W hW => data_c (c := c) k x W hW (D.fok (List.mem_of_getElem? htx)) (by omega) (D.nok (List.mem_of_getElem? htx))
      rw [evs] at f1 hdc
      rw [evc] at f2 hdc
      unfold str at f0
      have HDC := Lib.hid hdc
      have HRF := Lib.hid hRF
      have HXF := Lib.hid hxf
      have e0 : ∀ a, (if i < 0 ∨ j < 0 ∨ (x.f.now.length : Int) < i ∨ (x.f.now.length : Int) < i + j then ([], 1) else ((x.f.now.drop i.toNat).take j.toNat, (0 : Int))) = a → read m n i j = a := by
        intro a ha
        unfold Dk.read
        rw [if_neg (by rw [hd]; simp), hg]
        rw [hxf] at ha
        exact ha
      have HE0 := Lib.hid e0
      clear e0 hdc hRF hxf evs evc hnow e2 hlc hcm hlen hlt D hf hd hg hops htx hxn hfy
      unfold ptr
      by_cases h1 : i < 0
      · have HE := Lib.hid (HE0.out _ (if_pos (.inl h1)))
        clear hi hj
        go_enter Tryz.func63, Tryz.ntmps63
        go_wp2_with (first | (go_at_call 77; (with_reducible refine HF.out.mono ?_); rintro e w2 ⟨rfl, rfl⟩) | (go_at_call 78; refine (HDC.out _ HRF.out).mono ?_; rintro e w2 ⟨v2, rfl, hown2, hb2⟩; have HB2 := Lib.hid hb2; obtain ⟨a2, cap2, rfl⟩ := own_shape hown2; have HOW := Lib.hid hown2; clear hown2 hb2))
        go_ret2
        exact ⟨_, c, by rw [HE.out]; rfl, Cx.refl _ _, fun S => Kp.of_below HB2.out, by rw [HE.out]; exact Sc.nil _ _ _⟩
      · by_cases h2 : j < 0
        · have HE := Lib.hid (HE0.out _ (if_pos (.inr (.inl h2))))
          clear hi hj
          go_enter Tryz.func63, Tryz.ntmps63
          go_wp2_with (first | (go_at_call 77; (with_reducible refine HF.out.mono ?_); rintro e w2 ⟨rfl, rfl⟩) | (go_at_call 78; refine (HDC.out _ HRF.out).mono ?_; rintro e w2 ⟨v2, rfl, hown2, hb2⟩; have HB2 := Lib.hid hb2; obtain ⟨a2, cap2, rfl⟩ := own_shape hown2; have HOW := Lib.hid hown2; clear hown2 hb2))
          go_ret2
          exact ⟨_, c, by rw [HE.out]; rfl, Cx.refl _ _, fun S => Kp.of_below HB2.out, by rw [HE.out]; exact Sc.nil _ _ _⟩
        · by_cases h3 : (x.f.now.length : Int) < i
          · have HE := Lib.hid (HE0.out _ (if_pos (.inr (.inr (.inl h3)))))
            clear hi hj
            go_enter Tryz.func63, Tryz.ntmps63
            go_wp2_with (first | (go_at_call 77; (with_reducible refine HF.out.mono ?_); rintro e w2 ⟨rfl, rfl⟩) | (go_at_call 78; refine (HDC.out _ HRF.out).mono ?_; rintro e w2 ⟨v2, rfl, hown2, hb2⟩; have HB2 := Lib.hid hb2; obtain ⟨a2, cap2, rfl⟩ := own_shape hown2; have HOW := Lib.hid hown2; clear hown2 hb2))
            go_ret2
            exact ⟨_, c, by rw [HE.out]; rfl, Cx.refl _ _, fun S => Kp.of_below HB2.out, by rw [HE.out]; exact Sc.nil _ _ _⟩
          · by_cases h4 : (x.f.now.length : Int) - i < j
            · have HE := Lib.hid (HE0.out _ (if_pos (.inr (.inr (.inr (by omega))))))
              clear hi hj
              go_enter Tryz.func63, Tryz.ntmps63
              go_wp2_with (first | (go_at_call 77; (with_reducible refine HF.out.mono ?_); rintro e w2 ⟨rfl, rfl⟩) | (go_at_call 78; refine (HDC.out _ HRF.out).mono ?_; rintro e w2 ⟨v2, rfl, hown2, hb2⟩; have HB2 := Lib.hid hb2; obtain ⟨a2, cap2, rfl⟩ := own_shape hown2; have HOW := Lib.hid hown2; clear hown2 hb2))
              go_ret2
              exact ⟨_, c, by rw [HE.out]; rfl, Cx.refl _ _, fun S => Kp.of_below HB2.out, by rw [HE.out]; exact Sc.nil _ _ _⟩
            · have HE := Lib.hid (HE0.out _ (if_neg (by omega)))
              obtain ⟨ni, hni⟩ : ∃ ni : Nat, i = ni := ⟨i.toNat, by omega⟩
              obtain ⟨nj, hnj⟩ : ∃ nj : Nat, j = nj := ⟨j.toNat, by omega⟩
              subst hni hnj
              have hij : (ni : Int) + (nj : Int) ≤ (x.f.now.length : Int) := by omega
              clear hi hj h1 h2 h3
              go_enter Tryz.func63, Tryz.ntmps63
              go_wp2_with (first | (go_at_call 77; (with_reducible refine HF.out.mono ?_); rintro e w2 ⟨rfl, rfl⟩) | (go_at_call 78; refine (HDC.out _ HRF.out).mono ?_; rintro e w2 ⟨v2, rfl, hown2, hb2⟩; have HB2 := Lib.hid hb2; obtain ⟨a2, cap2, rfl⟩ := own_shape hown2; have HOW := Lib.hid hown2; have hic : (x.f.now.length : Int) ≤ (cap2 : Int) := (by obtain ⟨_, _, e, h2, _⟩ := Sc.of_owns (c := fun _ => (0, 0)) (q := (0, 0)) hown2 (fun _ _ => rfl); injection e with _ _ e3; subst e3; rw [List.length_map] at h2; omega); have HS := Lib.hid (Sc.of_owns (c := fun _ => (0, 0)) (q := (0, 0)) hown2 (fun _ _ => rfl)); clear hown2 hb2) | (go_at_call 80; refine (rtwinb _ (((x.f.now.map bv).drop ni).take nj) (Sc.sw (Sc.cut (by rw [List.length_map]; exact HS.out) ni nj (by rw [List.length_map]; omega) rfl)) (fun u hu => one_bv x.f.now u (List.mem_of_mem_drop (List.mem_of_mem_take hu))) (by simp only [List.length_take, List.length_drop, List.length_map]; unfold lim; omega)).mono ?_; rintro e w3 ⟨v3, rfl, hown3, hb3⟩; have HB3 := Lib.hid hb3; have HOW3 := Lib.hid hown3; clear hb3 hown3))
              all_goals
                go_ret2
                obtain ⟨c3, hc3, hs3, hk3⟩ := fresh_c3 (c1 := c) HB3.out HOW3.out
                refine ⟨_, c3, by rw [HE.out]; rfl, fun b hb => hc3 b (Nat.lt_of_lt_of_le hb HB2.out.size), fun S => (Kp.of_below HB2.out).trans (hk3 S) (Cx.refl _ _), ?_⟩
                rw [HE.out]
                rw [← List.map_drop, ← List.map_take] at hs3
                exact hs3
end Go.Proofs.YtnifmoigalmcmaaGreat
