/- Clone: another disk like one that is. -/
import Derived.Test.YtepphepcaphlkaaEa
import Derived.Test.YtepphepcaphlkaaQ
namespace Go.Proofs.Ytepphepcaphlkaa
open Go Go.RowKit Go.MapKept Go.Maps Go.Shelf
open Dk
variable {c c' : Col} {w w' : World}
theorem chs_one {chs : List Chg} {xs : List Value} (h2 : ∀ (i : Nat) x y, xs[i]? = some x → chs[i]? = some y → ChV w c x y) (hl : xs.length = chs.length) : ∀ u ∈ xs, u.oneCell' = true := by
  intro u hu
  obtain ⟨i, hi⟩ := List.getElem?_of_mem hu
  have hlt : i < chs.length := by rw [← hl]; exact (List.getElem?_eq_some_iff.1 hi).1
  have := h2 i u _ hi (List.getElem?_eq_getElem hlt)
  cases hc : chs[i] with
  | wr a b => rw [hc] at this; obtain ⟨vb, rfl, _⟩ := this; rfl
  | cut n => rw [hc] at this; cases this; rfl
theorem own_zero {base e size n : Nat} {v : Value} {xs : List Value} (h : w.ownsRow base e size v n xs) : w.ownsRow 0 e size v n xs := by
  obtain ⟨h1, h2⟩ := h
  refine ⟨h1, ?_⟩
  rcases h2 with h2 | ⟨g, cap, cur, rfl, hg, r⟩
  · exact .inl h2
  · exact .inr ⟨g, cap, cur, rfl, Nat.zero_le _, r⟩
theorem fclone_end {k2 : Nat} {f : AFile} {w1 : World} {xs : List Value} {v0 v1 vn : Value} (hs : Sc w c (0, 0) v0 (f.safe.map bv)) (hn : Sc w c (0, 0) vn (f.now.map bv)) (hch : ∀ (i : Nat) x y, xs[i]? = some x → f.chs[i]? = some y → ChV w c x y) (hxl : xs.length = f.chs.length)
    (hown : w1.ownsRow w.heap.size 109 1 v1 xs.length xs) (hb : Below w.heap.size w w1) :
    ∃ nb c', Ending.returned (.pointer (some ⟨w1.heap.size, 0, none⟩)) = .returned (ptr nb) ∧ Below w.heap.size w (w1.alloc (.cells #[v0, v1, vn] 80)) ∧ w.heap.size ≤ nb ∧ Cx w c c' ∧ FileAt (w1.alloc (.cells #[v0, v1, vn] 80)) c' k2 nb f := by
  have hcx : Cx w c (fun b => if b < w.heap.size then c b else if b = w1.heap.size then fcol k2 w1.heap.size else gcol k2 w1.heap.size) := fun b hb => if_pos hb
  have hk : Kp c (fun _ => False) w (w1.alloc (.cells #[v0, v1, vn] 80)) := (Kp.of_below hb).alloc _
  have hsz := hb.size
  refine ⟨w1.heap.size, _, rfl, hb.alloc hb.size _, hb.size, hcx, v0, v1, vn, heap_alloc_new _ _, ?_, hs.kp hk (fun h => h) hcx, ?_, hn.kp hk (fun h => h) hcx⟩
  · show (if w1.heap.size < w.heap.size then _ else _) = _
    rw [if_neg (by omega), if_pos rfl]
  · have hown0 : w1.ownsRow 0 109 1 v1 f.chs.length xs := by rw [← hxl]; exact own_zero hown
    have hk1 : Kp (fun _ => (0, 0)) (fun _ => False) w1 (w1.alloc (.cells #[v0, v1, vn] 80)) := (Kp.refl _ _ _).alloc _
    refine ⟨xs, ownsRow_kp hown0 (c := fun _ => (0, 0)) (q := (0, 0)) (fun _ _ => rfl) hk1 (fun h => h), fun i x y hx hy => (hch i x y hx hy).kp hk (fun h => h) hcx, fun g hg => ?_⟩
    have h1 := own_base hown g hg
    have h2 := ownBlock_lt hown g hg
    show (if g < w.heap.size then _ else if g = w1.heap.size then _ else _) = _
    rw [if_neg (by omega), if_neg (by omega)]
set_option maxRecDepth 100000 in
set_option maxHeartbeats 4000000 in
theorem fclone_c (k k2 fbn : Nat) (f : AFile) (w : World) (F : FileAt w c k fbn f) (hl : f.chs.length ≤ lim) :
    Calls Try.prog 57 #[ptr fbn] w fun e w' => ∃ nb c', e = .returned (ptr nb) ∧ Below w.heap.size w w' ∧ w.heap.size ≤ nb ∧ Cx w c c' ∧ FileAt w' c' k2 nb f := by
  obtain ⟨vs, vc, vn, hh, hcf, hs, ⟨xs, hown, hchs, hcol⟩, hn⟩ := F
  have hxl : xs.length = f.chs.length := by simpa using hown.1
  have hsc := Sc.of_owns hown hcol
  have h1 := chs_one hchs hxl
  have e0 := cell_of_heap hh 0
  have e1 := cell_of_heap hh 1
  have e2 := cell_of_heap hh 2
  obtain ⟨a0, ks, rfl, -⟩ := id hs
  obtain ⟨ac, kc, rfl, -⟩ := id hsc
  obtain ⟨an, kn, rfl, -⟩ := id hn
  simp only [List.length_map] at hs hn hh e0 e2
  have g0 : w.cell? ⟨fbn, 0, none⟩ = some (.slice a0 f.safe.length ks) := e0
  have g1 : w.cell? ⟨fbn, 1, none⟩ = some (.slice ac xs.length kc) := e1
  have g2 : w.cell? ⟨fbn, 2, none⟩ = some (.slice an f.now.length kn) := e2
  clear e0 e1 e2 hh
  have HS := Lib.hid hs; clear hs
  have HN := Lib.hid hn; clear hn
  have HSC := Lib.hid hsc; clear hsc
  have H1 := Lib.hid h1; clear h1
  have HCH := Lib.hid hchs; clear hchs
  have HXL := Lib.hid hxl; clear hxl
  have HL := Lib.hid hl; clear hl
  clear hown hcol hcf
  unfold ptr
  go_enter Try.func57, Try.ntmps57
  go_wp2
  go_region_with (go_at_call 74; refine (cloneC _ xs (HSC.out.drew) H1.out (by rw [HXL.out]; exact HL.out)).mono ?_; rintro e w1 ⟨v1, rfl, hown1, hb1⟩; (obtain ⟨a1, k1, rfl, -⟩ := Sc.of_owns (c := fun _ => (0, 0)) (q := (0, 0)) hown1 (fun _ _ => rfl)); have hb2 : Below w.heap.size w w1 := ((Below.refl _ w).drew).trans hb1; have g3 := (Kp.of_below (c := c) (S := S2F) hb2).cell g0 (fun h => h); have g4 := (Kp.of_below (c := c) (S := S2F) hb2).cell g2 (fun h => h); clear g1; have HO := Lib.hid hown1; have HB := Lib.hid hb2; clear hown1 hb1 hb2)
  all_goals go_wp2
  all_goals go_ret
  all_goals exact fclone_end HS.out HN.out HCH.out HXL.out HO.out HB.out
end Go.Proofs.Ytepphepcaphlkaa
