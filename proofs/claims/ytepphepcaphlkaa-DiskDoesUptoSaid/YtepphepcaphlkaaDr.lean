import Derived.Test.YtepphepcaphlkaaFew
import Derived.Test.YtepphepcaphlkaaAw1
import Derived.Test.YtepphepcaphlkaaRoom
namespace Go.Proofs.Ytepphepcaphlkaa
open Go Go.RowKit Go.MapKept Go.Maps
open Dk
variable {c c' : Col} {w w' : World}
theorem do_any7 (k d : Nat) (m : ADisk) (o : AOp) (vd vk vf vu : Value) (w : World) (DD : DiskAt w c k d m) (hk0 : k ≠ 0) (hops : m.ops < 900000) {b off : Nat} (O : OpAt w c b off o vd vk vf vu) (h7 : o.kind ≠ 7) :
    Calls Try.prog 12 #[ptr d, opV o vd vk vf vu] w (OpPost k d (doOp m o) c w) := by
  have hvk : vk.oneCell' = true := by obtain ⟨_, _, rfl, _⟩ := O.plan.keep; rfl
  have hvf : vf.oneCell' = true := by obtain ⟨_, _, rfl, _⟩ := O.plan.fail; rfl
  have hvu : vu.oneCell' = true := by obtain ⟨_, _, rfl, _⟩ := O.plan.full; rfl
  by_cases h0 : o.kind = 0
  · exact do_create k d m o vd vk vf vu w DD hk0 hops O.name O.to O.data O.fits.1 O.at_ O.long hvk hvf hvu h0
  by_cases h1 : o.kind = 1
  · exact do_append k d m o vd vk vf vu w DD hk0 hops O.name O.to O.data O.fits.1 O.at_ O.long hvk hvf hvu h1
  by_cases h2 : o.kind = 2
  · exact do_writeAt k d m o vd vk vf vu w DD hk0 hops O.name O.to O.data O.fits.1 O.at_ O.long hvk hvf hvu h2
  by_cases h3 : o.kind = 3
  · exact do_truncate k d m o vd vk vf vu w DD hk0 hops O.name O.to O.data O.fits.1 O.at_ O.long hvk hvf hvu h3
  by_cases h4 : o.kind = 4
  · exact do_sync k d m o vd vk vf vu w DD hk0 hops O.name O.to O.data O.fits.1 O.at_ O.long hvk hvf hvu h4
  by_cases h5 : o.kind = 5
  · exact do_rename k d m o vd vk vf vu w DD hk0 hops O.name O.to O.data O.fits.1 O.at_ O.long hvk hvf hvu h5
  by_cases h6 : o.kind = 6
  · exact do_remove k d m o vd vk vf vu w DD hk0 hops O.name O.to O.data O.fits.1 O.at_ O.long hvk hvf hvu h6
  exact do_read k d m o vd vk vf vu w DD hk0 hops O.name O.to O.data O.fits.1 O.at_ O.long hvk hvf hvu h0 h1 h2 h3 h4 h5 h6 h7
theorem drN (k : Nat) (r : Int) (hk0 : k ≠ 0) (w0 : World) (h0 : ∀ S, Kp c S w w0) : Calls Try.prog 11 #[.agg #[.int .i64 0, .slice (some ⟨w0.heap.size, 0, none⟩) 1 1, .slice none 0 0, .slice none 0 0, .int .i64 r]] (w0.alloc (.cells #[.int .i64 (-1)] 3)) fun e w' => ∃ d, e = .returned (.pointer (some ⟨d, 0, none⟩)) ∧ AW w c k d (new_ ⟨0, [-1], [], [], r⟩) w' := by
  have HS : Sc (w0.alloc (.cells #[.int .i64 (-1)] 3)) c (c w0.heap.size) (.slice (some ⟨w0.heap.size, 0, none⟩) 1 1) ([(-1 : Int)].map iv) := sc_new _ _ _ _
  refine (new_c k ⟨0, [-1], [], [], r⟩ (.slice (some ⟨w0.heap.size, 0, none⟩) 1 1) (.slice none 0 0) (.slice none 0 0) _ HS (Sc.nil _ _ _) (Sc.nil _ _ _) (by simp [lim]) (by simp [lim]) (by simp [lim]) hk0).mono fun e w' h => ?_
  obtain ⟨d, c1, he, hcx, hkp, hdd, _⟩ := h
  have hs := (h0 (fun _ => False)).size
  exact ⟨d, he, c1, fun b hb => hcx b (by simp; omega), ((h0 _).alloc _).trans (hkp _) (Cx.refl _ _), hdd⟩
theorem files_cell {v : Value} {fs : List (Nm × List UInt8)} (h : FilesAt w c v fs) {j : Nat} {x : Nm × List UInt8} (hx : fs[j]? = some x) :
    ∃ g cap vd, v = .slice (some ⟨g, 0, none⟩) fs.length cap ∧ w.cell? ⟨g, j * 2, none⟩ = some (.string ⟨x.1.toArray⟩) ∧ w.cell? ⟨g, j * 2 + 1, none⟩ = some vd ∧ Sc w c (0, 0) vd (x.2.map bv) := by
  obtain ⟨xs, hown, hcol, hd⟩ := h
  obtain ⟨vd, h1, h2, h3⟩ := hd j x hx
  have hlt : j < fs.length := (List.getElem?_eq_some_iff.1 hx).1
  rcases hown.2 with ⟨rfl, h0⟩ | ⟨g, cap, cur, hv, _⟩
  · omega
  · refine ⟨g, cap, vd, hv, ?_, ?_, h3⟩
    · have := hown.cells (g := g) (by rw [hv]; rfl) (2 * j) _ h1
      rw [add_eq rfl] at this
      rw [Nat.mul_comm j 2]; simpa [str] using this
    · have := hown.cells (g := g) (by rw [hv]; rfl) (2 * j + 1) _ h2
      rw [add_eq rfl] at this
      rw [Nat.mul_comm j 2]; simpa using this
theorem files_shape {v : Value} {fs : List (Nm × List UInt8)} (h : FilesAt w c v fs) : ∃ a cap, v = .slice a fs.length cap := by
  obtain ⟨xs, hown, _, _⟩ := h
  rcases hown.2 with ⟨rfl, h0⟩ | ⟨g, cap, cur, hv, _⟩
  · exact ⟨none, 0, by rw [h0]⟩
  · exact ⟨_, _, hv⟩
def fsum (fs : List (Nm × List UInt8)) : Nat := (fs.map fun x => x.2.length).sum
theorem fsum_take {fs : List (Nm × List UInt8)} {j : Nat} {x : Nm × List UInt8} (hx : fs[j]? = some x) : fsum (fs.take (j + 1)) = fsum (fs.take j) + x.2.length := by
  rw [List.take_add_one, hx]; simp [fsum]
theorem fsum_le (fs : List (Nm × List UInt8)) (j : Nat) : fsum (fs.take j) ≤ fsum fs := by
  have : fsum fs = fsum (fs.take j) + fsum (fs.drop j) := by
    unfold fsum; rw [← List.sum_append, ← List.map_append, List.take_append_drop]
  omega
theorem fsum_files {m : ADisk} (hd : m.dead = false) : fsum (files m) = total m := by
  unfold files fsum total; rw [hd]; simp [Function.comp_def]
structure DRInv (w : World) (c : Col) (k d : Nat) (r : Int) (i : Nat) (wr : World) : Prop where
  ex : ∃ ci mi, Cx w c ci ∧ Kp c (fun q => q.1 = k) w wr ∧ DiskAt wr ci k d mi ∧ RoomInv mi r i
theorem DRInv.end {k d : Nat} {r : Int} {i : Nat} {wr : World} (h : DRInv w c k d r i wr) (hkf : ∀ b, b < w.heap.size → (c b).1 ≠ k) (S : Nat × Nat → Prop) : Kp c S w wr := by
  obtain ⟨ci, mi, hc, hk, D, _⟩ := h.ex
  exact ⟨hk.os, hk.tape, hk.output, hk.size, fun b hb _ => hk.block b hb (hkf b hb)⟩
theorem DRInv.skip {k d : Nat} {r : Int} {i : Nat} {wr : World} (h : DRInv w c k d r i wr) (o : Obj) : DRInv w c k d r (i + 1) (wr.alloc o) := by
  obtain ⟨ci, mi, hc, hk, D, R⟩ := h.ex
  exact ⟨ci, mi, hc, hk.alloc _, D.kp ((Kp.refl ci (fun _ => False) wr).alloc _) (fun _ h => h.elim) (Cx.refl _ _), R.crash, R.room, R.dead, R.tot, R.ops0, by have := R.ops; omega⟩
theorem ok_of {k d : Nat} {m : ADisk} (h : DiskAt w c k d m) : m.ok := by obtain ⟨_, _, _, _, _, _, _, D⟩ := h; exact D.ok
set_option maxHeartbeats 8000000 in
theorem diskRoom_c (r : Int) (v : Value) (l : List AOp) (w : World) (h : OpsAt w c v l) (hr64 : r ≤ 9223372036854775807) :
    Calls Try.prog 3 #[.int .i64 r, v] w fun e w' => e = .returned (.bool true) ∧ ∀ S, Kp c S w w' := by
  obtain ⟨k, hk0, -, hkf⟩ := fresh_col c w.heap.size 0
  have HK0 := Lib.hid hk0; clear hk0
  have HKF := Lib.hid hkf; clear hkf
  have HOP := Lib.hid h
  obtain ⟨a, cap, rfl, hm, hn, hop⟩ := h
  have hlen : (l.length : Int) ≤ 9223372036854775807 := by unfold maxLen at hm; omega
  clear hm hn hop
  have HR64 := Lib.hid hr64; clear hr64
  go_enter Try.func3, Try.ntmps3
  go_wp2_with (first
    | (go_at_call 9; refine (awake_c (c := c) _).mono ?_; rintro e w1 ⟨rfl, ha⟩; have HA := Lib.hid ha; clear ha)
    | (go_at_call 10; refine (few_c (c := c) _ _ _ (HOP.out.kp (HA.out S2F) (fun h => h) (Cx.refl _ _))).mono ?_; rintro e w2 ⟨b, rfl, hb, hf⟩; have HB := Lib.hid hb; have HF := Lib.hid hf; clear hb hf)
    | (go_at_call 11; refine (drN (c := c) (w := w) k r HK0.out _ (fun S => (HA.out S).trans (HB.out S) (Cx.refl _ _))).mono ?_; rintro e w3 ⟨d, rfl, hd⟩; have HD := Lib.hid hd; clear hd))
  · go_ret
    exact ⟨rfl, fun S => (HA.out S).trans (HB.out S) (Cx.refl _ _)⟩
  · have hbt : b = true := by assumption
    have hr0 : 0 < r := by assumption
    obtain ⟨hl60, hsm⟩ := HF.out hbt
    have HR0 := Lib.hid hr0; clear hr0
    have HSM := Lib.hid hsm; clear hsm hbt
    have HL := Lib.hid hl60; clear hl60
    go_loopw [28] (fun s wr => ∃ i : Nat, i ≤ l.length ∧ s = .int .i64 i ∧ DRInv w c k d r i wr) (fun s _ => l.length - (intOf s).toNat)
    case atStart =>
      obtain ⟨ci, hc, hk, D⟩ := HD.out
      exact ⟨0, Nat.zero_le _, rfl, ci, _, hc, hk, D, rfl, rfl, rfl, by have := HR0.out; simp [total, new_]; omega, by simp [new_], by simp [new_]⟩
    case round =>
      obtain ⟨i, hi, rfl, I⟩ := hrel
      have HI := Lib.hid I
      by_cases hlt : i < l.length
      · obtain ⟨ci, mi, hc, hk, D, R⟩ := I.ex
        clear I
        obtain ⟨o, ho⟩ : ∃ o, l[i]? = some o := ⟨l[i], List.getElem?_eq_getElem hlt⟩
        obtain ⟨a', cap', he, hm, hn, hop⟩ := HOP.out.kp hk (fun h => HK0.out h.symm) hc
        injection he with he1 he2 he3
        subst he1
        subst he3
        clear he2
        cases a with
        | none => rw [hn rfl] at hlt; cases hlt
        | some ad =>
          obtain ⟨b, off, sp⟩ := ad
          have hop := hop _ rfl
          obtain ⟨hsp, vd, vk, vf, vu, O⟩ := hop i o ho
          cases hsp
          obtain ⟨ad, kd, rfl, -⟩ := O.data
          obtain ⟨ak, kk, rfl, -⟩ := O.plan.keep
          obtain ⟨af, kf, rfl, -⟩ := O.plan.fail
          obtain ⟨au, ku, rfl, -⟩ := O.plan.full
          simp only [List.length_map] at O
          have g0 : wr.cell? ⟨b, off + i * 11, none⟩ = some (.int .i64 o.kind) := O.cells 0 _ rfl
          have g1 : wr.cell? ⟨b, off + i * 11 + 1, none⟩ = some (.string ⟨o.name.toArray⟩) := O.cells 1 _ rfl
          have g2 : wr.cell? ⟨b, off + i * 11 + 2, none⟩ = some (.string ⟨o.to.toArray⟩) := O.cells 2 _ rfl
          have g3 : wr.cell? ⟨b, off + i * 11 + 3, none⟩ = some (.int .i64 o.at_) := O.cells 3 _ rfl
          have g4 : wr.cell? ⟨b, off + i * 11 + 4, none⟩ = some (.int .i64 o.long) := O.cells 4 _ rfl
          have g5 : wr.cell? ⟨b, off + i * 11 + 5, none⟩ = some (.slice ad o.data.length kd) := O.cells 5 _ rfl
          have g6 : wr.cell? ⟨b, off + i * 11 + 6, none⟩ = some (.int .i64 o.plan.crash) := O.cells 6 _ rfl
          have g7 : wr.cell? ⟨b, off + i * 11 + 7, none⟩ = some (.slice ak o.plan.keep.length kk) := O.cells 7 _ rfl
          have g8 : wr.cell? ⟨b, off + i * 11 + 8, none⟩ = some (.slice af o.plan.fail.length kf) := O.cells 8 _ rfl
          have g9 : wr.cell? ⟨b, off + i * 11 + 9, none⟩ = some (.slice au o.plan.full.length ku) := O.cells 9 _ rfl
          have g10 : wr.cell? ⟨b, off + i * 11 + 10, none⟩ = some (.int .i64 o.plan.room) := O.cells 10 _ rfl
          have HO := Lib.hid O; clear O hop hn hm
          have HCI := Lib.hid hc; clear hc
          have HKI := Lib.hid hk; clear hk
          have HDI := Lib.hid D; clear D
          have HRI := Lib.hid R; clear R
          by_cases h7 : o.kind = 7
          · rw [h7] at g0
            go_wp2
            go_roundw
            case rel => exact ⟨i + 1, by omega, by go_num, HI.out.skip _⟩
            case measure => simp [intOf]; omega
          · have H7 := Lib.hid h7
            go_wp2_with (first
              | (go_at_call 12; refine (do_any7 k d mi o _ _ _ _ _ (HDI.out.kp ((Kp.refl ci (fun _ => False) wr).alloc _) (fun _ h => h.elim) (Cx.refl _ _)) HK0.out (by have := HRI.out.ops; have := HL.out; omega) (HO.out.kp ((Kp.refl ci (fun _ => False) wr).alloc _) (fun h => h) (Cx.refl _ _)) H7.out).mono ?_; rintro e w4 ⟨rfl, c4, hc4, hk4, D4⟩; have HC4 := Lib.hid hc4; have HK4 := Lib.hid hk4; have HD4 := Lib.hid D4; clear hc4 hk4 D4)
              | (go_at_call 13; refine (files_c k d _ _ HD4.out).mono ?_; rintro e w5 ⟨v5, c5, rfl, hc5, hk5, F⟩; (obtain ⟨a5, cap5, rfl⟩ := files_shape F); have HC5 := Lib.hid hc5; have HK5 := Lib.hid hk5; have HF5 := Lib.hid F; clear hc5 hk5 F))
            clear g0 g1 g2 g3 g4 g5 g6 g7 g8 g9 g10 h7
            have R' := Lib.hid (doOp_room HRI.out HR0.out (ok_of HDI.out) o H7.out)
            have htot : (fsum (files (doOp mi o).2) : Int) ≤ r := by rw [fsum_files R'.out.dead]; exact R'.out.tot
            have hfl4 : (files (doOp mi o).2).length ≤ 4096 := by
              have := (ok_of HD4.out).many
              unfold files
              split
              · simp
              · rw [List.length_map]; exact this
            obtain ⟨fl, hfl⟩ : ∃ fl, fl = files (doOp mi o).2 := ⟨_, rfl⟩
            rw [← hfl] at HF5 htot hfl4 ⊢
            clear hfl
            have HTOT := Lib.hid htot; clear htot
            have hfl5 : (fl.length : Int) ≤ 4096 := by omega
            clear hfl4
            go_loopw [8, 41] (fun vn s wq => ∃ j : Nat, j ≤ fl.length ∧ s = .int .i64 j ∧ vn = .int .i64 (fsum (fl.take j) : Nat) ∧ ∀ S, Kp c5 S w5 wq) (fun _ s _ => fl.length - (intOf s).toNat)
            case atStart => exact ⟨0, Nat.zero_le _, rfl, by simp [fsum], fun S => Kp.refl _ _ _⟩
            case round =>
              obtain ⟨j, hj, rfl, rfl, hkq⟩ := hrel
              have HKQ := Lib.hid hkq; clear hkq
              by_cases hlt2 : j < fl.length
              · obtain ⟨x, hx⟩ : ∃ x, fl[j]? = some x := ⟨fl[j], List.getElem?_eq_getElem hlt2⟩
                obtain ⟨g, cap6, vd6, hv, e1, e2, hs⟩ := files_cell HF5.out hx
                injection hv with hv1 hv2 hv3
                subst hv1
                obtain ⟨a6, k6, rfl, -⟩ := id hs
                rw [List.length_map] at e2
                have e3 := (HKQ.out S2F).cell e1 (fun h => h)
                have e4 := (HKQ.out S2F).cell e2 (fun h => h)
                have hn : (fsum (fl.take j) : Int) + x.2.length ≤ 9223372036854775807 := by
                  have h1 := fsum_take hx
                  have h2 := fsum_le fl (j + 1)
                  have h3 := HTOT.out
                  have h4 := HR64.out
                  omega
                have HXX := Lib.hid hx; clear hx
                clear e1 e2 hs hv2 hv3
                go_wp2
                go_roundw
                case rel => exact ⟨j + 1, by omega, by go_num, by rw [fsum_take HXX.out]; rfl, fun S => (HKQ.out S).alloc _⟩
                case measure => simp [intOf]; omega
              · obtain rfl : j = fl.length := by omega
                have hfin : (fsum fl : Int) ≤ r := HTOT.out
                go_wp2
                have hsz := HKI.out.size
                have hcc : Cx w c c4 := HCI.out.trans HC4.out (by simp; omega)
                have hs4 := HK4.out.size
                have hs5 := (HK5.out S2F).size
                have hsz4 : w.heap.size ≤ w4.heap.size := by simp at hs4; omega
                have hD : DRInv w c k d r (i + 1) wr := ⟨c5, (doOp mi o).2, hcc.trans HC5.out hsz4, (((HKI.out.alloc _).trans HK4.out HCI.out).trans (HK5.out _) hcc).trans (HKQ.out _) (hcc.trans HC5.out hsz4), (HD4.out.kp (HK5.out S2F) (fun _ h => h.elim) HC5.out).kp (HKQ.out S2F) (fun _ h => h.elim) (Cx.refl _ _), R'.out⟩
                go_roundw
                case rel =>
                  exact ⟨i + 1, by omega, by go_num, hD⟩
                case measure => simp [intOf]; omega
      · obtain rfl : i = l.length := by omega
        go_wp2
        go_ret
        exact ⟨rfl, fun S => HI.out.end HKF.out S⟩
  · go_ret
    exact ⟨rfl, fun S => (HA.out S).trans (HB.out S) (Cx.refl _ _)⟩
end Go.Proofs.Ytepphepcaphlkaa
