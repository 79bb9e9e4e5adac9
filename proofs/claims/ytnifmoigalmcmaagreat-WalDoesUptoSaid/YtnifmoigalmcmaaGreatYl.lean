/- Chapter 10's first example. -/
import Derived.Test.YtnifmoigalmcmaaGreatVb
import Derived.Lib.SlBytesConst
namespace Go.Proofs.YtnifmoigalmcmaaGreat
open Go Go.RowKit Dk
open Wl
variable {c c' : Col} {w w' : World} {S : Nat × Nat → Prop} {q : Nat × Nat}
abbrev c00 : Col := fun _ => (0, 0)
theorem one_bat {W : World} {c : Col} {g1 g2 : Nat} {x : UInt8} (k1 : c g1 = (0, 0)) (k2 : c g2 = (0, 0)) (h1 : W.cell? ⟨g1, 0, none⟩ = some (.slice (some ⟨g2, 0, none⟩) 1 1)) (h2 : W.cell? ⟨g2, 0, none⟩ = some (bv x)) : Bat W c (0, 0) (0, 0) (.slice (some ⟨g1, 0, none⟩) 1 1) [[x]] := by
  refine ⟨[.slice (some ⟨g2, 0, none⟩) 1 1], ⟨some ⟨g1, 0, none⟩, 1, rfl, Nat.le_refl _, by simp [maxLen], (fun h => by cases h), fun ad had => ?_⟩, rfl, fun i a b ha hb => ?_⟩
  · cases had
    refine ⟨rfl, fun j u hj => ⟨k1, ?_⟩⟩
    match j, hj with
    | 0, hj => simp at hj; subst hj; exact h1
  · match i, ha, hb with
    | 0, ha, hb =>
      simp at ha hb
      subst ha hb
      refine ⟨some ⟨g2, 0, none⟩, 1, rfl, Nat.le_refl _, by simp [maxLen], (fun h => by cases h), fun ad had => ?_⟩
      cases had
      refine ⟨rfl, fun j u hj => ⟨k2, ?_⟩⟩
      match j, hj with
      | 0, hj => simp at hj; subst hj; exact h2
def p0 : APlan := ⟨0, [], [], [], 0⟩
theorem aw_create : (create (new_ p0) [76]).1 = 0 := by decide
theorem aw_m1 : (create (new_ p0) [76]).2 = ⟨p0, 1, false, [([76], ⟨[], [], []⟩)]⟩ := by rfl
theorem aw_append (b : List UInt8) (h : b.length ≤ 1000) : append ⟨p0, 1, false, [([76], ⟨[], [], []⟩)]⟩ [76] b = (0, ⟨p0, 2, false, [([76], ⟨[], [.wr 0 b], Chg.app [] (.wr 0 b)⟩)]⟩) := by
  have e : begin_ ⟨p0, 1, false, [([76], ⟨[], [], []⟩)]⟩ = (0, ⟨p0, 2, false, [([76], ⟨[], [], []⟩)]⟩) := by rfl
  unfold append
  rw [e]
  show (if maxFile < b.length + 0 then _ else _) = _
  rw [if_neg (by unfold maxFile; omega)]
  rfl
theorem aw_cells {B : Nat} {W : World} {v : Value} {cf : Col} (G : Grow QL B W 40 v cf [[[97]]]) : ∃ g k gb ob kb gc oc kc, v = .slice (some ⟨g, 0, none⟩) 1 k ∧ W.cell? ⟨g, 0, none⟩ = some (.slice (some ⟨gb, ob, none⟩) 1 kb) ∧
    W.cell? ⟨gb, ob, none⟩ = some (.slice (some ⟨gc, oc, none⟩) 1 kc) ∧ Bya W gc oc [97] ∧ 1 ≤ k ∧ k ≤ maxLen ∧ 1 ≤ kb ∧ kb ≤ maxLen ∧ 1 ≤ kc ∧ kc ≤ maxLen := by
  obtain ⟨xs, hxs, hq⟩ := G.own
  obtain ⟨g, k, rfl, h1, h2⟩ := own_pos1 hxs (by decide)
  have hlen : xs.length = 1 := by simpa using hxs.1
  match xs, hlen with
  | [y], _ =>
    have hy := hq 0 y [[97]] rfl rfl
    rcases hy.at with ⟨_, h0⟩ | ⟨gb, ob, kb, rfl, h3, h4, hx⟩
    · cases h0
    · obtain ⟨a, kc, h5, h6⟩ := hx 0 (by decide)
      rcases h6.cases with ⟨h7, _⟩ | ⟨gc, oc, kc', h7, h8, h9, _, h10⟩
      · cases h7
      · cases h7
        exact ⟨g, k, gb, ob, kb, gc, oc, _, rfl, own_cells hxs 0 _ rfl, h5, h10, h1, h2, h3, h4, by simpa using h8, h9⟩
theorem aw_len : (enc kec 0 [[97]]).length = 29 := by rw [enc_length kec_length]; rfl
theorem aw_zero : ((enc kec 0 [[97]]).map bv)[0]? = some (.int .u8 17) := by
  have : enc kec 0 [[97]] = (17 : UInt8) :: ((enc kec 0 [[97]]).drop 1) := by
    have e : head 0 [[97]] = (17 : UInt8) :: (head 0 [[97]]).drop 1 := by decide
    unfold enc
    rw [e]; rfl
  rw [this]; rfl
theorem aw_read : read kec (enc kec 0 [[97]] ++ [1]) = ([[[97]]], 29) := by
  have h := readF_encs kec_length [[[97]]] 0 ((enc kec 0 [[97]] ++ [1]).length + 1) [1] (by intro x hx; rw [List.mem_singleton.1 hx]; decide) (by decide) (by simp [encs])
  have e : encs kec 0 [[[97]]] = enc kec 0 [[97]] := by simp [encs]
  have h2 : ∀ f k, readF kec f [1] k = ([], 0) := fun f k => readF_none kec (by simp [first])
  rw [e, h2] at h
  unfold Wl.read
  rw [h, aw_len]; rfl
theorem aw_zero_col {W : World} {c7 : Col} {g : Nat} (h : Cx W c00 c7) (hl : g < W.heap.size) : ∀ k : Nat, k ≠ 0 → ¬ (c7 g).1 = k := fun k hk e => by
  rw [h g hl] at e; exact hk e.symm
theorem kp_zero {W W' : World} (h : Kp c00 S W W') (h0 : ¬ S (0, 0)) (c : Col) (S' : Nat × Nat → Prop) : Kp c S' W W' :=
  ⟨h.os, h.tape, h.output, h.size, fun x hx _ => h.block x hx h0⟩
/-- Append of the example. -/
theorem aw_app {w8 : World} {c8 : Col} {lb d : Nat} {vl : Value} (L : LogAt w8 c8 2 lb d [76] vl [] 0 false) (D : DiskAt w8 c8 1 d ⟨p0, 1, false, [([76], ⟨[], [], []⟩)]⟩) :
    Calls Tryz.prog 17 #[.pointer (some ⟨lb, 0, none⟩), .slice (some ⟨w8.heap.size + 1, 0, none⟩) 1 1] ((w8.alloc (.cells #[.int .u8 1] 5)).alloc (.cells #[.slice (some ⟨w8.heap.size, 0, none⟩) 1 1] 41)) fun e w' =>
      e = .returned (.int .i64 0) ∧ ∃ c10, Kp c8 (fun q => q.1 = 1 ∨ q.1 = 2) w8 w' ∧ ∃ vl', LogAt w' c10 2 lb d [76] vl' [[[1]]] 29 false := by
  have hcx := newCol_cx w8 c8 (0, 0)
  have hk : ∀ S, Kp c8 S w8 ((w8.alloc (.cells #[.int .u8 1] 5)).alloc (.cells #[.slice (some ⟨w8.heap.size, 0, none⟩) 1 1] 41)) := fun S => ((Kp.refl c8 S w8).alloc _).alloc _
  have hE : (enc kec ([] : List (List Bs)).length [[1]]).length = 29 := by rw [enc_length kec_length]; rfl
  have ha := aw_append (enc kec ([] : List (List Bs)).length [[1]]) (by rw [hE]; decide)
  have h := append_clean (c := newCol w8 c8 (0, 0)) 1 _ _ _ [[1]] (L.kp (hk (fun _ => False)) (fun h => h) (fun h => h) (fun h => h) hcx) (D.kp (hk (fun _ => False)) (fun _ h => h.elim) hcx) (by decide) (by decide) (by decide) (by decide) (by decide) (by decide) (by decide)
    (one_bat (g1 := w8.heap.size + 1) (g2 := w8.heap.size) (if_neg (by omega)) (if_neg (by omega)) (by simp) (by simp [bv])) ⟨⟨by decide, by decide⟩, by decide, by decide⟩ (by decide) (by decide) (by decide) (by rw [ha]) (by rw [ha]; rfl)
  refine h.mono fun e w' h => ⟨h.1, ?_⟩
  obtain ⟨c', _, hk', _, vl', hL⟩ := h.2
  rw [hE] at hL
  exact ⟨c', (hk _).trans hk' hcx, vl', hL⟩
set_option maxRecDepth 20000 in
set_option maxHeartbeats 2000000 in
theorem wawake_c (w : World) : Calls Tryz.prog 9 #[] w fun e w' => e = .returned (.bool true) ∧ ∀ c S, Kp c S w w' := by
  have kc := fun (w : World) (C : Array Value) (n c : Nat) => Lib.run_convert_bytes_const (P := Tryz.prog) w 41 5 C n c Tryz.underlying41 Tryz.underlying5
  obtain ⟨i0, hi, hz0, hz1, hz2⟩ := info_parts info_u8
  have H6 := Lib.hid hi; have H7 := Lib.hid hz0; have H8 := Lib.hid hz1; have H9 := Lib.hid hz2; clear hi hz0 hz1 hz2
  obtain ⟨E, hE⟩ : ∃ E, E = enc kec 0 [[97]] := ⟨_, rfl⟩
  have hl29 := aw_len; have hz17 := aw_zero; have hrd := aw_read
  rw [← hE] at hl29 hz17 hrd
  have HE := Lib.hid hE; have HL29 := Lib.hid hl29; have HZ17 := Lib.hid hz17; have HRD := Lib.hid hrd
  clear hE hl29 hz17 hrd
  go_enter Tryz.func9, Tryz.ntmps9
  go_wp2_with (first
    | (go_at_call 56; refine (wsize_c w10 lb HL10.out.c0 HL10.out.c4).mono ?_; rintro _ wq ⟨rfl, hw⟩; obtain rfl := hw)
    | (go_at_call 55; refine (count_c w10 lb HL10.out.c0 HL10.out.c3).mono ?_; rintro _ wq ⟨rfl, hw⟩; obtain rfl := hw)
    | (go_at_call 17; refine (aw_app HL8.out HD8.out).mono ?_; rintro _ w10 ⟨rfl, c10, hk10, vl, hL10⟩; obtain ⟨xv, hxv, _⟩ := hL10.own; obtain ⟨a10, k10, rfl⟩ := own_shape1 hxv; have HL10 := Lib.hid hL10; have HK10 := Lib.hid hk10; clear hL10 hxv hk10)
    | (go_at_call 14; refine (open_none (c := c7) 1 2 d (new_ p0) [76] w7 HD7.out (by decide) (by decide) (by decide) (by decide) rfl rfl).mono ?_; rintro _ w8 ⟨c8, hc8, hk8, hd8, hok, _⟩; obtain ⟨lb, rfl, hlb, hL8⟩ := hok aw_create; rw [aw_m1] at hd8; unfold ptr; have x8 := hk8.cell x7 (LZ.out 1 (by decide)); have y8 := hk8.cell y7 (LY1.out 1 (by decide)); have z8 := hk8.cell z7 (LY2.out 1 (by decide)); have hcv8 := conv_sc (Bya.sc (w := w8) (b := gc) (o := oc) (n := 1) (cap := kcc) (l := [97]) (fun j u hj => hk8.cell (HB7.out j u hj) (LY3.out 1 (by decide))) rfl q5 q6); clear x7 y7 z7; have HC8 := Lib.hid hc8; have HK8 := Lib.hid hk8; have HD8 := Lib.hid hd8; have HL8 := Lib.hid hL8; clear hc8 hk8 hd8 hok hL8)
    | (go_at_call 11; refine (new_c (c := c00) (q := (0, 0)) 1 p0 (.slice none 0 0) (.slice none 0 0) (.slice none 0 0) w6 (Sc.nil _ _ _) (Sc.nil _ _ _) (Sc.nil _ _ _) (by decide) (by decide) (by decide) (by decide)).mono ?_; rintro _ w7 ⟨d, c7, rfl, hc7, hk7, hd7, _⟩; have lz := World.block_lt_of_cell? _ _ z6; have ly1 := World.block_lt_of_cell? _ _ y1; have ly2 := World.block_lt_of_cell? _ _ y2; have ly3 := World.block_lt_of_cell? _ _ (HBy.out 0 _ rfl); have LZ := Lib.hid (aw_zero_col hc7 lz); have LY1 := Lib.hid (aw_zero_col hc7 ly1); have LY2 := Lib.hid (aw_zero_col hc7 ly2); have LY3 := Lib.hid (aw_zero_col hc7 ly3); clear lz ly1 ly2 ly3; have HC7 := Lib.hid hc7; have HD7 := Lib.hid hd7; have HK7 := Lib.hid (fun S => (HK6.out c00 S).alloc_trans (hk7 S)); have HB7 := Lib.hid (HBy.out.on (fun c S => kp_any (hk7 (fun _ => False)) c S)); have y7 := (hk7 (fun _ => False)).cell y1 (fun h => h); have z7 := (hk7 (fun _ => False)).cell y2 (fun h => h); have x7 := (hk7 (fun _ => False)).cell z6 (fun h => h); clear hc7 hd7 hk7 y1 y2 z6)
    | (go_at_call 54; refine (wread_c (c := c00) (q := (0, 0)) w5 v5 (E ++ [1]) (Sc.of_owns HO5.out (fun _ _ => rfl)) (by rw [List.length_append, HL29.out]; decide)).mono ?_; rintro _ w6 ⟨v6, cf6, rfl, hG6, hk6⟩; rw [HRD.out] at hG6 ⊢; obtain ⟨gq, kq, gb, ob, kb, gc, oc, kcc, rfl, y1, y2, hby, q1, q2, q3, q4, q5, q6⟩ := aw_cells hG6; have HBy := Lib.hid hby; have z6 := (hk6 c00 (fun _ => False)).cell z5 (fun h => h); clear z5 hby; have HG6 := Lib.hid hG6; have HK6 := Lib.hid (fun c S => (HK5.out c S).alloc_trans (hk6 c S)); clear hG6 hk6)
    | (at_builtin; refine wpList_append2 rfl _ _ _ rfl 5 i0 (.int .u8 0) 1 Tryz.underlying41 H6.out H7.out H8.out H9.out rfl v4 E.length (E.map bv) rfl (owns_alloc HO4.out _) ⟨w4.heap.size, 0, none⟩ 1 1 [.int .u8 1] rfl rfl (one_new _ _ _) (by simp [Value.oneCell']) (by rw [HL29.out]; decide) (by rw [HL29.out]; decide) ?_; intro v5 w5 hown5 hg5 hf5; have HO5 := Lib.hid (show w5.ownsRow 0 5 1 v5 (E ++ [1]).length ((E ++ [1]).map bv) from by rw [List.length_append, List.map_append]; exact hown5); have HK5 := Lib.hid (fun c S => ((HK4.out c S).alloc _).grown hg5 (fun g hg hlt => absurd (HF4.out g hg) (by omega))); have z5 := (((Kp.refl (fun b => if b = g3 then (0, 0) else (1, 0)) (· = (1, 0)) w4).alloc (.cells #[.int .u8 1] 5)).grown hg5 (fun g hg hlt => if_neg (fun e => absurd (HF3.out g hg) (by rw [e]; exact Nat.not_le.2 HG3.out)))).cell z4 (by simp); clear hown5 hg5 hf5 z4)
    | (at_builtin; refine wpList_appendS (c := c00) (q := (0, 0)) rfl _ _ _ rfl 5 i0 (.int .u8 0) 1 Tryz.underlying41 H6.out H7.out H8.out H9.out rfl (.slice none 0 0) 0 [] rfl (World.ownsRow_nil _ _ _ _) (.slice (some ⟨g3, 0, none⟩) 29 c3) (E.map bv) rfl HS3.out (one_bv E) (by rw [List.length_map, HL29.out]; decide) (by rw [List.length_map, HL29.out]; decide) ?_; intro v4 w4 hown4 hg4 hf4; have HO4 := Lib.hid (show w4.ownsRow 0 5 1 v4 E.length (E.map bv) from by simpa using hown4); have HK4 := Lib.hid (fun c S => (HK3.out c S).alloc_trans (Kp.of_grown hg4 (fun g hg => by cases hg) : Kp c S w3 w4)); have z4 := (Kp.of_grown (c := c00) (S := fun _ => False) hg4 (fun g hg => by cases hg)).cell hz3 (fun h => h); have HG3 := Lib.hid (World.block_lt_of_cell? _ _ hz3 : g3 < w3.heap.size); have HF3 := Lib.hid (fun g hg => show w3.heap.size ≤ g from (hf4 g hg).elim (fun e => by cases e) id); clear hz3; have HF4 := Lib.hid (fun g hg => (hf4 g hg).elim (fun e => by cases e) (fun h => Nat.le_trans (HK5s HK3.out) h)); clear hown4 hg4 hf4)
    | (go_at_call 53; refine (encode_good (c := c00) (0, 0) (0, 0) _ [[97]] 0 (one_bat (g2 := w.heap.size) rfl rfl (by simp) (by rw [World.cell?_alloc_lt _ _ _ (by simp)]; exact cell_of_heap (heap_alloc_new _ _) 0)) (by decide) (by decide) (by decide) (by decide)).mono ?_; rintro _ w3 ⟨v3, rfl, ho3, hf3, hk3⟩; rw [← HE.out] at ho3; rw [HL29.out] at ho3; obtain ⟨g3, c3, rfl, _, _⟩ := own_pos1 ho3 (by decide); have hz3 : w3.cell? ⟨g3, 0, none⟩ = some (.int .u8 17) := own_cells ho3 0 _ HZ17.out; have HS3 := Lib.hid (Sc.of_owns (c := c00) (q := (0, 0)) ho3 (fun _ _ => rfl)); have HK3 := Lib.hid (fun c S => ((((Kp.refl c S w).alloc _).alloc _).alloc_trans (hk3 c S))); clear ho3 hf3 hk3))
  go_ret
  have s6 := HK5s HK6.out
  have s7 := (HK7.out (fun _ => False)).size
  have cx7 : Cx w c00 c7 := fun b hb => HC7.out b (Nat.lt_of_lt_of_le hb s6)
  have cx8 : Cx w c00 c8 := cx7.trans HC8.out s7
  exact ⟨rfl, kp_zero (((HK7.out (fun q => q.1 = 1 ∨ q.1 = 2)).trans (HK8.out.mono (fun q h => Or.inl h)) cx7).trans HK10.out cx8) (by simp)⟩
end Go.Proofs.YtnifmoigalmcmaaGreat
