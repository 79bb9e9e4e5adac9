/- cairnref10: Encode; wal.Encode of any number. -/
import Derived.Test.YtnifmoigalmcmaaYp
import Derived.Test.YtnifmoigalmcmaaUa
import Derived.Test.YtnifmoigalmcmaaZv
namespace Go.Proofs.Ytnifmoigalmcmaa
open Go Go.RowKit
open Wl
variable {c : Col} {w : World}
theorem encode_neg (v : Value) (n : Int) (hn : n < 0) : Calls Try.prog 9 #[.int .i64 n, v] w fun e w' => e = .returned (.tuple #[.slice none 0 0, .int .i64 1]) ∧ w' = w := by
  go_enter Try.func9, Try.ntmps9
  go_wp2
  go_ret2
  exact ⟨rfl, rfl⟩
theorem rencode_neg (v : Value) (n : Int) (hn : n < 0) : Calls Try.prog 11 #[.int .i64 n, v] w fun e w' => e = .returned (.tuple #[.slice none 0 0, .int .i64 1]) ∧ w' = w := by
  go_enter Try.func11, Try.ntmps11
  go_wp2
  go_ret2
  exact ⟨rfl, rfl⟩
theorem rencode_bad (q1 q2 : Nat × Nat) (v : Value) (l : List Bs) (n : Nat) (h : BatW w c q1 q2 v l) (hl : l.length ≤ 1000000000) (hb : ∀ r ∈ l, r.length ≤ 1000000000) (hg : good l = false) :
    Calls Try.prog 11 #[.int .i64 n, v] w fun e w' => e = .returned (.tuple #[.slice none 0 0, .int .i64 102]) ∧ w' = w := by
  have HM := Lib.hid (GoodW_c q1 q2 v l h hl hb); rw [hg] at HM
  clear h hb hg
  go_enter Try.func11, Try.ntmps11
  go_wp2_with (go_at_call 15; refine HM.out.mono ?_; rintro _ w1 ⟨rfl, rfl⟩)
  go_ret2
  exact ⟨rfl, rfl⟩
theorem rkec_own (w : World) (v : Value) (l : List UInt8) (h : w.ownsRow 0 5 1 v l.length (l.map bv)) (h0 : 0 < l.length) (hl : l.length ≤ 20000000) :
    Calls Try.prog 31 #[v] w fun e w' => ∃ C : Array Value, e = .returned (.agg C) ∧ C.size = 32 ∧ C = ((kec l).map bv).toArray ∧ ∀ c S, Kp c S w w' := by
  obtain ⟨g, cap, rfl, _, _⟩ := own_pos1 h h0
  exact (rkec1 (fun _ => (0, 0)) w g 0 cap l hl (own_cells h)).mono fun e w' h => ⟨_, h.1, by simp [kec_length], rfl, fun c S => kp_any (h.2 (fun _ => False)) c S⟩
set_option maxRecDepth 20000 in
set_option maxHeartbeats 2000000 in
theorem encode_wide (q1 q2 : Nat × Nat) (v : Value) (l : List Bs) (n : Nat) (h : Bat w c q1 q2 v l) (hl : l.length ≤ 1000000000) (hb : ∀ r ∈ l, r.length ≤ 1000000000) (hn : n ≤ 9223372036854775807) (hg : good l = true) :
    Calls Try.prog 9 #[.int .i64 n, v] w fun e w' => ∃ v', e = .returned (.tuple #[v', .int .i64 0]) ∧ w'.ownsRow 0 5 1 v' (enc kec n l).length ((enc kec n l).map bv) ∧ (∀ g, v'.ownBlock = some g → w.heap.size ≤ g) ∧ ∀ c S, Kp c S w w' := by
  obtain ⟨KC, hKC⟩ : ∃ KC, KC = kec := ⟨_, rfl⟩
  rw [← hKC]
  have HKC := Lib.hid hKC; clear hKC
  obtain ⟨i0, hi, hz0, hz1, hz2⟩ := info_parts info_u8
  have H6 := Lib.hid hi; have H7 := Lib.hid hz0; have H8 := Lib.hid hz1; have H9 := Lib.hid hz2; clear hi hz0 hz1 hz2
  have HM := Lib.hid (may_c q1 q2 v l h hl hb); rw [hg] at HM
  have HH := Lib.hid h; have HB := Lib.hid hb; have HGD := Lib.hid hg
  obtain ⟨g1, g2, g3, g4⟩ := good_length hg
  have HG3 := Lib.hid g3; have HG4 := Lib.hid g4
  rcases h.at with ⟨rfl, rfl⟩ | ⟨b, o, cap, rfl, hlc, hcm, hx⟩
  · simp at g1
  have HX := Lib.hid hx
  clear h hb hg g3 g4 hx
  go_enter Try.func9, Try.ntmps9
  go_wp2_with (first
    | (go_at_call 27; refine HM.out.mono ?_; rintro _ w1 ⟨rfl, hw⟩; obtain rfl := hw.symm)
    | (go_at_call 28; refine (wput_c w2 v2 (low n 8) l.length 4 HO2.out (by omega) (by omega) (by simp [low_length])).mono ?_; rintro _ w3 ⟨v3, rfl, ho, hf, hk⟩; have HO3 := Lib.hid ho; have HF3 := Lib.hid (own_fresh HF2.out (HK2.out (fun _ => (0, 0)) (fun _ => False)).size hf); have HK3 := Lib.hid (fun c S => fresh_kp HF2.out HK2.out hk c S); clear ho hf hk)
    | (go_at_call 28; refine (wput_c w (.slice none 0 0) [] n 8 (World.ownsRow_nil _ _ _ _) (by omega) (by omega) (by simp)).mono ?_; rintro _ w2 ⟨v2, rfl, ho, hf, hk⟩; simp only [List.nil_append] at ho; have HO2 := Lib.hid ho; have HF2 := Lib.hid (fun g h => (hf g h).elim (fun e => by cases e) id); have HK2 := Lib.hid (fun c S => hk c S (fun g h => by cases h)); clear ho hf hk))
  have d1 : decide ((n : Int) < 0) = false := by simp
  (try simp only [d1])
  clear d1
  have HN := Lib.hid hn
  go_loopw [6, 25] (fun v s wr => ∃ i : Nat, i ≤ l.length ∧ s = .int .i64 i ∧ wr.ownsRow 0 5 1 v (pre n l i).length ((pre n l i).map bv) ∧ (∀ g, v.ownBlock = some g → w.heap.size ≤ g) ∧ ∀ c S, Kp c S w wr) (fun _ s _ => l.length - (intOf s).toNat)
  case atStart => exact ⟨0, by omega, rfl, by simpa [pre, recs] using HO3.out, HF3.out, HK3.out⟩
  case round =>
    clear HO2 HF2 HK2 HO3 HF3 HK3
    obtain ⟨i, hi, rfl, ho, hf, hK⟩ := hrel
    have HO := Lib.hid ho; have HF := Lib.hid hf; have HK := Lib.hid hK; clear ho hf hK
    have hpl := pre_length n l i
    have hpl2 := pre_le n HGD.out i
    by_cases hlt : i < l.length
    · obtain ⟨a, k, gc, hsc⟩ := HX.out i hlt
      have g0 := (HK.out c (fun _ => False)).cell gc (fun h => h)
      have hsucc := pre_succ n l i hlt
      have hri := HG3.out l[i] (List.getElem_mem hlt)
      have HPL := Lib.hid (pre_le n HGD.out (i + 1))
      obtain ⟨r, hr⟩ : ∃ r, r = l[i] := ⟨_, rfl⟩
      rw [← hr] at g0 hsc hsucc hri
      have HS := Lib.hid hsc; have HSU := Lib.hid hsucc; clear hsucc gc hsc hr
      obtain ⟨p, hp⟩ : ∃ p, p = pre n l i := ⟨_, rfl⟩
      rw [← hp] at HO HSU hpl2
      clear hp hpl
      go_wp2_with (first
        | (at_builtin; go_must (refine wpList_appendS rfl _ _ _ rfl 5 i0 (.int .u8 0) 1 Try.underlying23 H6.out H7.out H8.out H9.out rfl v4 (p ++ low r.length 4).length ((p ++ low r.length 4).map bv) rfl HO4.out _ (r.map bv) rfl (HS.out.kp (HK4.out c (fun _ => False)) (fun h => h) (Cx.refl _ _)) (one_bv r) (by rw [List.length_append, low_length, List.length_map]; unfold maxLen; omega) (by rw [List.length_append, low_length, List.length_map]; omega) ?_); intro v5 w5 hown5 hg5 hf5; have HO5 := Lib.hid hown5; have HF5 := Lib.hid (own_fresh HF4.out (HK5s HK4.out) hf5); have HK5 := Lib.hid (fun c S => fresh_grown HF4.out HK4.out hg5 c S); clear hown5 hg5 hf5)
        | (go_at_call 28; refine (wput_c wr u6 p r.length 4 HO.out (by omega) (by omega) (by omega)).mono ?_; rintro _ w4 ⟨v4, rfl, ho, hf, hk⟩; have HO4 := Lib.hid ho; have HF4 := Lib.hid (own_fresh HF.out (HK.out (fun _ => (0, 0)) (fun _ => False)).size hf); have HK4 := Lib.hid (fun c S => fresh_kp HF.out HK.out hk c S); clear ho hf hk))
      go_roundw
      case rel =>
        refine ⟨i + 1, by omega, by go_num, ?_, HF5.out, HK5.out⟩
        rw [HSU.out]
        have := HO5.out
        rw [← List.map_append, List.length_map, ← List.length_append] at this
        exact this
      case measure => simp [intOf]; omega
    · obtain rfl : i = l.length := by omega
      rw [pre_full] at HO hpl2
      have hbl := body_length n l
      rw [pre_full] at hpl
      obtain ⟨B, hB⟩ : ∃ B, B = body n l := ⟨_, rfl⟩
      rw [← hB] at HO hpl2
      have HBD := Lib.hid hB
      have hB0 : 0 < B.length := by rw [hB, hbl]; omega
      obtain ⟨gb, cb, rfl, hcb, hcbm⟩ := own_pos1 HO.out hB0
      clear hbl hpl hB
      have hs8 := hash_slice8
      obtain ⟨X, hX⟩ : ∃ X, X = low B.length 4 ++ B := ⟨_, rfl⟩
      have hXl : X.length = B.length + 4 := by rw [hX, List.length_append, low_length]; omega
      have HXX := Lib.hid hX; clear hX
      go_wp2_with (first
        | (at_builtin; refine wpList_append2 rfl _ _ _ rfl 5 i0 (.int .u8 0) 1 Try.underlying23 H6.out H7.out H8.out H9.out rfl v5 X.length (X.map bv) rfl HO7.out ⟨w6.heap.size, 0, none⟩ 8 32 ((Y.take 8).map bv) rfl (by rw [List.length_map, List.length_take, HYL.out]; rfl) (take8_cells HH7.out HCE.out) (one_bv _) (by unfold maxLen; omega) (by omega) ?_; intro v8 w8 hown8 hg8 hf8; have HO8 := Lib.hid hown8; have HF8 := Lib.hid (own_fresh HF5.out (HK5s HK7.out) hf8); have HK8 := Lib.hid (fun c S => fresh_grown HF5.out HK7.out hg8 c S); clear hown8 hg8 hf8)
        | (refine wpList_store_row rfl 67 _ _ rfl w6.heap.size C rfl rfl 67 _ (heap_alloc_new w6 _) (by rw [hash_info, HC32.out]) (by rw [HC32.out]; rfl) (by rw [HCE.out]; exact bv_one _) ?_; generalize hw : World.setRow _ _ _ = w7; have HH7 := Lib.hid (show w7.heap[w6.heap.size]? = some (.cells C 67 (0, 0)) from by rw [← hw]; exact heap_setRow (heap_alloc_new _ _)); have k7 : ∀ c S, Kp c S w6 w7 := (fun c S => by rw [← hw]; exact ((Kp.refl c S w6).alloc _).setRow (fun h => absurd h (Nat.lt_irrefl _)) _); have HK7 := Lib.hid (fun c S => (HK6.out c S).alloc_trans (k7 c S)); have HO7 := Lib.hid (ownsRow_kp (c := fun _ => (0, 0)) (q := (0, 0)) HO6.out (fun _ _ => rfl) (k7 (fun _ => (0, 0)) (fun _ => False)) (fun h => h)); clear k7 hw)
        | (go_at_call 29; refine (kec_own w5 v5 X HO5.out (by omega) (by omega)).mono ?_; rintro _ w6 ⟨C, rfl, hC, hCe, hk⟩; obtain ⟨Y, hY⟩ : ∃ Y, Y = kec X := ⟨_, rfl⟩; rw [← hY] at hCe; have HYL := Lib.hid (show Y.length = 32 by rw [hY]; exact kec_length X); have HYY := Lib.hid hY; clear hY; have HCE := Lib.hid hCe; have HC32 := Lib.hid hC; clear hCe; have HO6 := Lib.hid (ownsRow_kp (c := fun _ => (0, 0)) (q := (0, 0)) HO5.out (fun _ _ => rfl) (hk (fun _ => (0, 0)) (fun _ => False)) (fun h => h)); have HK6 := Lib.hid (fun c S => (HK5.out c S).alloc_trans (hk c S)); clear hk hC)
        | (at_builtin; refine wpList_appendS (c := fun _ => (0, 0)) (q := (0, 0)) rfl _ _ _ rfl 5 i0 (.int .u8 0) 1 Try.underlying23 H6.out H7.out H8.out H9.out rfl v4 (low B.length 4).length ((low B.length 4).map bv) rfl HO4.out (.slice (some ⟨gb, 0, none⟩) B.length cb) (B.map bv) rfl (Sc.of_owns (HOB.out) (fun _ _ => rfl)) (one_bv B) (by rw [low_length, List.length_map]; unfold maxLen; omega) (by rw [low_length, List.length_map]; omega) ?_; intro v5 w5 hown5 hg5 hf5; rw [List.length_map, ← List.length_append, ← List.map_append, ← HXX.out] at hown5; have HO5 := Lib.hid hown5; have HF5 := Lib.hid (own_fresh HF4.out (HK5s HK4.out) hf5); have HK5 := Lib.hid (fun c S => fresh_grown HF4.out HK4.out hg5 c S); clear hown5 hg5 hf5)
        | (go_at_call 28; refine (wput_c wr (.slice none 0 0) [] B.length 4 (World.ownsRow_nil _ _ _ _) (by omega) (by omega) (by simp)).mono ?_; rintro _ w4 ⟨v4, rfl, ho, hf, hk⟩; simp only [List.nil_append] at ho; have HO4 := Lib.hid ho; have HF4 := Lib.hid (fun g h => (hf g h).elim (fun e => by cases e) (fun h => Nat.le_trans (HK5s HK.out) h)); have HK4 := Lib.hid (fun c S => (HK.out c S).alloc_trans (hk c S (fun g h => by cases h))); have HOB := Lib.hid (ownsRow_kp (c := fun _ => (0, 0)) (q := (0, 0)) HO.out (fun _ _ => rfl) (hk (fun _ => (0, 0)) (fun _ => False) (fun g h => by cases h)) (fun h => h)); clear ho hf hk))
      go_ret2
      refine ⟨_, rfl, ?_, HF8.out, HK8.out⟩
      have := HO8.out
      rw [← List.map_append, HYY.out, HXX.out, HBD.out] at this
      have e : enc KC n l = (low (body n l).length 4 ++ body n l) ++ (kec (low (body n l).length 4 ++ body n l)).take 8 := by rw [HKC.out]; rfl
      rw [e, List.length_append, List.length_take, kec_length]
      exact this
set_option maxRecDepth 20000 in
set_option maxHeartbeats 2000000 in
theorem rencode_good (q1 q2 : Nat × Nat) (v : Value) (l : List Bs) (n : Nat) (h : BatW w c q1 q2 v l) (hl : l.length ≤ 1000000000) (hb : ∀ r ∈ l, r.length ≤ 1000000000) (hn : n ≤ 9223372036854775807) (hg : good l = true) :
    Calls Try.prog 11 #[.int .i64 n, v] w fun e w' => ∃ v', e = .returned (.tuple #[v', .int .i64 0]) ∧ w'.ownsRow 0 5 1 v' (enc kec n l).length ((enc kec n l).map bv) ∧ (∀ g, v'.ownBlock = some g → w.heap.size ≤ g) ∧ ∀ c S, Kp c S w w' := by
  obtain ⟨KC, hKC⟩ : ∃ KC, KC = kec := ⟨_, rfl⟩
  rw [← hKC]
  have HKC := Lib.hid hKC; clear hKC
  obtain ⟨i0, hi, hz0, hz1, hz2⟩ := info_parts info_u8
  have H6 := Lib.hid hi; have H7 := Lib.hid hz0; have H8 := Lib.hid hz1; have H9 := Lib.hid hz2; clear hi hz0 hz1 hz2
  have HM := Lib.hid (GoodW_c q1 q2 v l h hl hb); rw [hg] at HM
  have HH := Lib.hid h; have HB := Lib.hid hb; have HGD := Lib.hid hg
  obtain ⟨g1, g2, g3, g4⟩ := good_length hg
  have HG3 := Lib.hid g3; have HG4 := Lib.hid g4
  rcases h.at with ⟨ad, cap, rfl, rfl⟩ | ⟨b, o, cap, rfl, hlc, hcm, hx⟩
  · simp at g1
  have HX := Lib.hid hx
  clear h hb hg g3 g4 hx
  go_enter Try.func11, Try.ntmps11
  go_wp2_with (first
    | (go_at_call 15; refine HM.out.mono ?_; rintro _ w1 ⟨rfl, hw⟩; obtain rfl := hw.symm)
    | (at_builtin; refine wpList_appendS (c := fun _ => (0, 0)) (q := (0, 0)) rfl _ _ _ rfl 5 i0 (.int .u8 0) 1 Try.underlying23 H6.out H7.out H8.out H9.out rfl v2 (low n 8).length ((low n 8).map bv) rfl HO2b.out v3 ((low l.length 4).map bv) rfl (Sc.of_owns HO3.out (fun _ _ => rfl)) (one_bv _) (by rw [low_length, List.length_map, low_length]; unfold maxLen; omega) (by rw [low_length, List.length_map, low_length]; omega) ?_; intro v4 w4 hown4 hg4 hf4; rw [List.length_map, ← List.length_append, ← List.map_append] at hown4; have HO4 := Lib.hid hown4; have HF4 := Lib.hid (own_fresh HF2.out (HK5s HK3.out) hf4); have HK4 := Lib.hid (fun c S => fresh_grown HF2.out HK3.out hg4 c S); clear hown4 hg4 hf4)
    | (go_at_call 30; refine (rlow_c w2 l.length 4 (by omega) (by omega)).mono ?_; rintro _ w3 ⟨v3, rfl, ho, hf, hk⟩; have HO3 := Lib.hid ho; have HO2b := Lib.hid (ownsRow_kp (c := fun _ => (0, 0)) (q := (0, 0)) HO2.out (fun _ _ => rfl) (hk (fun _ => (0, 0)) (fun _ => False)) (fun h => h)); have HK3 := Lib.hid (fun c S => (HK2.out c S).alloc_trans (hk c S)); clear ho hf hk)
    | (go_at_call 30; refine (rlow_c w n 8 (by omega) (by omega)).mono ?_; rintro _ w2 ⟨v2, rfl, ho, hf, hk⟩; have HO2 := Lib.hid ho; have HF2 := Lib.hid hf; have HK2 := Lib.hid hk; clear ho hf hk))
  have d1 : decide ((n : Int) < 0) = false := by simp
  (try simp only [d1])
  clear d1
  have HN := Lib.hid hn
  go_loopw [6, 26] (fun v s wr => ∃ i : Nat, i ≤ l.length ∧ s = .int .i64 i ∧ wr.ownsRow 0 5 1 v (pre n l i).length ((pre n l i).map bv) ∧ (∀ g, v.ownBlock = some g → w.heap.size ≤ g) ∧ ∀ c S, Kp c S w wr) (fun _ s _ => l.length - (intOf s).toNat)
  case atStart => exact ⟨0, by omega, rfl, by simpa [pre, recs] using HO4.out, HF4.out, HK4.out⟩
  case round =>
    clear HO2 HF2 HK2 HO3 HK3 HO2b HO4 HF4 HK4
    obtain ⟨i, hi, rfl, ho, hf, hK⟩ := hrel
    have HO := Lib.hid ho; have HF := Lib.hid hf; have HK := Lib.hid hK; clear ho hf hK
    have hpl := pre_length n l i
    have hpl2 := pre_le n HGD.out i
    by_cases hlt : i < l.length
    · obtain ⟨a, k, gc, hsc⟩ := HX.out i hlt
      have g0 := (HK.out c (fun _ => False)).cell gc (fun h => h)
      have hsucc := pre_succ n l i hlt
      have hri := HG3.out l[i] (List.getElem_mem hlt)
      have HPL := Lib.hid (pre_le n HGD.out (i + 1))
      obtain ⟨r, hr⟩ : ∃ r, r = l[i] := ⟨_, rfl⟩
      rw [← hr] at g0 hsc hsucc hri
      have HS := Lib.hid hsc; have HSU := Lib.hid hsucc; clear hsucc gc hsc hr
      obtain ⟨p, hp⟩ : ∃ p, p = pre n l i := ⟨_, rfl⟩
      rw [← hp] at HO HSU hpl2
      clear hp hpl
      go_wp2_with (first
        | (at_builtin; refine wpList_appendW rfl _ _ _ rfl 5 i0 (.int .u8 0) 1 Try.underlying23 H6.out H7.out H8.out H9.out rfl v5 (p ++ low r.length 4).length ((p ++ low r.length 4).map bv) rfl HO5.out _ (r.map bv) rfl (HS.out.kp (HK5.out c (fun _ => False)) (fun h => h) (Cx.refl _ _)) (one_bv r) (by rw [List.length_append, low_length, List.length_map]; unfold maxLen; omega) (by rw [List.length_append, low_length, List.length_map]; omega) ?_; intro v6 w6 hown6 hg6 hf6; have HO6 := Lib.hid hown6; have HF6 := Lib.hid (own_fresh HF5.out (HK5s HK5.out) hf6); have HK6 := Lib.hid (fun c S => fresh_grown HF5.out HK5.out hg6 c S); clear hown6 hg6 hf6)
        | (at_builtin; refine wpList_appendS (c := fun _ => (0, 0)) (q := (0, 0)) rfl _ _ _ rfl 5 i0 (.int .u8 0) 1 Try.underlying23 H6.out H7.out H8.out H9.out rfl _ p.length (p.map bv) rfl HOP.out v4 ((low r.length 4).map bv) rfl (Sc.of_owns HO4.out (fun _ _ => rfl)) (one_bv _) (by rw [List.length_map, low_length]; unfold maxLen; omega) (by rw [List.length_map, low_length]; omega) ?_; intro v5 w5 hown5 hg5 hf5; rw [List.length_map, ← List.length_append, ← List.map_append] at hown5; have HO5 := Lib.hid hown5; have HF5 := Lib.hid (own_fresh HF.out (HK5s HK4.out) hf5); have HK5 := Lib.hid (fun c S => fresh_grown HF.out HK4.out hg5 c S); clear hown5 hg5 hf5)
        | (go_at_call 30; refine (rlow_c wr r.length 4 (by omega) (by omega)).mono ?_; rintro _ w4 ⟨v4, rfl, ho, hf, hk⟩; have HO4 := Lib.hid ho; have HOP := Lib.hid (ownsRow_kp (c := fun _ => (0, 0)) (q := (0, 0)) HO.out (fun _ _ => rfl) (hk (fun _ => (0, 0)) (fun _ => False)) (fun h => h)); have HK4 := Lib.hid (fun c S => (HK.out c S).alloc_trans (hk c S)); clear ho hf hk))
      go_roundw
      case rel =>
        refine ⟨i + 1, by omega, by go_num, ?_, HF6.out, HK6.out⟩
        rw [HSU.out]
        have := HO6.out
        rw [← List.map_append, List.length_map, ← List.length_append] at this
        exact this
      case measure => simp [intOf]; omega
    · obtain rfl : i = l.length := by omega
      rw [pre_full] at HO hpl2
      have hbl := body_length n l
      rw [pre_full] at hpl
      obtain ⟨B, hB⟩ : ∃ B, B = body n l := ⟨_, rfl⟩
      rw [← hB] at HO hpl2
      have HBD := Lib.hid hB
      have hB0 : 0 < B.length := by rw [hB, hbl]; omega
      obtain ⟨gb, cb, rfl, hcb, hcbm⟩ := own_pos1 HO.out hB0
      clear hbl hpl hB
      have hs8 := hash_slice8
      obtain ⟨X, hX⟩ : ∃ X, X = low B.length 4 ++ B := ⟨_, rfl⟩
      have hXl : X.length = B.length + 4 := by rw [hX, List.length_append, low_length]; omega
      have HXX := Lib.hid hX; clear hX
      go_wp2_with (first
        | (at_builtin; refine wpList_append2 rfl _ _ _ rfl 5 i0 (.int .u8 0) 1 Try.underlying23 H6.out H7.out H8.out H9.out rfl v5 X.length (X.map bv) rfl HO7.out ⟨w6.heap.size, 0, none⟩ 8 32 ((Y.take 8).map bv) rfl (by rw [List.length_map, List.length_take, HYL.out]; rfl) (take8_cells HH7.out HCE.out) (one_bv _) (by unfold maxLen; omega) (by omega) ?_; intro v8 w8 hown8 hg8 hf8; have HO8 := Lib.hid hown8; have HF8 := Lib.hid (own_fresh HF5.out (HK5s HK7.out) hf8); have HK8 := Lib.hid (fun c S => fresh_grown HF5.out HK7.out hg8 c S); clear hown8 hg8 hf8)
        | (refine wpList_store_row rfl 67 _ _ rfl w6.heap.size C rfl rfl 67 _ (heap_alloc_new w6 _) (by rw [hash_info, HC32.out]) (by rw [HC32.out]; rfl) (by rw [HCE.out]; exact bv_one _) ?_; generalize hw : World.setRow _ _ _ = w7; have HH7 := Lib.hid (show w7.heap[w6.heap.size]? = some (.cells C 67 (0, 0)) from by rw [← hw]; exact heap_setRow (heap_alloc_new _ _)); have k7 : ∀ c S, Kp c S w6 w7 := (fun c S => by rw [← hw]; exact ((Kp.refl c S w6).alloc _).setRow (fun h => absurd h (Nat.lt_irrefl _)) _); have HK7 := Lib.hid (fun c S => (HK6.out c S).alloc_trans (k7 c S)); have HO7 := Lib.hid (ownsRow_kp (c := fun _ => (0, 0)) (q := (0, 0)) HO6.out (fun _ _ => rfl) (k7 (fun _ => (0, 0)) (fun _ => False)) (fun h => h)); clear k7 hw)
        | (go_at_call 31; refine (rkec_own w5 v5 X HO5.out (by omega) (by omega)).mono ?_; rintro _ w6 ⟨C, rfl, hC, hCe, hk⟩; obtain ⟨Y, hY⟩ : ∃ Y, Y = kec X := ⟨_, rfl⟩; rw [← hY] at hCe; have HYL := Lib.hid (show Y.length = 32 by rw [hY]; exact kec_length X); have HYY := Lib.hid hY; clear hY; have HCE := Lib.hid hCe; have HC32 := Lib.hid hC; clear hCe; have HO6 := Lib.hid (ownsRow_kp (c := fun _ => (0, 0)) (q := (0, 0)) HO5.out (fun _ _ => rfl) (hk (fun _ => (0, 0)) (fun _ => False)) (fun h => h)); have HK6 := Lib.hid (fun c S => (HK5.out c S).alloc_trans (hk c S)); clear hk hC)
        | (at_builtin; refine wpList_appendS (c := fun _ => (0, 0)) (q := (0, 0)) rfl _ _ _ rfl 5 i0 (.int .u8 0) 1 Try.underlying23 H6.out H7.out H8.out H9.out rfl v4 (low B.length 4).length ((low B.length 4).map bv) rfl HO4.out (.slice (some ⟨gb, 0, none⟩) B.length cb) (B.map bv) rfl (Sc.of_owns (HOB.out) (fun _ _ => rfl)) (one_bv B) (by rw [low_length, List.length_map]; unfold maxLen; omega) (by rw [low_length, List.length_map]; omega) ?_; intro v5 w5 hown5 hg5 hf5; rw [List.length_map, ← List.length_append, ← List.map_append, ← HXX.out] at hown5; have HO5 := Lib.hid hown5; have HF5 := Lib.hid (own_fresh HF4.out (HK5s HK4.out) hf5); have HK5 := Lib.hid (fun c S => fresh_grown HF4.out HK4.out hg5 c S); clear hown5 hg5 hf5)
        | (go_at_call 30; refine (rlow_c wr B.length 4 (by omega) (by omega)).mono ?_; rintro _ w4 ⟨v4, rfl, ho, hf, hk⟩; have HO4 := Lib.hid ho; have HF4 := Lib.hid (fun g h => Nat.le_trans (HK5s HK.out) (hf g h)); have HK4 := Lib.hid (fun c S => (HK.out c S).alloc_trans (hk c S)); have HOB := Lib.hid (ownsRow_kp (c := fun _ => (0, 0)) (q := (0, 0)) HO.out (fun _ _ => rfl) (hk (fun _ => (0, 0)) (fun _ => False)) (fun h => h)); clear ho hf hk))
      go_ret2
      refine ⟨_, rfl, ?_, HF8.out, HK8.out⟩
      have := HO8.out
      rw [← List.map_append, HYY.out, HXX.out, HBD.out] at this
      have e : enc KC n l = (low (body n l).length 4 ++ body n l) ++ (kec (low (body n l).length 4 ++ body n l)).take 8 := by rw [HKC.out]; rfl
      rw [e, List.length_append, List.length_take, kec_length]
      exact this
end Go.Proofs.Ytnifmoigalmcmaa
