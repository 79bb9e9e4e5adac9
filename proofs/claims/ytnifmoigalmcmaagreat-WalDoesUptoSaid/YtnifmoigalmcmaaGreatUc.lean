/- cairnref10: Encode; wal.Encode of any number. -/
import Derived.Test.YtnifmoigalmcmaaGreatVr
import Derived.Test.YtnifmoigalmcmaaGreatZc
import Derived.Test.YtnifmoigalmcmaaGreatZv
namespace Go.Proofs.YtnifmoigalmcmaaGreat
open Go Go.RowKit
open Wl
variable {c : Col} {w : World}
theorem rkec_own (w : World) (v : Value) (l : List UInt8) (h : w.ownsRow 0 5 1 v l.length (l.map bv)) (h0 : 0 < l.length) (hl : l.length ≤ 20000000) :
    Calls Tryz.prog 132 #[v] w fun e w' => ∃ C : Array Value, e = .returned (.agg C) ∧ C.size = 32 ∧ C = ((kec l).map bv).toArray ∧ ∀ c S, Kp c S w w' := by
  obtain ⟨g, cap, rfl, _, _⟩ := own_pos1 h h0
  exact (rkec1 (fun _ => (0, 0)) w g 0 cap l hl (own_cells h)).mono fun e w' h => ⟨_, h.1, by simp [kec_length], rfl, fun c S => kp_any (h.2 (fun _ => False)) c S⟩
set_option maxRecDepth 20000 in
set_option maxHeartbeats 2000000 in
theorem rencode_good (q1 q2 : Nat × Nat) (v : Value) (l : List Bs) (n : Nat) (h : BatW w c q1 q2 v l) (hl : l.length ≤ 1000000000) (hb : ∀ r ∈ l, r.length ≤ 1000000000) (hn : n ≤ 9223372036854775807) (hg : good l = true) :
    Calls Tryz.prog 71 #[.int .i64 n, v] w fun e w' => ∃ v', e = .returned (.tuple #[v', .int .i64 0]) ∧ w'.ownsRow 0 5 1 v' (enc kec n l).length ((enc kec n l).map bv) ∧ (∀ g, v'.ownBlock = some g → w.heap.size ≤ g) ∧ ∀ c S, Kp c S w w' := by
  obtain ⟨KC, hKC⟩ : ∃ KC, KC = kec := ⟨_, rfl⟩
  rw [← hKC]
  have HKC := Lib.hid hKC; clear hKC
  obtain ⟨i0, hi, hz0, hz1, hz2⟩ := info_parts info_u8
  have H6 := Lib.hid hi; have H7 := Lib.hid hz0; have H8 := Lib.hid hz1; have H9 := Lib.hid hz2; clear hi hz0 hz1 hz2
  have HM := Lib.hid (GoodW_c q1 q2 v l h hl hb); rw [hg] at HM
  have HH := Lib.hid h; have HB := Lib.hid hb; have HGD := Lib.hid hg
  obtain ⟨g1, g2, g3, g4⟩ := good_length hg
  have HG3 := Lib.hid g3; have HG4 := Lib.hid g4
  rcases h.at with ⟨ad, cap, rfl, rfl⟩ | ⟨b, o, cap, rfl, hlc, hcm, hx⟩
  · simp at g1
  have HX := Lib.hid hx
  clear h hb hg g3 g4 hx
  go_enter Tryz.func71, Tryz.ntmps71
  go_wp2_with (first
    | (go_at_call 70; refine HM.out.mono ?_; rintro _ w1 ⟨rfl, hw⟩; obtain rfl := hw.symm)
    | (at_builtin; refine wpList_appendS (c := fun _ => (0, 0)) (q := (0, 0)) rfl _ _ _ rfl 5 i0 (.int .u8 0) 1 Tryz.underlying41 H6.out H7.out H8.out H9.out rfl v2 (low n 8).length ((low n 8).map bv) rfl HO2b.out v3 ((low l.length 4).map bv) rfl (Sc.of_owns HO3.out (fun _ _ => rfl)) (one_bv _) (by rw [low_length, List.length_map, low_length]; unfold maxLen; omega) (by rw [low_length, List.length_map, low_length]; omega) ?_; intro v4 w4 hown4 hg4 hf4; rw [List.length_map, ← List.length_append, ← List.map_append] at hown4; have HO4 := Lib.hid hown4; have HF4 := Lib.hid (own_fresh HF2.out (HK5s HK3.out) hf4); have HK4 := Lib.hid (fun c S => fresh_grown HF2.out HK3.out hg4 c S); clear hown4 hg4 hf4)
    | (go_at_call 131; refine (rlow_c w2 l.length 4 (by omega) (by omega)).mono ?_; rintro _ w3 ⟨v3, rfl, ho, hf, hk⟩; have HO3 := Lib.hid ho; have HO2b := Lib.hid (ownsRow_kp (c := fun _ => (0, 0)) (q := (0, 0)) HO2.out (fun _ _ => rfl) (hk (fun _ => (0, 0)) (fun _ => False)) (fun h => h)); have HK3 := Lib.hid (fun c S => (HK2.out c S).alloc_trans (hk c S)); clear ho hf hk)
    | (go_at_call 131; refine (rlow_c w n 8 (by omega) (by omega)).mono ?_; rintro _ w2 ⟨v2, rfl, ho, hf, hk⟩; have HO2 := Lib.hid ho; have HF2 := Lib.hid hf; have HK2 := Lib.hid hk; clear ho hf hk))
  have d1 : decide ((n : Int) < 0) = false := by simp
  (try simp only [d1])
  clear d1
  have HN := Lib.hid hn
  go_loopw [6, 26] (fun v s wr => ∃ i : Nat, i ≤ l.length ∧ s = .int .i64 i ∧ wr.ownsRow 0 5 1 v (pre n l i).length ((pre n l i).map bv) ∧ (∀ g, v.ownBlock = some g → w.heap.size ≤ g) ∧ ∀ c S, Kp c S w wr) (fun _ s _ => l.length - (intOf s).toNat)
  case atStart => exact ⟨0, by omega, rfl, by simpa [pre, recs] using HO4.out, HF4.out, HK4.out⟩
  case round =>
    clear HO2 HF2 HK2 HO3 HK3 HO2b HO4 HF4 HK4
    obtain ⟨i, hi, rfl, ho, hf, hK⟩ := hrel
    have HO := Lib.hid ho; have HF := Lib.hid hf; have HK := Lib.hid hK; clear ho hf hK
    have hpl := pre_length n l i
    have hpl2 := pre_le n HGD.out i
    by_cases hlt : i < l.length
    · obtain ⟨a, k, gc, hsc⟩ := HX.out i hlt
      have g0 := (HK.out c (fun _ => False)).cell gc (fun h => h)
      have hsucc := pre_succ n l i hlt
      have hri := HG3.out l[i] (List.getElem_mem hlt)
      have HPL := Lib.hid (pre_le n HGD.out (i + 1))
      obtain ⟨r, hr⟩ : ∃ r, r = l[i] := ⟨_, rfl⟩
      rw [← hr] at g0 hsc hsucc hri
      have HS := Lib.hid hsc; have HSU := Lib.hid hsucc; clear hsucc gc hsc hr
      obtain ⟨p, hp⟩ : ∃ p, p = pre n l i := ⟨_, rfl⟩
      rw [← hp] at HO HSU hpl2
      clear hp hpl
      go_wp2_with (first
        | (at_builtin; refine wpList_appendW rfl _ _ _ rfl 5 i0 (.int .u8 0) 1 Tryz.underlying41 H6.out H7.out H8.out H9.out rfl v5 (p ++ low r.length 4).length ((p ++ low r.length 4).map bv) rfl HO5.out _ (r.map bv) rfl (HS.out.kp (HK5.out c (fun _ => False)) (fun h => h) (Cx.refl _ _)) (one_bv r) (by rw [List.length_append, low_length, List.length_map]; unfold maxLen; omega) (by rw [List.length_append, low_length, List.length_map]; omega) ?_; intro v6 w6 hown6 hg6 hf6; have HO6 := Lib.hid hown6; have HF6 := Lib.hid (own_fresh HF5.out (HK5s HK5.out) hf6); have HK6 := Lib.hid (fun c S => fresh_grown HF5.out HK5.out hg6 c S); clear hown6 hg6 hf6)
        | (at_builtin; refine wpList_appendS (c := fun _ => (0, 0)) (q := (0, 0)) rfl _ _ _ rfl 5 i0 (.int .u8 0) 1 Tryz.underlying41 H6.out H7.out H8.out H9.out rfl _ p.length (p.map bv) rfl HOP.out v4 ((low r.length 4).map bv) rfl (Sc.of_owns HO4.out (fun _ _ => rfl)) (one_bv _) (by rw [List.length_map, low_length]; unfold maxLen; omega) (by rw [List.length_map, low_length]; omega) ?_; intro v5 w5 hown5 hg5 hf5; rw [List.length_map, ← List.length_append, ← List.map_append] at hown5; have HO5 := Lib.hid hown5; have HF5 := Lib.hid (own_fresh HF.out (HK5s HK4.out) hf5); have HK5 := Lib.hid (fun c S => fresh_grown HF.out HK4.out hg5 c S); clear hown5 hg5 hf5)
        | (go_at_call 131; refine (rlow_c wr r.length 4 (by omega) (by omega)).mono ?_; rintro _ w4 ⟨v4, rfl, ho, hf, hk⟩; have HO4 := Lib.hid ho; have HOP := Lib.hid (ownsRow_kp (c := fun _ => (0, 0)) (q := (0, 0)) HO.out (fun _ _ => rfl) (hk (fun _ => (0, 0)) (fun _ => False)) (fun h => h)); have HK4 := Lib.hid (fun c S => (HK.out c S).alloc_trans (hk c S)); clear ho hf hk))
      go_roundw
      case rel =>
        refine ⟨i + 1, by omega, by go_num, ?_, HF6.out, HK6.out⟩
        rw [HSU.out]
        have := HO6.out
        rw [← List.map_append, List.length_map, ← List.length_append] at this
        exact this
      case measure => simp [intOf]; omega
    · obtain rfl : i = l.length := by omega
      rw [pre_full] at HO hpl2
      have hbl := body_length n l
      rw [pre_full] at hpl
      obtain ⟨B, hB⟩ : ∃ B, B = body n l := ⟨_, rfl⟩
      rw [← hB] at HO hpl2
      have HBD := Lib.hid hB
      have hB0 : 0 < B.length := by rw [hB, hbl]; omega
      obtain ⟨gb, cb, rfl, hcb, hcbm⟩ := own_pos1 HO.out hB0
      clear hbl hpl hB
      have hs8 := hash_slice8
      obtain ⟨X, hX⟩ : ∃ X, X = low B.length 4 ++ B := ⟨_, rfl⟩
      have hXl : X.length = B.length + 4 := by rw [hX, List.length_append, low_length]; omega
      have HXX := Lib.hid hX; clear hX
      go_wp2_with (first
        | (at_builtin; refine wpList_append2 rfl _ _ _ rfl 5 i0 (.int .u8 0) 1 Tryz.underlying41 H6.out H7.out H8.out H9.out rfl v5 X.length (X.map bv) rfl HO7.out ⟨w6.heap.size, 0, none⟩ 8 32 ((Y.take 8).map bv) rfl (by rw [List.length_map, List.length_take, HYL.out]; rfl) (take8_cells HH7.out HCE.out) (one_bv _) (by unfold maxLen; omega) (by omega) ?_; intro v8 w8 hown8 hg8 hf8; have HO8 := Lib.hid hown8; have HF8 := Lib.hid (own_fresh HF5.out (HK5s HK7.out) hf8); have HK8 := Lib.hid (fun c S => fresh_grown HF5.out HK7.out hg8 c S); clear hown8 hg8 hf8)
        | (refine wpList_store_row rfl 183 _ _ rfl w6.heap.size C rfl rfl 183 _ (heap_alloc_new w6 _) (by rw [hash_info, HC32.out]) (by rw [HC32.out]; rfl) (by rw [HCE.out]; exact bv_one _) ?_; generalize hw : World.setRow _ _ _ = w7; have HH7 := Lib.hid (show w7.heap[w6.heap.size]? = some (.cells C 183 (0, 0)) from by rw [← hw]; exact heap_setRow (heap_alloc_new _ _)); have k7 : ∀ c S, Kp c S w6 w7 := (fun c S => by rw [← hw]; exact ((Kp.refl c S w6).alloc _).setRow (fun h => absurd h (Nat.lt_irrefl _)) _); have HK7 := Lib.hid (fun c S => (HK6.out c S).alloc_trans (k7 c S)); have HO7 := Lib.hid (ownsRow_kp (c := fun _ => (0, 0)) (q := (0, 0)) HO6.out (fun _ _ => rfl) (k7 (fun _ => (0, 0)) (fun _ => False)) (fun h => h)); clear k7 hw)
        | (go_at_call 132; refine (rkec_own w5 v5 X HO5.out (by omega) (by omega)).mono ?_; rintro _ w6 ⟨C, rfl, hC, hCe, hk⟩; obtain ⟨Y, hY⟩ : ∃ Y, Y = kec X := ⟨_, rfl⟩; rw [← hY] at hCe; have HYL := Lib.hid (show Y.length = 32 by rw [hY]; exact kec_length X); have HYY := Lib.hid hY; clear hY; have HCE := Lib.hid hCe; have HC32 := Lib.hid hC; clear hCe; have HO6 := Lib.hid (ownsRow_kp (c := fun _ => (0, 0)) (q := (0, 0)) HO5.out (fun _ _ => rfl) (hk (fun _ => (0, 0)) (fun _ => False)) (fun h => h)); have HK6 := Lib.hid (fun c S => (HK5.out c S).alloc_trans (hk c S)); clear hk hC)
        | (at_builtin; refine wpList_appendS (c := fun _ => (0, 0)) (q := (0, 0)) rfl _ _ _ rfl 5 i0 (.int .u8 0) 1 Tryz.underlying41 H6.out H7.out H8.out H9.out rfl v4 (low B.length 4).length ((low B.length 4).map bv) rfl HO4.out (.slice (some ⟨gb, 0, none⟩) B.length cb) (B.map bv) rfl (Sc.of_owns (HOB.out) (fun _ _ => rfl)) (one_bv B) (by rw [low_length, List.length_map]; unfold maxLen; omega) (by rw [low_length, List.length_map]; omega) ?_; intro v5 w5 hown5 hg5 hf5; rw [List.length_map, ← List.length_append, ← List.map_append, ← HXX.out] at hown5; have HO5 := Lib.hid hown5; have HF5 := Lib.hid (own_fresh HF4.out (HK5s HK4.out) hf5); have HK5 := Lib.hid (fun c S => fresh_grown HF4.out HK4.out hg5 c S); clear hown5 hg5 hf5)
        | (go_at_call 131; refine (rlow_c wr B.length 4 (by omega) (by omega)).mono ?_; rintro _ w4 ⟨v4, rfl, ho, hf, hk⟩; have HO4 := Lib.hid ho; have HF4 := Lib.hid (fun g h => Nat.le_trans (HK5s HK.out) (hf g h)); have HK4 := Lib.hid (fun c S => (HK.out c S).alloc_trans (hk c S)); have HOB := Lib.hid (ownsRow_kp (c := fun _ => (0, 0)) (q := (0, 0)) HO.out (fun _ _ => rfl) (hk (fun _ => (0, 0)) (fun _ => False)) (fun h => h)); clear ho hf hk))
      go_ret2
      refine ⟨_, rfl, ?_, HF8.out, HK8.out⟩
      have := HO8.out
      rw [← List.map_append, HYY.out, HXX.out, HBD.out] at this
      have e : enc KC n l = (low (body n l).length 4 ++ body n l) ++ (kec (low (body n l).length 4 ++ body n l)).take 8 := by rw [HKC.out]; rfl
      rw [e, List.length_append, List.length_take, kec_length]
      exact this
end Go.Proofs.YtnifmoigalmcmaaGreat
/- cairnref10: one. -/
namespace Go.Proofs.YtnifmoigalmcmaaGreat
open Go Go.RowKit
open Wl
/-- The records of bytes, however long. -/
def pu : Nat → Bs → Option (List Bs)
  | 0, b => if b = [] then some [] else none
  | k + 1, b => if b.length < 4 then none else if b.length - 4 < num (b.take 4) then none else (pu k (b.drop (4 + num (b.take 4)))).map ((b.drop 4).take (num (b.take 4)) :: ·)
theorem pu_len : ∀ (k : Nat) (b : Bs) (l : List Bs), pu k b = some l → l.length = k ∧ (l.map fun r => 4 + r.length).sum = b.length
  | 0, b, l, h => by
    unfold pu at h
    split at h
    · rename_i hb; cases h; subst hb; simp
    · cases h
  | k + 1, b, l, h => by
    unfold pu at h
    split at h; · cases h
    split at h; · cases h
    rename_i h1 h2
    cases hp : pu k (b.drop (4 + num (b.take 4))) with
    | none => rw [hp] at h; cases h
    | some t =>
      rw [hp] at h
      cases h
      obtain ⟨e1, e2⟩ := pu_len k _ t hp
      rw [List.length_drop] at e2
      simp only [List.length_cons, List.map_cons, List.sum_cons, List.length_take, List.length_drop]
      omega
theorem parse_pu : ∀ (k : Nat) (b : Bs), parse k b = (pu k b).bind fun l => if ∀ r ∈ l, r.length ≤ 1048576 then some l else none
  | 0, b => by
    unfold parse pu
    split
    · simp
    · rfl
  | k + 1, b => by
    unfold parse pu
    by_cases h1 : b.length < 4
    · rw [if_pos h1, if_pos h1]; rfl
    rw [if_neg h1, if_neg h1, parse_pu k]
    by_cases h2 : b.length - 4 < num (b.take 4)
    · rw [if_pos (Or.inr h2), if_pos h2]; rfl
    rw [if_neg h2]
    have hx : ((b.drop 4).take (num (b.take 4))).length = num (b.take 4) := by rw [List.length_take, List.length_drop]; omega
    cases hp : pu k (b.drop (4 + num (b.take 4))) with
    | none => split <;> rfl
    | some t =>
      by_cases h3 : num (b.take 4) > 1048576
      · rw [if_pos (Or.inl h3)]
        show none = if _ then _ else _
        rw [if_neg (fun h => by have := h _ (List.mem_cons_self ..); omega)]
      · rw [if_neg (by omega)]
        show Option.map _ (if _ then _ else _) = if _ then _ else _
        by_cases h4 : ∀ r ∈ t, r.length ≤ 1048576
        · rw [if_pos h4, if_pos (fun r hr => (List.mem_cons.1 hr).elim (fun e => by rw [e]; omega) (h4 r))]; rfl
        · rw [if_neg h4, if_neg (fun h => h4 fun r hr => h r (List.mem_cons_of_mem _ hr))]; rfl
/-- A batch of bytes, if it is one. -/
def pg (k : Nat) (b : Bs) (acc : List Bs) (n : Nat) : Option (List Bs × Nat) := (pu k b).bind fun l => if good (acc ++ l) = true then some (acc ++ l, n) else none
theorem pg_first (M : Nat) (b : Bs) (n : Nat) (hb : b.length ≤ 16777204) : (if M < 1 ∨ M > 4096 then none else (parse M b).map fun l => (l, n)) = pg M b [] n := by
  unfold pg
  rw [parse_pu]
  cases hp : pu M b with
  | none => split <;> rfl
  | some l =>
    obtain ⟨e1, e2⟩ := pu_len M b l hp
    show _ = if good l = true then some (l, n) else none
    by_cases hm : M < 1 ∨ M > 4096
    · rw [if_pos hm, if_neg (fun hg => by have := good_length hg; omega)]
    · rw [if_neg hm]
      show Option.map _ (if _ then _ else _) = _
      by_cases h4 : ∀ r ∈ l, r.length ≤ 1048576
      · rw [if_pos h4, if_pos (by unfold good; exact decide_eq_true ⟨by omega, by omega, h4, by omega⟩)]; rfl
      · rw [if_neg h4, if_neg (fun hg => h4 (good_length hg).2.2.1)]; rfl
theorem pg_step (k : Nat) (b : Bs) (acc : List Bs) (n : Nat) (h4 : ¬ b.length < 4) (h : ¬ b.length - 4 < num (b.take 4)) : pg (k + 1) b acc n = pg k (b.drop (4 + num (b.take 4))) (acc ++ [(b.drop 4).take (num (b.take 4))]) n := by
  unfold pg
  rw [pu, if_neg h4, if_neg h]
  cases pu k (b.drop (4 + num (b.take 4))) with
  | none => rfl
  | some l => simp
theorem pg_zero (b : Bs) (acc : List Bs) (n : Nat) : pg 0 b acc n = if b = [] then (if good acc = true then some (acc, n) else none) else none := by
  unfold pg pu
  split
  · simp
  · rfl
theorem acc_le {l : List Bs} {B : Nat} (h : (l.map fun r => 4 + r.length).sum ≤ B) : l.length ≤ B ∧ ∀ r ∈ l, r.length ≤ B := by
  induction l generalizing B with
  | nil => simp
  | cons x t ih =>
    simp only [List.map_cons, List.sum_cons] at h
    obtain ⟨h1, h2⟩ := ih (B := B - (4 + x.length)) (by omega)
    refine ⟨by simp only [List.length_cons]; omega, fun r hr => ?_⟩
    rcases List.mem_cons.1 hr with rfl | hr
    · omega
    · have := h2 r hr; omega
theorem num_at (w : World) (b o n cap : Nat) (l : List UInt8) (h : Bya w b o l) (hn : n = l.length) (h8 : n ≤ 8) (hc : n ≤ cap) (hm : cap ≤ maxLen) :
    Calls Tryz.prog 167 #[.slice (some ⟨b, o, none⟩) n cap] w fun e w' => e = .returned (.int .u64 (num l : Nat)) ∧ w' = w := by
  subst hn
  exact rnumber_c w b o cap l h8 hc hm h
theorem rkec_at (w : World) (b o n cap : Nat) (l : List UInt8) (h : Bya w b o l) (hn : n = l.length) (hl : n ≤ 20000000) :
    Calls Tryz.prog 132 #[.slice (some ⟨b, o, none⟩) n cap] w fun e w' => ∃ C : Array Value, e = .returned (.agg C) ∧ C.size = 32 ∧ C = ((kec l).map bv).toArray ∧ ∀ c S, Kp c S w w' := by
  subst hn
  exact (rkec1 (fun _ => (0, 0)) w b o cap l hl h).mono fun e w' h => ⟨_, h.1, by simp [kec_length], rfl, fun c S => kp_any (h.2 (fun _ => False)) c S⟩
def OnePost (w : World) (r : Option (List Bs × Nat)) (e : Ending) (w' : World) : Prop :=
  (∀ c S, Kp c S w w') ∧ match r with
  | none => e = .returned (.tuple #[.slice none 0 0, .int .i64 0, .bool false])
  | some x => ∃ v cf, e = .returned (.tuple #[v, .int .i64 x.2, .bool true]) ∧ Grow QB w.heap.size w' 41 v cf x.1
variable {c c' : Col} {w w' : World} {S : Nat × Nat → Prop} {q : Nat × Nat}
theorem Sw.spots {v : Value} {l : List UInt8} (h : Sw w c q v (l.map bv)) (h0 : l.length ≠ 0) : ∃ b o cap, v = .slice (some ⟨b, o, none⟩) l.length cap ∧ l.length ≤ cap ∧ cap ≤ maxLen ∧ Bya w b o l := by
  obtain ⟨a, cap, rfl, h1, h2, h3, h4⟩ := h
  rw [List.length_map] at h1
  cases a with
  | none => have := h3 rfl; omega
  | some ad =>
    have h5 := h4 ad rfl
    obtain ⟨x, hx⟩ : ∃ x, (l.map bv)[0]? = some x := ⟨_, List.getElem?_eq_getElem (by rw [List.length_map]; omega)⟩
    have h6 := (h5 0 x hx).1
    obtain ⟨b, o, s⟩ := ad
    cases h6
    exact ⟨b, o, cap, by rw [List.length_map], h1, h2, fun j u hj => (h5 j u hj).2.2⟩
set_option maxRecDepth 20000 in
set_option maxHeartbeats 2000000 in
theorem one_c (w : World) (v : Value) (bs : Bs) (k : Nat) (h : Sw w c q v (bs.map bv)) (hbl : bs.length ≤ 1000000000) (hk : k ≤ 1000000000) :
    Calls Tryz.prog 128 #[v, .int .i64 k] w (OnePost w (first kec bs k)) := by
  obtain ⟨i1, hi, hz0, hz1, hz2⟩ := info_parts info_u8
  have J6 := Lib.hid hi; have J7 := Lib.hid hz0; have J8 := Lib.hid hz1; have J9 := Lib.hid hz2; clear hi hz0 hz1 hz2
  obtain ⟨i0, hi, hz0, hz1, hz2⟩ := info_bytes
  have H6 := Lib.hid hi; have H7 := Lib.hid hz0; have H8 := Lib.hid hz1; have H9 := Lib.hid hz2; clear hi hz0 hz1 hz2
  obtain ⟨L, hL⟩ : ∃ L, L = num (bs.take 4) := ⟨_, rfl⟩
  obtain ⟨M, hM⟩ : ∃ M, M = num ((bs.drop 12).take 4) := ⟨_, rfl⟩
  obtain ⟨NN, hNN⟩ : ∃ NN, NN = num ((bs.drop 4).take 8) := ⟨_, rfl⟩
  have hfe := first_eq kec bs k L M hL hM
  rw [← hNN] at hfe
  obtain ⟨F, hF⟩ : ∃ F, F = first kec bs k := ⟨_, rfl⟩
  rw [← hF] at hfe ⊢
  have HFE := Lib.hid hfe; clear hF hfe
  obtain ⟨n, hn⟩ : ∃ n, n = bs.length := ⟨_, rfl⟩
  by_cases h4 : n < 12
  · have hF : F = none := by
      rw [HFE.out, ← hn]
      by_cases h5 : n < 4
      · rw [if_pos h5]
      · rw [if_neg h5, if_pos (by omega)]
    subst hF
    obtain ⟨a, cap, rfl, _⟩ := h
    rw [List.length_map, ← hn]
    clear HFE hL hM hNN hn hbl
    go_enter Tryz.func128, Tryz.ntmps128
    go_wp2
    go_ret3
    exact ⟨fun c S => Kp.refl c S w, rfl⟩
  obtain ⟨b, o, cap, rfl, hlc, hcm, hc⟩ := h.spots (by omega)
  have HC := Lib.hid hc
  clear hc h
  have hL32 : L < 256 ^ 4 := by
    have := num_lt (bs.take 4)
    rw [← hL, List.length_take, Nat.min_eq_left (by omega)] at this; exact this
  have HL := Lib.hid hL; have HM := Lib.hid hM; have HNN := Lib.hid hNN; clear hL hM hNN
  rw [← hn] at hbl hlc ⊢
  rw [← hn] at HFE
  have HN := Lib.hid hn; clear hn
  have hL32' : L < 4294967296 := hL32
  clear hL32
  have h44 : ¬ n < 4 := by omega
  have HGET := Lib.hid (show Calls Tryz.prog 167 #[.slice (some ⟨b, o, none⟩) 4 cap] w _ from num_at w b o 4 cap (bs.take 4) (HC.out.take 4) (by rw [List.length_take]; have := HN.out; omega) (by omega) (by omega) hcm)
  rw [← HL.out] at HGET
  have hcm2 := hcm
  unfold maxLen at hcm2
  by_cases h2 : L < 12 ∨ L > 16777216 ∨ n < 4 + L + 8
  · have hF : F = none := by rw [HFE.out, if_neg h44, if_pos h2]
    subst hF
    by_cases ha : L < 12
    · clear h2
      go_enter Tryz.func128, Tryz.ntmps128
      go_wp2_with (go_at_call 167; with_reducible refine HGET.out.mono ?_; rintro _ wg ⟨rfl, hw⟩; obtain rfl := hw.symm)
      go_ret3
      exact ⟨fun c S => Kp.refl c S w, rfl⟩
    · by_cases hb : L > 16777216
      · clear h2
        go_enter Tryz.func128, Tryz.ntmps128
        go_wp2_with (go_at_call 167; with_reducible refine HGET.out.mono ?_; rintro _ wg ⟨rfl, hw⟩; obtain rfl := hw.symm)
        go_ret3
        exact ⟨fun c S => Kp.refl c S w, rfl⟩
      · have h2' : n < L + 12 := by omega
        clear h2
        go_enter Tryz.func128, Tryz.ntmps128
        go_wp2_with (go_at_call 167; with_reducible refine HGET.out.mono ?_; rintro _ wg ⟨rfl, hw⟩; obtain rfl := hw.symm)
        go_ret3
        exact ⟨fun c S => Kp.refl c S w, rfl⟩
  have hL12 : ¬ L < 12 := by omega
  have hLm : ¬ L > 16777216 := by omega
  have hn8 : ¬ n < L + 12 := by omega
  have HF2 := Lib.hid (show F = _ from by rw [HFE.out, if_neg h44, if_neg h2])
  clear HFE h2
  obtain ⟨D, hD⟩ : ∃ D, D = (bs.drop (4 + L)).take 8 := ⟨_, rfl⟩
  obtain ⟨X, hX⟩ : ∃ X, X = bs.take (4 + L) := ⟨_, rfl⟩
  obtain ⟨Y, hY⟩ : ∃ Y, Y = kec X := ⟨_, rfl⟩
  obtain ⟨E, hE⟩ : ∃ E, E = Y.take 8 := ⟨_, rfl⟩
  have hEl : E.length = 8 := by rw [hE, hY, List.length_take, kec_length]; rfl
  have hDl : D.length = 8 := by rw [hD, List.length_take, List.length_drop]; have := HN.out; omega
  have hXl : 4 + L = X.length := by rw [hX, List.length_take]; have := HN.out; omega
  rw [← hX, ← hD, ← hY, ← hE] at HF2
  have HD := Lib.hid hD; have HX := Lib.hid hX; have HY := Lib.hid hY; have HE := Lib.hid hE; have HEL := Lib.hid hEl; have HDL := Lib.hid hDl; have HXL := Lib.hid hXl
  have HBX := Lib.hid (show Bya w b o X from by rw [hX]; exact HC.out.take _)
  have HBD := Lib.hid (show Bya w b (o + (4 + L)) D from by rw [hD]; exact (HC.out.drop _).take _)
  clear hD hX hY hE hEl hDl hXl
  have m1 : ¬ cap = 4 + L := by omega
  by_cases hne : E = D
  · have HF3 := Lib.hid (show F = _ from by rw [HF2.out, if_neg (by simpa using hne)])
    clear HF2
    have hs8 := hash_slice8
    have hneb : (E == D) = true := by simpa using hne
    clear hne
    have HGN := Lib.hid (fun (W : World) (hW : ∀ c S, Kp c S w W) => (show Calls Tryz.prog 167 #[.slice (some ⟨b, o + 4, none⟩) 8 (cap - 4)] W _ from num_at W b (o + 4) 8 (cap - 4) ((bs.drop 4).take 8) (((HC.out.drop 4).take 8).on hW) (by rw [List.length_take, List.length_drop]; have := HN.out; omega) (by omega) (by omega) (by omega)))
    have HGM := Lib.hid (fun (W : World) (hW : ∀ c S, Kp c S w W) => (show Calls Tryz.prog 167 #[.slice (some ⟨b, o + 12, none⟩) 4 (cap - 12)] W _ from num_at W b (o + 12) 4 (cap - 12) ((bs.drop 12).take 4) (((HC.out.drop 12).take 4).on hW) (by rw [List.length_take, List.length_drop]; have := HN.out; omega) (by omega) (by omega) (by omega)))
    rw [← HNN.out] at HGN
    rw [← HM.out] at HGM
    go_enter Tryz.func128, Tryz.ntmps128
    go_wp2_with (first
      | (refine wpList_store_row rfl 183 _ _ rfl w6.heap.size C rfl rfl 183 _ (heap_alloc_new w6 _) (by rw [hash_info, HC32.out]) (by rw [HC32.out]; rfl) (by rw [HCE.out]; exact bv_one _) ?_; generalize hw : World.setRow _ _ _ = w7; obtain ⟨k7, hcv1, hcv2⟩ := first_cv (w := w) hw HK6.out HCE.out HY.out HE.out HEL.out HDL.out HBD.out (show 8 ≤ cap - (4 + L) by omega) (show cap - (4 + L) ≤ maxLen by omega); have HK7 := Lib.hid k7; clear k7 hw)
      | (go_at_call 167; with_reducible refine HGET.out.mono ?_; rintro _ wg ⟨rfl, hw⟩; obtain rfl := hw.symm)
      | (go_at_call 132; refine (rkec_at w b o (4 + L) cap X HBX.out HXL.out (by omega)).mono ?_; rintro _ w6 ⟨C, rfl, hC, hCe, hk6⟩; have HC32 := Lib.hid hC; have HCE := Lib.hid hCe; have HK6 := Lib.hid hk6; clear hC hCe hk6))
    go_frame
    have n1 : IntKind.i64.wrap (4 + (L : Int)) = 4 + (L : Int) := IntWalk.i64_in _ (by omega)
    have n2 : IntKind.i64.wrap (4 + (L : Int) + 8) = 4 + (L : Int) + 8 := IntWalk.i64_in _ (by omega)
    have n3 : (4 + (L : Int)).toNat = 4 + L := by omega
    have n4 : (4 + (L : Int) + 8).toNat = 4 + L + 8 := by omega
    have n5 : (0 : Int) ≤ 4 + (L : Int) := by omega
    have n6 : 4 + (L : Int) + 8 ≤ cap := by omega
    have n7 : 4 + L + 8 - (4 + L) = 8 := by omega
    go_quiet ((go_at_call 167; exact Calls.quiet_of_same (HGN.out _ (fun c S => (HK7.out c S).drewN _))))
    obtain ⟨w8, hw8⟩ : ∃ w8, w8 = w7.drewN nq := ⟨_, rfl⟩
    have HK8 := Lib.hid (show ∀ c S, Kp c S w w8 from fun c S => by rw [hw8]; exact (HK7.out c S).drewN _)
    rw [← hw8]
    clear hw8 hcv1 hcv2 hneb HGET HK7
    clear n1 n2 n3 n4 n5 n6 n7
    have m2 : ¬ cap = 4 := by omega
    have m3 : ¬ cap = 12 := by omega
    have m4 : ¬ cap = 16 := by omega
    have hMl : M < 4294967296 := by
      have := num_lt ((bs.drop 12).take 4)
      rw [← HM.out, List.length_take, List.length_drop, Nat.min_eq_left (by have := HN.out; omega)] at this; exact this
    have HG2 := Lib.hid (show Calls Tryz.prog 167 #[.slice (some ⟨b, o + 12, none⟩) 4 (cap - 12)] w8 _ from HGM.out w8 HK8.out)
    clear HGN HGM
    by_cases hkn : NN = k
    · have HF4 := Lib.hid (show F = _ from by rw [HF3.out, if_neg (by simpa using hkn)])
      clear HF3
      subst hkn
      have hrl : ((bs.drop 16).take (L - 12)).length = L - 12 := by rw [List.length_take, List.length_drop]; have := HN.out; omega
      have HF5 := Lib.hid (show F = _ from by rw [HF4.out, pg_first M _ _ (by omega)])
      clear HF4
      go_wp2_with (first
        | (go_at_call 167; with_reducible refine HG2.out.mono ?_; rintro _ wg ⟨rfl, hw⟩; obtain rfl := hw.symm))
      have d1 : decide ((n : Int) < 12) = false := by simp; omega
      have d2 : decide ((L : Int) < 12) = false := by simp; omega
      have d3 : decide ((16777216 : Int) < L) = false := by simp; omega
      have d4 : decide ((n : Int) < L + 12) = false := by simp; omega
      (try simp only [d1, d2, d3, d4, Bool.or_self])
      clear d1 d2 d3 d4
      have hb16 : Bya w b (o + 16) ((bs.drop 16).take (L - 12)) := (HC.out.drop 16).take _
      obtain ⟨R0, hR0⟩ : ∃ R0, R0 = (bs.drop 16).take (L - 12) := ⟨_, rfl⟩
      rw [← hR0] at hrl hb16 HF5
      have HR0 := Lib.hid hrl; have HB16 := Lib.hid hb16
      clear hrl hb16 hR0 HG2 HBX HBD HX HY HE HD HEL HDL HXL HN HM HNN HL HC HCE HC32 HK6 hs8 m1 m2 m3 m4
      go_loopw [11, 12, 13] (fun vb vg s wr => ∃ i : Nat, i ≤ M ∧ s = .int .u64 i ∧ ∃ (p cp : Nat) (rest : Bs) (acc : List Bs) (cf : Col), vb = .slice (some ⟨b, p, none⟩) rest.length cp ∧ rest.length + 8 ≤ cp ∧ cp ≤ maxLen ∧ (acc.map fun r => 4 + r.length).sum + rest.length ≤ 16777216 ∧ Bya w b p rest ∧
        Grow QB w.heap.size wr 41 vg cf acc ∧ acc.length = i ∧ F = pg (M - i) rest acc (4 + L + 8) ∧ ∀ c S, Kp c S w wr) (fun _ _ s _ => M - (intOf s).toNat)
      case atStart => exact ⟨0, by omega, rfl, o + 16, cap - 16, R0, [], _, by rw [HR0.out, show 4 + L - 16 = L - 12 by omega], by rw [HR0.out]; omega, by omega, by rw [HR0.out]; simp; omega, HB16.out, Grow.start _ (HK5s HK8.out), rfl, HF5.out, HK8.out⟩
      case round =>
        clear HF5 HR0 HB16 HK8
        obtain ⟨i, hi, rfl, p, cp, rest, acc, cf, rfl, hcp, hcpm, hrm, hby, G, hacc, hFF, hK⟩ := hrel
        obtain ⟨hal, har⟩ := acc_le (l := acc) (B := 16777216) (by omega)
        have HBY := Lib.hid hby; have HG := Lib.hid G; have HFF := Lib.hid hFF; have HK := Lib.hid hK; have HAC := Lib.hid hacc; have HAR := Lib.hid har; have HRM := Lib.hid hrm
        have hrm2 : rest.length ≤ 16777216 := by omega
        clear hby G hFF hK hacc har hrm
        obtain ⟨r, hr⟩ : ∃ r, r = rest.length := ⟨_, rfl⟩
        rw [← hr] at hcp hrm2 ⊢
        have HR := Lib.hid hr; clear hr
        unfold maxLen at hcpm
        by_cases hlt : i < M
        · obtain ⟨m, hm⟩ : ∃ m, M - i = m + 1 := ⟨M - i - 1, by omega⟩
          have HFP := Lib.hid (show F = pg (m + 1) rest acc (4 + L + 8) from by rw [HFF.out, hm])
          have HMM := Lib.hid (show m = M - (i + 1) by omega)
          by_cases hr4 : r < 4
          · have hF : F = none := by rw [HFP.out, pg, pu, if_pos (by rw [← HR.out]; exact hr4)]; rfl
            subst hF
            clear hm HFP HFF
            go_wp2
            go_ret3
            exact ⟨HK.out, rfl⟩
          · obtain ⟨nn, hnn⟩ : ∃ nn, nn = num (rest.take 4) := ⟨_, rfl⟩
            have hnl : nn < 4294967296 := by
              have := num_lt (rest.take 4)
              rw [← hnn, List.length_take, Nat.min_eq_left (by have := HR.out; omega)] at this; exact this
            have HGT := Lib.hid (show Calls Tryz.prog 167 #[.slice (some ⟨b, p, none⟩) 4 cp] wr _ from num_at wr b p 4 cp (rest.take 4) ((HBY.out.take 4).on HK.out) (by rw [List.length_take]; have := HR.out; omega) (by omega) (by omega) (by unfold maxLen; omega))
            rw [← hnn] at HGT
            by_cases hb2 : r - 4 < nn
            · have hF : F = none := by rw [HFP.out, pg, pu, if_neg (by rw [← HR.out]; exact hr4), if_pos (by rw [← HR.out, ← hnn]; exact hb2)]; rfl
              subst hF
              clear HFP hnn hm HFF
              go_wp2_with (go_at_call 167; with_reducible refine HGT.out.mono ?_; rintro _ wg ⟨rfl, hw⟩; obtain rfl := hw.symm)
              go_ret3
              exact ⟨HK.out, rfl⟩
            · have hq := pg_step m rest acc (4 + L + 8) (by rw [← HR.out]; exact hr4) (by rw [← HR.out, ← hnn]; exact hb2)
              rw [← hnn] at hq
              have HFQ := Lib.hid (show F = _ from by rw [HFP.out, hq])
              clear HFP hq
              obtain ⟨x, hx⟩ : ∃ x, x = (rest.drop 4).take nn := ⟨_, rfl⟩
              have hxl : nn = x.length := by rw [hx, List.length_take, List.length_drop, ← HR.out]; omega
              rw [← hx] at HFQ
              have HSX := Lib.hid (Bya.sc (n := 4 + nn - 4) (cap := cp - 4) (show Bya wr b (p + 4) x from by rw [hx]; exact ((HBY.out.drop 4).take nn).on HK.out) (by omega) (by omega) (by unfold maxLen; omega))
              have HXL := Lib.hid hxl
              clear hx hxl hnn hm HFF
              have m1 : ¬ cp = 4 := by omega
              have m2 : ¬ cp = 4 + nn := by omega
              have m3 : 4 + nn - 4 = nn := by omega
              go_wp2_with (first
                | (go_at_call 167; with_reducible refine HGT.out.mono ?_; rintro _ wg ⟨rfl, hw⟩; obtain rfl := hw.symm)
                | (at_builtin; refine wpList_append2 rfl _ _ _ rfl 41 i0 (.slice none 0 0) 24 Tryz.underlying40 H6.out H7.out H8.out H9.out rfl u12 acc.length xs5 rfl HO5.out ⟨w4.heap.size, 0, none⟩ 1 1 [.slice a4 m4 k4] rfl rfl (one_new _ _ _) (fun u hu => by rw [List.mem_singleton.1 hu]; exact QB.stays.one HQ5.out) (by unfold maxLen; omega) (by omega) ?_; intro v6 w6' hown6 hg6 hf6; have G6 := Lib.hid (HG5.out.push QB.stays HO5.out HQ5.out hown6 hg6 hf6); have HK6 := Lib.hid (fun c S => ((HK4.out c S).alloc _).grown hg6 (fun g hg hlt => absurd (HG5.out.fresh g hg) (by omega))); clear hown6 hg6 hf6)
                | (at_builtin; refine wpList_appendS rfl _ _ _ rfl 5 i1 (.int .u8 0) 1 Tryz.underlying41 J6.out J7.out J8.out J9.out rfl (.slice none 0 0) 0 [] rfl (World.ownsRow_nil _ _ _ _) (.slice (some ⟨b, p + 4, none⟩) (4 + nn - 4) (cp - 4)) (x.map bv) rfl HSX.out (one_bv x) (by rw [List.length_map, ← HXL.out]; unfold maxLen; omega) (by rw [List.length_map, ← HXL.out]; omega) ?_; intro v4 w4 ho4 hg4 hf4; rw [List.length_map, Nat.zero_add, List.nil_append] at ho4; obtain ⟨a4, m4, k4, rfl⟩ := own_slice ho4; have hk4 : ∀ c S, Kp c S wr w4 := (fun c S => Kp.of_grown hg4 (fun g hg => by cases hg)); obtain ⟨cg, xs5, g5, o5, q5⟩ := grow_clone HG.out ho4 (fun g hg => (hf4 g hg).elim (fun e => by cases e) id) hk4 (.cells #[.slice a4 m4 k4] 41); have HG5 := Lib.hid g5; have HO5 := Lib.hid o5; have HQ5 := Lib.hid q5; have HK4 := Lib.hid (fun c S => (HK.out c S).alloc_trans (hk4 c S)); clear g5 o5 q5 ho4 hg4 hf4 hk4))
              go_roundw
              case rel =>
                refine ⟨i + 1, by omega, by go_num, p + (4 + nn), cp - (4 + nn), rest.drop (4 + nn), acc ++ [x], _, ?_, ?_, by unfold maxLen; omega, ?_, HBY.out.drop (4 + nn), G6.out, by rw [List.length_append, HAC.out]; rfl, ?_, HK6.out⟩
                · rw [List.length_drop, ← HR.out]
                · rw [List.length_drop, ← HR.out]; omega
                · have := HRM.out
                  rw [List.map_append, List.sum_append, List.length_drop, ← HR.out]
                  simp only [List.map_cons, List.map_nil, List.sum_cons, List.sum_nil, ← HXL.out]
                  have := HR.out
                  omega
                · rw [HFQ.out, HMM.out]
              case measure => simp [intOf]; omega
        · obtain rfl : i = M := by omega
          rw [Nat.sub_self] at HFF
          by_cases hr0 : 0 < r
          · have hF : F = none := by
              rw [HFF.out, pg_zero, if_neg (fun e => by have := HR.out; rw [e] at this; simp at this; omega)]
            subst hF
            clear HFF
            go_wp2
            go_ret3
            exact ⟨HK.out, rfl⟩
          · have hrest : rest = [] := List.eq_nil_of_length_eq_zero (by have := HR.out; omega)
            have hF : F = if good acc = true then some (acc, 4 + L + 8) else none := by rw [HFF.out, pg_zero, if_pos hrest]
            have hr00 : r = 0 := by omega
            subst hr00
            have HGW := Lib.hid (GoodW_c (1, 0) (0, 0) _ acc HG.out.bat.wide (by omega) (fun r hr => by have := HAR.out r hr; omega))
            clear HFF hr0
            by_cases hgd : good acc = true
            · rw [if_pos hgd] at hF
              subst hF
              rw [hgd] at HGW
              clear hgd
              go_wp2_with (go_at_call 70; with_reducible refine HGW.out.mono ?_; rintro _ wg ⟨rfl, hw⟩; obtain rfl := hw.symm)
              go_ret3
              refine ⟨HK.out, _, _, ?_, HG.out⟩
              have e : ((4 + L + 8 : Nat) : Int) = 4 + (L : Int) + 8 := by omega
              show _ = Ending.returned (.tuple #[_, .int .i64 ((4 + L + 8 : Nat) : Int), _])
              rw [e]; rfl
            · rw [if_neg hgd] at hF
              subst hF
              have hgf : good acc = false := by simpa using hgd
              rw [hgf] at HGW
              clear hgd hgf
              go_wp2_with (go_at_call 70; with_reducible refine HGW.out.mono ?_; rintro _ wg ⟨rfl, hw⟩; obtain rfl := hw.symm)
              go_ret3
              exact ⟨HK.out, rfl⟩
    · have hF : F = none := by rw [HF3.out, if_pos hkn]
      subst hF
      go_wp2
      go_ret3
      exact ⟨HK8.out, rfl⟩
  · have hF : F = none := by rw [HF2.out, if_pos hne]
    subst hF
    have hs8 := hash_slice8
    have hneb : (E == D) = false := by simpa using hne
    clear hne
    go_enter Tryz.func128, Tryz.ntmps128
    go_wp2_with (first
      | (refine wpList_store_row rfl 183 _ _ rfl w6.heap.size C rfl rfl 183 _ (heap_alloc_new w6 _) (by rw [hash_info, HC32.out]) (by rw [HC32.out]; rfl) (by rw [HCE.out]; exact bv_one _) ?_; generalize hw : World.setRow _ _ _ = w7; obtain ⟨k7, hcv1, hcv2⟩ := first_cv (w := w) hw HK6.out HCE.out HY.out HE.out HEL.out HDL.out HBD.out (show 8 ≤ cap - (4 + L) by omega) (show cap - (4 + L) ≤ maxLen by omega); have HK7 := Lib.hid k7; clear k7 hw)
      | (go_at_call 167; with_reducible refine HGET.out.mono ?_; rintro _ wg ⟨rfl, hw⟩; obtain rfl := hw.symm)
      | (go_at_call 132; refine (rkec_at w b o (4 + L) cap X HBX.out HXL.out (by omega)).mono ?_; rintro _ w6 ⟨C, rfl, hC, hCe, hk6⟩; have HC32 := Lib.hid hC; have HCE := Lib.hid hCe; have HK6 := Lib.hid hk6; clear hC hCe hk6))
    go_frame
    have n1 : IntKind.i64.wrap (4 + (L : Int)) = 4 + (L : Int) := IntWalk.i64_in _ (by omega)
    have n2 : IntKind.i64.wrap (4 + (L : Int) + 8) = 4 + (L : Int) + 8 := IntWalk.i64_in _ (by omega)
    have n3 : (4 + (L : Int)).toNat = 4 + L := by omega
    have n4 : (4 + (L : Int) + 8).toNat = 4 + L + 8 := by omega
    have n5 : (0 : Int) ≤ 4 + (L : Int) := by omega
    have n6 : 4 + (L : Int) + 8 ≤ cap := by omega
    have n7 : 4 + L + 8 - (4 + L) = 8 := by omega
    go_quiet (fail)
    go_wp2
    go_ret3
    exact ⟨fun c S => (HK7.out c S).drewN _, rfl⟩
end Go.Proofs.YtnifmoigalmcmaaGreat
