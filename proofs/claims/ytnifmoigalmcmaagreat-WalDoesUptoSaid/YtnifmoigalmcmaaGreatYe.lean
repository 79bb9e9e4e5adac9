/- wal.Encode. -/
import Derived.Test.YtnifmoigalmcmaaGreatYd
import Derived.Test.YtnifmoigalmcmaaGreatZk
import Derived.Laws.OwnMore
import Derived.Deep.DeepMust
namespace Go.Proofs.YtnifmoigalmcmaaGreat
open Go Go.RowKit
open Wl
variable {c c' : Col} {w w' : World} {S : Nat × Nat → Prop} {q : Nat × Nat}
section
variable {P : Program}
/-- A slice, nil or not, appended to one that is owned. -/
theorem wpList_appendS {ops : Array Oper} {rest : List Oper} {o : Oper} {a : Act} {Q : Exit → Act → World → Prop} (hgd : o.guard = none) (s x : Operand) (t : TypeId)
    (ho : o.op = .call { callee := .builtin .append, args := #[s, x], argTypes := #[t, t] })
    (e : TypeId) (i : TypeInfo) (z : Value) (bytes : Nat) (ht : P.underlying t = some (.slice e)) (hi : P.info? e = some i) (hz : i.zero = some z)
    (hsize : i.size = 1) (hby : i.bytes = bytes) (hzs : z.cells.size = 1)
    (v : Value) (n : Nat) (xs0 : List Value) (hs : a.eval s = v) (hown : w.ownsRow 0 e 1 v n xs0)
    (vx : Value) (xs : List Value) (hx : a.eval x = vx) (h : Sc w c q vx xs) (h1 : ∀ u ∈ xs, u.oneCell' = true)
    (h63 : n + xs.length ≤ maxLen) (hbytes : (n + xs.length) * bytes ≤ 140737488355328)
    (hK : ∀ v' w', w'.ownsRow 0 e 1 v' (n + xs.length) (xs0 ++ xs) → w.grownBy w' v.ownBlock → (∀ g, v'.ownBlock = some g → v.ownBlock = some g ∨ w.heap.size ≤ g) → wpList P ops Q rest (a.put o.dst v') w') : wpList P ops Q (o :: rest) a w := by
  obtain ⟨ad, cap, rfl, hlc, hcm, hn0, hc⟩ := h
  cases ad with
  | none =>
    have h0 := hn0 rfl
    subst h0
    have hxs : xs = [] := List.eq_nil_of_length_eq_zero (by omega)
    subst hxs
    refine wpList_plain hgd fun K hK' => ?_
    have hrun := run_append_owned_none (P := P) (w := w) 0 t o.type e i 1 ht hi v n xs0 hown
    unfold Oper.wp
    simp [execOp, ho, resolve, invoke, builtin, hs, hx, hrun, Result.andThen]
    exact hK' _ _ (hK _ _ (by simpa using hown) ⟨rfl, rfl, rfl, Nat.le_refl _, fun _ _ _ => rfl⟩ (fun g hg => .inl hg))
  | some ad =>
    have hcell := hc ad rfl
    exact wpList_append2 hgd s x t ho e i z bytes ht hi hz hsize hby hzs v n xs0 hs hown ad xs.length cap xs hx rfl (fun j u hj => by rw [add_eq hcell.1]; exact (hcell.2 j u hj).2) h1 h63 hbytes hK
end
/-- What may turn a block that is newer than w keeps w. -/
theorem fresh_kp {w w1 w2 : World} {v : Value} (hf : ∀ g, v.ownBlock = some g → w.heap.size ≤ g) (h1 : ∀ c S, Kp c S w w1) (hk : ∀ c S, (∀ g, v.ownBlock = some g → S (c g)) → Kp c S w1 w2) (c : Col) (S : Nat × Nat → Prop) : Kp c S w w2 := by
  have h := hk (fun x => if x < w.heap.size then (0, 0) else (1, 0)) (· = (1, 0)) (fun g hg => by have := hf g hg; simp; omega)
  have h0 := h1 c S
  exact ⟨h.os.trans h0.os, h.tape.trans h0.tape, h.output.trans h0.output, Nat.le_trans h0.size h.size, fun x hx hn =>
    (h.block x (Nat.lt_of_lt_of_le hx h0.size) (by rw [if_pos hx]; simp)).trans (h0.block x hx hn)⟩
theorem HK5s {w w1 : World} (h : ∀ c S, Kp c S w w1) : w.heap.size ≤ w1.heap.size := (h (fun _ => (0, 0)) (fun _ => False)).size
theorem fresh_grown {w w1 w2 : World} {v : Value} (hf : ∀ g, v.ownBlock = some g → w.heap.size ≤ g) (h1 : ∀ c S, Kp c S w w1) (hg : w1.grownBy w2 v.ownBlock) (c : Col) (S : Nat × Nat → Prop) : Kp c S w w2 :=
  (h1 c S).grown hg (fun g h hlt => absurd (hf g h) (by omega))
def pre (n : Nat) (l : List Bs) (i : Nat) : Bs := low n 8 ++ low l.length 4 ++ recs (l.take i)
theorem pre_succ (n : Nat) (l : List Bs) (i : Nat) (h : i < l.length) : pre n l (i + 1) = pre n l i ++ low l[i].length 4 ++ l[i] := by
  unfold pre
  rw [List.take_succ_eq_append_getElem h, recs, recs, List.flatMap_append]; simp
theorem pre_length (n : Nat) (l : List Bs) (i : Nat) : (pre n l i).length = 12 + sumTo l i := by
  simp [pre, low_length, recs_length, sumTo]; omega
theorem sumTo_mono (l : List Bs) (i : Nat) : sumTo l i ≤ (l.map fun r => 4 + r.length).sum := by
  unfold sumTo
  conv => rhs; rw [← List.take_append_drop i l, List.map_append, List.sum_append]
  omega
theorem pre_le (n : Nat) {l : List Bs} (h : good l = true) (i : Nat) : (pre n l i).length ≤ 16777216 := by
  rw [pre_length]
  have := (good_length h).2.2.2
  have := sumTo_mono l i; omega
theorem pre_full (n : Nat) (l : List Bs) : pre n l l.length = body n l := by
  unfold pre body; rw [List.take_length]
theorem own_pos1 {w : World} {e : TypeId} {n : Nat} {v : Value} {xs : List Value} (h : w.ownsRow 0 e 1 v n xs) (h0 : 0 < n) : ∃ g cap, v = .slice (some ⟨g, 0, none⟩) n cap ∧ n ≤ cap ∧ cap ≤ maxLen := by
  obtain ⟨_, h2⟩ := h
  rcases h2 with ⟨_, h2⟩ | ⟨g, cap, cur, h3, _, hh, hn, hm, _⟩
  · omega
  · exact ⟨g, cap, h3, hn, hm⟩
theorem own_cells {w : World} {e : TypeId} {n g cap : Nat} {xs : List Value} (h : w.ownsRow 0 e 1 (.slice (some ⟨g, 0, none⟩) n cap) n xs) : ∀ (j : Nat) u, xs[j]? = some u → w.cell? ⟨g, 0 + j, none⟩ = some u := by
  intro j u hj
  obtain ⟨a, k, he, _, _, _, h5⟩ := Sc.of_owns (c := fun _ => (0, 0)) (q := (0, 0)) h (fun _ _ => rfl)
  cases he
  exact ((h5 _ rfl).2 j u hj).2
theorem kp_any {c0 : Col} {w w' : World} (h : Kp c0 (fun _ => False) w w') (c : Col) (S : Nat × Nat → Prop) : Kp c S w w' :=
  ⟨h.os, h.tape, h.output, h.size, fun x hx _ => h.block x hx (fun h => h)⟩
theorem kec_own (w : World) (v : Value) (l : List UInt8) (h : w.ownsRow 0 5 1 v l.length (l.map bv)) (h0 : 0 < l.length) (hl : l.length ≤ 20000000) :
    Calls Tryz.prog 121 #[v] w fun e w' => ∃ C : Array Value, e = .returned (.agg C) ∧ C.size = 32 ∧ C = ((kec l).map bv).toArray ∧ ∀ c S, Kp c S w w' := by
  obtain ⟨g, cap, rfl, _, _⟩ := own_pos1 h h0
  exact (kec1 (fun _ => (0, 0)) w g 0 cap l hl (own_cells h)).mono fun e w' h => ⟨_, h.1, by simp [kec_length], rfl, fun c S => kp_any (h.2 (fun _ => False)) c S⟩
theorem hash_slice8 (hb : Nat) (W : World) : (Instr.sliceAt 183 (.pointer (some ⟨hb, 0, none⟩)) none (some (.int .i64 8)) none).run Tryz.prog W = .ok (.slice (some ⟨hb, 0, none⟩) 8 32) W := by
  refine (run_sliceAt_array_h W 183 ⟨hb, 0, none⟩ hash_und .i64 8 (by omega) (by rw [hash_len]; omega)).trans ?_
  refine (congrArg (fun r : Result Nat => r.andThen fun s w => Result.ok (slicedAt ⟨hb, 0, none⟩ 0 (8 : Int).toNat (Tryz.prog.arrayLen 183) s) w) (hash_one W)).trans ?_
  show Result.ok (slicedAt ⟨hb, 0, none⟩ 0 (8 : Int).toNat (Tryz.prog.arrayLen 183) 1) W = _
  unfold slicedAt
  rw [hash_len, if_neg (by omega), add_eq rfl]
  rfl
theorem take8_cells {w : World} {g : Nat} {C : Array Value} {h : List UInt8} {t : TypeId} (hh : w.heap[g]? = some (.cells C t (0, 0))) (hC : C = (h.map bv).toArray) : ∀ (j : Nat) u, ((h.take 8).map bv)[j]? = some u → w.cell? ((⟨g, 0, none⟩ : Addr).add j) = some u := by
  intro j u hj
  rw [add_eq rfl, cell_of_heap hh, hC, List.getElem?_toArray, Nat.zero_add]
  rw [List.getElem?_map, List.getElem?_take] at hj
  rw [List.getElem?_map]
  split at hj
  · exact hj
  · cases hj
theorem bv_one (l : List UInt8) : (l.map bv).toArray.all (·.oneCell') = true := by
  rw [Array.all_eq_true]; intro i hi; simp [bv, Value.oneCell']
theorem encode_bad (q1 q2 : Nat × Nat) (v : Value) (l : List Bs) (n : Nat) (h : Bat w c q1 q2 v l) (hl : l.length ≤ 1000000000) (hb : ∀ r ∈ l, r.length ≤ 1000000000) (hg : good l = false) :
    Calls Tryz.prog 53 #[.int .i64 n, v] w fun e w' => e = .returned (.tuple #[.slice none 0 0, .int .i64 102]) ∧ w' = w := by
  have HM := Lib.hid (may_c q1 q2 v l h hl hb); rw [hg] at HM
  clear h hb hg
  go_enter Tryz.func53, Tryz.ntmps53
  go_wp2_with (go_at_call 119; refine HM.out.mono ?_; rintro _ w1 ⟨rfl, rfl⟩)
  go_ret2
  exact ⟨rfl, rfl⟩
set_option maxRecDepth 20000 in
set_option maxHeartbeats 2000000 in
theorem encode_good (q1 q2 : Nat × Nat) (v : Value) (l : List Bs) (n : Nat) (h : Bat w c q1 q2 v l) (hl : l.length ≤ 1000000000) (hb : ∀ r ∈ l, r.length ≤ 1000000000) (hn : n ≤ 1000000000) (hg : good l = true) :
    Calls Tryz.prog 53 #[.int .i64 n, v] w fun e w' => ∃ v', e = .returned (.tuple #[v', .int .i64 0]) ∧ w'.ownsRow 0 5 1 v' (enc kec n l).length ((enc kec n l).map bv) ∧ (∀ g, v'.ownBlock = some g → w.heap.size ≤ g) ∧ ∀ c S, Kp c S w w' := by
  obtain ⟨KC, hKC⟩ : ∃ KC, KC = kec := ⟨_, rfl⟩
  rw [← hKC]
  have HKC := Lib.hid hKC; clear hKC
  obtain ⟨i0, hi, hz0, hz1, hz2⟩ := info_parts info_u8
  have H6 := Lib.hid hi; have H7 := Lib.hid hz0; have H8 := Lib.hid hz1; have H9 := Lib.hid hz2; clear hi hz0 hz1 hz2
  have HM := Lib.hid (may_c q1 q2 v l h hl hb); rw [hg] at HM
  have HH := Lib.hid h; have HB := Lib.hid hb; have HGD := Lib.hid hg
  obtain ⟨g1, g2, g3, g4⟩ := good_length hg
  have HG3 := Lib.hid g3; have HG4 := Lib.hid g4
  rcases h.at with ⟨rfl, rfl⟩ | ⟨b, o, cap, rfl, hlc, hcm, hx⟩
  · simp at g1
  have HX := Lib.hid hx
  clear h hb hg g3 g4 hx
  go_enter Tryz.func53, Tryz.ntmps53
  go_wp2_with (first
    | (go_at_call 119; refine HM.out.mono ?_; rintro _ w1 ⟨rfl, hw⟩; obtain rfl := hw.symm)
    | (go_at_call 120; refine (wput_c w2 v2 (low n 8) l.length 4 HO2.out (by omega) (by omega) (by simp [low_length])).mono ?_; rintro _ w3 ⟨v3, rfl, ho, hf, hk⟩; have HO3 := Lib.hid ho; have HF3 := Lib.hid (own_fresh HF2.out (HK2.out (fun _ => (0, 0)) (fun _ => False)).size hf); have HK3 := Lib.hid (fun c S => fresh_kp HF2.out HK2.out hk c S); clear ho hf hk)
    | (go_at_call 120; refine (wput_c w (.slice none 0 0) [] n 8 (World.ownsRow_nil _ _ _ _) (by omega) (by omega) (by simp)).mono ?_; rintro _ w2 ⟨v2, rfl, ho, hf, hk⟩; simp only [List.nil_append] at ho; have HO2 := Lib.hid ho; have HF2 := Lib.hid (fun g h => (hf g h).elim (fun e => by cases e) id); have HK2 := Lib.hid (fun c S => hk c S (fun g h => by cases h)); clear ho hf hk))
  have d1 : decide ((n : Int) < 0) = false := by simp
  (try simp only [d1])
  clear d1
  have HN := Lib.hid hn
  go_loopw [6, 25] (fun v s wr => ∃ i : Nat, i ≤ l.length ∧ s = .int .i64 i ∧ wr.ownsRow 0 5 1 v (pre n l i).length ((pre n l i).map bv) ∧ (∀ g, v.ownBlock = some g → w.heap.size ≤ g) ∧ ∀ c S, Kp c S w wr) (fun _ s _ => l.length - (intOf s).toNat)
  case atStart => exact ⟨0, by omega, rfl, by simpa [pre, recs] using HO3.out, HF3.out, HK3.out⟩
  case round =>
    clear HO2 HF2 HK2 HO3 HF3 HK3
    obtain ⟨i, hi, rfl, ho, hf, hK⟩ := hrel
    have HO := Lib.hid ho; have HF := Lib.hid hf; have HK := Lib.hid hK; clear ho hf hK
    have hpl := pre_length n l i
    have hpl2 := pre_le n HGD.out i
    by_cases hlt : i < l.length
    · obtain ⟨a, k, gc, hsc⟩ := HX.out i hlt
      have g0 := (HK.out c (fun _ => False)).cell gc (fun h => h)
      have hsucc := pre_succ n l i hlt
      have hri := HG3.out l[i] (List.getElem_mem hlt)
      have HPL := Lib.hid (pre_le n HGD.out (i + 1))
      obtain ⟨r, hr⟩ : ∃ r, r = l[i] := ⟨_, rfl⟩
      rw [← hr] at g0 hsc hsucc hri
      have HS := Lib.hid hsc; have HSU := Lib.hid hsucc; clear hsucc gc hsc hr
      obtain ⟨p, hp⟩ : ∃ p, p = pre n l i := ⟨_, rfl⟩
      rw [← hp] at HO HSU hpl2
      clear hp hpl
      go_wp2_with (first
        | (at_builtin; go_must (refine wpList_appendS rfl _ _ _ rfl 5 i0 (.int .u8 0) 1 Tryz.underlying41 H6.out H7.out H8.out H9.out rfl v4 (p ++ low r.length 4).length ((p ++ low r.length 4).map bv) rfl HO4.out _ (r.map bv) rfl (HS.out.kp (HK4.out c (fun _ => False)) (fun h => h) (Cx.refl _ _)) (one_bv r) (by rw [List.length_append, low_length, List.length_map]; unfold maxLen; omega) (by rw [List.length_append, low_length, List.length_map]; omega) ?_); intro v5 w5 hown5 hg5 hf5; have HO5 := Lib.hid hown5; have HF5 := Lib.hid (own_fresh HF4.out (HK5s HK4.out) hf5); have HK5 := Lib.hid (fun c S => fresh_grown HF4.out HK4.out hg5 c S); clear hown5 hg5 hf5)
        | (go_at_call 120; refine (wput_c wr u6 p r.length 4 HO.out (by omega) (by omega) (by omega)).mono ?_; rintro _ w4 ⟨v4, rfl, ho, hf, hk⟩; have HO4 := Lib.hid ho; have HF4 := Lib.hid (own_fresh HF.out (HK.out (fun _ => (0, 0)) (fun _ => False)).size hf); have HK4 := Lib.hid (fun c S => fresh_kp HF.out HK.out hk c S); clear ho hf hk))
      go_roundw
      case rel =>
        refine ⟨i + 1, by omega, by go_num, ?_, HF5.out, HK5.out⟩
        rw [HSU.out]
        have := HO5.out
        rw [← List.map_append, List.length_map, ← List.length_append] at this
        exact this
      case measure => simp [intOf]; omega
    · obtain rfl : i = l.length := by omega
      rw [pre_full] at HO hpl2
      have hbl := body_length n l
      rw [pre_full] at hpl
      obtain ⟨B, hB⟩ : ∃ B, B = body n l := ⟨_, rfl⟩
      rw [← hB] at HO hpl2
      have HBD := Lib.hid hB
      have hB0 : 0 < B.length := by rw [hB, hbl]; omega
      obtain ⟨gb, cb, rfl, hcb, hcbm⟩ := own_pos1 HO.out hB0
      clear hbl hpl hB
      have hs8 := hash_slice8
      obtain ⟨X, hX⟩ : ∃ X, X = low B.length 4 ++ B := ⟨_, rfl⟩
      have hXl : X.length = B.length + 4 := by rw [hX, List.length_append, low_length]; omega
      have HXX := Lib.hid hX; clear hX
      go_wp2_with (first
        | (at_builtin; refine wpList_append2 rfl _ _ _ rfl 5 i0 (.int .u8 0) 1 Tryz.underlying41 H6.out H7.out H8.out H9.out rfl v5 X.length (X.map bv) rfl HO7.out ⟨w6.heap.size, 0, none⟩ 8 32 ((Y.take 8).map bv) rfl (by rw [List.length_map, List.length_take, HYL.out]; rfl) (take8_cells HH7.out HCE.out) (one_bv _) (by unfold maxLen; omega) (by omega) ?_; intro v8 w8 hown8 hg8 hf8; have HO8 := Lib.hid hown8; have HF8 := Lib.hid (own_fresh HF5.out (HK5s HK7.out) hf8); have HK8 := Lib.hid (fun c S => fresh_grown HF5.out HK7.out hg8 c S); clear hown8 hg8 hf8)
        | (refine wpList_store_row rfl 183 _ _ rfl w6.heap.size C rfl rfl 183 _ (heap_alloc_new w6 _) (by rw [hash_info, HC32.out]) (by rw [HC32.out]; rfl) (by rw [HCE.out]; exact bv_one _) ?_; generalize hw : World.setRow _ _ _ = w7; have HH7 := Lib.hid (show w7.heap[w6.heap.size]? = some (.cells C 183 (0, 0)) from by rw [← hw]; exact heap_setRow (heap_alloc_new _ _)); have k7 : ∀ c S, Kp c S w6 w7 := (fun c S => by rw [← hw]; exact ((Kp.refl c S w6).alloc _).setRow (fun h => absurd h (Nat.lt_irrefl _)) _); have HK7 := Lib.hid (fun c S => (HK6.out c S).alloc_trans (k7 c S)); have HO7 := Lib.hid (ownsRow_kp (c := fun _ => (0, 0)) (q := (0, 0)) HO6.out (fun _ _ => rfl) (k7 (fun _ => (0, 0)) (fun _ => False)) (fun h => h)); clear k7 hw)
        | (go_at_call 121; refine (kec_own w5 v5 X HO5.out (by omega) (by omega)).mono ?_; rintro _ w6 ⟨C, rfl, hC, hCe, hk⟩; obtain ⟨Y, hY⟩ : ∃ Y, Y = kec X := ⟨_, rfl⟩; rw [← hY] at hCe; have HYL := Lib.hid (show Y.length = 32 by rw [hY]; exact kec_length X); have HYY := Lib.hid hY; clear hY; have HCE := Lib.hid hCe; have HC32 := Lib.hid hC; clear hCe; have HO6 := Lib.hid (ownsRow_kp (c := fun _ => (0, 0)) (q := (0, 0)) HO5.out (fun _ _ => rfl) (hk (fun _ => (0, 0)) (fun _ => False)) (fun h => h)); have HK6 := Lib.hid (fun c S => (HK5.out c S).alloc_trans (hk c S)); clear hk hC)
        | (at_builtin; refine wpList_appendS (c := fun _ => (0, 0)) (q := (0, 0)) rfl _ _ _ rfl 5 i0 (.int .u8 0) 1 Tryz.underlying41 H6.out H7.out H8.out H9.out rfl v4 (low B.length 4).length ((low B.length 4).map bv) rfl HO4.out (.slice (some ⟨gb, 0, none⟩) B.length cb) (B.map bv) rfl (Sc.of_owns (HOB.out) (fun _ _ => rfl)) (one_bv B) (by rw [low_length, List.length_map]; unfold maxLen; omega) (by rw [low_length, List.length_map]; omega) ?_; intro v5 w5 hown5 hg5 hf5; rw [List.length_map, ← List.length_append, ← List.map_append, ← HXX.out] at hown5; have HO5 := Lib.hid hown5; have HF5 := Lib.hid (own_fresh HF4.out (HK5s HK4.out) hf5); have HK5 := Lib.hid (fun c S => fresh_grown HF4.out HK4.out hg5 c S); clear hown5 hg5 hf5)
        | (go_at_call 120; refine (wput_c wr (.slice none 0 0) [] B.length 4 (World.ownsRow_nil _ _ _ _) (by omega) (by omega) (by simp)).mono ?_; rintro _ w4 ⟨v4, rfl, ho, hf, hk⟩; simp only [List.nil_append] at ho; have HO4 := Lib.hid ho; have HF4 := Lib.hid (fun g h => (hf g h).elim (fun e => by cases e) (fun h => Nat.le_trans (HK5s HK.out) h)); have HK4 := Lib.hid (fun c S => (HK.out c S).alloc_trans (hk c S (fun g h => by cases h))); have HOB := Lib.hid (ownsRow_kp (c := fun _ => (0, 0)) (q := (0, 0)) HO.out (fun _ _ => rfl) (hk (fun _ => (0, 0)) (fun _ => False) (fun g h => by cases h)) (fun h => h)); clear ho hf hk))
      go_ret2
      refine ⟨_, rfl, ?_, HF8.out, HK8.out⟩
      have := HO8.out
      rw [← List.map_append, HYY.out, HXX.out, HBD.out] at this
      have e : enc KC n l = (low (body n l).length 4 ++ body n l) ++ (kec (low (body n l).length 4 ++ body n l)).take 8 := by rw [HKC.out]; rfl
      rw [e, List.length_append, List.length_take, kec_length]
      exact this
end Go.Proofs.YtnifmoigalmcmaaGreat
/- wal.twin and the law's twins: batches in new memory. -/
namespace Go.Proofs.YtnifmoigalmcmaaGreat
open Go Go.RowKit
open Wl
variable {c c' : Col} {w w' : World} {S : Nat × Nat → Prop} {q : Nat × Nat}
theorem info_bytes : ∃ i, Tryz.prog.info? 41 = some i ∧ i.zero = some (.slice none 0 0) ∧ i.size = 1 ∧ i.bytes = 24 := by
  have h : (Tryz.prog.info? 41).map (fun i => (i.zero, i.size, i.bytes)) = some (some (.slice none 0 0), 1, 24) := by kernel_rfl
  cases hi : Tryz.prog.info? 41 with
  | none => rw [hi] at h; cases h
  | some i =>
    rw [hi] at h
    simp only [Option.map_some, Option.some.injEq, Prod.mk.injEq] at h
    exact ⟨i, rfl, h.1, h.2.1, h.2.2⟩
theorem twin1_c (v : Value) (xs : List Value) (h : Sc w c q v xs) (h1 : ∀ u ∈ xs, u.oneCell' = true) (hl : xs.length ≤ lim) :
    Calls Tryz.prog 130 #[v] w fun e w' => ∃ v', e = .returned v' ∧ w'.ownsRow w.heap.size 5 1 v' xs.length xs ∧ Below w.heap.size w w' := by
  have HC := Lib.hid (cloneB v xs h h1 hl)
  clear h h1 hl
  go_enter Tryz.func130, Tryz.ntmps130
  go_wp2_with (go_at_call 75; refine HC.out.mono ?_; rintro _ w1 ⟨v1, rfl, h1, h2⟩; have H1 := Lib.hid h1; have H2 := Lib.hid h2; clear h1 h2)
  go_ret
  exact ⟨_, rfl, H1.out, H2.out⟩
/-- A new slice of bytes joins. -/
theorem grow_clone {B : Nat} {wr w4 : World} {v x : Value} {cf : Col} {l : List Bs} {r : Bs} (G : Grow QB B wr 41 v cf l) (ho : w4.ownsRow 0 5 1 x r.length (r.map bv)) (hf : ∀ g, x.ownBlock = some g → wr.heap.size ≤ g) (hk : ∀ c S, Kp c S wr w4) (o : Obj) :
    ∃ cg xs, Grow QB B (w4.alloc o) 41 v cg l ∧ (w4.alloc o).ownsRow 0 41 1 v l.length xs ∧ QB (w4.alloc o) cg x r := by
  have G1 := G.kp QB.stays (hk cf (fun _ => False)) (fun h => h) (fun h => h)
  have h1 : QB w4 (newCol wr cf (0, 0)) x r := Sc.of_owns ho (fun g hg => if_neg (Nat.not_lt.2 (hf g hg)))
  have hk : Kp (newCol wr cf (0, 0)) (fun _ => False) w4 (w4.alloc o) := (Kp.refl _ _ _).alloc _
  have G2 := G1.kp QB.stays hk (fun h => h) (fun h => h)
  obtain ⟨xs, hxs, _⟩ := G2.own
  exact ⟨_, xs, G2, hxs, QB.stays.stay h1 hk (fun h => h) (newCol_cx _ _ _)⟩
set_option maxRecDepth 20000 in
set_option maxHeartbeats 1000000 in
theorem mapped_b (q1 q2 : Nat × Nat) (v : Value) (l : List Bs) (h : Bat w c q1 q2 v l) (hl : l.length ≤ 1000000000) (hb : ∀ r ∈ l, r.length ≤ lim) :
    Calls Tryz.prog 129 #[v, .func (.func 130) #[] #[]] w fun e w' => ∃ v' cf, e = .returned v' ∧ Grow QB w.heap.size w' 41 v' cf l ∧ ∀ c S, Kp c S w w' := by
  obtain ⟨i0, hi, hz0, hz1, hz2⟩ := info_bytes
  have H6 := Lib.hid hi; have H7 := Lib.hid hz0; have H8 := Lib.hid hz1; have H9 := Lib.hid hz2; clear hi hz0 hz1 hz2
  rcases h.at with ⟨rfl, rfl⟩ | ⟨b, o, cap, rfl, hlc, hcm, hx⟩
  · go_enter Tryz.func129, Tryz.ntmps129
    go_wp2
    refine wp_loop_rounds 1 ?_
    rw [rounds_succ]
    go_wp2
    go_ret
    exact ⟨_, _, rfl, Grow.start _ (Nat.le_refl _), fun c S => Kp.refl c S w⟩
  · have HX := Lib.hid hx; have HB := Lib.hid hb; clear hx h hb
    go_enter Tryz.func129, Tryz.ntmps129
    go_wp2
    go_loopw [5, 10] (fun v s wr => ∃ i : Nat, i ≤ l.length ∧ s = .int .i64 i ∧ (∃ cf, Grow QB w.heap.size wr 41 v cf (l.take i)) ∧ ∀ c S, Kp c S w wr) (fun _ s _ => l.length - (intOf s).toNat)
    case atStart => exact ⟨0, by omega, rfl, ⟨_, Grow.start _ (Nat.le_refl _)⟩, fun c S => Kp.refl c S w⟩
    case round =>
      obtain ⟨i, hi, rfl, ⟨cf, G⟩, hK⟩ := hrel
      have HG := Lib.hid G; have HK := Lib.hid hK; clear G hK
      by_cases hlt : i < l.length
      · obtain ⟨a, k, gc, hsc⟩ := HX.out i hlt
        have g0 := (HK.out c (fun _ => False)).cell gc (fun h => h)
        have hbl := HB.out l[i] (List.getElem_mem hlt)
        have htk := List.take_succ_eq_append_getElem hlt
        obtain ⟨r, hr⟩ : ∃ r, r = l[i] := ⟨_, rfl⟩
        rw [← hr] at g0 hsc hbl htk
        have HS := Lib.hid (hsc.kp (HK.out c (fun _ => False)) (fun h => h) (Cx.refl _ _)); have HTK := Lib.hid htk; have HBL := Lib.hid hbl; clear gc hsc hr htk hbl
        obtain ⟨L, hL⟩ : ∃ L, L = l.take i := ⟨_, rfl⟩
        have hLl : L.length = i := by rw [hL, List.length_take]; omega
        rw [← hL] at HG HTK
        have HLL := Lib.hid hLl; clear hL hLl
        go_wp2_with (first
          | (at_builtin; refine wpList_append2 rfl _ _ _ rfl 41 i0 (.slice none 0 0) 24 Tryz.underlying40 H6.out H7.out H8.out H9.out rfl u5 L.length xs5 rfl HO5.out ⟨w4.heap.size, 0, none⟩ 1 1 [.slice a4 m4 k4] rfl rfl (one_new _ _ _) (fun u hu => by rw [List.mem_singleton.1 hu]; exact QB.stays.one HQ5.out) (by rw [HLL.out]; unfold maxLen; omega) (by rw [HLL.out]; omega) ?_; intro v6 w6 hown6 hg6 hf6; have G6 := Lib.hid (HG5.out.push QB.stays HO5.out HQ5.out hown6 hg6 hf6); have HK6 := Lib.hid (fun c S => ((HK4.out c S).alloc _).grown hg6 (fun g hg hlt => absurd (HG5.out.fresh g hg) (by omega))); clear hown6 hg6 hf6)
          | (go_at_call 130; refine (twin1_c (.slice a r.length k) (r.map bv) HS.out (one_bv r) (by rw [List.length_map]; exact HBL.out)).mono ?_; rintro _ w4 ⟨v4, rfl, ho4, hb4⟩; rw [List.length_map] at ho4; obtain ⟨a4, m4, k4, rfl⟩ := own_slice ho4; obtain ⟨cg, xs5, g5, o5, q5⟩ := grow_clone HG.out (own_zero' ho4) (own_base' ho4) (fun c S => Kp.of_below hb4) (.cells #[.slice a4 m4 k4] 41); have HG5 := Lib.hid g5; have HO5 := Lib.hid o5; have HQ5 := Lib.hid q5; have HK4 := Lib.hid (fun c S => (HK.out c S).alloc_trans (Kp.of_below hb4)); clear g5 o5 q5 ho4 hb4))
        go_roundw
        case rel => exact ⟨i + 1, by omega, by go_num, ⟨_, by rw [HTK.out]; exact G6.out⟩, HK6.out⟩
        case measure => simp [intOf]; omega
      · obtain rfl : i = l.length := by omega
        go_wp2
        go_ret
        have := HG.out
        rw [List.take_length] at this
        exact ⟨_, _, rfl, this, HK.out⟩
theorem twin_b (q1 q2 : Nat × Nat) (v : Value) (l : List Bs) (h : Bat w c q1 q2 v l) (hl : l.length ≤ 1000000000) (hb : ∀ r ∈ l, r.length ≤ lim) :
    Calls Tryz.prog 69 #[v] w fun e w' => ∃ v' cf, e = .returned v' ∧ Grow QB w.heap.size w' 41 v' cf l ∧ ∀ c S, Kp c S w w' := by
  have HC := Lib.hid (mapped_b q1 q2 v l h hl hb)
  clear h hl hb
  go_enter Tryz.func69, Tryz.ntmps69
  go_wp2_with (go_at_call 129; refine HC.out.mono ?_; rintro _ w1 ⟨v1, cf, rfl, h1, h2⟩; have H1 := Lib.hid h1; have H2 := Lib.hid h2; clear h1 h2)
  go_ret
  exact ⟨_, _, rfl, H1.out, H2.out⟩
end Go.Proofs.YtnifmoigalmcmaaGreat
