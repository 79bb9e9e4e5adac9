/- The document's disk (cairnref01): twin, has, May, Apply: each by its contract. -/
import Derived.Test.YtnifmoigalmcmaaGreatLt
import Derived.Test.YtnifmoigalmcmaaGreatAl
import Derived.BigRegion
namespace Go.Proofs.YtnifmoigalmcmaaGreat
open Go Go.RowKit Go.MapKept Go.Maps
open Dk
variable {c c' : Col} {w w' : World} {q : Nat × Nat}
theorem rtwinb (v : Value) (xs : List Value) (h : Sw w c q v xs) (h1 : ∀ u ∈ xs, u.oneCell' = true) (hl : xs.length ≤ lim) :
    Calls Tryz.prog 80 #[v] w fun e w' => ∃ v', e = .returned v' ∧ w'.ownsRow w.heap.size 5 1 v' xs.length xs ∧ Below w.heap.size w w' := by
  obtain ⟨a, cap, rfl, hlc, hcm, hn0, hc⟩ := h
  cases a with
  | none =>
    have h0 := hn0 rfl
    subst h0
    have hx : xs = [] := List.eq_nil_of_length_eq_zero (by omega)
    subst hx
    clear hlc hcm hn0 hc h1 hl
    go_enter Tryz.func80, Tryz.ntmps80
    go_wp2
    go_ret
    exact ⟨_, rfl, World.ownsRow_nil _ _ _ _, Below.refl _ _⟩
  | some ad =>
    have hcell := hc ad rfl
    obtain ⟨i, hi, hz0, hz1, hz2⟩ := info_parts info_u8
    have H1 : Hid (∀ (j : Nat) u, xs[j]? = some u → w.cell? (ad.add j) = some u) := fun j u hj => by rw [add_eq (hcell j u hj).1]; exact (hcell j u hj).2.2
    have H2 := Lib.hid hl; clear hl
    have H5 := Lib.hid h1; clear h1
    have H6 := Lib.hid hi; clear hi
    have H7 := Lib.hid hz0; clear hz0
    have H8 := Lib.hid hz1; clear hz1
    have H9 := Lib.hid hz2; clear hz2
    clear hn0 hc hlc hcm hcell
    go_enter Tryz.func80, Tryz.ntmps80
    go_wp2_with (at_builtin; refine wpList_append_own _ rfl _ _ _ rfl w.heap.size 5 i (.int .u8 0) 1 1 Tryz.underlying41 H6.out H7.out H8.out H9.out rfl (by decide) _ 0 [] rfl (World.ownsRow_nil w w.heap.size 5 1) ad xs.length cap xs rfl (by simp) H1.out H5.out (lim_len H2.out) (lim_by H2.out (by decide)) (by simp) ?_; intro v' w' hown hgrow _)
    go_ret
    refine ⟨_, rfl, by simpa using hown, (Below.refl _ w).grown hgrow (by simp) (fun g hg => ?_)⟩
    cases hg
theorem Sc.sw {v : Value} {xs : List Value} (h : Sc w c q v xs) : Sw w c q v xs := by
  obtain ⟨a, cap, h1, h2, h3, h4, h5⟩ := h
  exact ⟨a, cap, h1, h2, h3, h4, fun ad had j u hj => ⟨(h5 ad had).1, (h5 ad had).2 j u hj⟩⟩
theorem rtwinc (v : Value) (l : List UInt8) (h : Sc w c q v (l.map bv)) (hl : l.length ≤ lim) :
    Calls Tryz.prog 80 #[v] w fun e w' => ∃ v', e = .returned v' ∧ w'.ownsRow w.heap.size 5 1 v' l.length (l.map bv) ∧ Below w.heap.size w w' := by
  have := rtwinb v _ h.sw (one_bv _) (by rw [List.length_map]; exact hl)
  rwa [List.length_map] at this
theorem rhas (v : Value) (l : List Int) (x : Int) (h : Sc w c q v (l.map iv)) :
    Calls Tryz.prog 134 #[v, .int .i64 x] w fun e w' => e = .returned (.bool (decide (x ∈ l))) ∧ w' = w := by
  rcases h.cases with ⟨rfl, hx⟩ | ⟨b, o, cap, rfl, hlc, hcm, _, hc⟩
  · have : l = [] := by simpa using hx
    subst this
    go_enter Tryz.func134, Tryz.ntmps134
    go_wp2
    refine wp_loop_rounds 1 ?_
    rw [rounds_succ]
    go_wp2
    go_ret
    exact ⟨rfl, rfl⟩
  · rw [List.length_map] at hlc ⊢
    have hlen : l.length ≤ 9223372036854775807 := by unfold maxLen at hcm; omega
    have HC := Lib.hid hc; clear hc
    clear hcm hlc
    go_enter Tryz.func134, Tryz.ntmps134
    go_wp2
    go_loop [9] (fun i => ∃ k : Nat, k ≤ l.length ∧ i = .int .i64 k ∧ x ∉ l.take k) (fun i => l.length - (intOf i).toNat)
    case atStart => exact ⟨0, Nat.zero_le _, rfl, by simp⟩
    case round =>
      obtain ⟨k, hk, rfl, hno⟩ := hrel
      by_cases hlt : k < l.length
      · have hcell : w.cell? ⟨b, o + k, none⟩ = some (.int .i64 l[k]) := HC.out k _ (by simp [hlt, iv])
        by_cases he : l[k] = x
        · have ht : (l[k] == x) = true := by simpa using he
          have HE := Lib.hid he; clear he
          have HN := Lib.hid hno; clear hno
          go_wp2
          go_ret
          refine ⟨ret_bool ?_, rfl⟩
          have : x ∈ l := by rw [← HE.out]; exact List.getElem_mem hlt
          simp [this]
        · have ht : (l[k] == x) = false := by simpa using he
          have HE := Lib.hid he; clear he
          have HN := Lib.hid hno; clear hno
          go_wp2
          go_round
          case rel =>
            refine ⟨k + 1, by omega, by go_num, ?_⟩
            rw [List.take_succ_eq_append_getElem hlt]
            simp only [List.mem_append, List.mem_singleton, not_or]
            exact ⟨HN.out, fun e => HE.out e.symm⟩
          case measure => simp [intOf]; omega
      · have HN := Lib.hid hno; clear hno
        go_wp2
        go_ret
        refine ⟨ret_bool ?_, rfl⟩
        have := HN.out
        rw [List.take_of_length_le (by omega)] at this
        simp [this]
theorem rmay (s : ByteArray) (w : World) (hs : s.size ≤ maxLen) :
    Calls Tryz.prog 125 #[.string s] w fun e w' => e = .returned (.bool (named s.data.toList)) ∧ w' = w := by
  unfold maxLen at hs
  have hsz : s.data.toList.length = s.size := Array.length_toList
  have HZ := Lib.hid hsz; clear hsz
  by_cases h1 : (1 : Int) ≤ (s.size : Int)
  · by_cases h2 : (s.size : Int) ≤ 32
    · go_enter Tryz.func125, Tryz.ntmps125
      go_wp2
      go_loop [3] (fun i => ∃ k : Nat, k ≤ s.size ∧ i = .int .i64 k ∧ (s.data.toList.take k).all (fun c => !badB c) = true) (fun i => s.size - (intOf i).toNat)
      case atStart => exact ⟨0, Nat.zero_le _, rfl, by simp⟩
      case round =>
        obtain ⟨k, hk, rfl, hall⟩ := hrel
        have HA := Lib.hid hall; clear hall
        by_cases hlt : k < s.size
        · have hg : s.data.toList[k]? = some s[k] := by simp [ByteArray.getElem_eq_getElem_data]
          have HG := Lib.hid hg; clear hg
          have hbad := badB_iff s[k]
          have HB := Lib.hid hbad; clear hbad
          by_cases h1 : (s[k].toNat : Int) < 33
          · go_wp2
            go_ret
            refine ⟨ret_bool ?_, rfl⟩
            rw [named_eq]
            have : (s.data.toList.all fun c => !badB c) = false := by
              rw [List.all_eq_false]; exact ⟨_, List.mem_of_getElem? HG.out, by simp [HB.out.2 (.inl h1)]⟩
            rw [this]; rfl
          · by_cases h2 : 126 < (s[k].toNat : Int)
            · go_wp2
              go_ret
              refine ⟨ret_bool ?_, rfl⟩
              rw [named_eq]
              have : (s.data.toList.all fun c => !badB c) = false := by
                rw [List.all_eq_false]; exact ⟨_, List.mem_of_getElem? HG.out, by simp [HB.out.2 (.inr (.inl h2))]⟩
              rw [this]; rfl
            · by_cases h3 : (s[k].toNat : Int) = 47
              · have ht : ((s[k].toNat : Int) == 47) = true := by simpa using h3
                have H3 := Lib.hid h3; clear h3
                go_wp2
                go_ret
                refine ⟨ret_bool ?_, rfl⟩
                rw [named_eq]
                have : (s.data.toList.all fun c => !badB c) = false := by
                  rw [List.all_eq_false]; exact ⟨_, List.mem_of_getElem? HG.out, by simp [HB.out.2 (.inr (.inr H3.out))]⟩
                rw [this]; rfl
              · have ht : ((s[k].toNat : Int) == 47) = false := by simpa using h3
                have H3 := Lib.hid h3; clear h3
                go_wp2
                go_round
                case rel =>
                  refine ⟨k + 1, by omega, by go_num, ?_⟩
                  rw [List.take_add_one, HG.out]
                  have hb : badB s[k] = false := by
                    cases hb : badB s[k] with
                    | false => rfl
                    | true => have := HB.out.1 hb; have := H3.out; omega
                  simp [HA.out, hb]
                case measure => simp [intOf]; omega
        · have e1 : (s.data.toList.all fun c => !badB c) = true := by
            have := HA.out
            rwa [List.take_of_length_le (by rw [HZ.out]; omega)] at this
          have E1 := Lib.hid e1; clear e1
          go_wp2
          go_ret
          refine ⟨ret_bool ?_, rfl⟩
          rw [named_eq, E1.out, HZ.out]
          have : 1 ≤ s.size := by omega
          have : s.size ≤ 32 := by omega
          simp [*]
    · go_enter Tryz.func125, Tryz.ntmps125
      go_wp2
      go_ret
      refine ⟨ret_bool ?_, rfl⟩
      rw [named_eq, HZ.out]
      have : ¬ s.size ≤ 32 := by omega
      simp [this]
  · go_enter Tryz.func125, Tryz.ntmps125
    go_wp2
    go_ret
    refine ⟨ret_bool ?_, rfl⟩
    rw [named_eq, HZ.out]
    have : ¬ 1 ≤ s.size := by omega
    simp [this]
end Go.Proofs.YtnifmoigalmcmaaGreat
/- cairnref01.Apply: data with a change done: it answers what the plain model's does. -/
namespace Go.Proofs.YtnifmoigalmcmaaGreat
open Go Go.RowKit Go.MapKept Go.Maps
open Dk
variable {c c' : Col} {w w' : World} {q : Nat × Nat}
theorem owns_set {base e size g n cap : Nat} {xs : List Value} (h : w.ownsRow base e size (.slice (some ⟨g, 0, none⟩) n cap) n xs) (k : Nat) (u : Value) :
    (w.setCell ⟨g, k, none⟩ u).ownsRow base e size (.slice (some ⟨g, 0, none⟩) n cap) n (xs.set k u) := by
  obtain ⟨h1, h2⟩ := h
  rcases h2 with ⟨h2, _⟩ | ⟨g', cap', cur, h2, hb, hh, hn, hm, hcs, ht⟩
  · cases h2
  · injection h2 with h3 _ h4
    injection h3 with h3
    injection h3 with h3
    subst h3 h4
    refine ⟨by simpa using h1, .inr ⟨g, cap, cur.setIfInBounds k u, rfl, hb, heap_setCell hh k u, hn, hm, by simpa using hcs, ?_⟩⟩
    rw [Array.toList_setIfInBounds, List.take_set, ht]
theorem owns_heap {base e size g n cap : Nat} {xs : List Value} (h : w.ownsRow base e size (.slice (some ⟨g, 0, none⟩) n cap) n xs) : ∃ cur, w.heap[g]? = some (.cells cur e (0, 0)) := by
  obtain ⟨h1, h2⟩ := h
  rcases h2 with ⟨h2, _⟩ | ⟨g', cap', cur, h2, hb, hh, hn, hm, hcs, ht⟩
  · cases h2
  · injection h2 with h3 _ h4
    injection h3 with h3
    injection h3 with h3
    subst h3
    exact ⟨cur, hh⟩
theorem owns_frozen {base e size g n cap : Nat} {xs : List Value} (h : w.ownsRow base e size (.slice (some ⟨g, 0, none⟩) n cap) n xs) (i : Nat) : w.frozen? ⟨g, i, none⟩ = false := by
  obtain ⟨cur, hh⟩ := owns_heap h
  exact unfrozen_of_heap hh i
theorem owns_cell {base e size g n cap : Nat} {xs : List Value} (h : w.ownsRow base e size (.slice (some ⟨g, 0, none⟩) n cap) n xs) {k : Nat} {u : Value} (hk : xs[k]? = some u) : w.cell? ⟨g, k, none⟩ = some u := by
  have := h.cells (g := g) rfl k u hk
  rwa [add_eq rfl, Nat.zero_add] at this
/-- The row as it stands in the loop that lays zeros behind. -/
def ZInv (W : World) (l : List UInt8) (N : Nat) (v : Value) (wr : World) : Prop :=
  ∃ j : Nat, l.length + j ≤ max l.length N ∧ wr.ownsRow W.heap.size 5 1 v (l.length + j) ((l ++ List.replicate j 0).map bv) ∧ Below W.heap.size W wr
def vlen : Value → Nat
  | .slice _ n _ => n
  | _ => 0
/-- The row as it stands in the loop that lays data over it. -/
def OInv (W : World) (L : List UInt8) (n i : Nat) (b : List UInt8) (v : Value) (k : Nat) (wr : World) : Prop :=
  wr.ownsRow W.heap.size 5 1 v n ((over L i (b.take k)).map bv) ∧ Below W.heap.size W wr
theorem sc_cell {a : Option Addr} {n cap : Nat} {xs : List Value} (h : Sc w c q (.slice a n cap) xs) {k : Nat} {u : Value} (hk : xs[k]? = some u) : ∃ b o, a = some ⟨b, o, none⟩ ∧ w.cell? ⟨b, o + k, none⟩ = some u := by
  rcases h.cases with ⟨_, hx⟩ | ⟨b, o, cap', e, _, _, _, hc⟩
  · subst hx; simp at hk
  · injection e with e1 e2 e3
    exact ⟨b, o, e1, hc k u hk⟩
theorem over_set (L b : List UInt8) (i k : Nat) (x : UInt8) (hi : i + b.length ≤ L.length) (hk : b[k]? = some x) : ((over L i (b.take k)).map bv).set (i + k) (bv x) = (over L i (b.take (k + 1))).map bv := by
  have hlt : k < b.length := (List.getElem?_eq_some_iff.1 hk).1
  rw [← List.map_set]
  congr 1
  unfold over
  rw [List.take_add_one, hk]
  have e1 : (List.take k b).length = k := by simp; omega
  have e2 : (L.take i).length = i := by simp; omega
  rw [List.append_assoc, List.set_append_right _ _ (by rw [e2]; omega), e2, List.set_append_right _ _ (by rw [e1]; omega), e1]
  have e3 : i + k - i - k = 0 := by omega
  have e4 : L.drop (i + k) = L[i + k]'(by omega) :: L.drop (i + k + 1) := List.drop_eq_getElem_cons (by omega)
  rw [e3, e4]
  simp only [List.set_cons_zero, Option.toList_some, List.length_append, e1, List.length_singleton, List.append_assoc, List.singleton_append]
  rfl
theorem over_nil (L : List UInt8) (i : Nat) : over L i [] = L := by simp [over]
theorem own_below {base e size n : Nat} {v : Value} {xs : List Value} (h : w.ownsRow base e size v n xs) {b : Nat} (hb : b ≤ base) : w.ownsRow b e size v n xs := ownsRow_base_a h hb
theorem zsized (l : List UInt8) (j N : Nat) (h1 : l.length + j = max l.length N) : l ++ List.replicate j 0 = sized l (max l.length N) := by
  unfold sized
  rw [List.take_of_length_le (by omega)]
  congr 2; omega
theorem own_shape {base e size n : Nat} {v : Value} {xs : List Value} (h : w.ownsRow base e size v n xs) : ∃ a cap, v = .slice a n cap := by
  rcases h.2 with ⟨rfl, h0⟩ | ⟨g, cap, _, rfl, _⟩
  · exact ⟨none, 0, by rw [h0]⟩
  · exact ⟨_, _, rfl⟩
theorem own_pos {base e size n : Nat} {v : Value} {xs : List Value} (h : w.ownsRow base e size v n xs) (hn : 0 < n) : ∃ g cap, v = .slice (some ⟨g, 0, none⟩) n cap ∧ base ≤ g := by
  rcases h.2 with ⟨rfl, h0⟩ | ⟨g, cap, _, rfl, hb, _⟩
  · omega
  · exact ⟨_, _, rfl, hb⟩
theorem apply_wr (i : Nat) (vb v : Value) (b l : List UInt8) (w : World) {c₂ : Col} {q' : Nat × Nat} (hb : Sc w c q vb (b.map bv)) (h : Sc w c₂ q' v (l.map bv)) (hl : l.length ≤ maxFile) (hi : i + b.length ≤ maxFile) :
    Calls Tryz.prog 135 #[v, .agg #[.bool false, .int .i64 (i : Int), .int .i64 0, vb]] w fun e w' => ∃ v', e = .returned v' ∧ w'.ownsRow w.heap.size 5 1 v' ((Chg.wr i b).app l).length (((Chg.wr i b).app l).map bv) ∧ Below w.heap.size w w' := by
  obtain ⟨N, hN⟩ : ∃ N, N = i + b.length := ⟨_, rfl⟩
  obtain ⟨a, cap, rfl, _⟩ := id h
  obtain ⟨ab, capb, rfl, _⟩ := id hb
  rw [List.length_map, List.length_map] at *
  rename_i hx1 hx2; clear hx1 hx2
  have h1 : (N : Int) ≤ 268435456 := by unfold maxFile at hi; omega
  have h2 : (l.length : Int) ≤ 268435456 := by unfold maxFile at hl; omega
  have h3 : (i : Int) + b.length = N := by omega
  obtain ⟨W, hW⟩ : ∃ W, W = w.alloc (.cells #[.bool false, .int .i64 (i : Int), .int .i64 0, .slice ab b.length capb] 152) := ⟨_, rfl⟩
  have KW : Hid (∀ S, Kp c₂ S w W) := by intro S; rw [hW]; exact (Kp.refl c₂ S w).alloc _
  have KW2 : Hid (∀ S, Kp c S w W) := by intro S; rw [hW]; exact (Kp.refl c S w).alloc _
  have BW : Hid (Below w.heap.size w W) := by rw [hW]; exact (Below.refl _ w).alloc (Nat.le_refl _) _
  have HP : Hid (W.heap[w.heap.size]? = some (.cells #[.bool false, .int .i64 (i : Int), .int .i64 0, .slice ab b.length capb] 152 (0, 0))) := by rw [hW]; exact heap_alloc_new _ _
  have HWs : Hid (W.heap.size = w.heap.size + 1) := by rw [hW]; simp [Hid]
  have p0 := cell_of_heap HP.out 0
  have p1 := cell_of_heap HP.out 1
  have p2 := cell_of_heap HP.out 2
  have p3 := cell_of_heap HP.out 3
  have H : Hid (Sc W c₂ q' (.slice a l.length cap) (l.map bv)) := h.kp (KW.out S2F) (fun h => h) (Cx.refl _ _)
  have HB : Hid (Sc W c q (.slice ab b.length capb) (b.map bv)) := hb.kp (KW2.out S2F) (fun h => h) (Cx.refl _ _)
  have HL : Hid (l.length ≤ lim) := lim_file hl
  have HI := Lib.hid hi; clear hi
  have HW := Lib.hid hW; clear hW
  have HN := Lib.hid hN; clear hN
  obtain ⟨i0, hi0, hz0, hz1, hz2⟩ := info_parts info_u8
  have H6 := Lib.hid hi0; clear hi0
  have H7 := Lib.hid hz0; clear hz0
  have H8 := Lib.hid hz1; clear hz1
  have H9 := Lib.hid hz2; clear hz2
  clear h hb hl
  go_enter Tryz.func135, Tryz.ntmps135
  go_wp2_with (go_at_call 80; rw [← HW.out]; refine (rtwinc _ l H.out HL.out).mono ?_; rintro e w1 ⟨v1, rfl, hown1, hb1⟩; have HO1 := Lib.hid hown1; have HB1 := Lib.hid hb1; clear hown1 hb1)
  clear p0 p1 p2 p3
  go_loopw [6] (fun v wr => ZInv W l N v wr) (fun v _ => N - vlen v)
  case atStart => exact ⟨0, by omega, by simpa using HO1.out, HB1.out⟩
  case round =>
    obtain ⟨j, hj, hown, hbl⟩ := hrel
    obtain ⟨a1, k1, rfl⟩ := own_shape hown
    have HJ := Lib.hid hj; clear hj
    have HO := Lib.hid hown; clear hown
    have HBl := Lib.hid hbl; clear hbl
    have hjb : (l.length : Int) + (j : Int) ≤ 268435456 := by have := HJ.out; omega
    have hcast : ((l.length + j : Nat) : Int) = (l.length : Int) + (j : Int) := by omega
    have HPr := Lib.hid ((HBl.out.block w.heap.size (by rw [HWs.out]; omega)).trans HP.out)
    have p0 := cell_of_heap HPr.out 0
    have p1 := cell_of_heap HPr.out 1
    have p2 := cell_of_heap HPr.out 2
    have p3 := cell_of_heap HPr.out 3
    by_cases hlt : (l.length : Int) + (j : Int) < N
    · go_wp2_with (at_builtin; refine wpList_append_own _ rfl _ _ _ rfl W.heap.size 5 i0 (.int .u8 0) 1 1 Tryz.underlying41 H6.out H7.out H8.out H9.out rfl (by decide) _ (l.length + j) _ rfl (owns_alloc HO.out _) ⟨wr.heap.size, 0, none⟩ 1 1 [.int .u8 0] rfl rfl (one_new _ _ _) (by simp [Value.oneCell']) (by unfold maxLen; omega) (by omega) (by have := HBl.out.size; simp; omega) ?_; intro v2 w2 hown2 hgrow2 _)
      obtain ⟨a2, k2, rfl⟩ := own_shape hown2
      have HO2 := Lib.hid hown2; clear hown2
      have HG2 := Lib.hid hgrow2; clear hgrow2
      go_roundw
      case rel =>
        refine ⟨j + 1, by have := HJ.out; omega, ?_, (HBl.out.alloc (by have := HBl.out.size; omega) _).grown HG2.out (by have := HBl.out.size; simp; omega) (fun g hg => own_base HO.out g hg)⟩
        have := HO2.out
        rw [List.replicate_succ', ← List.append_assoc, List.map_append]
        exact this
      case measure => simp only [vlen]; omega
    · have hj2 : l.length + j = max l.length N := by have := HJ.out; omega
      obtain ⟨L, hL⟩ : ∃ L, L = sized l (max l.length N) := ⟨_, rfl⟩
      have HL2 : Hid (L.length = l.length + j) := by rw [hL, hj2]; exact sized_length _ _
      have HO3 : Hid (wr.ownsRow W.heap.size 5 1 (.slice a1 (l.length + j) k1) (l.length + j) (L.map bv)) := by
        have := HO.out
        rw [zsized l j N hj2, ← hL] at this
        exact this
      have HLL := Lib.hid hL; clear hL
      have HJ2 := Lib.hid hj2; clear hj2
      have hin : (i : Int) + b.length ≤ (l.length : Int) + (j : Int) := by have := HJ2.out; omega
      go_wp2
      clear p0 p1 p2 p3 HPr
      go_loopw [39] (fun s w3 => ∃ k : Nat, k ≤ b.length ∧ s = .int .i64 k ∧ OInv W L (l.length + j) i b (.slice a1 (l.length + j) k1) k w3) (fun s _ => b.length - (intOf s).toNat)
      case atStart => exact ⟨0, Nat.zero_le _, rfl, by rw [List.take_zero, over_nil]; exact HO3.out, HBl.out⟩
      case round =>
        obtain ⟨k, hk, rfl, hown, hbl⟩ := hrel
        have HO4 := Lib.hid hown; clear hown
        have HB4 := Lib.hid hbl; clear hbl
        have HPr := Lib.hid ((HB4.out.block w.heap.size (by rw [HWs.out]; omega)).trans HP.out)
        have p0 := cell_of_heap HPr.out 0
        have p1 := cell_of_heap HPr.out 1
        have p2 := cell_of_heap HPr.out 2
        have p3 := cell_of_heap HPr.out 3
        by_cases hkb : k < b.length
        · obtain ⟨bb, o, rfl, hcell⟩ := sc_cell (HB.out.kp (Kp.of_below (S := S2F) HB4.out) (fun h => h) (Cx.refl _ _)) (k := k) (u := bv b[k]) (by simp [hkb])
          obtain ⟨g, k2, e, hg⟩ := own_pos HO4.out (by omega)
          injection e with e1 _ e2
          subst e1 e2
          have hik : ((i + k : Nat) : Int) = (i : Int) + (k : Int) := by omega
          have hfz : wr.frozen? ⟨g, i + k, none⟩ = false := owns_frozen HO4.out _
          have HIK := Lib.hid hik
          have hlk : ((over L i (b.take k)).map bv).length = l.length + j := by have := HO4.out.1; simpa using this
          obtain ⟨u0, hc0⟩ : ∃ u, wr.cell? ⟨g, i + k, none⟩ = some u := ⟨_, owns_cell HO4.out (List.getElem?_eq_getElem (by omega))⟩
          have HG := Lib.hid hg; clear hg
          have HLK := Lib.hid hlk; clear hlk
          unfold bv at hcell
          go_wp2
          go_roundw
          case rel =>
            refine ⟨k + 1, by omega, by go_num, ?_, HB4.out.setCell HG.out _⟩
            have h5 := owns_set HO4.out (i + k) (bv b[k])
            rwa [over_set L b i k b[k] (by have := HL2.out; omega) (by simp [hkb])] at h5
          case measure => simp [intOf]; omega
        · obtain rfl : k = b.length := by omega
          go_wp2
          go_ret
          refine ⟨_, rfl, ?_, BW.out.trans (HB4.out.mono (by rw [HWs.out]; omega))⟩
          have e : (Chg.wr i b).app l = over L i b := by rw [HLL.out, HN.out]; rfl
          have h5 := own_below HO4.out (b := w.heap.size) (by rw [HWs.out]; omega)
          rw [List.take_length] at h5
          rw [app_length]
          have e2 : (Chg.wr i b).len l.length = l.length + j := by rw [HJ2.out, HN.out]; rfl
          rw [e2, e]
          exact h5
theorem apply_cut (n : Nat) (v : Value) (l : List UInt8) (w : World) {c₂ : Col} {q' : Nat × Nat} (h : Sc w c₂ q' v (l.map bv)) (hl : l.length ≤ maxFile) (hn : n ≤ maxFile) :
    Calls Tryz.prog 135 #[v, .agg #[.bool true, .int .i64 0, .int .i64 (n : Int), .slice none 0 0]] w fun e w' => ∃ v', e = .returned v' ∧ w'.ownsRow w.heap.size 5 1 v' ((Chg.cut n).app l).length (((Chg.cut n).app l).map bv) ∧ Below w.heap.size w w' := by
  obtain ⟨a, cap, rfl, hlc, hcm, _⟩ := id h
  rw [List.length_map] at *
  have h1 : (n : Int) ≤ 268435456 := by unfold maxFile at hn; omega
  have h2 : (l.length : Int) ≤ 268435456 := by unfold maxFile at hl; omega
  have h3 : (l.length : Int) ≤ cap := by omega
  have h4 : (cap : Int) ≤ 9223372036854775807 := by unfold maxLen at hcm; omega
  rename_i hx; clear hx hlc hcm
  obtain ⟨W, hW⟩ : ∃ W, W = w.alloc (.cells #[.bool true, .int .i64 0, .int .i64 (n : Int), .slice none 0 0] 152) := ⟨_, rfl⟩
  have KW : Hid (∀ S, Kp c₂ S w W) := by intro S; rw [hW]; exact (Kp.refl c₂ S w).alloc _
  have BW : Hid (Below w.heap.size w W) := by rw [hW]; exact (Below.refl _ w).alloc (Nat.le_refl _) _
  have HP : Hid (W.heap[w.heap.size]? = some (.cells #[.bool true, .int .i64 0, .int .i64 (n : Int), .slice none 0 0] 152 (0, 0))) := by rw [hW]; exact heap_alloc_new _ _
  have HWs : Hid (W.heap.size = w.heap.size + 1) := by rw [hW]; simp [Hid]
  have p0 := cell_of_heap HP.out 0
  have p1 := cell_of_heap HP.out 1
  have p2 := cell_of_heap HP.out 2
  have p3 := cell_of_heap HP.out 3
  have H : Hid (Sc W c₂ q' (.slice a l.length cap) (l.map bv)) := h.kp (KW.out S2F) (fun h => h) (Cx.refl _ _)
  have HL : Hid (l.length ≤ lim) := lim_file hl
  have HNM := Lib.hid hn; clear hn
  have HW := Lib.hid hW; clear hW
  obtain ⟨i0, hi0, hz0, hz1, hz2⟩ := info_parts info_u8
  have H6 := Lib.hid hi0; clear hi0
  have H7 := Lib.hid hz0; clear hz0
  have H8 := Lib.hid hz1; clear hz1
  have H9 := Lib.hid hz2; clear hz2
  clear h hl
  by_cases hlt : (n : Int) < l.length
  · have hnl : n < l.length := by omega
    have HT : Hid (Sc W c₂ q' (.slice a n cap) ((l.take n).map bv)) := by
      have := (by rw [List.length_map]; exact H.out : Sc W c₂ q' (.slice a (l.map bv).length cap) (l.map bv)).take n (by rw [List.length_map]; omega)
      rwa [← List.map_take] at this
    have HTL : Hid ((l.take n).length = n) := by show _ = _; simp; omega
    have HNL := Lib.hid hnl; clear hnl
    go_enter Tryz.func135, Tryz.ntmps135
    go_wp2_with (go_at_call 80; rw [← HW.out]; refine (rtwinc _ (l.take n) HT.out (by have := HL.out; have := HTL.out; have := HNL.out; omega)).mono ?_; rintro e w1 ⟨v1, rfl, hown1, hb1⟩; have HO1 := Lib.hid hown1; have HB1 := Lib.hid hb1; clear hown1 hb1)
    go_ret
    refine ⟨_, rfl, ?_, BW.out.trans (HB1.out.mono (by rw [HWs.out]; omega))⟩
    have h5 := own_below HO1.out (b := w.heap.size) (by rw [HWs.out]; omega)
    have e : (Chg.cut n).app l = l.take n := by
      have := HNL.out
      simp only [Chg.app, sized]
      rw [show n - l.length = 0 from by omega]; simp
    rw [e]; exact h5
  · go_enter Tryz.func135, Tryz.ntmps135
    go_wp2_with (go_at_call 80; rw [← HW.out]; refine (rtwinc _ l H.out HL.out).mono ?_; rintro e w1 ⟨v1, rfl, hown1, hb1⟩; have HO1 := Lib.hid hown1; have HB1 := Lib.hid hb1; clear hown1 hb1)
    clear p0 p1 p2 p3
    go_loopw [6] (fun v wr => ZInv W l n v wr) (fun v _ => n - vlen v)
    case atStart => exact ⟨0, by omega, by simpa using HO1.out, HB1.out⟩
    case round =>
      obtain ⟨j, hj, hown, hbl⟩ := hrel
      obtain ⟨a1, k1, rfl⟩ := own_shape hown
      have HJ := Lib.hid hj; clear hj
      have HO := Lib.hid hown; clear hown
      have HBl := Lib.hid hbl; clear hbl
      have hjb : (l.length : Int) + (j : Int) ≤ 268435456 := by have := HJ.out; omega
      have hcast : ((l.length + j : Nat) : Int) = (l.length : Int) + (j : Int) := by omega
      have HPr := Lib.hid ((HBl.out.block w.heap.size (by rw [HWs.out]; omega)).trans HP.out)
      have p0 := cell_of_heap HPr.out 0
      have p1 := cell_of_heap HPr.out 1
      have p2 := cell_of_heap HPr.out 2
      have p3 := cell_of_heap HPr.out 3
      by_cases hlt2 : (l.length : Int) + (j : Int) < n
      · go_wp2_with (at_builtin; refine wpList_append_own _ rfl _ _ _ rfl W.heap.size 5 i0 (.int .u8 0) 1 1 Tryz.underlying41 H6.out H7.out H8.out H9.out rfl (by decide) _ (l.length + j) _ rfl (owns_alloc HO.out _) ⟨wr.heap.size, 0, none⟩ 1 1 [.int .u8 0] rfl rfl (one_new _ _ _) (by simp [Value.oneCell']) (by unfold maxLen; omega) (by omega) (by have := HBl.out.size; simp; omega) ?_; intro v2 w2 hown2 hgrow2 _)
        obtain ⟨a2, k2, rfl⟩ := own_shape hown2
        have HO2 := Lib.hid hown2; clear hown2
        have HG2 := Lib.hid hgrow2; clear hgrow2
        go_roundw
        case rel =>
          refine ⟨j + 1, by have := HJ.out; omega, ?_, (HBl.out.alloc (by have := HBl.out.size; omega) _).grown HG2.out (by have := HBl.out.size; simp; omega) (fun g hg => own_base HO.out g hg)⟩
          have := HO2.out
          rw [List.replicate_succ', ← List.append_assoc, List.map_append]
          exact this
        case measure => simp only [vlen]; omega
      · have hj2 : l.length + j = max l.length n := by have := HJ.out; omega
        have HJ2 := Lib.hid hj2; clear hj2
        go_wp2
        refine wp_loop_rounds 1 ?_
        rw [rounds_succ]
        go_wp2
        go_ret
        refine ⟨_, rfl, ?_, BW.out.trans (HBl.out.mono (by rw [HWs.out]; omega))⟩
        have h5 := own_below HO.out (b := w.heap.size) (by rw [HWs.out]; omega)
        have hj3 := HJ2.out
        have e : (Chg.cut n).app l = l ++ List.replicate j 0 := by
          rw [zsized l j n hj3, show max l.length n = n from by omega]; rfl
        rw [e]
        rw [show (l ++ List.replicate j (0 : UInt8)).length = l.length + j from by simp]
        exact h5
end Go.Proofs.YtnifmoigalmcmaaGreat
/- The document's disk in memory: its changes, its files, the disk; File.Data. -/
namespace Go.Proofs.YtnifmoigalmcmaaGreat
open Go Go.RowKit Go.MapKept Go.Maps
open Dk
variable {c c' : Col} {S : Nat × Nat → Prop} {w w' : World} {q : Nat × Nat}
section
variable {α β : Type} {f : α → List β} {s : Nat}
theorem flat_get (hf : ∀ x, (f x).length = s) : ∀ (L : List α) (i j : Nat) (x : α), L[i]? = some x → j < s → (L.flatMap f)[i * s + j]? = (f x)[j]?
  | [], i, j, x, h, _ => by simp at h
  | y :: r, 0, j, x, h, hj => by
    simp at h; subst h
    rw [List.flatMap_cons, Nat.zero_mul, Nat.zero_add, List.getElem?_append_left (by rw [hf]; exact hj)]
  | y :: r, i + 1, j, x, h, hj => by
    rw [List.flatMap_cons, List.getElem?_append_right (by rw [hf, Nat.add_mul]; omega), hf]
    have := flat_get hf r i j x (by simpa using h) hj
    rw [← this]; congr 1
    rw [Nat.add_mul]; omega
theorem flat_set (hf : ∀ x, (f x).length = s) : ∀ (L : List α) (i j : Nat) (x x' : α) (u : β), L[i]? = some x → j < s → f x' = (f x).set j u → (L.flatMap f).set (i * s + j) u = (L.set i x').flatMap f
  | [], i, j, x, x', u, h, _, _ => by simp at h
  | y :: r, 0, j, x, x', u, h, hj, he => by
    simp at h; subst h
    rw [List.flatMap_cons, Nat.zero_mul, Nat.zero_add, List.set_append_left _ _ (by rw [hf]; exact hj), List.set_cons_zero, List.flatMap_cons, he]
  | y :: r, i + 1, j, x, x', u, h, hj, he => by
    rw [List.flatMap_cons, List.set_append_right _ _ (by rw [hf, Nat.add_mul]; omega), hf, List.set_cons_succ, List.flatMap_cons]
    have := flat_set hf r i j x x' u (by simpa using h) hj he
    rw [← this]; congr 2
    rw [Nat.add_mul]; omega
end
/-! ### changes -/
def rch : Chg × Value → List Value
  | (.wr i _, v) => [.bool false, .int .i64 i, .int .i64 0, v]
  | (.cut n, _) => [.bool true, .int .i64 0, .int .i64 n, .slice none 0 0]
theorem rch_len (p : Chg × Value) : (rch p).length = 4 := by
  obtain ⟨y, v⟩ := p; cases y <;> rfl
def RCh (w : World) (c : Col) : Chg × Value → Prop
  | (.wr _ b, v) => Sc w c (0, 0) v (b.map bv)
  | (.cut _, _) => True
theorem RCh.kp {p : Chg × Value} (h : RCh w c p) (hk : Kp c S w w') (h0 : ¬ S (0, 0)) (hc : Cx w c c') : RCh w' c' p := by
  obtain ⟨y, v⟩ := p
  cases y with
  | wr i b => exact Sc.kp (q := (0, 0)) h hk h0 hc
  | cut n => trivial
theorem rch_cells {p : Chg × Value} (h : RCh w c p) : ∃ (cu : Bool) (ci cl : Int) (a : Option Addr) (n k : Nat), rch p = [.bool cu, .int .i64 ci, .int .i64 cl, .slice a n k] := by
  obtain ⟨y, v⟩ := p
  cases y with
  | wr i b => obtain ⟨_, _, rfl, _⟩ := h; exact ⟨_, _, _, _, _, _, rfl⟩
  | cut n => exact ⟨_, _, _, _, _, _, rfl⟩
theorem apply_c (p : Chg × Value) (u0 u1 u2 u3 : Value) (hp : rch p = [u0, u1, u2, u3]) (v : Value) (l : List UInt8) (w : World) {c₂ : Col} {q' : Nat × Nat} (hb : RCh w c p) (h : Sc w c₂ q' v (l.map bv)) (hl : l.length ≤ maxFile) (hok : p.1.ok) :
    Calls Tryz.prog 135 #[v, .agg #[u0, u1, u2, u3]] w fun e w' => ∃ v', e = .returned v' ∧ w'.ownsRow w.heap.size 5 1 v' (p.1.app l).length ((p.1.app l).map bv) ∧ Below w.heap.size w w' := by
  obtain ⟨y, vb⟩ := p
  cases y with
  | wr i b =>
    simp only [rch, List.cons.injEq, and_true] at hp
    obtain ⟨rfl, rfl, rfl, rfl⟩ := hp
    exact apply_wr i vb v b l w hb h hl hok
  | cut n =>
    simp only [rch, List.cons.injEq, and_true] at hp
    obtain ⟨rfl, rfl, rfl, rfl⟩ := hp
    exact apply_cut n v l w h hl hok
structure RChs (w : World) (c : Col) (k : Nat) (v : Value) (L : List (Chg × Value)) : Prop where
  own : w.ownsRow 0 152 4 v L.length (L.flatMap rch)
  data : ∀ p ∈ L, RCh w c p
  col : ∀ g, v.ownBlock = some g → c g = (k, g + 2)
theorem RChs.kp {k : Nat} {v : Value} {L : List (Chg × Value)} (h : RChs w c k v L) (hk : Kp c S w w') (h0 : ¬ S (0, 0)) (hs : ∀ g, v.ownBlock = some g → ¬ S (k, g + 2)) (hc : Cx w c c') : RChs w' c' k v L := by
  refine ⟨?_, fun p hp => (h.data p hp).kp hk h0 hc, fun g hg => (hc g (ownBlock_lt h.own g hg)).trans (h.col g hg)⟩
  obtain ⟨h1, h2⟩ := h.own
  refine ⟨h1, ?_⟩
  rcases h2 with h2 | ⟨g, cap, cur, rfl, hg, hh, r⟩
  · exact .inl h2
  · exact .inr ⟨g, cap, cur, rfl, hg, hk.heap hh (by rw [h.col g rfl]; exact hs g rfl), r⟩
/-! ### files -/
structure RFl where
  n : Nm
  f : AFile
  vs : Value
  vc : Value
  L : List (Chg × Value)
def rfc (x : RFl) : List Value := [str x.n, x.vs, x.vc]
theorem rfc_len (x : RFl) : (rfc x).length = 3 := rfl
structure RF (w : World) (c : Col) (k : Nat) (x : RFl) : Prop where
  safe : Sc w c (0, 0) x.vs (x.f.safe.map bv)
  fst : x.L.map (·.1) = x.f.chs
  chs : RChs w c k x.vc x.L
  fold : folded x.f
theorem RF.kp {k : Nat} {x : RFl} (h : RF w c k x) (hk : Kp c S w w') (h0 : ¬ S (0, 0)) (hs : ∀ g, x.vc.ownBlock = some g → ¬ S (k, g + 2)) (hc : Cx w c c') : RF w' c' k x :=
  ⟨h.safe.kp hk h0 hc, h.fst, h.chs.kp hk h0 hs hc, h.fold⟩
def rdCells (m : ADisk) (vk vf vu vF : Value) : Array Value :=
  #[.int .i64 m.plan.crash, vk, vf, vu, .int .i64 m.plan.room, vF, .int .i64 m.ops, .bool m.dead]
/-- Files as they lie: the row, what its rows mean. -/
structure RFs (w : World) (c : Col) (k : Nat) (vF : Value) (F : List RFl) : Prop where
  own : w.ownsRow 0 148 3 vF F.length (F.flatMap rfc)
  col : ∀ g, vF.ownBlock = some g → c g = (k, 1)
  each : ∀ x ∈ F, RF w c k x
  apart : F.Pairwise fun x y => ∀ g, x.vc.ownBlock = some g → y.vc.ownBlock ≠ some g
theorem RFs.kp {k : Nat} {vF : Value} {F : List RFl} (h : RFs w c k vF F) (hk : Kp c S w w') (hS : ∀ q, S q → (q = (k, 0) ∨ q.1 ≠ k) ∧ q ≠ (0, 0)) (hc : Cx w c c') : RFs w' c' k vF F := by
  refine ⟨?_, fun g hg => (hc g (ownBlock_lt h.own g hg)).trans (h.col g hg), fun x hx => (h.each x hx).kp hk (fun hs => (hS _ hs).2 rfl) (fun g _ hs => (hS _ hs).1.elim (fun e => by simp at e) (fun e => e rfl)) hc, h.apart⟩
  obtain ⟨h1, h2⟩ := h.own
  refine ⟨h1, ?_⟩
  rcases h2 with h2 | ⟨g, cap, cur, rfl, hg, hh, r⟩
  · exact .inl h2
  · exact .inr ⟨g, cap, cur, rfl, hg, hk.heap hh (by rw [h.col g rfl]; exact fun hs => (hS _ hs).1.elim (fun e => by simp at e) (fun e => e rfl)), r⟩
structure RD' (w : World) (c : Col) (k r : Nat) (m : ADisk) (vk vf vu vF : Value) (F : List RFl) : Prop where
  ok : m.ok
  heap : w.heap[r]? = some (.cells (rdCells m vk vf vu vF) 60 (0, 0))
  col : c r = (k, 0)
  plan : PlanAt w c vk vf vu m.plan
  names : F.map (fun x => (x.n, x.f)) = m.files
  files : RFs w c k vF F
def RD (w : World) (c : Col) (k r : Nat) (m : ADisk) : Prop := ∃ vk vf vu vF F, RD' w c k r m vk vf vu vF F
theorem RD'.kp {k r : Nat} {m : ADisk} {vk vf vu vF : Value} {F : List RFl} (h : RD' w c k r m vk vf vu vF F) (hk : Kp c S w w') (hS : ∀ q, S q → q.1 ≠ k ∧ q ≠ (0, 0)) (hc : Cx w c c') : RD' w' c' k r m vk vf vu vF F :=
  ⟨h.ok, hk.heap h.heap (fun hs => (hS _ hs).1 (by rw [h.col])), (hc _ (lt_of_heap h.heap)).trans h.col, h.plan.kp hk (fun hs => (hS _ hs).2 rfl) hc, h.names, h.files.kp hk (fun q hq => ⟨.inr (hS q hq).1, (hS q hq).2⟩) hc⟩
theorem RD.kp {k r : Nat} {m : ADisk} (h : RD w c k r m) (hk : Kp c S w w') (hS : ∀ q, S q → q.1 ≠ k ∧ q ≠ (0, 0)) (hc : Cx w c c') : RD w' c' k r m := by
  obtain ⟨vk, vf, vu, vF, F, h⟩ := h
  exact ⟨vk, vf, vu, vF, F, h.kp hk hS hc⟩
/-- An element's cells. -/
theorem RFs.cells {k : Nat} {vF : Value} {F : List RFl} (h : RFs w c k vF F) {i : Nat} {x : RFl} (hx : F[i]? = some x) :
    ∃ g cap, vF = .slice (some ⟨g, 0, none⟩) F.length cap ∧ F.length ≤ cap ∧ cap ≤ maxLen ∧ c g = (k, 1) ∧ w.cell? ⟨g, i * 3, none⟩ = some (str x.n) ∧ w.cell? ⟨g, i * 3 + 1, none⟩ = some x.vs ∧ w.cell? ⟨g, i * 3 + 2, none⟩ = some x.vc ∧ ∀ j, w.frozen? ⟨g, j, none⟩ = false := by
  have hlt : i < F.length := (List.getElem?_eq_some_iff.1 hx).1
  rcases h.own.2 with ⟨_, h0⟩ | ⟨g, cap, cur, hv, _, hh, hn, hm, _⟩
  · omega
  · subst hv
    exact ⟨g, cap, rfl, hn, hm, h.col g rfl, owns_cell h.own (k := i * 3) (flat_get rfc_len F i 0 x hx (by omega)), owns_cell h.own (flat_get rfc_len F i 1 x hx (by omega)), owns_cell h.own (flat_get rfc_len F i 2 x hx (by omega)), fun j => unfrozen_of_heap hh j⟩
theorem RFs.shape {k : Nat} {vF : Value} {F : List RFl} (h : RFs w c k vF F) : ∃ a cap, vF = .slice a F.length cap := own_shape h.own
theorem RF.slices {k : Nat} {x : RFl} (h : RF w c k x) : x.vs.oneCell' = true ∧ x.vc.oneCell' = true := by
  obtain ⟨_, _, e, _⟩ := h.safe
  obtain ⟨_, _, e2⟩ := own_shape h.chs.own
  rw [e, e2]; exact ⟨rfl, rfl⟩
theorem fold_len : ∀ (a : List Chg) (l : List UInt8), l.length ≤ maxFile → (∀ y ∈ a, y.ok) → (a.foldl (fun l y => y.app l) l).length ≤ maxFile
  | [], _, hl, _ => hl
  | y :: r, _, hl, h => fold_len r _ (app_ok (h y (List.mem_cons_self ..)) hl) fun z hz => h z (List.mem_cons_of_mem _ hz)
end Go.Proofs.YtnifmoigalmcmaaGreat
/- File.Data of the document: what is safe, with all changes done. -/
namespace Go.Proofs.YtnifmoigalmcmaaGreat
open Go Go.RowKit Go.MapKept Go.Maps
open Dk
variable {c c' : Col} {S : Nat × Nat → Prop} {w w' : World} {q : Nat × Nat}
def fup (x : RFl) (k : Nat) : List UInt8 := (x.f.chs.take k).foldl (fun l y => y.app l) x.f.safe
theorem fup_len {x : RFl} (h : ∀ y ∈ x.f.chs, y.ok) (hs : x.f.safe.length ≤ maxFile) (k : Nat) : (fup x k).length ≤ maxFile := fold_len _ _ hs fun y hy => h y (List.mem_of_mem_take hy)
theorem fup_succ {x : RFl} {k : Nat} {y : Chg} (h : x.f.chs[k]? = some y) : fup x (k + 1) = y.app (fup x k) := by
  unfold fup; rw [List.take_add_one, h]; simp
/-- The bytes so far, in memory that is the call's own. -/
def RDInv (W : World) (x : RFl) (v : Value) (k : Nat) (wr : World) : Prop :=
  wr.ownsRow W.heap.size 5 1 v (fup x k).length ((fup x k).map bv) ∧ Below W.heap.size W wr
theorem RChs.cells {k : Nat} {v : Value} {L : List (Chg × Value)} (h : RChs w c k v L) {i : Nat} {p : Chg × Value} (hp : L[i]? = some p) :
    ∃ (g cap : Nat) (cu : Bool) (ci cl : Int) (ad : Option Addr) (dn dk : Nat), v = .slice (some ⟨g, 0, none⟩) L.length cap ∧ rch p = [.bool cu, .int .i64 ci, .int .i64 cl, .slice ad dn dk] ∧
      w.cell? ⟨g, i * 4, none⟩ = some (.bool cu) ∧ w.cell? ⟨g, i * 4 + 1, none⟩ = some (.int .i64 ci) ∧ w.cell? ⟨g, i * 4 + 2, none⟩ = some (.int .i64 cl) ∧ w.cell? ⟨g, i * 4 + 3, none⟩ = some (.slice ad dn dk) := by
  have hlt : i < L.length := (List.getElem?_eq_some_iff.1 hp).1
  obtain ⟨u0, u1, u2, ad, dn, dk, he⟩ := rch_cells (h.data p (List.mem_of_getElem? hp))
  obtain ⟨g, cap, rfl, _⟩ := own_pos h.own (by omega)
  refine ⟨g, cap, u0, u1, u2, ad, dn, dk, rfl, he, owns_cell h.own (k := i * 4) ?_, owns_cell h.own ?_, owns_cell h.own ?_, owns_cell h.own ?_⟩
  · rw [← Nat.add_zero (i * 4), flat_get rch_len L i 0 p hp (by omega), he]; rfl
  · rw [flat_get rch_len L i 1 p hp (by omega), he]; rfl
  · rw [flat_get rch_len L i 2 p hp (by omega), he]; rfl
  · rw [flat_get rch_len L i 3 p hp (by omega), he]; rfl
theorem data_c (k : Nat) (x : RFl) (w : World) (hx : RF w c k x) {K : Nat} (hok : x.f.ok K) (hK : K ≤ 1000000) (hn : x.n.length ≤ 32) :
    Calls Tryz.prog 78 #[.agg #[.string ⟨x.n.toArray⟩, x.vs, x.vc]] w fun e w' => ∃ v', e = .returned v' ∧ w'.ownsRow w.heap.size 5 1 v' x.f.now.length (x.f.now.map bv) ∧ Below w.heap.size w w' := by
  obtain ⟨o1, o2⟩ := hx.slices
  obtain ⟨ac, cc, hvc⟩ := own_shape hx.chs.own
  have hfl : x.L.length = x.f.chs.length := by rw [← hx.fst, List.length_map]
  rw [hfl] at hvc
  obtain ⟨x, f, vs, vc, L⟩ := x
  simp only at *
  subst hvc
  have HM := hok.many
  have hmany : (f.chs.length : Int) ≤ 1000000 := by omega
  clear HM
  obtain ⟨W, hW⟩ : ∃ W, W = w.alloc (.cells #[.string ⟨x.toArray⟩, vs, .slice ac f.chs.length cc] 148) := ⟨_, rfl⟩
  have KW : Hid (∀ S, Kp c S w W) := by intro S; rw [hW]; exact (Kp.refl c S w).alloc _
  have BW : Hid (Below w.heap.size w W) := by rw [hW]; exact (Below.refl _ w).alloc (Nat.le_refl _) _
  have HWs : Hid (W.heap.size = w.heap.size + 1) := by rw [hW]; simp [Hid]
  have HP : Hid (W.heap[w.heap.size]? = some (.cells #[.string ⟨x.toArray⟩, vs, .slice ac f.chs.length cc] 148 (0, 0))) := by rw [hW]; exact heap_alloc_new _ _
  have HX : Hid (RF W c k ⟨x, f, vs, .slice ac f.chs.length cc, L⟩) := hx.kp (KW.out S2F) (fun h => h) (fun _ _ h => h) (Cx.refl _ _)
  have p0 := cell_of_heap HP.out 0
  have p1 := cell_of_heap HP.out 1
  have p2 := cell_of_heap HP.out 2
  have HOK := Lib.hid hok; clear hok
  have HN := Lib.hid hn; clear hn
  have HFL := Lib.hid hfl; clear hfl
  have HW := Lib.hid hW; clear hW
  have HL : Hid (f.safe.length ≤ lim) := lim_file HOK.out.safe
  clear hx
  go_enter Tryz.func78, Tryz.ntmps78
  go_wp2_with (go_at_call 80; rw [← HW.out]; refine (rtwinc _ f.safe HX.out.safe HL.out).mono ?_; rintro e w1 ⟨v1, rfl, hown1, hb1⟩; have HO1 := Lib.hid hown1; have HB1 := Lib.hid hb1; clear hown1 hb1; have HP1 := Lib.hid ((HB1.out.block w.heap.size (by rw [HWs.out]; omega)).trans HP.out); clear p0 p1 p2; have p0 := cell_of_heap HP1.out 0; have p1 := cell_of_heap HP1.out 1; have p2 := cell_of_heap HP1.out 2)
  clear p0 p1 p2
  go_loopw [3, 12] (fun v s wr => ∃ j : Nat, j ≤ f.chs.length ∧ s = .int .i64 j ∧ RDInv W ⟨x, f, vs, .slice ac f.chs.length cc, L⟩ v j wr) (fun _ s _ => f.chs.length - (intOf s).toNat)
  case atStart => exact ⟨0, Nat.zero_le _, rfl, HO1.out, HB1.out⟩
  case round =>
    obtain ⟨j, hj, rfl, hown, hbl⟩ := hrel
    obtain ⟨a1, k1, rfl⟩ := own_shape hown
    have HO := Lib.hid hown; clear hown
    have HBl := Lib.hid hbl; clear hbl
    by_cases hlt : j < f.chs.length
    · have hXr : RF wr c k ⟨x, f, vs, .slice ac f.chs.length cc, L⟩ := HX.out.kp (Kp.of_below (S := S2F) HBl.out) (fun h => h) (fun _ _ h => h) (Cx.refl _ _)
      have hp : L[j]? = some (L[j]'(by have := HFL.out; omega)) := List.getElem?_eq_getElem _
      obtain ⟨p, hp⟩ : ∃ p, L[j]? = some p := ⟨_, hp⟩
      obtain ⟨g, cap, cu, ci, cl, ad, dn, dk, e, he, c0, c1, c2, c3⟩ := hXr.chs.cells hp
      simp only at e
      rw [HFL.out] at e
      injection e with e1 _ e2
      subst e1 e2
      have hy : f.chs[j]? = some p.1 := by have := hXr.fst; simp only at this; rw [← this, List.getElem?_map, hp]; rfl
      have HXr := Lib.hid hXr; clear hXr
      have HPp := Lib.hid hp; clear hp
      have HE := Lib.hid he; clear he
      have HY := Lib.hid hy; clear hy
      have hgl : g < wr.heap.size := World.block_lt_of_cell? _ _ c0
      go_wp2_with (go_at_call 135; refine (apply_c p _ _ _ _ HE.out _ (fup ⟨x, f, vs, .slice (some ⟨g, 0, none⟩) f.chs.length cc, L⟩ j) _ ((HXr.out.chs.data p (List.mem_of_getElem? HPp.out)).kp ((Kp.refl c S2F wr).alloc _) (fun h => h) (Cx.refl _ _)) (Sc.of_owns (c := fun _ => (0, 0)) (q := (0, 0)) (owns_alloc HO.out _) (fun _ _ => rfl)) (fup_len HOK.out.chs HOK.out.safe j) (HOK.out.chs _ (List.mem_of_getElem? HY.out))).mono ?_; rintro e w2 ⟨v2, rfl, hown2, hb2⟩; have HO2 := Lib.hid hown2; have HB2 := Lib.hid hb2; clear hown2 hb2)
      go_roundw
      case rel =>
        refine ⟨j + 1, by omega, by go_num, ?_, (HBl.out.alloc (by have := HBl.out.size; omega) _).trans (HB2.out.mono (by have := HBl.out.size; simp; omega))⟩
        rw [fup_succ HY.out]
        exact own_below HO2.out (by have := HBl.out.size; simp; omega)
      case measure => simp [intOf]; omega
    · obtain rfl : j = f.chs.length := by omega
      go_wp2
      go_ret
      have hf : f.now = fup ⟨x, f, vs, .slice ac f.chs.length cc, L⟩ f.chs.length := by
        unfold fup; rw [List.take_length]; exact HX.out.fold
      refine ⟨_, rfl, ?_, BW.out.trans (HBl.out.mono (by rw [HWs.out]; omega))⟩
      rw [hf]
      exact own_below HO.out (by rw [HWs.out]; omega)
end Go.Proofs.YtnifmoigalmcmaaGreat
/- The document's disk: find. -/
namespace Go.Proofs.YtnifmoigalmcmaaGreat
open Go Go.RowKit Go.MapKept Go.Maps
open Dk
variable {c c' : Col} {S : Nat × Nat → Prop} {w w' : World} {q : Nat × Nat}
section
variable {k r : Nat} {m : ADisk} {vk vf vu vF : Value} {F : List RFl} (D : RD' w c k r m vk vf vu vF F)
include D
theorem RD'.c0 : w.cell? ⟨r, 0, none⟩ = some (.int .i64 m.plan.crash) := cell_of_heap D.heap 0
theorem RD'.c1 : w.cell? ⟨r, 1, none⟩ = some vk := cell_of_heap D.heap 1
theorem RD'.c2 : w.cell? ⟨r, 2, none⟩ = some vf := cell_of_heap D.heap 2
theorem RD'.c3 : w.cell? ⟨r, 3, none⟩ = some vu := cell_of_heap D.heap 3
theorem RD'.c4 : w.cell? ⟨r, 4, none⟩ = some (.int .i64 m.plan.room) := cell_of_heap D.heap 4
theorem RD'.c5 : w.cell? ⟨r, 5, none⟩ = some vF := cell_of_heap D.heap 5
theorem RD'.c6 : w.cell? ⟨r, 6, none⟩ = some (.int .i64 m.ops) := cell_of_heap D.heap 6
theorem RD'.c7 : w.cell? ⟨r, 7, none⟩ = some (.bool m.dead) := cell_of_heap D.heap 7
theorem RD'.fz (i : Nat) : w.frozen? ⟨r, i, none⟩ = false := unfrozen_of_heap D.heap i
theorem RD'.lt : r < w.heap.size := lt_of_heap D.heap
theorem RD'.len : F.length ≤ 4096 := by have := D.ok.many; rw [← D.names, List.length_map] at this; exact this
theorem RD'.mem {x : RFl} (h : x ∈ F) : (x.n, x.f) ∈ m.files := by rw [← D.names]; exact List.mem_map.2 ⟨x, h, rfl⟩
theorem RD'.fok {x : RFl} (h : x ∈ F) : x.f.ok m.ops.toNat := D.ok.files _ (D.mem h)
theorem RD'.nok {x : RFl} (h : x ∈ F) : x.n.length ≤ 32 := D.ok.names _ (D.mem h)
theorem RD'.got {x : RFl} (h : x ∈ F) : get m.files x.n = some x.f := get_of_mem D.ok.rising (D.mem h)
theorem RD'.none_of {n : Nm} (h : ∀ x ∈ F, x.n ≠ n) : get m.files n = none := by
  cases hg : get m.files n with
  | none => rfl
  | some f =>
    have := get_mem hg
    rw [← D.names] at this
    obtain ⟨x, hx, e⟩ := List.mem_map.1 this
    exact absurd (congrArg Prod.fst e) (h x hx)
end
/-- What find answers: a place, or a number below none. -/
def FindPost (m : ADisk) (F : List RFl) (n : Nm) (w : World) (e : Ending) (w' : World) : Prop :=
  w' = w ∧ ((e = .returned (.int .i64 (-1)) ∧ get m.files n = none) ∨ ∃ (i : Nat) (x : RFl), e = .returned (.int .i64 i) ∧ F[i]? = some x ∧ x.n = n ∧ get m.files n = some x.f)
theorem find_c (k r : Nat) (m : ADisk) (vk vf vu vF : Value) (F : List RFl) (w : World) (D : RD' w c k r m vk vf vu vF F) (n : Nm) :
    Calls Tryz.prog 77 #[ptr r, .string ⟨n.toArray⟩] w (FindPost m F n w) := by
  have hc5 := D.c5
  have hlen := D.len
  have HD := Lib.hid D
  obtain ⟨af, kf, e⟩ := D.files.shape
  rw [e] at hc5
  clear D
  unfold ptr
  have hlen' : (F.length : Int) ≤ 4096 := by omega
  go_enter Tryz.func77, Tryz.ntmps77
  go_wp2
  go_loop [11] (fun s => ∃ j : Nat, j ≤ F.length ∧ s = .int .i64 j ∧ ∀ x ∈ F.take j, x.n ≠ n) (fun s => F.length - (intOf s).toNat)
  case atStart => exact ⟨0, Nat.zero_le _, rfl, by simp⟩
  case round =>
    obtain ⟨j, hj, rfl, hno⟩ := hrel
    have HN := Lib.hid hno; clear hno
    by_cases hlt : j < F.length
    · obtain ⟨x, hx⟩ : ∃ x, F[j]? = some x := ⟨F[j], List.getElem?_eq_getElem hlt⟩
      obtain ⟨g, cap, e2, hlc, hcm, -, f0, -, -, -⟩ := HD.out.files.cells hx
      rw [e] at e2
      injection e2 with e3 _ e4
      subst e3 e4
      have HX := Lib.hid hx; clear hx
      have HE := Lib.hid e; clear e
      clear hlc hcm
      unfold str at f0
      by_cases hn : x.n = n
      · have hb : (x.n == n) = true := by rw [hn]; simp
        have HNN := Lib.hid hn; clear hn
        go_wp2
        go_ret
        exact ⟨rfl, .inr ⟨j, x, rfl, HX.out, HNN.out, by rw [← HNN.out]; exact HD.out.got (List.mem_of_getElem? HX.out)⟩⟩
      · have hb : (x.n == n) = false := by simpa using hn
        have HNN := Lib.hid hn; clear hn
        go_wp2
        go_round
        case rel =>
          refine ⟨j + 1, by omega, by go_num, fun y hy => ?_⟩
          rw [List.take_add_one, HX.out] at hy
          rcases List.mem_append.1 hy with hy | hy
          · exact HN.out y hy
          · simp at hy; subst hy; exact HNN.out
        case measure => simp [intOf]; omega
    · obtain rfl : j = F.length := by omega
      go_wp2
      go_ret
      refine ⟨rfl, .inl ⟨rfl, HD.out.none_of ?_⟩⟩
      have := HN.out
      rwa [List.take_length] at this
end Go.Proofs.YtnifmoigalmcmaaGreat
/- One file of the document's disk turned: the others as they were. -/
namespace Go.Proofs.YtnifmoigalmcmaaGreat
open Go Go.RowKit Go.MapKept Go.Maps
open Dk
variable {c c' : Col} {S : Nat × Nat → Prop} {w w' : World} {q : Nat × Nat}
theorem RFs.apart' {k : Nat} {vF : Value} {F : List RFl} (h : RFs w c k vF F) {i j : Nat} {x y : RFl} (hi : F[i]? = some x) (hj : F[j]? = some y) (hne : i ≠ j) : ∀ g, x.vc.ownBlock = some g → y.vc.ownBlock ≠ some g := by
  intro g hx hy
  have hp := List.pairwise_iff_getElem.1 h.apart
  obtain ⟨h1, e1⟩ := List.getElem?_eq_some_iff.1 hi
  obtain ⟨h2, e2⟩ := List.getElem?_eq_some_iff.1 hj
  rcases Nat.lt_or_gt_of_ne hne with hlt | hlt
  · have := hp i j h1 h2 hlt g; rw [e1, e2] at this; exact this hx hy
  · have := hp j i h2 h1 hlt g; rw [e1, e2] at this; exact this hy hx
theorem RFs.put1 {k : Nat} {vF : Value} {F : List RFl} {i : Nat} {x x' : RFl} (h : RFs w c k vF F) (hx : F[i]? = some x) (hk : Kp c S w w')
    (hS : ∀ q, S q → q = (k, 1) ∨ (∃ g, x.vc.ownBlock = some g ∧ q = (k, g + 2)) ∨ q.1 ≠ k) (h0 : ¬ S (0, 0)) (hc : Cx w c c')
    (hown : w'.ownsRow 0 148 3 vF F.length ((F.set i x').flatMap rfc)) (hx' : RF w' c' k x') (hap : ∀ g, x'.vc.ownBlock = some g → x.vc.ownBlock = some g ∨ w.heap.size ≤ g) : RFs w' c' k vF (F.set i x') := by
  have hlt : i < F.length := (List.getElem?_eq_some_iff.1 hx).1
  have hoth : ∀ j y, j ≠ i → F[j]? = some y → ∀ g, x'.vc.ownBlock = some g → y.vc.ownBlock ≠ some g := by
    intro j y hj hy g hg hyg
    rcases hap g hg with h1 | h1
    · exact h.apart' hx hy hj.symm g h1 hyg
    · have := ownBlock_lt (h.each y (List.mem_of_getElem? hy)).chs.own g hyg; omega
  refine ⟨by rw [List.length_set]; exact hown, fun g hg => (hc g (ownBlock_lt h.own g hg)).trans (h.col g hg), fun y hy => ?_, ?_⟩
  · obtain ⟨j, hj⟩ := List.mem_iff_getElem?.1 hy
    rw [List.getElem?_set] at hj
    split at hj
    · cases hj; exact hx'
    · rename_i hne
      refine (h.each y (List.mem_of_getElem? hj)).kp hk h0 (fun g hg hs => ?_) hc
      rcases hS _ hs with e | ⟨g', hg', e⟩ | e
      · simp at e
      · simp at e; subst e
        exact h.apart' hx hj hne g hg' hg
      · exact e rfl
  · rw [List.pairwise_iff_getElem]
    intro a b ha hb hab g hg
    rw [List.length_set] at ha hb
    rw [List.getElem_set] at hg ⊢
    by_cases e1 : i = a
    · subst e1
      rw [if_pos rfl] at hg
      rw [if_neg (by omega)]
      exact hoth b _ (by omega) (List.getElem?_eq_getElem hb) g hg
    · rw [if_neg e1] at hg
      by_cases e2 : i = b
      · subst e2
        rw [if_pos rfl]
        intro hg2
        exact hoth a _ (by omega) (List.getElem?_eq_getElem ha) g hg2 hg
      · rw [if_neg e2]
        exact h.apart' (List.getElem?_eq_getElem ha) (List.getElem?_eq_getElem hb) (by omega) g hg
/-- Two cells of an element stored. -/
theorem RFs.set2 {g cap : Nat} {F : List RFl} {i : Nat} {x x' : RFl} (hown : w.ownsRow 0 148 3 (.slice (some ⟨g, 0, none⟩) F.length cap) F.length (F.flatMap rfc)) (hx : F[i]? = some x) (hn : x'.n = x.n) :
    ((w.setCell ⟨g, i * 3 + 1, none⟩ x'.vs).setCell ⟨g, i * 3 + 2, none⟩ x'.vc).ownsRow 0 148 3 (.slice (some ⟨g, 0, none⟩) F.length cap) F.length ((F.set i x').flatMap rfc) := by
  have h1 := owns_set hown (i * 3 + 1) x'.vs
  rw [flat_set rfc_len F i 1 x ⟨x.n, x.f, x'.vs, x.vc, x.L⟩ x'.vs hx (by omega) rfl] at h1
  have hlt : i < F.length := (List.getElem?_eq_some_iff.1 hx).1
  have h2 := owns_set h1 (i * 3 + 2) x'.vc
  rw [flat_set rfc_len _ i 2 ⟨x.n, x.f, x'.vs, x.vc, x.L⟩ x' x'.vc (by simp [hlt]) (by omega) (by simp [rfc, hn]), List.set_set] at h2
  exact h2
theorem RFs.set1 {g cap : Nat} {F : List RFl} {i : Nat} {x x' : RFl} (hown : w.ownsRow 0 148 3 (.slice (some ⟨g, 0, none⟩) F.length cap) F.length (F.flatMap rfc)) (hx : F[i]? = some x) (hn : x'.n = x.n) (hs : x'.vs = x.vs) :
    (w.setCell ⟨g, i * 3 + 2, none⟩ x'.vc).ownsRow 0 148 3 (.slice (some ⟨g, 0, none⟩) F.length cap) F.length ((F.set i x').flatMap rfc) := by
  have h2 := owns_set hown (i * 3 + 2) x'.vc
  rw [flat_set rfc_len _ i 2 x x' x'.vc hx (by omega) (by simp [rfc, hn, hs])] at h2
  exact h2
/-! ### Die -/
theorem nP1 {k : Nat} : ¬ ((0, 0) : Nat × Nat) = (k, 1) := by simp
structure DOut (w : World) (c : Col) (k : Nat) (p : APlan) (fs : List (Nm × AFile)) (vF : Value) (F : List RFl) (i : Nat) (wr : World) : Prop where
  ex : ∃ ci Fi, Cx w c ci ∧ RFs wr ci k vF Fi ∧ Fi.length = F.length ∧ Fi.drop i = F.drop i ∧ Fi.map (fun x => (x.n, x.f)) = dieAll p 0 (fs.take i) ++ fs.drop i
  kp : Kp c (fun q => q = (k, 1)) w wr
/-- What survives so far of one file, in memory that is the call's own. -/
structure DInn (W : World) (p : APlan) (N0 : Nat) (f : AFile) (v : Value) (j : Nat) (wr : World) : Prop where
  own : wr.ownsRow W.heap.size 5 1 v (dieFile p N0 f.safe (f.chs.take j)).length ((dieFile p N0 f.safe (f.chs.take j)).map bv)
  blw : Below W.heap.size W wr
theorem dieFile_step {p : APlan} {N0 j : Nat} {f : AFile} {y : Chg} (h : f.chs[j]? = some y) :
    dieFile p N0 f.safe (f.chs.take (j + 1)) = match y.surv (keepAt p (N0 + j)) with | none => dieFile p N0 f.safe (f.chs.take j) | some s => s.app (dieFile p N0 f.safe (f.chs.take j)) := by
  have hlt : j < f.chs.length := (List.getElem?_eq_some_iff.1 h).1
  rw [List.take_add_one, h]
  have := dieFile_snoc p y (f.chs.take j) N0 f.safe
  rw [show (f.chs.take j).length = j from by simp; omega] at this
  exact this
theorem DInn.same {W : World} {p : APlan} {N0 : Nat} {f : AFile} {v : Value} {j : Nat} {wr w2 : World} {y : Chg} (h : DInn W p N0 f v j wr) (hy : f.chs[j]? = some y) (hs : y.surv (keepAt p (N0 + j)) = none) (hb : Below wr.heap.size wr w2) : DInn W p N0 f v (j + 1) w2 := by
  refine ⟨?_, h.blw.trans (hb.mono h.blw.size)⟩
  rw [dieFile_step hy, hs]
  exact ownsRow_kp (c := fun _ => (0, 0)) (q := (0, 0)) (S := S2F) h.own (fun _ _ => rfl) (Kp.of_below hb) (fun h => h)
theorem DInn.more {W : World} {p : APlan} {N0 : Nat} {f : AFile} {v v2 : Value} {j : Nat} {wr w1 w2 : World} {y s : Chg} (h : DInn W p N0 f v j wr) (hy : f.chs[j]? = some y) (hs : y.surv (keepAt p (N0 + j)) = some s) (hb1 : Below wr.heap.size wr w1)
    (ho : w2.ownsRow w1.heap.size 5 1 v2 (s.app (dieFile p N0 f.safe (f.chs.take j))).length ((s.app (dieFile p N0 f.safe (f.chs.take j))).map bv)) (hb : Below w1.heap.size w1 w2) : DInn W p N0 f v2 (j + 1) w2 := by
  have h1 := h.blw.size
  have h2 := hb1.size
  refine ⟨?_, (h.blw.trans (hb1.mono h1)).trans (hb.mono (by omega))⟩
  rw [dieFile_step hy, hs]
  exact own_below ho (by omega)
theorem DInn.sc {W : World} {p : APlan} {N0 : Nat} {f : AFile} {v : Value} {j : Nat} {wr w2 : World} (h : DInn W p N0 f v j wr) (hb : Below wr.heap.size wr w2) : Sc w2 (fun _ => (0, 0)) (0, 0) v ((dieFile p N0 f.safe (f.chs.take j)).map bv) :=
  Sc.of_owns (ownsRow_kp (c := fun _ => (0, 0)) (q := (0, 0)) (S := S2F) h.own (fun _ _ => rfl) (Kp.of_below hb) (fun h => h)) (fun _ _ => rfl)
theorem die_map {fs : List (Nm × AFile)} {p : APlan} {i : Nat} {x : Nm × AFile} (hx : fs[i]? = some x) {b : List UInt8} (hb : b = dieFile p (cnt (fs.take i)) x.2.safe x.2.chs) :
    (dieAll p 0 (fs.take i) ++ fs.drop i).set i (x.1, ⟨b, [], b⟩) = dieAll p 0 (fs.take (i + 1)) ++ fs.drop (i + 1) := by
  have hlt : i < fs.length := (List.getElem?_eq_some_iff.1 hx).1
  have e1 : fs.drop i = x :: fs.drop (i + 1) := by
    have := List.drop_eq_getElem_cons hlt
    rw [(List.getElem?_eq_some_iff.1 hx).2] at this
    exact this
  have e2 : (dieAll p 0 (fs.take i)).length = i := by rw [dieAll_length]; simp; omega
  rw [List.set_append_right _ _ (by omega), e2, e1, Nat.sub_self, List.set_cons_zero, List.take_add_one, hx, dieAll_append]
  simp only [Option.toList_some, dieAll, Nat.zero_add, List.append_assoc, List.singleton_append, ← hb]
theorem DOut.next {k i g kf : Nat} {p : APlan} {fs : List (Nm × AFile)} {vF v : Value} {F : List RFl} {W wr : World} {x : RFl} (I : DOut w c k p fs vF F i W) (hF : F.map (fun x => (x.n, x.f)) = fs) (hx : F[i]? = some x)
    (he : vF = .slice (some ⟨g, 0, none⟩) F.length kf) (J : DInn W p (cnt (fs.take i)) x.f v x.f.chs.length wr) :
    DOut w c k p fs vF F (i + 1) ((wr.setCell ⟨g, i * 3 + 1, none⟩ v).setCell ⟨g, i * 3 + 2, none⟩ (.slice none 0 0)) := by
  obtain ⟨ci, Fi, hci, hfs, hfl, hdr, hfm⟩ := I.ex
  have hxi : Fi[i]? = some x := by
    have h1 : (Fi.drop i)[0]? = some x := by rw [hdr, List.getElem?_drop]; exact hx
    rw [List.getElem?_drop] at h1; exact h1
  obtain ⟨b, hb⟩ : ∃ b, b = dieFile p (cnt (fs.take i)) x.f.safe x.f.chs := ⟨_, rfl⟩
  obtain ⟨x', hx'⟩ : ∃ x' : RFl, x' = ⟨x.n, ⟨b, [], b⟩, v, .slice none 0 0, []⟩ := ⟨_, rfl⟩
  obtain ⟨ci', hci'⟩ : ∃ ci' : Col, ci' = fun b => if b < W.heap.size then ci b else (0, 0) := ⟨_, rfl⟩
  have hcx : Cx W ci ci' := by intro b hb; rw [hci']; exact if_pos hb
  have hgl : g < W.heap.size := ownBlock_lt hfs.own g (by rw [he]; rfl)
  have hgc : ci g = (k, 1) := hfs.col g (by rw [he]; rfl)
  have hk2 : Kp ci (fun q => q = (k, 1)) W ((wr.setCell ⟨g, i * 3 + 1, none⟩ v).setCell ⟨g, i * 3 + 2, none⟩ (.slice none 0 0)) := ((Kp.of_below J.blw).setCell (fun _ => hgc) _).setCell (fun _ => hgc) _
  have hvo : v.ownBlock ≠ some g := fun e => by have := own_base J.own g e; omega
  have hown : ((wr.setCell ⟨g, i * 3 + 1, none⟩ v).setCell ⟨g, i * 3 + 2, none⟩ (.slice none 0 0)).ownsRow 0 148 3 vF F.length ((Fi.set i x').flatMap rfc) := by
    have h1 : wr.ownsRow 0 148 3 vF Fi.length (Fi.flatMap rfc) := ownsRow_kp (c := fun _ => (0, 0)) (q := (0, 0)) (S := S2F) hfs.own (fun _ _ => rfl) (Kp.of_below J.blw) (fun h => h)
    rw [he, ← hfl] at h1
    have h2 := RFs.set2 h1 hxi (x' := x') (by rw [hx'])
    rw [hx'] at h2
    rw [he, ← hfl, hx']; exact h2
  have hv : ((wr.setCell ⟨g, i * 3 + 1, none⟩ v).setCell ⟨g, i * 3 + 2, none⟩ (.slice none 0 0)).ownsRow W.heap.size 5 1 v b.length (b.map bv) := by
    have h1 := J.own
    rw [List.take_length, ← hb] at h1
    exact ownsRow_setCell_other (ownsRow_setCell_other h1 hvo _) hvo _
  have hrf : RF ((wr.setCell ⟨g, i * 3 + 1, none⟩ v).setCell ⟨g, i * 3 + 2, none⟩ (.slice none 0 0)) ci' k x' := by
    rw [hx']
    refine ⟨Sc.of_owns hv (fun g hg => by rw [hci']; exact if_neg (Nat.not_lt.2 (own_base hv g hg))), rfl, ⟨World.ownsRow_nil _ _ _ _, (fun p hp => by cases hp), (fun g hg => by cases hg)⟩, rfl⟩
  refine ⟨⟨ci', Fi.set i x', hci.trans hcx I.kp.size, ?_, by rw [List.length_set]; exact hfl, ?_, ?_⟩, I.kp.trans hk2 hci⟩
  · refine hfs.put1 hxi hk2 (fun q hq => .inl hq) nP1 hcx (by rw [hfl]; exact hown) hrf (fun g hg => by rw [hx'] at hg; cases hg)
  · rw [List.drop_set_of_lt (by omega)]
    have := congrArg (List.drop 1) hdr
    rw [List.drop_drop, List.drop_drop] at this
    exact this
  · rw [List.map_set, hfm, hx']
    have h3 : fs[i]? = some (x.n, x.f) := by rw [← hF, List.getElem?_map, hx]; rfl
    exact die_map h3 hb
theorem DOut.done {k r : Nat} {m : ADisk} {vk vf vu vF : Value} {F : List RFl} {W : World} (D : RD' w c k r m vk vf vu vF F) (hk0 : k ≠ 0) (I : DOut w c k m.plan m.files vF F F.length W) :
    ∃ c', Cx w c c' ∧ Kp c (fun q => q.1 = k) w (W.setCell ⟨r, 7, none⟩ (.bool true)) ∧ RD (W.setCell ⟨r, 7, none⟩ (.bool true)) c' k r (Dk.die m) := by
  obtain ⟨ci, Fi, hci, hfs, hfl, hdr, hfm⟩ := I.ex
  have hrc : ci r = (k, 0) := (hci r D.lt).trans D.col
  have hk2 : Kp ci (fun q => q = (k, 0)) W (W.setCell ⟨r, 7, none⟩ (.bool true)) := (Kp.refl _ _ _).setCell (fun _ => hrc) _
  have hn0 : ¬ ((0, 0) : Nat × Nat) = (k, 1) := nP1
  have hml : F.length = m.files.length := by rw [← D.names, List.length_map]
  refine ⟨ci, hci, (I.kp.mono fun q hq => by rw [hq]).trans (hk2.mono fun q hq => by rw [hq]) hci, vk, vf, vu, vF, Fi, die_ok D.ok, ?_, hrc, ?_, ?_, ?_⟩
  · have h1 := heap_setCell (I.kp.heap D.heap (by rw [D.col]; simp)) 7 (.bool true)
    simpa [rdCells, Dk.die] using h1
  · exact (D.plan.kp I.kp nP1 hci).kp hk2 (by simp; exact fun h => hk0 h.symm) (Cx.refl _ _)
  · rw [hfm, hml, List.take_length, List.drop_length, List.append_nil]; rfl
  · exact hfs.kp hk2 (fun q hq => ⟨.inl hq, by rw [hq]; simp; exact hk0⟩) (Cx.refl _ _)
end Go.Proofs.YtnifmoigalmcmaaGreat
