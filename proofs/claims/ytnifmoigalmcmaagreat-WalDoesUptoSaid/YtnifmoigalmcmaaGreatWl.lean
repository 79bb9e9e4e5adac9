import Derived.Test.YtnifmoigalmcmaaGreatMem
import Derived.Laws.CopyOwn
import Derived.Deep.RegionLaw
import Derived.Deep.RegionHeld3
namespace Go.Proofs.YtnifmoigalmcmaaGreat
open Go Go.RowKit Go.MapKept Go.Maps
open Dk
theorem info_u8 : (Tryz.prog.info? 5).map (fun i => (i.zero, i.size, i.bytes)) = some (some (.int .u8 0), 1, 1) := by kernel_rfl
theorem info_int : (Tryz.prog.info? 3).map (fun i => (i.zero, i.size, i.bytes)) = some (some (.int .i64 0), 1, 8) := by kernel_rfl
theorem info_change : (Tryz.prog.info? 197).map (fun i => (i.zero, i.size, i.bytes)) = some (some .nilIface, 1, 16) := by kernel_rfl
def lim : Nat := 1099511627776
variable {c : Col} {w : World} {q : Nat × Nat}
theorem owns_empty (w : World) (e : TypeId) : (w.alloc (.cells #[] e)).ownsRow w.heap.size e 1 (.slice (some ⟨w.heap.size, 0, none⟩) 0 0) 0 [] :=
  ⟨rfl, .inr ⟨w.heap.size, 0, #[], rfl, Nat.le_refl _, heap_alloc_new _ _, Nat.le_refl _, Nat.zero_le _, rfl, rfl⟩⟩
theorem add_eq {ad : Addr} (h : ad.spot = none) (j : Nat) : ad.add j = ⟨ad.block, ad.off + j, none⟩ := by
  obtain ⟨b, o, s⟩ := ad
  cases h
  by_cases h0 : j = 0 <;> simp [Addr.add, h0]
theorem cells_alloc {ad : Addr} (hs : ad.spot = none) {xs : List Value} (h : ∀ (j : Nat) u, xs[j]? = some u → c ad.block = q ∧ w.cell? ⟨ad.block, ad.off + j, none⟩ = some u) (o : Obj) :
    ∀ (j : Nat) u, xs[j]? = some u → (w.alloc o).cell? (ad.add j) = some u := fun j u hj => by
  rw [add_eq hs, World.cell?_alloc_lt _ _ _ (World.block_lt_of_cell? _ _ (h j u hj).2)]; exact (h j u hj).2
theorem lim_len {n : Nat} (h : n ≤ lim) : 0 + n ≤ maxLen := by unfold lim at h; unfold maxLen; omega
theorem lim_by {n k : Nat} (h : n ≤ lim) (hk : k ≤ 64) : (0 + n) * k ≤ 140737488355328 := by
  unfold lim at h
  have := Nat.mul_le_mul h hk
  rw [Nat.zero_add]; omega
theorem one_bv (l : List UInt8) : ∀ u ∈ l.map bv, u.oneCell' = true := fun u hu => by obtain ⟨x, _, rfl⟩ := List.mem_map.1 hu; rfl
theorem one_iv (l : List Int) : ∀ u ∈ l.map iv, u.oneCell' = true := fun u hu => by obtain ⟨x, _, rfl⟩ := List.mem_map.1 hu; rfl
theorem nil_bytes : ∀ (w : World) (a : Option Addr) (n c n' c' : Nat), (binOp .eql 41 (.slice a n c) (.slice none n' c')).run Tryz.prog w = .ok (.bool a.isNone) w := fun w a n c n' c' => Lib.run_eql_slice_nil w _ _ a n c n' c' Tryz.underlying41
theorem cloneB (v : Value) (xs : List Value) (h : Sc w c q v xs) (h1 : ∀ u ∈ xs, u.oneCell' = true) (hl : xs.length ≤ lim) :
    Calls Tryz.prog 75 #[v] w fun e w' => ∃ v', e = .returned v' ∧ w'.ownsRow w.heap.size 5 1 v' xs.length xs ∧ Below w.heap.size w w' := by
  obtain ⟨a, cap, rfl, hlc, hcm, hn0, hc⟩ := h
  have q22 := nil_bytes
  cases a with
  | none =>
    have h0 := hn0 rfl
    subst h0
    have hx : xs = [] := List.eq_nil_of_length_eq_zero (by omega)
    subst hx
    clear hlc hcm hn0 hc h1 hl
    go_enter Tryz.func75, Tryz.ntmps75
    go_wp2
    go_ret
    exact ⟨_, rfl, World.ownsRow_nil _ _ _ _, Below.refl _ _⟩
  | some ad =>
    obtain ⟨hsp, hcell⟩ := hc ad rfl
    obtain ⟨i, hi, hz0, hz1, hz2⟩ := info_parts info_u8
    have H1 := Lib.hid (cells_alloc hsp hcell (.cells #[] 5)); clear hcell
    have H2 := Lib.hid hl; clear hl
    have H5 := Lib.hid h1; clear h1
    have H6 := Lib.hid hi; clear hi
    have H7 := Lib.hid hz0; clear hz0
    have H8 := Lib.hid hz1; clear hz1
    have H9 := Lib.hid hz2; clear hz2
    clear hn0 hc hlc hcm
    go_enter Tryz.func75, Tryz.ntmps75
    go_wp2_with (at_builtin; refine wpList_append_own _ rfl _ _ _ rfl w.heap.size 5 i (.int .u8 0) 1 1 Tryz.underlying41 H6.out H7.out H8.out H9.out rfl (by decide) _ 0 [] rfl (owns_empty w _) ad xs.length cap xs rfl (by simp) H1.out H5.out (lim_len H2.out) (lim_by H2.out (by decide)) (by simp) ?_; intro v' w' hown hgrow _)
    go_ret
    refine ⟨_, rfl, by simpa using hown, ((Below.refl _ w).alloc (Nat.le_refl _) _).grown hgrow (by simp) (fun g hg => ?_)⟩
    cases hg; exact Nat.le_refl _
theorem nil_ints : ∀ (w : World) (a : Option Addr) (n c n' c' : Nat), (binOp .eql 22 (.slice a n c) (.slice none n' c')).run Tryz.prog w = .ok (.bool a.isNone) w := fun w a n c n' c' => Lib.run_eql_slice_nil w _ _ a n c n' c' Tryz.underlying22
theorem cloneI (v : Value) (xs : List Value) (h : Sc w c q v xs) (h1 : ∀ u ∈ xs, u.oneCell' = true) (hl : xs.length ≤ lim) :
    Calls Tryz.prog 123 #[v] w fun e w' => ∃ v', e = .returned v' ∧ w'.ownsRow w.heap.size 3 1 v' xs.length xs ∧ Below w.heap.size w w' := by
  obtain ⟨a, cap, rfl, hlc, hcm, hn0, hc⟩ := h
  have q22 := nil_ints
  cases a with
  | none =>
    have h0 := hn0 rfl
    subst h0
    have hx : xs = [] := List.eq_nil_of_length_eq_zero (by omega)
    subst hx
    clear hlc hcm hn0 hc h1 hl
    go_enter Tryz.func123, Tryz.ntmps123
    go_wp2
    go_ret
    exact ⟨_, rfl, World.ownsRow_nil _ _ _ _, Below.refl _ _⟩
  | some ad =>
    obtain ⟨hsp, hcell⟩ := hc ad rfl
    obtain ⟨i, hi, hz0, hz1, hz2⟩ := info_parts info_int
    have H1 := Lib.hid (cells_alloc hsp hcell (.cells #[] 3)); clear hcell
    have H2 := Lib.hid hl; clear hl
    have H5 := Lib.hid h1; clear h1
    have H6 := Lib.hid hi; clear hi
    have H7 := Lib.hid hz0; clear hz0
    have H8 := Lib.hid hz1; clear hz1
    have H9 := Lib.hid hz2; clear hz2
    clear hn0 hc hlc hcm
    go_enter Tryz.func123, Tryz.ntmps123
    go_wp2_with (at_builtin; refine wpList_append_own _ rfl _ _ _ rfl w.heap.size 3 i (.int .i64 0) 1 8 Tryz.underlying22 H6.out H7.out H8.out H9.out rfl (by decide) _ 0 [] rfl (owns_empty w _) ad xs.length cap xs rfl (by simp) H1.out H5.out (lim_len H2.out) (lim_by H2.out (by decide)) (by simp) ?_; intro v' w' hown hgrow _)
    go_ret
    refine ⟨_, rfl, by simpa using hown, ((Below.refl _ w).alloc (Nat.le_refl _) _).grown hgrow (by simp) (fun g hg => ?_)⟩
    cases hg; exact Nat.le_refl _
end Go.Proofs.YtnifmoigalmcmaaGreat
namespace Go.Proofs.YtnifmoigalmcmaaGreat
open Go Go.RowKit Go.MapKept Go.Maps
open Dk
variable {c : Col} {w : World} {q : Nat × Nat}
theorem ret_int {k : IntKind} {a b : Int} (h : a = b) : Ending.returned (.int k a) = .returned (.int k b) := by rw [h]
theorem ret_bool {a b : Bool} (h : a = b) : Ending.returned (.bool a) = .returned (.bool b) := by rw [h]
/-- The slice's parts, for a walk. -/
theorem Sc.cases {v : Value} {xs : List Value} (h : Sc w c q v xs) : (v = .slice none 0 0 ∧ xs = []) ∨ ∃ b o cap, v = .slice (some ⟨b, o, none⟩) xs.length cap ∧ xs.length ≤ cap ∧ cap ≤ maxLen ∧ (xs ≠ [] → c b = q) ∧ ∀ (j : Nat) u, xs[j]? = some u → w.cell? ⟨b, o + j, none⟩ = some u := by
  obtain ⟨a, cap, rfl, hlc, hcm, hn0, hc⟩ := h
  cases a with
  | none =>
    have := hn0 rfl
    subst this
    have hx : xs = [] := List.eq_nil_of_length_eq_zero (by omega)
    subst hx
    exact .inl ⟨rfl, rfl⟩
  | some ad =>
    obtain ⟨h1, h2⟩ := hc ad rfl
    obtain ⟨b, o, s⟩ := ad
    cases h1
    refine .inr ⟨b, o, cap, rfl, hlc, hcm, fun hne => ?_, fun j u hj => (h2 j u hj).2⟩
    obtain ⟨x, r, rfl⟩ := List.exists_cons_of_ne_nil hne
    exact (h2 0 x rfl).1
def IdxPost (l : List Int) (x : Int) (w : World) (e : Ending) (w' : World) : Prop := ∃ r : Int, e = .returned (.int .i64 r) ∧ w = w' ∧ ((0 ≤ r ∧ x ∈ l) ∨ (r < 0 ∧ x ∉ l))
theorem indexI (v : Value) (l : List Int) (x : Int) (h : Sc w c q v (l.map iv)) :
    Calls Tryz.prog 185 #[v, .int .i64 x] w (IdxPost l x w) := by
  rcases h.cases with ⟨rfl, hx⟩ | ⟨b, o, cap, rfl, hlc, hcm, _, hc⟩
  · have : l = [] := by simpa using hx
    subst this
    go_enter Tryz.func185, Tryz.ntmps185
    go_wp2
    refine wp_loop_rounds 1 ?_
    rw [rounds_succ]
    go_wp2
    go_ret
    exact ⟨-1, rfl, rfl, .inr ⟨by omega, by simp⟩⟩
  · rw [List.length_map] at hlc ⊢
    have hlen : l.length ≤ 9223372036854775807 := by unfold maxLen at hcm; omega
    have HC := Lib.hid hc; clear hc
    clear hcm hlc
    go_enter Tryz.func185, Tryz.ntmps185
    go_wp2
    go_loop [8] (fun i => ∃ k : Nat, k ≤ l.length ∧ i = .int .i64 k ∧ x ∉ l.take k) (fun i => l.length - (intOf i).toNat)
    case atStart => exact ⟨0, Nat.zero_le _, rfl, by simp⟩
    case round =>
      obtain ⟨k, hk, rfl, hno⟩ := hrel
      by_cases hlt : k < l.length
      · have hcell : w.cell? ⟨b, o + k, none⟩ = some (.int .i64 l[k]) := HC.out k _ (by simp [hlt, iv])
        by_cases he : x = l[k]
        · have ht : (x == l[k]) = true := by simpa using he
          have HE := Lib.hid he; clear he
          have HN := Lib.hid hno; clear hno
          go_wp2
          go_ret
          exact ⟨k, rfl, rfl, .inl ⟨by omega, by rw [HE.out]; exact List.getElem_mem hlt⟩⟩
        · have ht : (x == l[k]) = false := by simpa using he
          have HE := Lib.hid he; clear he
          have HN := Lib.hid hno; clear hno
          go_wp2
          go_round
          case rel =>
            refine ⟨k + 1, by omega, by go_num, ?_⟩
            rw [List.take_succ_eq_append_getElem hlt]
            simp only [List.mem_append, List.mem_singleton, not_or]
            exact ⟨HN.out, HE.out⟩
          case measure => simp [intOf]; omega
      · have HN := Lib.hid hno; clear hno
        go_wp2
        go_ret
        refine ⟨-1, rfl, rfl, .inr ⟨by omega, ?_⟩⟩
        have := HN.out
        rwa [List.take_of_length_le (by omega)] at this
theorem containsI (v : Value) (l : List Int) (x : Int) (h : Sc w c q v (l.map iv)) :
    Calls Tryz.prog 160 #[v, .int .i64 x] w fun e w' => e = .returned (.bool (decide (x ∈ l))) ∧ w = w' := by
  go_enter Tryz.func160, Tryz.ntmps160
  go_wp2_with (go_at_call 185; refine (indexI _ _ _ h).mono ?_; rintro e w' ⟨r, rfl, rfl, hr⟩)
  go_ret
  refine ⟨ret_bool ?_, rfl⟩
  rcases hr with ⟨h1, h2⟩ | ⟨h1, h2⟩
  · simp [h1, h2]
  · simp [h1, h2]
end Go.Proofs.YtnifmoigalmcmaaGreat
namespace Go.Proofs.YtnifmoigalmcmaaGreat
open Go Go.RowKit Go.MapKept Go.Maps
open Dk
variable {c : Col} {w : World} {q : Nat × Nat}
theorem is_one (w : World) (b : Nat) (h : w.cell? ⟨b, 0, none⟩ = some (.int .i64 1)) : Calls Tryz.prog 81 #[.pointer (some ⟨b, 0, none⟩)] w fun e w' => e = .returned (.bool true) ∧ w = w' := by
  go_enter Tryz.func81, Tryz.ntmps81
  go_wp2
  go_ret
  exact ⟨rfl, rfl⟩
def badB (c : UInt8) : Bool := c < 33 || c > 126 || c == 47
theorem badB_iff (c : UInt8) : badB c = true ↔ (c.toNat : Int) < 33 ∨ 126 < (c.toNat : Int) ∨ (c.toNat : Int) = 47 := by
  unfold badB
  have h3 : (c == 47) = true ↔ (c.toNat : Int) = 47 := by
    rw [beq_iff_eq]
    constructor
    · intro h; subst h; rfl
    · intro h; exact UInt8.toNat_inj.1 (by have : (47 : UInt8).toNat = 47 := rfl; omega)
  simp only [Bool.or_eq_true, decide_eq_true_eq, h3, UInt8.lt_iff_toNat_lt, gt_iff_lt]
  have e1 : (33 : UInt8).toNat = 33 := rfl
  have e2 : (126 : UInt8).toNat = 126 := rfl
  rw [e1, e2]; omega
theorem named_eq (l : Nm) : named l = ((l.all fun c => !badB c) && (decide (1 ≤ l.length) && decide (l.length ≤ 32))) := rfl
theorem named_any (s : ByteArray) (w : World) (hs : s.size ≤ maxLen) :
    Calls Tryz.prog 117 #[.string s] w fun e w' => e = .returned (.bool (named s.data.toList)) ∧ w = w' := by
  unfold maxLen at hs
  have hsz : s.data.toList.length = s.size := Array.length_toList
  have HZ := Lib.hid hsz; clear hsz
  go_enter Tryz.func117, Tryz.ntmps117
  go_wp2
  go_loop [6] (fun i => ∃ k : Nat, k ≤ s.size ∧ i = .int .i64 k ∧ (s.data.toList.take k).all (fun c => !badB c) = true) (fun i => s.size - (intOf i).toNat)
  case atStart => exact ⟨0, Nat.zero_le _, rfl, by simp⟩
  case round =>
    obtain ⟨k, hk, rfl, hall⟩ := hrel
    have HA := Lib.hid hall; clear hall
    by_cases hlt : k < s.size
    · have hg : s.data.toList[k]? = some s[k] := by simp [ByteArray.getElem_eq_getElem_data]
      have HG := Lib.hid hg; clear hg
      have hbad := badB_iff s[k]
      have HB := Lib.hid hbad; clear hbad
      by_cases h1 : (s[k].toNat : Int) < 33
      · go_wp2
        go_ret
        refine ⟨ret_bool ?_, rfl⟩
        rw [named_eq]
        have : (s.data.toList.all fun c => !badB c) = false := by
          rw [List.all_eq_false]; exact ⟨_, List.mem_of_getElem? HG.out, by simp [HB.out.2 (.inl h1)]⟩
        rw [this]; rfl
      · by_cases h2 : 126 < (s[k].toNat : Int)
        · go_wp2
          go_ret
          refine ⟨ret_bool ?_, rfl⟩
          rw [named_eq]
          have : (s.data.toList.all fun c => !badB c) = false := by
            rw [List.all_eq_false]; exact ⟨_, List.mem_of_getElem? HG.out, by simp [HB.out.2 (.inr (.inl h2))]⟩
          rw [this]; rfl
        · by_cases h3 : (s[k].toNat : Int) = 47
          · have ht : ((s[k].toNat : Int) == 47) = true := by simpa using h3
            have H3 := Lib.hid h3; clear h3
            go_wp2
            go_ret
            refine ⟨ret_bool ?_, rfl⟩
            rw [named_eq]
            have : (s.data.toList.all fun c => !badB c) = false := by
              rw [List.all_eq_false]; exact ⟨_, List.mem_of_getElem? HG.out, by simp [HB.out.2 (.inr (.inr H3.out))]⟩
            rw [this]; rfl
          · have ht : ((s[k].toNat : Int) == 47) = false := by simpa using h3
            have H3 := Lib.hid h3; clear h3
            go_wp2
            go_round
            case rel =>
              refine ⟨k + 1, by omega, by go_num, ?_⟩
              rw [List.take_add_one, HG.out]
              have hb : badB s[k] = false := by
                cases hb : badB s[k] with
                | false => rfl
                | true => have := HB.out.1 hb; have := H3.out; omega
              simp [HA.out, hb]
            case measure => simp [intOf]; omega
    · have e1 : (s.data.toList.all fun c => !badB c) = true := by
        have := HA.out
        rwa [List.take_of_length_le (by rw [HZ.out]; omega)] at this
      have E1 := Lib.hid e1; clear e1
      by_cases h4 : (1 : Int) ≤ (s.size : Int)
      · go_wp2
        go_ret
        refine ⟨ret_bool ?_, rfl⟩
        rw [named_eq, E1.out, HZ.out]
        have : 1 ≤ s.size := by omega
        simp [this]; try omega
      · go_wp2
        go_ret
        refine ⟨ret_bool ?_, rfl⟩
        rw [named_eq, E1.out, HZ.out]
        have : ¬ 1 ≤ s.size := by omega
        simp [this]
end Go.Proofs.YtnifmoigalmcmaaGreat
namespace Go.Proofs.YtnifmoigalmcmaaGreat
open Go Go.RowKit Go.MapKept Go.Maps
open Dk
variable {c : Col} {w : World} {q : Nat × Nat}
theorem size_u8 : (Tryz.prog.info? 5).map (·.size) = some 1 := by kernel_rfl
theorem made_u8 (n : Nat) : (madeCells (Value.cells (.int .u8 0)) (n * 1)).toList = List.replicate n (.int .u8 0) := by
  rw [Nat.mul_one]
  simp only [madeCells, Value.cells, Array.toList_map, Array.toList_range]
  refine List.ext_getElem (by simp) fun i h1 h2 => ?_
  simp [Nat.mod_one]
theorem lim_make {n : Nat} {i : TypeInfo} (h : n ≤ lim) (h1 : i.bytes = 1) : i.bytes * n ≤ 281474976710656 := by
  rw [h1]; unfold lim at h; omega
theorem lim_len' {n : Nat} (h : n ≤ lim) : n ≤ maxLen := by have := lim_len h; omega
theorem made_row {w1 : World} {g n : Nat} (hown : w1.ownsRow g 5 1 (.slice (some ⟨g, 0, none⟩) n n) n (madeCells (Value.cells (.int .u8 0)) (n * 1)).toList) :
    Hid (w1.heap[g]? = some (.cells (List.replicate n (Value.int .u8 0)).toArray 5 (0, 0))) := by
  obtain ⟨_, h2⟩ := hown
  rcases h2 with ⟨h2, _⟩ | ⟨g, cap', cur, h2, _, hh, _, _, hcs, ht⟩
  · cases h2
  · simp only [Value.slice.injEq, Option.some.injEq, Addr.mk.injEq] at h2
    obtain ⟨⟨rfl, _⟩, _, rfl⟩ := h2
    rw [made_u8, List.take_of_length_le (by simp [hcs])] at ht
    rw [← ht]; exact hh
theorem src_of {w1 : World} {a : Option Addr} {cap : Nat} {xs : List Value} (h : Sc w c q (.slice a xs.length cap) xs) (hb : Below w.heap.size w w1) (n : Nat) :
    0 < (xs.take n).length → ∃ ad, a = some ad ∧ ∀ (j : Nat) v, (xs.take n)[j]? = some v → w1.cell? (ad.add j) = some v := by
  intro hpos
  obtain ⟨a', cap', e, hlc, _, hn0, hc⟩ := h
  injection e with e1 e2 e3
  subst e1 e3
  cases a with
  | none => have := hn0 rfl; simp at hpos; omega
  | some ad =>
    obtain ⟨h1, h2⟩ := hc ad rfl
    refine ⟨ad, rfl, fun j v hj => ?_⟩
    rw [List.getElem?_take] at hj
    split at hj
    · have h3 := (h2 j v hj).2
      rw [add_eq h1, hb.cell (World.block_lt_of_cell? _ _ h3)]; exact h3
    · cases hj
theorem owns_splice {w1 : World} {g n : Nat} {xs : List Value} (h : w1.heap[g]? = some (.cells xs.toArray 5 (0, 0))) (hn : xs.length = n) (hm : n ≤ maxLen) (base : Nat) (hb : base ≤ g) :
    w1.ownsRow base 5 1 (.slice (some ⟨g, 0, none⟩) n n) n xs :=
  ⟨by simp [hn], .inr ⟨g, n, xs.toArray, rfl, hb, h, Nat.le_refl _, hm, by simp [hn], by simp [List.take_of_length_le, hn]⟩⟩
theorem sized_cells (l : List UInt8) (n : Nat) : splice (List.replicate n (Value.int .u8 0)) 0 ((l.map bv).take n) = (sized l n).map bv := by
  have e0 : bv 0 = Value.int .u8 0 := rfl
  simp only [splice, sized, List.take_zero, List.nil_append, List.map_append, List.map_take, List.map_replicate, e0, Nat.zero_add, List.drop_replicate, List.length_take, List.length_map]
  congr 2
  omega
theorem sized_c (v : Value) (l : List UInt8) (n : Nat) (w : World) (h : Sc w c q v (l.map bv)) (hn : n ≤ lim) (N : Int) (hN : N = (n : Int)) :
    Calls Tryz.prog 237 #[v, .int .i64 N] w fun e w' => e = .returned (.slice (some ⟨w.heap.size, 0, none⟩) n n) ∧ w'.heap[w.heap.size]? = some (.cells ((sized l n).map bv).toArray 5 (0, 0)) ∧ Below w.heap.size w w' := by
  subst hN
  obtain ⟨a, cap, rfl, _⟩ := id h
  obtain ⟨i, hi, hz0, hz1, hz2⟩ := info_parts info_u8
  have H1 := Lib.hid h; clear h
  have H3 := Lib.hid hn; clear hn
  have H6 := Lib.hid hi; clear hi
  have H7 := Lib.hid hz0; clear hz0
  have H8 := Lib.hid hz1; clear hz1
  have H9 := Lib.hid hz2; clear hz2
  obtain ⟨ll, hll⟩ : ∃ ll, ll = (l.map bv).length := ⟨_, rfl⟩
  have HL := Lib.hid hll
  rw [← hll]; clear hll
  go_enter Tryz.func237, Tryz.ntmps237
  go_wp2_with (first
    | (at_make; refine wpList_make_full _ rfl _ _ _ rfl w.heap.size 5 i (.int .u8 0) 1 Tryz.underlying41 H6.out H7.out H8.out .i64 .i64 _ _ n rfl rfl rfl rfl (lim_make H3.out H9.out) (lim_len' H3.out) (Nat.le_refl _) ?_
       intro w1 hown hgrow
       have hb1 : Below w.heap.size w w1 := (Below.refl _ w).grown hgrow (Nat.le_refl _) (fun k h => by cases h)
       have HO := made_row hown
       have HS := Lib.hid (src_of H1.out hb1 n)
       clear hown hgrow)
    | (with_reducible refine wpList_copy_splice rfl _ _ _ _ rfl 5 Tryz.underlying41 size_u8 _ _ _ _ _ _ rfl rfl w.heap.size 0 (List.replicate n (Value.int .u8 0)) 5 HO.out ((l.map bv).take n) (by rw [List.length_take, ← HL.out]; exact Nat.min_comm _ _) (fun hp => ⟨rfl, HS.out hp⟩) (by simp; omega) (fun u hu => one_bv l u (List.mem_of_mem_take hu)) w.heap.size w hb1 (Nat.le_refl _) ?_
       intro w2 hg2 hb2))
  go_ret
  have hg3 := hg2.out
  rw [sized_cells] at hg3
  exact ⟨rfl, hg3, hb2⟩
/-- Behind a callee that turned nothing old. -/
theorem bcell {W w1 : World} (hb : Below W.heap.size W w1) : (∀ b o, b < W.heap.size → w1.cell? ⟨b, o, none⟩ = W.cell? ⟨b, o, none⟩) ∧ (∀ b o, b < W.heap.size → w1.frozen? ⟨b, o, none⟩ = W.frozen? ⟨b, o, none⟩) :=
  ⟨fun b o h => hb.cell (p := ⟨b, o, none⟩) h, fun b o h => hb.frozen (p := ⟨b, o, none⟩) h⟩
theorem lim_file {n : Nat} (h : n ≤ maxFile) : n ≤ lim := by unfold maxFile at h; unfold lim; omega
theorem Sc.below {w1 : World} {v : Value} {xs : List Value} (h : Sc w c q v xs) (hb : Below w.heap.size w w1) : Sc w1 c q v xs :=
  h.kp (S := fun _ => False) (Kp.of_below hb) (fun h => h) (Cx.refl _ _)
theorem Sc.alloc {v : Value} {xs : List Value} (h : Sc w c q v xs) (o : Obj) : Sc (w.alloc o) c q v xs := h.below ((Below.refl _ w).alloc (Nat.le_refl _) _)
theorem Sc.drew {v : Value} {xs : List Value} (h : Sc w c q v xs) : Sc w.drew c q v xs := h
theorem Sc.drewN {v : Value} {xs : List Value} (h : Sc w c q v xs) (n : Nat) : Sc (w.drewN n) c q v xs := h
end Go.Proofs.YtnifmoigalmcmaaGreat
namespace Go.Proofs.YtnifmoigalmcmaaGreat
open Go Go.RowKit Go.MapKept Go.Maps
open Dk
variable {c : Col} {w : World} {q q' : Nat × Nat}
theorem app_cells (l b : List UInt8) (i N : Nat) (hN : N = max l.length (i + b.length)) : splice ((sized l N).map bv) i (b.map bv) = ((Chg.wr i b).app l).map bv := by
  subst hN
  simp [splice, Chg.app, over]
theorem write_apply (i : Nat) (vb v : Value) (b l : List UInt8) (w : World) {c₂ : Col} (hb : Sc w c q vb (b.map bv)) (h : Sc w c₂ q' v (l.map bv)) (hl : l.length ≤ maxFile) (hi : i + b.length ≤ maxFile) :
    Calls Tryz.prog 235 #[.agg #[.int .i64 (i : Int), vb], v] w fun e w' => ∃ g, e = .returned (.slice (some ⟨g, 0, none⟩) ((Chg.wr i b).app l).length ((Chg.wr i b).app l).length) ∧ w'.ownsRow w.heap.size 5 1 (.slice (some ⟨g, 0, none⟩) ((Chg.wr i b).app l).length ((Chg.wr i b).app l).length) ((Chg.wr i b).app l).length (((Chg.wr i b).app l).map bv) ∧ Below w.heap.size w w' := by
  obtain ⟨N, hN⟩ : ∃ N, N = max l.length (i + b.length) := ⟨_, rfl⟩
  have hal : ((Chg.wr i b).app l).length = N := by rw [app_length, hN]; rfl
  have hcells := app_cells l b i N hN
  rw [hal]
  obtain ⟨a, cap, rfl, _⟩ := id h
  obtain ⟨ab, capb, rfl, _⟩ := id hb
  rw [List.length_map, List.length_map] at *
  have h1 : (i : Int) + b.length ≤ 268435456 := by unfold maxFile at hi; omega
  have h2 : (l.length : Int) ≤ 268435456 := by unfold maxFile at hl; omega
  have HNm : Hid (N ≤ maxFile) := by show N ≤ _; omega
  have hiN : (i : Int) + b.length ≤ N := by omega
  have hiN' : (i : Int) ≤ N := by omega
  have hi0 : (0 : Int) ≤ (i : Int) := by omega
  have HB := Lib.hid hb; clear hb
  have H := Lib.hid h; clear h
  have HN := Lib.hid hN; clear hN
  have HAL := Lib.hid hal; clear hal
  have HC := Lib.hid hcells; clear hcells
  clear hl hi
  rename_i hx1 hx2; clear hx1 hx2
  by_cases hc : (l.length : Int) < i + b.length
  all_goals
    go_enter Tryz.func235, Tryz.ntmps235
    go_wp2_with (go_at_call 237; refine (sized_c _ l N _ (H.out.alloc _) (lim_file HNm.out) _ (by have := HN.out; omega)).mono ?_; rintro e w1 ⟨rfl, hg, hb1⟩; obtain ⟨hc1, hf1⟩ := bcell hb1; have HG := Lib.hid hg; clear hg)
    have cb0 := hc1 w.heap.size 0 (by simp)
    have cb1 := hc1 w.heap.size 1 (by simp)
    rw [World.cell?_alloc_at _ _ _ _ rfl] at cb0 cb1
    clear hc1 hf1
    rw [World.size_alloc] at HG
    have hb0 : Hid (Below w.heap.size w w1) := ((Below.refl _ w).alloc (Nat.le_refl _) _).trans (hb1.mono (by simp))
    have HB1 : Hid (0 < (b.map bv).length → ∃ ad, ab = some ad ∧ ∀ (j : Nat) v, (b.map bv)[j]? = some v → w1.drew.cell? (ad.add j) = some v) := by
      have := src_of (xs := b.map bv) (by rw [List.length_map]; exact HB.out) hb0.out b.length
      rw [List.take_of_length_le (by simp)] at this
      exact this
    clear hb1
    go_region_law (refine step_copy_splice rfl (.tmp 20) (.tmp 22) _ _ rfl 5 Tryz.underlying41 size_u8 _ _ _ _ _ _ rfl rfl (w.heap.size + 1) i ((sized l N).map bv) 5 HG.out (b.map bv) (by rw [List.length_map]; simp only [Nat.min_def]; split <;> omega) (fun hp => ⟨by rw [if_neg]; intro h; rw [List.length_map] at hp; omega, HB1.out hp⟩) (by simp only [List.length_map, sized_length]; omega) (one_bv _) w.heap.size w hb0.out.drew (by omega) ?_; intro w2 hg2 hb2)
    all_goals
      go_wp2
      all_goals
        go_ret
        have hg3 := hg2.out
        rw [HC.out] at hg3
        by_cases hNi : N = i
        · subst hNi
          first | contradiction | exact ⟨_, rfl, owns_splice hg3 (by rw [List.length_map, HAL.out]) (lim_len' (lim_file HNm.out)) w.heap.size (Nat.le_succ _), hb2⟩
        · first | contradiction | exact ⟨_, rfl, owns_splice hg3 (by rw [List.length_map, HAL.out]) (lim_len' (lim_file HNm.out)) w.heap.size (Nat.le_succ _), hb2⟩
theorem cut_apply (n : Nat) (v : Value) (l : List UInt8) (w : World) (h : Sc w c q' v (l.map bv)) (hn : n ≤ maxFile) :
    Calls Tryz.prog 238 #[.agg #[.int .i64 (n : Int)], v] w fun e w' => ∃ g, e = .returned (.slice (some ⟨g, 0, none⟩) ((Chg.cut n).app l).length ((Chg.cut n).app l).length) ∧ w'.ownsRow w.heap.size 5 1 (.slice (some ⟨g, 0, none⟩) ((Chg.cut n).app l).length ((Chg.cut n).app l).length) ((Chg.cut n).app l).length (((Chg.cut n).app l).map bv) ∧ Below w.heap.size w w' := by
  have hal : ((Chg.cut n).app l).length = n := by rw [app_length]; rfl
  rw [hal]
  have HAL := Lib.hid hal; clear hal
  have H := Lib.hid h; clear h
  have HN := Lib.hid hn; clear hn
  go_enter Tryz.func238, Tryz.ntmps238
  go_wp2_with (go_at_call 237; refine (sized_c _ l n _ (H.out.alloc _) (lim_file HN.out) _ rfl).mono ?_; rintro e w1 ⟨rfl, hg, hb1⟩; have HG := Lib.hid hg; clear hg; have HB := Lib.hid hb1; clear hb1)
  go_ret
  have hg := HG.out
  rw [World.size_alloc] at hg
  exact ⟨_, rfl, owns_splice hg (by rw [List.length_map, sized_length]) (lim_len' (lim_file HN.out)) w.heap.size (by simp), ((Below.refl _ w).alloc (Nat.le_refl _) _).trans (HB.out.mono (by simp))⟩
theorem bdrewN {B : Nat} {a w : World} (h : Below B a w) (n : Nat) : Below B a (w.drewN n) := ⟨h.os, h.tape, h.output, h.size, h.block⟩
theorem Sc.take {a : Option Addr} {cap : Nat} {xs : List Value} {q : Nat × Nat} (h : Sc w c q (.slice a xs.length cap) xs) (n : Nat) (hn : n ≤ xs.length) : Sc w c q (.slice a n cap) (xs.take n) := by
  obtain ⟨a', cap', e, h1, h2, h3, h4⟩ := h
  injection e with e1 e2 e3
  subst e1 e3
  refine ⟨a, cap, by rw [List.length_take]; congr 1; omega, by rw [List.length_take]; omega, h2, h3, fun ad had => ⟨(h4 ad had).1, fun j u hj => ?_⟩⟩
  rw [List.getElem?_take] at hj
  split at hj
  · exact (h4 ad had).2 j u hj
  · cases hj
/-- What of a change survives, as a value. -/
def SvV (w : World) (c : Col) (v : Value) : Option Chg → Prop
  | none => v = .nilIface
  | some x => ChV w c v x
theorem tmod_nat (k : Int) (n : Nat) (hk : 0 ≤ k) : k.tmod ((n : Int) + 1) = k % ((n : Int) + 1) := Int.tmod_eq_emod_of_nonneg hk
theorem write_surv (i : Nat) (vb : Value) (b : List UInt8) (k : Int) (w : World) (hb : Sc w c (0, 0) vb (b.map bv)) (hi : i + b.length ≤ maxFile) :
    Calls Tryz.prog 236 #[.agg #[.int .i64 (i : Int), vb], .int .i64 k] w fun e w' => ∃ v', e = .returned v' ∧ SvV w' c v' ((Chg.wr i b).surv k) ∧ Below w.heap.size w w' := by
  obtain ⟨ab, capb, rfl, _⟩ := id hb
  rw [List.length_map] at *
  rename_i hx; clear hx
  have h1 : (b.length : Int) ≤ 268435456 := by unfold maxFile at hi; omega
  have HB := Lib.hid hb; clear hb
  clear hi
  by_cases hk : k < 0
  · go_enter Tryz.func236, Tryz.ntmps236
    go_wp2
    go_ret
    refine ⟨_, rfl, ?_, (Below.refl _ w).alloc (Nat.le_refl _) _⟩
    simp only [Chg.surv, if_pos hk]
    exact ⟨_, rfl, HB.out.alloc _⟩
  · obtain ⟨r, hr⟩ : ∃ r, r = k % ((b.length : Int) + 1) := ⟨_, rfl⟩
    have hk0 : 0 ≤ k := by omega
    have hr0 : 0 ≤ r := by rw [hr]; exact Int.emod_nonneg _ (by omega)
    have hr1 : r ≤ b.length := by rw [hr]; have := Int.emod_lt_of_pos k (b := (b.length : Int) + 1) (by omega); omega
    have hw : (k.tmod ((b.length : Int) + 1)) = r := by rw [tmod_nat k _ hk0, hr]
    have hbc : (b.length : Int) ≤ capb := by
      obtain ⟨_, _, e, h2, _⟩ := HB.out
      injection e with _ _ e3; subst e3; simpa using h2
    have HR := Lib.hid hr; clear hr
    have HK := Lib.hid hk; clear hk
    by_cases hz : r = 0
    · have hz1 : (r == 0) = true := by simpa using hz
      have HZ := Lib.hid hz; clear hz
      go_enter Tryz.func236, Tryz.ntmps236
      go_wp2
      go_ret
      refine ⟨_, rfl, ?_, (Below.refl _ w).alloc (Nat.le_refl _) _⟩
      have h0 : (k % ((b.length : Int) + 1)).toNat = 0 := by rw [← HR.out, HZ.out]; rfl
      simp only [Chg.surv]
      rw [if_neg (by omega), if_pos h0]
      rfl
    · have hz1 : (r == 0) = false := by simpa using hz
      have HZ := Lib.hid hz; clear hz
      go_enter Tryz.func236, Tryz.ntmps236
      go_wp2
      go_quiet (fail)
      go_wp2
      go_ret
      refine ⟨_, rfl, ?_, bdrewN ((Below.refl _ w).alloc (Nat.le_refl _) _) _⟩
      have h0 : (k % ((b.length : Int) + 1)).toNat = r.toNat := by rw [← HR.out]
      have hz := HZ.out
      simp only [Chg.surv]
      rw [if_neg (by omega), if_neg (by omega), h0]
      have ht := (by rw [List.length_map]; exact HB.out : Sc w c (0, 0) (.slice ab (b.map bv).length capb) (b.map bv)).take r.toNat (by rw [List.length_map]; omega)
      rw [← List.map_take] at ht
      exact ⟨_, rfl, (ht.alloc _).drewN _⟩
theorem cut_surv (n : Nat) (k : Int) (w : World) :
    Calls Tryz.prog 239 #[.agg #[.int .i64 (n : Int)], .int .i64 k] w fun e w' => ∃ v', e = .returned v' ∧ SvV w' c v' ((Chg.cut n).surv k) ∧ Below w.heap.size w w' := by
  by_cases hk : k < 0
  · go_enter Tryz.func239, Tryz.ntmps239
    go_wp2
    go_ret
    refine ⟨_, rfl, ?_, (Below.refl _ w).alloc (Nat.le_refl _) _⟩
    simp only [Chg.surv]
    rw [if_pos (Or.inl hk)]
    rfl
  · have hk0 : 0 ≤ k := by omega
    obtain ⟨r, hr⟩ : ∃ r, r = k % 2 := ⟨_, rfl⟩
    have hw : k.tmod 2 = r := by rw [Int.tmod_eq_emod_of_nonneg hk0, hr]
    have hr0 : 0 ≤ r := by omega
    have hr1 : r ≤ 1 := by omega
    have HR := Lib.hid hr; clear hr
    have HK := Lib.hid hk; clear hk
    by_cases hz : r = 1
    · have hz1 : (r == 1) = true := by simpa using hz
      have HZ := Lib.hid hz; clear hz
      go_enter Tryz.func239, Tryz.ntmps239
      go_wp2
      go_ret
      refine ⟨_, rfl, ?_, (Below.refl _ w).alloc (Nat.le_refl _) _⟩
      have h1 := HR.out
      have h2 := HZ.out
      simp only [Chg.surv]
      rw [if_pos (Or.inr (by omega))]
      rfl
    · have hz1 : (r == 1) = false := by simpa using hz
      have HZ := Lib.hid hz; clear hz
      go_enter Tryz.func239, Tryz.ntmps239
      go_wp2
      go_ret
      refine ⟨_, rfl, ?_, (Below.refl _ w).alloc (Nat.le_refl _) _⟩
      have h1 := HR.out
      have h2 := HZ.out
      have h3 := HK.out
      simp only [Chg.surv]
      rw [if_neg (by omega)]
      rfl
end Go.Proofs.YtnifmoigalmcmaaGreat
/- Appending to a slice that one owns: the row behind it is the old one, or new memory. -/
namespace Go.Proofs.YtnifmoigalmcmaaGreat
open Go Go.RowKit
section
variable {P : Program} {w : World}
theorem run_append2 (t ty e : TypeId) (i : TypeInfo) (z : Value) (bytes : Nat) (ht : P.underlying t = some (.slice e)) (hi : P.info? e = some i) (hz : i.zero = some z)
    (hsize : i.size = 1) (hby : i.bytes = bytes) (hzs : z.cells.size = 1)
    (v : Value) (n : Nat) (xs : List Value) (hown : w.ownsRow 0 e 1 v n xs)
    (a : Addr) (m c : Nat) (news : List Value) (hl : news.length = m) (hnews : ∀ (j : Nat) u, news[j]? = some u → w.cell? (a.add j) = some u) (h1 : ∀ u ∈ news, u.oneCell' = true)
    (h63 : n + m ≤ maxLen) (hbytes : (n + m) * bytes ≤ 140737488355328) :
    ∃ v' w', (Builtin.append_ #[t, t] ty #[v, .slice (some a) m c]).run P w = .ok v' w' ∧ w'.ownsRow 0 e 1 v' (n + m) (xs ++ news) ∧ w.grownBy w' v.ownBlock ∧
      (∀ g, v'.ownBlock = some g → v.ownBlock = some g ∨ w.heap.size ≤ g) := by
  obtain ⟨v', w', hr, h2, h3, _⟩ := run_append_own (P := P) w 0 t ty e i z 1 bytes ht hi hz hsize hby hzs (by decide) v n xs hown a m c news (by omega) hnews h1 h63 hbytes (Nat.zero_le _)
  refine ⟨v', w', hr, h2, h3, fun g hg => ?_⟩
  rcases hown.2 with ⟨rfl, rfl⟩ | ⟨g0, cap, cur, rfl, _, hg0, hnc, hcm, hcs, htake⟩
  · have hx : xs = [] := List.eq_nil_of_length_eq_zero (by simpa using hown.1)
    subst hx
    obtain ⟨v2, w2, hr2, h4, _, _⟩ := run_append_own (P := P) w w.heap.size t ty e i z 1 bytes ht hi hz hsize hby hzs (by decide) (.slice none 0 0) 0 [] (World.ownsRow_nil _ _ _ _) a m c news (by omega) hnews h1 h63 hbytes (Nat.le_refl _)
    rw [hr] at hr2
    cases hr2
    rcases h4.2 with ⟨rfl, _⟩ | ⟨g', _, _, rfl, hb, _⟩
    · cases hg
    · cases hg; exact .inr hb
  · by_cases hroom : n + m ≤ cap
    · have hr2 := run_append_room (P := P) w t ty e i ht hi g0 n cap cur hg0 a m c news (by rw [hsize]; omega) hnews h1 hroom (by rw [hsize]; omega)
      rw [hr] at hr2
      cases hr2
      cases hg; exact .inl rfl
    · have hr2 := run_append_grow (P := P) w t ty e i z ht hi hz ⟨g0, 0, none⟩ n cap xs (by rw [hsize]; exact hown.1) (hown.cells (g := g0) rfl) a m c news (by rw [hsize]; omega) hnews (by omega) (by unfold maxLen at h63; omega) (growslice_fits (by omega) (by rw [hby]; exact hbytes))
      rw [hr] at hr2
      cases hr2
      cases hg; exact .inr (Nat.le_refl _)
theorem wpList_append2 {ops : Array Oper} {rest : List Oper} {o : Oper} {a : Act} {Q : Exit → Act → World → Prop} (hgd : o.guard = none) (s x : Operand) (t : TypeId)
    (ho : o.op = .call { callee := .builtin .append, args := #[s, x], argTypes := #[t, t] })
    (e : TypeId) (i : TypeInfo) (z : Value) (bytes : Nat) (ht : P.underlying t = some (.slice e)) (hi : P.info? e = some i) (hz : i.zero = some z)
    (hsize : i.size = 1) (hby : i.bytes = bytes) (hzs : z.cells.size = 1)
    (v : Value) (n : Nat) (xs : List Value) (hs : a.eval s = v) (hown : w.ownsRow 0 e 1 v n xs)
    (ad : Addr) (m c : Nat) (news : List Value) (hx : a.eval x = .slice (some ad) m c) (hl : news.length = m) (hnews : ∀ (j : Nat) u, news[j]? = some u → w.cell? (ad.add j) = some u) (h1 : ∀ u ∈ news, u.oneCell' = true)
    (h63 : n + m ≤ maxLen) (hbytes : (n + m) * bytes ≤ 140737488355328)
    (h : ∀ v' w', w'.ownsRow 0 e 1 v' (n + m) (xs ++ news) → w.grownBy w' v.ownBlock → (∀ g, v'.ownBlock = some g → v.ownBlock = some g ∨ w.heap.size ≤ g) → wpList P ops Q rest (a.put o.dst v') w') : wpList P ops Q (o :: rest) a w := by
  refine wpList_plain hgd fun K hK => ?_
  obtain ⟨v', w', hrun, h2, h3, h4⟩ := run_append2 (P := P) t o.type e i z bytes ht hi hz hsize hby hzs v n xs hown ad m c news hl hnews h1 h63 hbytes
  unfold Oper.wp
  simp [execOp, ho, resolve, invoke, builtin, hs, hx, hrun, Result.andThen]
  exact hK _ _ (h v' w' h2 h3 h4)
end
end Go.Proofs.YtnifmoigalmcmaaGreat
namespace Go.Proofs.YtnifmoigalmcmaaGreat
open Go Go.RowKit Go.MapKept Go.Maps
open Dk
variable {c : Col} {w : World}
theorem nilA_write (n : Nat) (w : World) (v : Value) : (nilAhead (n + 1) 145 v "cairn/disk.apply").run Tryz.prog w = .ok (some false) w := by kernel_rfl
theorem meth_write (n : Nat) (w : World) (v : Value) : (method (n + 1) 145 v "cairn/disk.apply").run Tryz.prog w = .ok (235, v) w := by kernel_rfl
theorem nilA_cut (n : Nat) (w : World) (v : Value) : (nilAhead (n + 1) 195 v "cairn/disk.apply").run Tryz.prog w = .ok (some false) w := by kernel_rfl
theorem meth_cut (n : Nat) (w : World) (v : Value) : (method (n + 1) 195 v "cairn/disk.apply").run Tryz.prog w = .ok (238, v) w := by kernel_rfl
theorem owns_alloc {base e size n : Nat} {v : Value} {xs : List Value} (h : w.ownsRow base e size v n xs) (o : Obj) : (w.alloc o).ownsRow base e size v n xs :=
  ownsRow_kp (c := fun _ => (0, 0)) (q := (0, 0)) (S := fun _ => False) h (fun _ _ => rfl) ((Kp.refl _ _ _).alloc _) (fun h => h)
theorem one_new (w : World) (v : Value) (e : TypeId) : ∀ (j : Nat) u, [v][j]? = some u → (w.alloc (.cells #[v] e)).cell? ((⟨w.heap.size, 0, none⟩ : Addr).add j) = some u := by
  intro j u hj
  match j, hj with
  | 0, hj => simp at hj; subst hj; rw [add_eq rfl]; simp
theorem lim_by' {n k : Nat} (h : n ≤ lim) (hk : k ≤ 64) : n * k ≤ 140737488355328 := by have := lim_by h hk; rwa [Nat.zero_add] at this
theorem own_succ {W : World} {base : Nat} {e : TypeId} {size : Nat} {v : Value} {k : Nat} {xs : List Value} (h : W.ownsRow base e size v (k + 1) xs) : ∃ g cap, v = .slice (some ⟨g, 0, none⟩) (k + 1) cap := by
  rcases h.2 with ⟨_, h0⟩ | ⟨g, cap, _, rfl, _⟩
  · omega
  · exact ⟨g, cap, rfl⟩
theorem own_ne2 {k fb g2 n cap B : Nat} {v : Value} (hlt : fb < w.heap.size) (h : c fb = fcol k fb) (hg : ∀ g, v.ownBlock = some g → c g = gcol k fb)
    (hn : ∀ g, (Value.slice (some ⟨g2, 0, none⟩) n cap).ownBlock = some g → v.ownBlock = some g ∨ w.heap.size + B ≤ g) : g2 ≠ fb := by
  intro e
  subst e
  rcases hn g2 rfl with h' | h'
  · have := hg _ h'
    rw [h] at this
    simp only [fcol, gcol, Prod.mk.injEq] at this
    omega
  · omega
theorem nS0 {k fb : Nat} : ¬ ((0, 0) = fcol k fb ∨ (0, 0) = gcol k fb) := by simp [fcol, gcol]
theorem own_ne {k fb : Nat} {v : Value} (h : c fb = fcol k fb) (hg : ∀ g, v.ownBlock = some g → c g = gcol k fb) : some fb ≠ v.ownBlock := by
  intro e
  have := hg fb e.symm
  rw [h] at this
  simp only [fcol, gcol, Prod.mk.injEq] at this
  omega
theorem do_end {k fb g2 cap2 g4 L B : Nat} {f : AFile} {x : Chg} {nv vs vc vn : Value} {xs : List Value} {w3 w4 : World} {dat : List UInt8} (hlt : fb < w.heap.size)
    (HO : w.ownsRow 0 197 1 vc f.chs.length xs) (HX : ∀ (i : Nat) (x : Value) (y : Chg), xs[i]? = some x → f.chs[i]? = some y → ChV w c x y) (HG : ∀ g, vc.ownBlock = some g → c g = gcol k fb) (HF : c fb = fcol k fb)
    (HS : Sc w c (0, 0) vs (f.safe.map bv)) (HW2 : ∀ g, (Value.slice (some ⟨g2, 0, none⟩) (f.chs.length + 1) cap2).ownBlock = some g → vc.ownBlock = some g ∨ w.heap.size + B ≤ g)
    (HH3 : w3.heap[fb]? = some (.cells (#[vs, vc, vn].setIfInBounds 1 (.slice (some ⟨g2, 0, none⟩) (f.chs.length + 1) cap2)) 141 (0, 0)))
    (HK3 : Kp c (fun q => q = fcol k fb ∨ q = gcol k fb) w w3)
    (HO3 : w3.ownsRow 0 197 1 (.slice (some ⟨g2, 0, none⟩) (f.chs.length + 1) cap2) (f.chs.length + 1) (xs ++ [nv])) (hv : ChV w c nv x)
    (HO4 : w4.ownsRow w3.heap.size 5 1 (.slice (some ⟨g4, 0, none⟩) L L) L (dat.map bv)) (HB4 : Below w3.heap.size w3 w4) :
    ∃ c', Cx w c c' ∧ Kp c (fun q => q = fcol k fb ∨ q = gcol k fb) w (w4.setCell ⟨fb, 2, none⟩ (.slice (some ⟨g4, 0, none⟩) L L)) ∧
      FileAt (w4.setCell ⟨fb, 2, none⟩ (.slice (some ⟨g4, 0, none⟩) L L)) c' k fb ⟨f.safe, f.chs ++ [x], dat⟩ := by
  have hg2 : g2 < w3.heap.size := ownBlock_lt HO3 g2 rfl
  have hg4 : w3.heap.size ≤ g4 := by
    rcases HO4.2 with ⟨e, _⟩ | ⟨g, _, _, e, h, _⟩
    · cases e
    · cases e; exact h
  have hlt3 : fb < w3.heap.size := lt_of_heap HH3
  have hne2 : g2 ≠ fb := own_ne2 hlt HF HG HW2
  have hK : Kp c (fun q => q = fcol k fb ∨ q = gcol k fb) w (w4.setCell ⟨fb, 2, none⟩ (.slice (some ⟨g4, 0, none⟩) L L)) := (HK3.below HB4 HK3.size).setCell (fun _ => Or.inl HF) _
  let c' : Col := fun b => if b < w.heap.size then c b else if b = g2 then gcol k fb else (0, 0)
  have hC : Cx w c c' := fun b hb => if_pos hb
  have hc2 : c' g2 = gcol k fb := by
    show (if g2 < w.heap.size then c g2 else if g2 = g2 then gcol k fb else (0, 0)) = _
    split
    · rename_i h
      rcases HW2 g2 rfl with h' | h'
      · exact HG _ h'
      · omega
    · rw [if_pos rfl]
  have hc4 : c' g4 = (0, 0) := by
    have := HK3.size
    show (if g4 < w.heap.size then c g4 else if g4 = g2 then gcol k fb else (0, 0)) = _
    rw [if_neg (by omega), if_neg (by omega)]
  have hset : Kp (fun b => if b = fb then (1, 0) else (0, 0)) (fun q => q = (1, 0)) w4 (w4.setCell ⟨fb, 2, none⟩ (.slice (some ⟨g4, 0, none⟩) L L)) := (Kp.refl _ _ _).setCell (fun _ => by simp) _
  refine ⟨c', hC, hK, vs, .slice (some ⟨g2, 0, none⟩) (f.chs.length + 1) cap2, .slice (some ⟨g4, 0, none⟩) L L, ?_, (hC _ hlt).trans HF, HS.kp hK nS0 hC, ⟨xs ++ [nv], ?_, ?_, ?_⟩, ?_⟩
  · have := heap_setCell ((HB4.block fb hlt3).trans HH3) 2 (.slice (some ⟨g4, 0, none⟩) L L)
    simpa using this
  · have h4 : w4.ownsRow 0 197 1 (.slice (some ⟨g2, 0, none⟩) (f.chs.length + 1) cap2) (f.chs.length + 1) (xs ++ [nv]) :=
      ownsRow_kp (c := fun _ => (0, 0)) (S := fun _ => False) (q := (0, 0)) HO3 (fun _ _ => rfl) (Kp.of_below HB4) (fun h => h)
    have := ownsRow_kp (q := (0, 0)) h4 (fun g hg => by cases hg; rw [if_neg hne2]) hset (by simp)
    simpa using this
  · intro i y z hy hz
    have hxl : xs.length = f.chs.length := by simpa using HO.1
    by_cases hi : i < f.chs.length
    · rw [List.getElem?_append_left (by omega)] at hy hz
      exact (HX i y z hy hz).kp hK nS0 hC
    · rw [List.getElem?_append_right (by omega)] at hy hz
      have hi0 : i - xs.length = 0 := by
        rcases Nat.eq_zero_or_pos (i - xs.length) with h | h
        · exact h
        · rw [List.getElem?_eq_none (by simp; omega)] at hy; cases hy
      have hi1 : i - f.chs.length = 0 := by omega
      rw [hi0] at hy; rw [hi1] at hz
      simp at hy hz
      subst hy hz
      exact hv.kp hK nS0 hC
  · intro g hg; cases hg; exact hc2
  · have h5 : (w4.setCell ⟨fb, 2, none⟩ (.slice (some ⟨g4, 0, none⟩) L L)).ownsRow w3.heap.size 5 1 (.slice (some ⟨g4, 0, none⟩) L L) L (dat.map bv) :=
      ownsRow_kp (q := (0, 0)) HO4 (fun g hg => by cases hg; rw [if_neg (by show ¬ g4 = fb; omega)]) hset (by simp)
    exact Sc.of_owns h5 (fun g hg => by cases hg; exact hc4)
theorem do_wr (k fb : Nat) (f : AFile) (i : Nat) (b : List UInt8) (v : Value) (w : World) (h : FileAt w c k fb f) (hv : ChV w c v (.wr i b)) (hok : (Chg.wr i b).ok) (hn : f.now.length ≤ maxFile) (hl : f.chs.length + 1 ≤ lim) :
    Calls Tryz.prog 133 #[ptr fb, v] w fun e w' => e = .returned (.tuple #[]) ∧ ∃ c', Cx w c c' ∧ Kp c (fun q => q = fcol k fb ∨ q = gcol k fb) w w' ∧ FileAt w' c' k fb ⟨f.safe, f.chs ++ [.wr i b], (Chg.wr i b).app f.now⟩ := by
  obtain ⟨vs, vc, vn, hh, hcf, hs, ⟨xs, hown, hxs, hgc⟩, hnow⟩ := h
  obtain ⟨vb, rfl, hvb⟩ := hv
  have cf0 := cell_of_heap hh 0
  have cf1 := cell_of_heap hh 1
  have cf2 := cell_of_heap hh 2
  have ff := unfrozen_of_heap hh
  have hlt := lt_of_heap hh
  obtain ⟨i0, hi, hz0, hz1, hz2⟩ := info_parts info_change
  have HO := Lib.hid hown; clear hown
  have HX := Lib.hid hxs; clear hxs
  have HG := Lib.hid hgc; clear hgc
  have HH := Lib.hid hh; clear hh
  have HF := Lib.hid hcf; clear hcf
  have HS := Lib.hid hs; clear hs
  have HN := Lib.hid hnow; clear hnow
  have HV := Lib.hid hvb; clear hvb
  have HK := Lib.hid hok; clear hok
  have HL := Lib.hid hl; clear hl
  have HNN := Lib.hid hn; clear hn
  have H6 := Lib.hid hi; clear hi
  have H7 := Lib.hid hz0; clear hz0
  have H8 := Lib.hid hz1; clear hz1
  have H9 := Lib.hid hz2; clear hz2
  unfold ptr
  go_enter Tryz.func133, Tryz.ntmps133
  go_wp2_with (at_builtin; refine wpList_append2 rfl _ _ _ rfl 197 i0 .nilIface 16 Tryz.underlying139 H6.out H7.out H8.out H9.out rfl vc f.chs.length xs rfl (owns_alloc HO.out _) ⟨w.heap.size, 0, none⟩ 1 1 [.iface 145 (.agg #[.int .i64 i, vb])] rfl rfl (one_new _ _ _) (by simp [Value.oneCell']) (lim_len' HL.out) (lim_by' HL.out (by decide)) ?_)
  intro v2 w2 hown2 hgrow2 hnew
  have hgrow2 : World.grownBy _ w2 vc.ownBlock := hgrow2
  have hnew : ∀ g, v2.ownBlock = some g → vc.ownBlock = some g ∨ _ ≤ g := hnew
  obtain ⟨g2, cap2, rfl⟩ := own_succ hown2
  have HW2 := Lib.hid hnew
  have HO2 := Lib.hid hown2
  have hh2 : w2.heap[fb]? = some (.cells #[vs, vc, vn] 141 (0, 0)) := (hgrow2.block fb (by simp; omega) (own_ne HF.out HG.out)).trans (heap_alloc_old _ HH.out)
  have HK2 : Hid (Kp c (fun q => q = fcol k fb ∨ q = gcol k fb) w w2) := ((Kp.refl c _ w).alloc _).grown hgrow2 (fun g hg _ => Or.inr (HG.out g hg))
  have cg1 := cell_of_heap hh2 1
  have fg := unfrozen_of_heap hh2
  have HH2 := Lib.hid hh2
  clear hown2 hh2 cf0 cf1 cf2 ff hgrow2 hnew
  go_wp2_with fail
  have hh3 := heap_setCell HH2.out 1 (.slice (some ⟨g2, 0, none⟩) (f.chs.length + 1) cap2)
  have HK3 := Lib.hid (HK2.out.setCell (p := ⟨fb, 1, none⟩) (fun _ => Or.inl HF.out) (.slice (some ⟨g2, 0, none⟩) (f.chs.length + 1) cap2))
  have HO3 : Hid ((w2.setCell ⟨fb, 1, none⟩ (.slice (some ⟨g2, 0, none⟩) (f.chs.length + 1) cap2)).ownsRow 0 197 1 (.slice (some ⟨g2, 0, none⟩) (f.chs.length + 1) cap2) (f.chs.length + 1) (xs ++ [.iface 145 (.agg #[.int .i64 i, vb])])) :=
    ownsRow_kp (c := fun b => if b = fb then (1, 0) else (0, 0)) (S := fun q => q = (1, 0)) (q := (0, 0)) HO2.out (fun g hg => by cases hg; rw [if_neg (own_ne2 hlt HF.out HG.out HW2.out)]) ((Kp.refl _ _ _).setCell (fun _ => by simp) _) (by simp)
  obtain ⟨w3, hw3⟩ : ∃ w3, w3 = w2.setCell ⟨fb, 1, none⟩ (.slice (some ⟨g2, 0, none⟩) (f.chs.length + 1) cap2) := ⟨_, rfl⟩
  rw [← hw3] at hh3 HK3 HO3 ⊢
  clear hw3 HH2 HK2 HO2 cg1 fg
  have cf0 := cell_of_heap hh3 0
  have cf1 := cell_of_heap hh3 1
  have cf2 := cell_of_heap hh3 2
  have ff := unfrozen_of_heap hh3
  have HH3 := Lib.hid hh3
  clear hh3
  have HV3 := Lib.hid (HV.out.kp HK3.out nS0 (Cx.refl _ _))
  have HN3 := Lib.hid (HN.out.kp HK3.out nS0 (Cx.refl _ _))
  clear hgrow2 hnew
  have hna := nilA_write
  have hme := meth_write
  have hlt3 : fb < w3.heap.size := lt_of_heap HH3.out
  go_region_with (first | (go_at_call 235; refine (write_apply i vb vn b f.now _ (HV3.out.drew) (HN3.out.drew) HNN.out HK.out).mono ?_; rintro e w4 ⟨g4, rfl, hown4, hb4⟩; have cg2 := (bcell hb4).1 fb 2 hlt3; have fg2 := (bcell hb4).2 fb 2 hlt3; have HO4 := Lib.hid hown4; have HB4 : Hid (Below w3.heap.size w3 w4) := ((Below.refl _ w3).drew).trans hb4; clear hown4 hb4))
  all_goals
    go_wp2
    go_end0
    exact ⟨rfl, do_end hlt HO.out HX.out HG.out HF.out HS.out HW2.out HH3.out HK3.out HO3.out ⟨_, rfl, HV.out⟩ HO4.out HB4.out⟩
theorem do_cut (k fb : Nat) (f : AFile) (i : Nat) (v : Value) (w : World) (h : FileAt w c k fb f) (hv : ChV w c v (.cut i)) (hok : (Chg.cut i).ok) (hn : f.now.length ≤ maxFile) (hl : f.chs.length + 1 ≤ lim) :
    Calls Tryz.prog 133 #[ptr fb, v] w fun e w' => e = .returned (.tuple #[]) ∧ ∃ c', Cx w c c' ∧ Kp c (fun q => q = fcol k fb ∨ q = gcol k fb) w w' ∧ FileAt w' c' k fb ⟨f.safe, f.chs ++ [.cut i], (Chg.cut i).app f.now⟩ := by
  obtain ⟨vs, vc, vn, hh, hcf, hs, ⟨xs, hown, hxs, hgc⟩, hnow⟩ := h
  have hv : v = _ := hv
  subst hv
  have cf0 := cell_of_heap hh 0
  have cf1 := cell_of_heap hh 1
  have cf2 := cell_of_heap hh 2
  have ff := unfrozen_of_heap hh
  have hlt := lt_of_heap hh
  obtain ⟨i0, hi, hz0, hz1, hz2⟩ := info_parts info_change
  have HO := Lib.hid hown; clear hown
  have HX := Lib.hid hxs; clear hxs
  have HG := Lib.hid hgc; clear hgc
  have HH := Lib.hid hh; clear hh
  have HF := Lib.hid hcf; clear hcf
  have HS := Lib.hid hs; clear hs
  have HN := Lib.hid hnow; clear hnow
  have HK := Lib.hid hok; clear hok
  have HL := Lib.hid hl; clear hl
  have HNN := Lib.hid hn; clear hn
  have H6 := Lib.hid hi; clear hi
  have H7 := Lib.hid hz0; clear hz0
  have H8 := Lib.hid hz1; clear hz1
  have H9 := Lib.hid hz2; clear hz2
  unfold ptr
  go_enter Tryz.func133, Tryz.ntmps133
  go_wp2_with (at_builtin; refine wpList_append2 rfl _ _ _ rfl 197 i0 .nilIface 16 Tryz.underlying139 H6.out H7.out H8.out H9.out rfl vc f.chs.length xs rfl (owns_alloc HO.out _) ⟨w.heap.size, 0, none⟩ 1 1 [.iface 195 (.agg #[.int .i64 i])] rfl rfl (one_new _ _ _) (by simp [Value.oneCell']) (lim_len' HL.out) (lim_by' HL.out (by decide)) ?_)
  intro v2 w2 hown2 hgrow2 hnew
  have hgrow2 : World.grownBy _ w2 vc.ownBlock := hgrow2
  have hnew : ∀ g, v2.ownBlock = some g → vc.ownBlock = some g ∨ _ ≤ g := hnew
  obtain ⟨g2, cap2, rfl⟩ := own_succ hown2
  have HW2 := Lib.hid hnew
  have HO2 := Lib.hid hown2
  have hh2 : w2.heap[fb]? = some (.cells #[vs, vc, vn] 141 (0, 0)) := (hgrow2.block fb (by simp; omega) (own_ne HF.out HG.out)).trans (heap_alloc_old _ HH.out)
  have HK2 : Hid (Kp c (fun q => q = fcol k fb ∨ q = gcol k fb) w w2) := ((Kp.refl c _ w).alloc _).grown hgrow2 (fun g hg _ => Or.inr (HG.out g hg))
  have cg1 := cell_of_heap hh2 1
  have fg := unfrozen_of_heap hh2
  have HH2 := Lib.hid hh2
  clear hown2 hh2 cf0 cf1 cf2 ff hgrow2 hnew
  go_wp2_with fail
  have hh3 := heap_setCell HH2.out 1 (.slice (some ⟨g2, 0, none⟩) (f.chs.length + 1) cap2)
  have HK3 := Lib.hid (HK2.out.setCell (p := ⟨fb, 1, none⟩) (fun _ => Or.inl HF.out) (.slice (some ⟨g2, 0, none⟩) (f.chs.length + 1) cap2))
  have HO3 : Hid ((w2.setCell ⟨fb, 1, none⟩ (.slice (some ⟨g2, 0, none⟩) (f.chs.length + 1) cap2)).ownsRow 0 197 1 (.slice (some ⟨g2, 0, none⟩) (f.chs.length + 1) cap2) (f.chs.length + 1) (xs ++ [.iface 195 (.agg #[.int .i64 i])])) :=
    ownsRow_kp (c := fun b => if b = fb then (1, 0) else (0, 0)) (S := fun q => q = (1, 0)) (q := (0, 0)) HO2.out (fun g hg => by cases hg; rw [if_neg (own_ne2 hlt HF.out HG.out HW2.out)]) ((Kp.refl _ _ _).setCell (fun _ => by simp) _) (by simp)
  obtain ⟨w3, hw3⟩ : ∃ w3, w3 = w2.setCell ⟨fb, 1, none⟩ (.slice (some ⟨g2, 0, none⟩) (f.chs.length + 1) cap2) := ⟨_, rfl⟩
  rw [← hw3] at hh3 HK3 HO3 ⊢
  clear hw3 HH2 HK2 HO2 cg1 fg
  have cf0 := cell_of_heap hh3 0
  have cf1 := cell_of_heap hh3 1
  have cf2 := cell_of_heap hh3 2
  have ff := unfrozen_of_heap hh3
  have HH3 := Lib.hid hh3
  clear hh3
  have HN3 := Lib.hid (HN.out.kp HK3.out nS0 (Cx.refl _ _))
  clear hgrow2 hnew
  have hna := nilA_cut
  have hme := meth_cut
  have hlt3 : fb < w3.heap.size := lt_of_heap HH3.out
  go_region_with (first | (go_at_call 238; refine (cut_apply i vn f.now _ (HN3.out.drew) HK.out).mono ?_; rintro e w4 ⟨g4, rfl, hown4, hb4⟩; have cg2 := (bcell hb4).1 fb 2 hlt3; have fg2 := (bcell hb4).2 fb 2 hlt3; have HO4 := Lib.hid hown4; have HB4 : Hid (Below w3.heap.size w3 w4) := ((Below.refl _ w3).drew).trans hb4; clear hown4 hb4))
  all_goals
    go_wp2
    go_end0
    exact ⟨rfl, do_end hlt HO.out HX.out HG.out HF.out HS.out HW2.out HH3.out HK3.out HO3.out rfl HO4.out HB4.out⟩
/-- file.do, whatever the change. -/
theorem do_any (k fb : Nat) (f : AFile) (x : Chg) (v : Value) (w : World) (h : FileAt w c k fb f) (hv : ChV w c v x) (hok : x.ok) (hn : f.now.length ≤ maxFile) (hl : f.chs.length + 1 ≤ lim) :
    Calls Tryz.prog 133 #[ptr fb, v] w fun e w' => e = .returned (.tuple #[]) ∧ ∃ c', Cx w c c' ∧ Kp c (fun q => q = fcol k fb ∨ q = gcol k fb) w w' ∧ FileAt w' c' k fb ⟨f.safe, f.chs ++ [x], x.app f.now⟩ := by
  cases x with
  | wr i b => exact do_wr k fb f i b v w h hv hok hn hl
  | cut i => exact do_cut k fb f i v w h hv hok hn hl
end Go.Proofs.YtnifmoigalmcmaaGreat
/- The log's bytes, as a plain model: batches as lists of lists of bytes. -/
namespace Go.Proofs.YtnifmoigalmcmaaGreat
namespace Wl
abbrev Bs := List UInt8
def low (n many : Nat) : Bs := (List.range many).map fun i => UInt8.ofNat (n / 2 ^ (8 * i))
def num : Bs → Nat
  | [] => 0
  | b :: r => b.toNat + 256 * num r
theorem low_length (n many : Nat) : (low n many).length = many := by simp [low]
theorem low_succ (n many : Nat) : low n (many + 1) = UInt8.ofNat n :: low (n / 256) many := by
  unfold low
  rw [List.range_succ_eq_map, List.map_cons, List.map_map]
  congr 1
  · simp
  · refine List.map_congr_left fun i _ => ?_
    show UInt8.ofNat (n / 2 ^ (8 * (i + 1))) = _
    rw [show 8 * (i + 1) = 8 + 8 * i by omega, Nat.pow_add, ← Nat.div_div_eq_div_mul]
theorem num_low : ∀ (many n : Nat), n < 256 ^ many → num (low n many) = n
  | 0, n, h => by simp at h; subst h; rfl
  | many + 1, n, h => by
    rw [low_succ, num, num_low many (n / 256) (by rw [Nat.pow_succ] at h; omega)]
    simp; omega
theorem low_snoc (n many : Nat) : low n (many + 1) = low n many ++ [UInt8.ofNat (n / 2 ^ (8 * many))] := by
  simp [low, List.range_succ]
def good (l : List Bs) : Bool := decide (1 ≤ l.length ∧ l.length ≤ 4096 ∧ (∀ r ∈ l, r.length ≤ 1048576) ∧ 12 + (l.map fun r => 4 + r.length).sum ≤ 16777216)
def recs (l : List Bs) : Bs := l.flatMap fun r => low r.length 4 ++ r
theorem recs_length (l : List Bs) : (recs l).length = (l.map fun r => 4 + r.length).sum := by
  induction l with
  | nil => rfl
  | cons a r ih =>
    have e : recs (a :: r) = low a.length 4 ++ a ++ recs r := by simp [recs]
    rw [e, List.length_append, List.length_append, low_length, ih, List.map_cons, List.sum_cons]
def body (n : Nat) (l : List Bs) : Bs := low n 8 ++ low l.length 4 ++ recs l
def head (n : Nat) (l : List Bs) : Bs := low (body n l).length 4 ++ body n l
variable (kec : Bs → Bs)
def enc (n : Nat) (l : List Bs) : Bs := head n l ++ (kec (head n l)).take 8
def parse : Nat → Bs → Option (List Bs)
  | 0, b => if b = [] then some [] else none
  | k + 1, b => if b.length < 4 then none else if num (b.take 4) > 1048576 ∨ num (b.take 4) > b.length - 4 then none else (parse k (b.drop (4 + num (b.take 4)))).map ((b.drop 4).take (num (b.take 4)) :: ·)
def first (b : Bs) (number : Nat) : Option (List Bs × Nat) :=
  if b.length < 4 then none else
  if num (b.take 4) < 12 ∨ num (b.take 4) > 16777216 ∨ b.length < 4 + num (b.take 4) + 8 then none else
  if (kec (b.take (4 + num (b.take 4)))).take 8 ≠ (b.drop (4 + num (b.take 4))).take 8 then none else
  if num ((b.drop 4).take 8) ≠ number then none else
  if num ((b.drop 12).take 4) < 1 ∨ num ((b.drop 12).take 4) > 4096 then none else
  (parse (num ((b.drop 12).take 4)) ((b.drop 16).take (num (b.take 4) - 12))).map fun l => (l, 4 + num (b.take 4) + 8)
def readF : Nat → Bs → Nat → List (List Bs) × Nat
  | 0, _, _ => ([], 0)
  | f + 1, b, k => match first kec b k with
    | none => ([], 0)
    | some (l, n) => (l :: (readF f (b.drop n) (k + 1)).1, n + (readF f (b.drop n) (k + 1)).2)
def read (b : Bs) : List (List Bs) × Nat := readF kec (b.length + 1) b 0
theorem first_pos {b : Bs} {k : Nat} {l : List Bs} {n : Nat} (h : first kec b k = some (l, n)) : 24 ≤ n ∧ n ≤ b.length := by
  unfold first at h
  split at h; · cases h
  split at h; · cases h
  rename_i h2
  split at h; · cases h
  split at h; · cases h
  split at h; · cases h
  cases hp : parse (num ((b.drop 12).take 4)) ((b.drop 16).take (num (b.take 4) - 12)) with
  | none => rw [hp] at h; cases h
  | some x => rw [hp] at h; simp at h; omega
theorem readF_fuel : ∀ (f g : Nat) (b : Bs) (k : Nat), b.length < f → b.length < g → readF kec f b k = readF kec g b k
  | 0, _, _, _, h, _ => absurd h (Nat.not_lt_zero _)
  | _, 0, _, _, _, h => absurd h (Nat.not_lt_zero _)
  | f + 1, g + 1, b, k, hf, hg => by
    unfold readF
    cases h : first kec b k with
    | none => rfl
    | some x =>
      obtain ⟨l, n⟩ := x
      have := first_pos kec h
      simp only
      rw [readF_fuel f g (b.drop n) (k + 1) (by simp; omega) (by simp; omega)]
theorem readF_none {b : Bs} {k f : Nat} (h : first kec b k = none) : readF kec f b k = ([], 0) := by
  cases f with
  | zero => rfl
  | succ f => unfold readF; rw [h]
theorem readF_some {b : Bs} {k f : Nat} {l : List Bs} {n : Nat} (hf : b.length < f) (h : first kec b k = some (l, n)) : readF kec f b k = (l :: (readF kec f (b.drop n) (k + 1)).1, n + (readF kec f (b.drop n) (k + 1)).2) := by
  obtain ⟨g, rfl⟩ : ∃ g, f = g + 1 := ⟨f - 1, by omega⟩
  have := first_pos kec h
  conv => lhs; unfold readF
  rw [h]; simp only
  rw [readF_fuel kec g (g + 1) (b.drop n) (k + 1) (by simp; omega) (by simp; omega)]
theorem parse_recs : ∀ (l : List Bs), (∀ r ∈ l, r.length ≤ 1048576) → parse l.length (recs l) = some l
  | [], _ => by simp [parse, recs]
  | r :: t, h => by
    have hr : r.length ≤ 1048576 := h r (by simp)
    have e1 : recs (r :: t) = low r.length 4 ++ (r ++ recs t) := by simp [recs]
    have hn : num ((recs (r :: t)).take 4) = r.length := by
      rw [e1, List.take_left' (low_length _ _)]; exact num_low 4 _ (by omega)
    have hd : (recs (r :: t)).drop 4 = r ++ recs t := by rw [e1, List.drop_left' (low_length _ _)]
    have hl : (recs (r :: t)).length = 4 + r.length + (recs t).length := by simp [e1, low_length]; omega
    show parse (t.length + 1) _ = _
    unfold parse
    rw [hn, if_neg (by omega), if_neg (by omega), ← List.drop_drop, hd, List.take_left' rfl, List.drop_left' rfl, parse_recs t (fun x hx => h x (List.mem_cons_of_mem _ hx))]
    rfl
theorem good_length {l : List Bs} (h : good l = true) : 1 ≤ l.length ∧ l.length ≤ 4096 ∧ (∀ r ∈ l, r.length ≤ 1048576) ∧ 12 + (l.map fun r => 4 + r.length).sum ≤ 16777216 := by simpa [good] using h
theorem body_length (n : Nat) (l : List Bs) : (body n l).length = 12 + (l.map fun r => 4 + r.length).sum := by simp [body, low_length, recs_length]; omega
theorem head_length (n : Nat) (l : List Bs) : (head n l).length = 16 + (l.map fun r => 4 + r.length).sum := by simp [head, low_length, body_length]; omega
variable {kec}
theorem enc_length (hk : ∀ b, (kec b).length = 32) (n : Nat) (l : List Bs) : (enc kec n l).length = 24 + (l.map fun r => 4 + r.length).sum := by simp [enc, head_length, hk]; omega
theorem first_enc (hk : ∀ b, (kec b).length = 32) {n : Nat} {l : List Bs} (hn : n < 2 ^ 64) (hg : good l = true) (more : Bs) : first kec (enc kec n l ++ more) n = some (l, (enc kec n l).length) := by
  obtain ⟨h1, h2, h3, h4⟩ := good_length hg
  have hel := enc_length hk n l
  obtain ⟨s, hs⟩ : ∃ s, s = (l.map fun r => 4 + r.length).sum := ⟨_, rfl⟩
  have hbl := body_length n l
  have hhl := head_length n l
  rw [← hs] at h4 hel hbl hhl
  have e0 : enc kec n l ++ more = low (12 + s) 4 ++ (body n l ++ ((kec (head n l)).take 8 ++ more)) := by simp [enc, head, hbl]
  have hT : (enc kec n l ++ more).take 4 = low (12 + s) 4 := by rw [e0, List.take_left' (low_length _ _)]
  have hN : num ((enc kec n l ++ more).take 4) = 12 + s := by rw [hT]; exact num_low 4 _ (by omega)
  have hL : (enc kec n l ++ more).length = 24 + s + more.length := by simp [hel]
  have hD4 : (enc kec n l ++ more).drop 4 = body n l ++ ((kec (head n l)).take 8 ++ more) := by rw [e0, List.drop_left' (low_length _ _)]
  have e1 : enc kec n l ++ more = head n l ++ ((kec (head n l)).take 8 ++ more) := by simp [enc]
  have hTh : (enc kec n l ++ more).take (4 + (12 + s)) = head n l := by rw [e1, List.take_left' (by omega)]
  have hDh : ((enc kec n l ++ more).drop (4 + (12 + s))).take 8 = (kec (head n l)).take 8 := by
    rw [e1, List.drop_left' (by omega), List.take_left' (by simp [hk])]
  have b0 : body n l ++ ((kec (head n l)).take 8 ++ more) = low n 8 ++ (low l.length 4 ++ (recs l ++ ((kec (head n l)).take 8 ++ more))) := by simp [body]
  have hD12 : (enc kec n l ++ more).drop 12 = low l.length 4 ++ (recs l ++ ((kec (head n l)).take 8 ++ more)) := by
    rw [show 12 = 4 + 8 from rfl, ← List.drop_drop, hD4, b0, List.drop_left' (low_length _ _)]
  have hD16 : (enc kec n l ++ more).drop 16 = recs l ++ ((kec (head n l)).take 8 ++ more) := by
    rw [show 16 = 12 + 4 from rfl, ← List.drop_drop, hD12, List.drop_left' (low_length _ _)]
  unfold first
  rw [hN, hTh, hDh, hD4, hD12, hD16, b0, List.take_left' (low_length _ _), List.take_left' (low_length _ _), num_low 8 n (by omega), num_low 4 _ (by omega), List.take_left' (by rw [recs_length]; omega), parse_recs l h3]
  rw [if_neg (by omega), if_neg (by omega), if_neg (by simp), if_neg (by simp), if_neg (by omega), hel]
  simp; omega
/-- The bytes of batches, from a number on. -/
def encs (kec : Bs → Bs) : Nat → List (List Bs) → Bs
  | _, [] => []
  | n, l :: r => enc kec n l ++ encs kec (n + 1) r
theorem readF_encs (hk : ∀ b, (kec b).length = 32) (l : List (List Bs)) : ∀ (n f : Nat) (more : Bs), (∀ x ∈ l, good x = true) → n + l.length ≤ 2 ^ 64 → (encs kec n l ++ more).length < f →
    readF kec f (encs kec n l ++ more) n = (l ++ (readF kec f more (n + l.length)).1, (encs kec n l).length + (readF kec f more (n + l.length)).2) := by
  induction l with
  | nil => intro n f more _ _ _; simp [encs]
  | cons x r ih =>
    intro n f more hg hn hf
    have e : encs kec n (x :: r) ++ more = enc kec n x ++ (encs kec (n + 1) r ++ more) := by simp [encs]
    rw [List.length_cons] at hn
    rw [e] at hf ⊢
    rw [readF_some kec hf (first_enc hk (by omega) (hg x (by simp)) _), List.drop_left' rfl, ih (n + 1) f more (fun y hy => hg y (List.mem_cons_of_mem _ hy)) (by omega) (by rw [List.length_append] at hf; omega)]
    simp only [encs, List.length_append, List.cons_append, List.length_cons]
    rw [show n + 1 + r.length = n + (r.length + 1) by omega]
    simp only [Prod.mk.injEq, true_and]; omega
end Wl
end Go.Proofs.YtnifmoigalmcmaaGreat
