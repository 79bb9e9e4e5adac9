import Derived.Test.YtepphepcaphlkaaMem
namespace Go.Proofs.Ytepphepcaphlkaa
open Go Go.RowKit Go.MapKept Go.Maps
open Dk
theorem info_u8 : (Try.prog.info? 5).map (fun i => (i.zero, i.size, i.bytes)) = some (some (.int .u8 0), 1, 1) := by kernel_rfl
theorem info_int : (Try.prog.info? 3).map (fun i => (i.zero, i.size, i.bytes)) = some (some (.int .i64 0), 1, 8) := by kernel_rfl
theorem info_change : (Try.prog.info? 109).map (fun i => (i.zero, i.size, i.bytes)) = some (some .nilIface, 1, 16) := by kernel_rfl
def lim : Nat := 1099511627776
variable {c : Col} {w : World} {q : Nat × Nat}
theorem owns_empty (w : World) (e : TypeId) : (w.alloc (.cells #[] e)).ownsRow w.heap.size e 1 (.slice (some ⟨w.heap.size, 0, none⟩) 0 0) 0 [] :=
  ⟨rfl, .inr ⟨w.heap.size, 0, #[], rfl, Nat.le_refl _, heap_alloc_new _ _, Nat.le_refl _, Nat.zero_le _, rfl, rfl⟩⟩
theorem add_eq {ad : Addr} (h : ad.spot = none) (j : Nat) : ad.add j = ⟨ad.block, ad.off + j, none⟩ := by
  obtain ⟨b, o, s⟩ := ad
  cases h
  by_cases h0 : j = 0 <;> simp [Addr.add, h0]
theorem cells_add {ad : Addr} (hs : ad.spot = none) {xs : List Value} (h : ∀ (j : Nat) u, xs[j]? = some u → c ad.block = q ∧ w.cell? ⟨ad.block, ad.off + j, none⟩ = some u) :
    ∀ (j : Nat) u, xs[j]? = some u → w.cell? (ad.add j) = some u := fun j u hj => by
  rw [add_eq hs]; exact (h j u hj).2
theorem cells_alloc {ad : Addr} (hs : ad.spot = none) {xs : List Value} (h : ∀ (j : Nat) u, xs[j]? = some u → c ad.block = q ∧ w.cell? ⟨ad.block, ad.off + j, none⟩ = some u) (o : Obj) :
    ∀ (j : Nat) u, xs[j]? = some u → (w.alloc o).cell? (ad.add j) = some u := fun j u hj => by
  rw [add_eq hs, World.cell?_alloc_lt _ _ _ (World.block_lt_of_cell? _ _ (h j u hj).2)]; exact (h j u hj).2
theorem lim_len {n : Nat} (h : n ≤ lim) : 0 + n ≤ maxLen := by unfold lim at h; unfold maxLen; omega
theorem lim_by {n k : Nat} (h : n ≤ lim) (hk : k ≤ 64) : (0 + n) * k ≤ 140737488355328 := by
  unfold lim at h
  have := Nat.mul_le_mul h hk
  rw [Nat.zero_add]; omega
theorem one_bv (l : List UInt8) : ∀ u ∈ l.map bv, u.oneCell' = true := fun u hu => by obtain ⟨x, _, rfl⟩ := List.mem_map.1 hu; rfl
theorem one_iv (l : List Int) : ∀ u ∈ l.map iv, u.oneCell' = true := fun u hu => by obtain ⟨x, _, rfl⟩ := List.mem_map.1 hu; rfl
theorem nil_bytes : ∀ (w : World) (a : Option Addr) (n c n' c' : Nat), (binOp .eql 30 (.slice a n c) (.slice none n' c')).run Try.prog w = .ok (.bool a.isNone) w := fun w a n c n' c' => Lib.run_eql_slice_nil w _ _ a n c n' c' Try.underlying30
theorem cloneB (v : Value) (xs : List Value) (h : Sc w c q v xs) (h1 : ∀ u ∈ xs, u.oneCell' = true) (hl : xs.length ≤ lim) :
    Calls Try.prog 44 #[v] w fun e w' => ∃ v', e = .returned v' ∧ w'.ownsRow w.heap.size 5 1 v' xs.length xs ∧ Below w.heap.size w w' := by
  obtain ⟨a, cap, rfl, hlc, hcm, hn0, hc⟩ := h
  have q22 := nil_bytes
  cases a with
  | none =>
    have h0 := hn0 rfl
    subst h0
    have hx : xs = [] := List.eq_nil_of_length_eq_zero (by omega)
    subst hx
    clear hlc hcm hn0 hc h1 hl
    go_enter Try.func44, Try.ntmps44
    go_wp2
    go_ret
    exact ⟨_, rfl, World.ownsRow_nil _ _ _ _, Below.refl _ _⟩
  | some ad =>
    obtain ⟨hsp, hcell⟩ := hc ad rfl
    obtain ⟨i, hi, hz0, hz1, hz2⟩ := info_parts info_u8
    have H1 := Lib.hid (cells_alloc hsp hcell (.cells #[] 5)); clear hcell
    have H2 := Lib.hid hl; clear hl
    have H5 := Lib.hid h1; clear h1
    have H6 := Lib.hid hi; clear hi
    have H7 := Lib.hid hz0; clear hz0
    have H8 := Lib.hid hz1; clear hz1
    have H9 := Lib.hid hz2; clear hz2
    clear hn0 hc hlc hcm
    go_enter Try.func44, Try.ntmps44
    go_wp2_with (at_builtin; refine wpList_append_own _ rfl _ _ _ rfl w.heap.size 5 i (.int .u8 0) 1 1 Try.underlying30 H6.out H7.out H8.out H9.out rfl (by decide) _ 0 [] rfl (owns_empty w _) ad xs.length cap xs rfl (by simp) H1.out H5.out (lim_len H2.out) (lim_by H2.out (by decide)) (by simp) ?_; intro v' w' hown hgrow _)
    go_ret
    refine ⟨_, rfl, by simpa using hown, ((Below.refl _ w).alloc (Nat.le_refl _) _).grown hgrow (by simp) (fun g hg => ?_)⟩
    cases hg; exact Nat.le_refl _
theorem nil_ints : ∀ (w : World) (a : Option Addr) (n c n' c' : Nat), (binOp .eql 27 (.slice a n c) (.slice none n' c')).run Try.prog w = .ok (.bool a.isNone) w := fun w a n c n' c' => Lib.run_eql_slice_nil w _ _ a n c n' c' Try.underlying27
theorem cloneI (v : Value) (xs : List Value) (h : Sc w c q v xs) (h1 : ∀ u ∈ xs, u.oneCell' = true) (hl : xs.length ≤ lim) :
    Calls Try.prog 64 #[v] w fun e w' => ∃ v', e = .returned v' ∧ w'.ownsRow w.heap.size 3 1 v' xs.length xs ∧ Below w.heap.size w w' := by
  obtain ⟨a, cap, rfl, hlc, hcm, hn0, hc⟩ := h
  have q22 := nil_ints
  cases a with
  | none =>
    have h0 := hn0 rfl
    subst h0
    have hx : xs = [] := List.eq_nil_of_length_eq_zero (by omega)
    subst hx
    clear hlc hcm hn0 hc h1 hl
    go_enter Try.func64, Try.ntmps64
    go_wp2
    go_ret
    exact ⟨_, rfl, World.ownsRow_nil _ _ _ _, Below.refl _ _⟩
  | some ad =>
    obtain ⟨hsp, hcell⟩ := hc ad rfl
    obtain ⟨i, hi, hz0, hz1, hz2⟩ := info_parts info_int
    have H1 := Lib.hid (cells_alloc hsp hcell (.cells #[] 3)); clear hcell
    have H2 := Lib.hid hl; clear hl
    have H5 := Lib.hid h1; clear h1
    have H6 := Lib.hid hi; clear hi
    have H7 := Lib.hid hz0; clear hz0
    have H8 := Lib.hid hz1; clear hz1
    have H9 := Lib.hid hz2; clear hz2
    clear hn0 hc hlc hcm
    go_enter Try.func64, Try.ntmps64
    go_wp2_with (at_builtin; refine wpList_append_own _ rfl _ _ _ rfl w.heap.size 3 i (.int .i64 0) 1 8 Try.underlying27 H6.out H7.out H8.out H9.out rfl (by decide) _ 0 [] rfl (owns_empty w _) ad xs.length cap xs rfl (by simp) H1.out H5.out (lim_len H2.out) (lim_by H2.out (by decide)) (by simp) ?_; intro v' w' hown hgrow _)
    go_ret
    refine ⟨_, rfl, by simpa using hown, ((Below.refl _ w).alloc (Nat.le_refl _) _).grown hgrow (by simp) (fun g hg => ?_)⟩
    cases hg; exact Nat.le_refl _
theorem nil_changes : ∀ (w : World) (a : Option Addr) (n c n' c' : Nat), (binOp .eql 78 (.slice a n c) (.slice none n' c')).run Try.prog w = .ok (.bool a.isNone) w := fun w a n c n' c' => Lib.run_eql_slice_nil w _ _ a n c n' c' Try.underlying78
theorem cloneC (v : Value) (xs : List Value) (h : Sc w c q v xs) (h1 : ∀ u ∈ xs, u.oneCell' = true) (hl : xs.length ≤ lim) :
    Calls Try.prog 74 #[v] w fun e w' => ∃ v', e = .returned v' ∧ w'.ownsRow w.heap.size 109 1 v' xs.length xs ∧ Below w.heap.size w w' := by
  obtain ⟨a, cap, rfl, hlc, hcm, hn0, hc⟩ := h
  have q22 := nil_changes
  cases a with
  | none =>
    have h0 := hn0 rfl
    subst h0
    have hx : xs = [] := List.eq_nil_of_length_eq_zero (by omega)
    subst hx
    clear hlc hcm hn0 hc h1 hl
    go_enter Try.func74, Try.ntmps74
    go_wp2
    go_ret
    exact ⟨_, rfl, World.ownsRow_nil _ _ _ _, Below.refl _ _⟩
  | some ad =>
    obtain ⟨hsp, hcell⟩ := hc ad rfl
    obtain ⟨i, hi, hz0, hz1, hz2⟩ := info_parts info_change
    have H1 := Lib.hid (cells_alloc hsp hcell (.cells #[] 109)); clear hcell
    have H2 := Lib.hid hl; clear hl
    have H5 := Lib.hid h1; clear h1
    have H6 := Lib.hid hi; clear hi
    have H7 := Lib.hid hz0; clear hz0
    have H8 := Lib.hid hz1; clear hz1
    have H9 := Lib.hid hz2; clear hz2
    clear hn0 hc hlc hcm
    go_enter Try.func74, Try.ntmps74
    go_wp2_with (at_builtin; refine wpList_append_own _ rfl _ _ _ rfl w.heap.size 109 i .nilIface 1 16 Try.underlying78 H6.out H7.out H8.out H9.out rfl (by decide) _ 0 [] rfl (owns_empty w _) ad xs.length cap xs rfl (by simp) H1.out H5.out (lim_len H2.out) (lim_by H2.out (by decide)) (by simp) ?_; intro v' w' hown hgrow _)
    go_ret
    refine ⟨_, rfl, by simpa using hown, ((Below.refl _ w).alloc (Nat.le_refl _) _).grown hgrow (by simp) (fun g hg => ?_)⟩
    cases hg; exact Nat.le_refl _
end Go.Proofs.Ytepphepcaphlkaa
