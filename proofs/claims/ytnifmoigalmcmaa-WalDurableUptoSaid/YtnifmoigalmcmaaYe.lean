/- wal.twin and the law's twins: batches in new memory. -/
import Derived.Test.YtnifmoigalmcmaaYd
import Derived.Test.YtnifmoigalmcmaaYc
namespace Go.Proofs.Ytnifmoigalmcmaa
open Go Go.RowKit
open Wl
variable {c c' : Col} {w w' : World} {S : Nat × Nat → Prop} {q : Nat × Nat}
theorem info_bytes : ∃ i, Try.prog.info? 23 = some i ∧ i.zero = some (.slice none 0 0) ∧ i.size = 1 ∧ i.bytes = 24 := by
  have h : (Try.prog.info? 23).map (fun i => (i.zero, i.size, i.bytes)) = some (some (.slice none 0 0), 1, 24) := by kernel_rfl
  cases hi : Try.prog.info? 23 with
  | none => rw [hi] at h; cases h
  | some i =>
    rw [hi] at h
    simp only [Option.map_some, Option.some.injEq, Prod.mk.injEq] at h
    exact ⟨i, rfl, h.1, h.2.1, h.2.2⟩
theorem twin1_c (v : Value) (xs : List Value) (h : Sc w c q v xs) (h1 : ∀ u ∈ xs, u.oneCell' = true) (hl : xs.length ≤ lim) :
    Calls Try.prog 66 #[v] w fun e w' => ∃ v', e = .returned v' ∧ w'.ownsRow w.heap.size 5 1 v' xs.length xs ∧ Below w.heap.size w w' := by
  have HC := Lib.hid (cloneB v xs h h1 hl)
  clear h h1 hl
  go_enter Try.func66, Try.ntmps66
  go_wp2_with (go_at_call 56; refine HC.out.mono ?_; rintro _ w1 ⟨v1, rfl, h1, h2⟩; have H1 := Lib.hid h1; have H2 := Lib.hid h2; clear h1 h2)
  go_ret
  exact ⟨_, rfl, H1.out, H2.out⟩
/-- A new slice of bytes joins. -/
theorem grow_clone {B : Nat} {wr w4 : World} {v x : Value} {cf : Col} {l : List Bs} {r : Bs} (G : Grow QB B wr 23 v cf l) (ho : w4.ownsRow 0 5 1 x r.length (r.map bv)) (hf : ∀ g, x.ownBlock = some g → wr.heap.size ≤ g) (hk : ∀ c S, Kp c S wr w4) (o : Obj) :
    ∃ cg xs, Grow QB B (w4.alloc o) 23 v cg l ∧ (w4.alloc o).ownsRow 0 23 1 v l.length xs ∧ QB (w4.alloc o) cg x r := by
  have G1 := G.kp QB.stays (hk cf (fun _ => False)) (fun h => h) (fun h => h)
  have h1 : QB w4 (newCol wr cf (0, 0)) x r := Sc.of_owns ho (fun g hg => if_neg (Nat.not_lt.2 (hf g hg)))
  have hk : Kp (newCol wr cf (0, 0)) (fun _ => False) w4 (w4.alloc o) := (Kp.refl _ _ _).alloc _
  have G2 := G1.kp QB.stays hk (fun h => h) (fun h => h)
  obtain ⟨xs, hxs, _⟩ := G2.own
  exact ⟨_, xs, G2, hxs, QB.stays.stay h1 hk (fun h => h) (newCol_cx _ _ _)⟩
set_option maxRecDepth 20000 in
set_option maxHeartbeats 1000000 in
theorem mapped_b (q1 q2 : Nat × Nat) (v : Value) (l : List Bs) (h : Bat w c q1 q2 v l) (hl : l.length ≤ 1000000000) (hb : ∀ r ∈ l, r.length ≤ lim) :
    Calls Try.prog 65 #[v, .func (.func 66) #[] #[]] w fun e w' => ∃ v' cf, e = .returned v' ∧ Grow QB w.heap.size w' 23 v' cf l ∧ ∀ c S, Kp c S w w' := by
  obtain ⟨i0, hi, hz0, hz1, hz2⟩ := info_bytes
  have H6 := Lib.hid hi; have H7 := Lib.hid hz0; have H8 := Lib.hid hz1; have H9 := Lib.hid hz2; clear hi hz0 hz1 hz2
  rcases h.at with ⟨rfl, rfl⟩ | ⟨b, o, cap, rfl, hlc, hcm, hx⟩
  · go_enter Try.func65, Try.ntmps65
    go_wp2
    refine wp_loop_rounds 1 ?_
    rw [rounds_succ]
    go_wp2
    go_ret
    exact ⟨_, _, rfl, Grow.start _ (Nat.le_refl _), fun c S => Kp.refl c S w⟩
  · have HX := Lib.hid hx; have HB := Lib.hid hb; clear hx h hb
    go_enter Try.func65, Try.ntmps65
    go_wp2
    go_loopw [5, 10] (fun v s wr => ∃ i : Nat, i ≤ l.length ∧ s = .int .i64 i ∧ (∃ cf, Grow QB w.heap.size wr 23 v cf (l.take i)) ∧ ∀ c S, Kp c S w wr) (fun _ s _ => l.length - (intOf s).toNat)
    case atStart => exact ⟨0, by omega, rfl, ⟨_, Grow.start _ (Nat.le_refl _)⟩, fun c S => Kp.refl c S w⟩
    case round =>
      obtain ⟨i, hi, rfl, ⟨cf, G⟩, hK⟩ := hrel
      have HG := Lib.hid G; have HK := Lib.hid hK; clear G hK
      by_cases hlt : i < l.length
      · obtain ⟨a, k, gc, hsc⟩ := HX.out i hlt
        have g0 := (HK.out c (fun _ => False)).cell gc (fun h => h)
        have hbl := HB.out l[i] (List.getElem_mem hlt)
        have htk := List.take_succ_eq_append_getElem hlt
        obtain ⟨r, hr⟩ : ∃ r, r = l[i] := ⟨_, rfl⟩
        rw [← hr] at g0 hsc hbl htk
        have HS := Lib.hid (hsc.kp (HK.out c (fun _ => False)) (fun h => h) (Cx.refl _ _)); have HTK := Lib.hid htk; have HBL := Lib.hid hbl; clear gc hsc hr htk hbl
        obtain ⟨L, hL⟩ : ∃ L, L = l.take i := ⟨_, rfl⟩
        have hLl : L.length = i := by rw [hL, List.length_take]; omega
        rw [← hL] at HG HTK
        have HLL := Lib.hid hLl; clear hL hLl
        go_wp2_with (first
          | (at_builtin; refine wpList_append2 rfl _ _ _ rfl 23 i0 (.slice none 0 0) 24 Try.underlying22 H6.out H7.out H8.out H9.out rfl u5 L.length xs5 rfl HO5.out ⟨w4.heap.size, 0, none⟩ 1 1 [.slice a4 m4 k4] rfl rfl (one_new _ _ _) (fun u hu => by rw [List.mem_singleton.1 hu]; exact QB.stays.one HQ5.out) (by rw [HLL.out]; unfold maxLen; omega) (by rw [HLL.out]; omega) ?_; intro v6 w6 hown6 hg6 hf6; have G6 := Lib.hid (HG5.out.push QB.stays HO5.out HQ5.out hown6 hg6 hf6); have HK6 := Lib.hid (fun c S => ((HK4.out c S).alloc _).grown hg6 (fun g hg hlt => absurd (HG5.out.fresh g hg) (by omega))); clear hown6 hg6 hf6)
          | (go_at_call 66; refine (twin1_c (.slice a r.length k) (r.map bv) HS.out (one_bv r) (by rw [List.length_map]; exact HBL.out)).mono ?_; rintro _ w4 ⟨v4, rfl, ho4, hb4⟩; rw [List.length_map] at ho4; obtain ⟨a4, m4, k4, rfl⟩ := own_slice ho4; obtain ⟨cg, xs5, g5, o5, q5⟩ := grow_clone HG.out (own_zero' ho4) (own_base' ho4) (fun c S => Kp.of_below hb4) (.cells #[.slice a4 m4 k4] 23); have HG5 := Lib.hid g5; have HO5 := Lib.hid o5; have HQ5 := Lib.hid q5; have HK4 := Lib.hid (fun c S => (HK.out c S).alloc_trans (Kp.of_below hb4)); clear g5 o5 q5 ho4 hb4))
        go_roundw
        case rel => exact ⟨i + 1, by omega, by go_num, ⟨_, by rw [HTK.out]; exact G6.out⟩, HK6.out⟩
        case measure => simp [intOf]; omega
      · obtain rfl : i = l.length := by omega
        go_wp2
        go_ret
        have := HG.out
        rw [List.take_length] at this
        exact ⟨_, _, rfl, this, HK.out⟩
theorem twin_b (q1 q2 : Nat × Nat) (v : Value) (l : List Bs) (h : Bat w c q1 q2 v l) (hl : l.length ≤ 1000000000) (hb : ∀ r ∈ l, r.length ≤ lim) :
    Calls Try.prog 42 #[v] w fun e w' => ∃ v' cf, e = .returned v' ∧ Grow QB w.heap.size w' 23 v' cf l ∧ ∀ c S, Kp c S w w' := by
  have HC := Lib.hid (mapped_b q1 q2 v l h hl hb)
  clear h hl hb
  go_enter Try.func42, Try.ntmps42
  go_wp2_with (go_at_call 65; refine HC.out.mono ?_; rintro _ w1 ⟨v1, cf, rfl, h1, h2⟩; have H1 := Lib.hid h1; have H2 := Lib.hid h2; clear h1 h2)
  go_ret
  exact ⟨_, _, rfl, H1.out, H2.out⟩
set_option maxRecDepth 20000 in
set_option maxHeartbeats 1000000 in
theorem twins_c (q1 q2 : Nat × Nat) (v : Value) (l : List Bs) (h : Bat w c q1 q2 v l) (hl : l.length ≤ 1000000000) (hb : ∀ r ∈ l, r.length ≤ lim) :
    Calls Try.prog 10 #[v] w fun e w' => ∃ v' cf, e = .returned v' ∧ Grow QB w.heap.size w' 23 v' cf l ∧ ∀ c S, Kp c S w w' := by
  obtain ⟨i0, hi, hz0, hz1, hz2⟩ := info_bytes
  have H6 := Lib.hid hi; have H7 := Lib.hid hz0; have H8 := Lib.hid hz1; have H9 := Lib.hid hz2; clear hi hz0 hz1 hz2
  obtain ⟨i1, hi, hz0, hz1, hz2⟩ := info_parts info_u8
  have J6 := Lib.hid hi; have J7 := Lib.hid hz0; have J8 := Lib.hid hz1; have J9 := Lib.hid hz2; clear hi hz0 hz1 hz2
  rcases h.at with ⟨rfl, rfl⟩ | ⟨b, o, cap, rfl, hlc, hcm, hx⟩
  · go_enter Try.func10, Try.ntmps10
    go_wp2
    refine wp_loop_rounds 1 ?_
    rw [rounds_succ]
    go_wp2
    go_ret
    exact ⟨_, _, rfl, Grow.start _ (Nat.le_refl _), fun c S => Kp.refl c S w⟩
  · have HX := Lib.hid hx; have HB := Lib.hid hb; clear hx h hb
    go_enter Try.func10, Try.ntmps10
    go_wp2
    go_loopw [3, 8] (fun v s wr => ∃ i : Nat, i ≤ l.length ∧ s = .int .i64 i ∧ (∃ cf, Grow QB w.heap.size wr 23 v cf (l.take i)) ∧ ∀ c S, Kp c S w wr) (fun _ s _ => l.length - (intOf s).toNat)
    case atStart => exact ⟨0, by omega, rfl, ⟨_, Grow.start _ (Nat.le_refl _)⟩, fun c S => Kp.refl c S w⟩
    case round =>
      obtain ⟨i, hi, rfl, ⟨cf, G⟩, hK⟩ := hrel
      have HG := Lib.hid G; have HK := Lib.hid hK; clear G hK
      by_cases hlt : i < l.length
      · obtain ⟨a, k, gc, hsc⟩ := HX.out i hlt
        have g0 := (HK.out c (fun _ => False)).cell gc (fun h => h)
        have hbl := HB.out l[i] (List.getElem_mem hlt)
        have htk := List.take_succ_eq_append_getElem hlt
        obtain ⟨r, hr⟩ : ∃ r, r = l[i] := ⟨_, rfl⟩
        rw [← hr] at g0 hsc hbl htk
        have HS := Lib.hid (hsc.kp (HK.out c (fun _ => False)) (fun h => h) (Cx.refl _ _)); have HTK := Lib.hid htk; have HBL := Lib.hid hbl; clear gc hsc hr htk hbl
        obtain ⟨L, hL⟩ : ∃ L, L = l.take i := ⟨_, rfl⟩
        have hLl : L.length = i := by rw [hL, List.length_take]; omega
        rw [← hL] at HG HTK
        have HLL := Lib.hid hLl; clear hL hLl
        go_wp2_with (first
          | (at_builtin; refine wpList_append2 rfl _ _ _ rfl 23 i0 (.slice none 0 0) 24 Try.underlying22 H6.out H7.out H8.out H9.out rfl u3 L.length xs5 rfl HO5.out ⟨w4.heap.size, 0, none⟩ 1 1 [.slice a4 m4 k4] rfl rfl (one_new _ _ _) (fun u hu => by rw [List.mem_singleton.1 hu]; exact QB.stays.one HQ5.out) (by rw [HLL.out]; unfold maxLen; omega) (by rw [HLL.out]; omega) ?_; intro v6 w6 hown6 hg6 hf6; have G6 := Lib.hid (HG5.out.push QB.stays HO5.out HQ5.out hown6 hg6 hf6); have HK6 := Lib.hid (fun c S => ((HK4.out c S).alloc _).grown hg6 (fun g hg hlt => absurd (HG5.out.fresh g hg) (by omega))); clear hown6 hg6 hf6)
          | (at_builtin; refine wpList_appendS rfl _ _ _ rfl 5 i1 (.int .u8 0) 1 Try.underlying23 J6.out J7.out J8.out J9.out rfl (.slice none 0 0) 0 [] rfl (World.ownsRow_nil _ _ _ _) (.slice a r.length k) (r.map bv) rfl HS.out (one_bv r) (by rw [List.length_map]; have := HBL.out; unfold lim at this; unfold maxLen; omega) (by rw [List.length_map]; have := HBL.out; unfold lim at this; omega) ?_; intro v4 w4 ho4 hg4 hf4; rw [List.length_map, Nat.zero_add, List.nil_append] at ho4; obtain ⟨a4, m4, k4, rfl⟩ := own_slice ho4; have hk4 : ∀ c S, Kp c S wr w4 := (fun c S => Kp.of_grown hg4 (fun g hg => by cases hg)); obtain ⟨cg, xs5, g5, o5, q5⟩ := grow_clone HG.out ho4 (fun g hg => (hf4 g hg).elim (fun e => by cases e) id) hk4 (.cells #[.slice a4 m4 k4] 23); have HG5 := Lib.hid g5; have HO5 := Lib.hid o5; have HQ5 := Lib.hid q5; have HK4 := Lib.hid (fun c S => (HK.out c S).alloc_trans (hk4 c S)); clear g5 o5 q5 ho4 hg4 hf4 hk4))
        go_roundw
        case rel => exact ⟨i + 1, by omega, by go_num, ⟨_, by rw [HTK.out]; exact G6.out⟩, HK6.out⟩
        case measure => simp [intOf]; omega
      · obtain rfl : i = l.length := by omega
        go_wp2
        go_ret
        have := HG.out
        rw [List.take_length] at this
        exact ⟨_, _, rfl, this, HK.out⟩
end Go.Proofs.Ytnifmoigalmcmaa
