/- wal.Read: the batches that bytes begin with. -/
import Derived.Test.YtnifmoigalmcmaaGreatYf
import Derived.WalkMore
import Derived.Test.YtnifmoigalmcmaaGreatK
namespace Go.Proofs.YtnifmoigalmcmaaGreat
open Go Go.RowKit
open Wl
variable {c c' : Col} {w w' : World} {S : Nat × Nat → Prop} {q : Nat × Nat}
/-- A slice that grew, as a batch, at colours of one's own. -/
theorem grow_bat {B : Nat} {wr : World} {v : Value} {cf f : Col} {l : List Bs} {q1 q2 : Nat × Nat} (G : Grow QB B wr 41 v cf l) (h1 : ∀ g, v.ownBlock = some g → f g = q1) (h2 : ∀ b, B ≤ b → cf b = (0, 0) → f b = q2) : Bat wr f q1 q2 v l := by
  obtain ⟨⟨xs, ho, hx⟩, hc, hold, hs⟩ := G
  refine ⟨xs, Sc.of_owns ho h1, by simpa using ho.1, fun i x y hi hj => ?_⟩
  refine Sc.recol1 (hx i x y hi hj) fun b hb => h2 b (Nat.not_lt.1 fun hlt => ?_) hb
  rw [hold b hlt] at hb; cases hb
/-- A new batch joins. -/
theorem grow_join {B : Nat} {wr w4 : World} {v x : Value} {cf cb : Col} {out : List (List Bs)} {l : List Bs} {e : TypeId} (G : Grow QL B wr e v cf out) (Gb : Grow QB wr.heap.size w4 41 x cb l) (hk : ∀ c S, Kp c S wr w4) (o : Obj) :
    ∃ cg xs, Grow QL B (w4.alloc o) e v cg out ∧ (w4.alloc o).ownsRow 0 e 1 v out.length xs ∧ QL (w4.alloc o) cg x l := by
  have G1 := G.kp QL.stays (hk cf (fun _ => False)) (fun h => h) (fun h => h)
  have h1 : QL w4 (newCol wr cf (0, 0)) x l := grow_bat Gb (fun g hg => if_neg (Nat.not_lt.2 (Gb.fresh g hg))) (fun b hb _ => if_neg (Nat.not_lt.2 hb))
  have hk : Kp (newCol wr cf (0, 0)) (fun _ => False) w4 (w4.alloc o) := (Kp.refl _ _ _).alloc _
  have G2 := G1.kp QL.stays hk (fun h => h) (fun h => h)
  obtain ⟨xs, hxs, _⟩ := G2.own
  exact ⟨_, xs, G2, hxs, QL.stays.stay h1 hk (fun h => h) (newCol_cx _ _ _)⟩
theorem info_batch : ∃ i, Tryz.prog.info? 40 = some i ∧ i.zero = some (.slice none 0 0) ∧ i.size = 1 ∧ i.bytes = 24 := by
  have h : (Tryz.prog.info? 40).map (fun i => (i.zero, i.size, i.bytes)) = some (some (.slice none 0 0), 1, 24) := by kernel_rfl
  cases hi : Tryz.prog.info? 40 with
  | none => rw [hi] at h; cases h
  | some i =>
    rw [hi] at h
    simp only [Option.map_some, Option.some.injEq, Prod.mk.injEq] at h
    exact ⟨i, rfl, h.1, h.2.1, h.2.2⟩
theorem sub_sc {b o n cap at_ : Nat} {l : List UInt8} (h : Bya w b o l) (hn : n = l.length) (ha : at_ ≤ n) (h1 : n ≤ cap) (h2 : cap ≤ maxLen) : Sc w (fun _ => (0, 0)) (0, 0) (.slice (if cap = at_ then some ⟨b, o, none⟩ else some ⟨b, o + at_, none⟩) (n - at_) (cap - at_)) ((l.drop at_).map bv) := by
  split
  · rename_i e
    have h0 : l.drop at_ = [] := List.eq_nil_of_length_eq_zero (by rw [List.length_drop]; omega)
    rw [h0, show n - at_ = 0 by omega]
    exact ⟨some ⟨b, o, none⟩, cap - at_, rfl, by simp, by omega, fun h => (by cases h), fun ad had => by cases had; exact ⟨rfl, fun j u hj => by simp at hj⟩⟩
  · exact (h.drop at_).sc (by rw [List.length_drop]; omega) (by omega) (by omega)
theorem own_shape1 {w : World} {e : TypeId} {n : Nat} {v : Value} {xs : List Value} (h : w.ownsRow 0 e 1 v n xs) : ∃ a cap, v = .slice a n cap := by
  rcases h.2 with ⟨rfl, h0⟩ | ⟨g, cap, cur, h3, _⟩
  · have := h.1; rw [h0] at this; exact ⟨none, 0, by rw [show n = 0 by simp at this; omega]⟩
  · exact ⟨_, _, h3⟩
set_option maxRecDepth 20000 in
set_option maxHeartbeats 2000000 in
theorem wread_c (w : World) (v : Value) (bs : Bs) (h : Sc w c q v (bs.map bv)) (hl : bs.length ≤ 1000000000) :
    Calls Tryz.prog 54 #[v] w fun e w' => ∃ v' cf, e = .returned (.tuple #[v', .int .i64 (((read kec bs).2 : Nat) : Int)]) ∧ Grow QL w.heap.size w' 40 v' cf (read kec bs).1 ∧ ∀ c S, Kp c S w w' := by
  obtain ⟨i0, hi, hz0, hz1, hz2⟩ := info_batch
  have H6 := Lib.hid hi; have H7 := Lib.hid hz0; have H8 := Lib.hid hz1; have H9 := Lib.hid hz2; clear hi hz0 hz1 hz2
  obtain ⟨R, hR⟩ : ∃ R, R = read kec bs := ⟨_, rfl⟩
  rw [← hR]
  obtain ⟨K, hK⟩ : ∃ K, K = kec := ⟨_, rfl⟩
  rw [← hK] at hR
  rcases h.cases with ⟨rfl, h0⟩ | ⟨b, o, cap, rfl, hlc, hcm, _, hc⟩
  · have hbs : bs = [] := by simpa using h0
    subst hbs
    have hR0 : R = ([], 0) := by rw [hR]; exact readF_none K (by simp [first])
    subst hR0
    have hf := first_c (q := q) w (.slice none 0 0) [] 0 h (by omega)
    rw [show first kec [] 0 = none by simp [first]] at hf
    have HF := Lib.hid hf; clear hf h hR
    go_enter Tryz.func54, Tryz.ntmps54
    go_wp2
    go_step3
    go_wp2
    go_step3
    go_wp2
    refine wp_loop_rounds 1 ?_
    rw [rounds_succ]
    go_wp2_with (go_at_call 122; refine HF.out.mono ?_; rintro _ w1 ⟨hk, rfl⟩; have HK := Lib.hid hk; clear hk)
    rw [Exit.noGoto_ret]
    go_ret2
    exact ⟨_, _, rfl, Grow.start _ (HK5s HK.out), HK.out⟩
  · rw [List.length_map] at hlc ⊢
    have HC : Hid (Bya w b o bs) := Lib.hid hc
    clear hc h
    go_enter Tryz.func54, Tryz.ntmps54
    go_wp2
    go_step3
    go_wp2
    go_step3
    go_wp2
    obtain ⟨n, hn⟩ : ∃ n, n = bs.length := ⟨_, rfl⟩
    rw [← hn] at hl hlc ⊢
    have HN := Lib.hid hn; have HR := Lib.hid hR; have HKC := Lib.hid hK; clear hn hR hK
    go_loopw [4, 5] (fun v s wr => ∃ (at_ : Nat) (out : List (List Bs)) (cf : Col), at_ ≤ n ∧ out.length ≤ at_ ∧ s = .int .i64 at_ ∧ Grow QL w.heap.size wr 40 v cf out ∧
      R = (out ++ (readF K (n + 1) (bs.drop at_) out.length).1, at_ + (readF K (n + 1) (bs.drop at_) out.length).2) ∧ ∀ c S, Kp c S w wr) (fun _ s _ => n - (intOf s).toNat)
    case atStart => exact ⟨0, [], _, by omega, by simp, rfl, Grow.start _ (Nat.le_refl _), by rw [HR.out]; unfold Wl.read; rw [← HN.out]; simp, fun c S => Kp.refl c S w⟩
    case round =>
      obtain ⟨at_, out, cf, hat, hol, rfl, G, hRR, hK⟩ := hrel
      have HG := Lib.hid G; have HRR := Lib.hid hRR; have HK := Lib.hid hK; clear G hRR hK
      obtain ⟨k, hk⟩ : ∃ k, k = out.length := ⟨_, rfl⟩
      rw [← hk] at hol HRR
      have hfc := first_c wr _ (bs.drop at_) k (sub_sc (HC.out.on HK.out) HN.out hat hlc hcm) (by omega)
      have HKK := Lib.hid hk; clear hk
      obtain ⟨xo, hxo⟩ := HG.out.own
      obtain ⟨ao, co, rfl⟩ := own_shape1 hxo.1
      clear hxo
      rw [← HKK.out] at HG ⊢
      rw [← HKC.out] at hfc
      have hdl : (bs.drop at_).length < n + 1 := by rw [List.length_drop]; have := HN.out; omega
      cases hfi : first K (bs.drop at_) k with
      | none =>
        rw [hfi] at hfc
        have HF := Lib.hid hfc
        have HRE := Lib.hid (show R = (out, at_) from by rw [HRR.out, readF_none K hfi]; simp)
        clear hfc hfi HRR hdl
        go_wp2_with (go_at_call 122; refine HF.out.mono ?_; rintro _ w1 ⟨hk, rfl⟩; have HK1 := Lib.hid hk; clear hk)
        all_goals
          go_ret2
          rw [HRE.out]
          exact ⟨_, _, rfl, HG.out.kp QL.stays (HK1.out cf (fun _ => False)) (fun h => h) (fun h => h), fun c S => (HK.out c S).alloc_trans (HK1.out c S)⟩
      | some x =>
        obtain ⟨lb, m⟩ := x
        have hpos := first_pos K hfi
        have hpos' := hpos
        rw [List.length_drop, ← HN.out] at hpos'
        rw [hfi, if_neg (show ¬ cap = at_ by omega)] at hfc
        have HF := Lib.hid hfc
        have HRE := Lib.hid (show R = _ from by rw [HRR.out, readF_some K hdl hfi])
        rw [List.length_drop, ← HN.out] at hpos
        have hne : ¬ cap = at_ := by omega
        clear hfc hfi HRR hdl
        go_wp2_with (first
          | (at_builtin; refine wpList_append2 rfl _ _ _ rfl 40 i0 (.slice none 0 0) 24 Tryz.underlying114 H6.out H7.out H8.out H9.out rfl (.slice ao k co) out.length xs5 (by rw [HKK.out]; rfl) HO5.out ⟨w1.heap.size, 0, none⟩ 1 1 [.slice a4 m4 k4] rfl rfl (one_new _ _ _) (fun u hu => by rw [List.mem_singleton.1 hu]; exact QL.stays.one HQ5.out) (by rw [← HKK.out]; unfold maxLen; omega) (by rw [← HKK.out]; omega) ?_; intro v6 w6 hown6 hg6 hf6; have G6 := Lib.hid (HG5.out.push QL.stays HO5.out HQ5.out hown6 hg6 hf6); have HK6 := Lib.hid (fun c S => ((HK4.out c S).alloc _).grown hg6 (fun g hg hlt => absurd (HG5.out.fresh g hg) (by omega))); clear hown6 hg6 hf6)
          | (go_at_call 122; refine HF.out.mono ?_; rintro _ w1 ⟨hk, vb, cb, rfl, hgb⟩; obtain ⟨xb, hxb, _⟩ := hgb.own; obtain ⟨a4, m4, k4, rfl⟩ := own_slice hxb; obtain ⟨cg, xs5, g5, o5, q5⟩ := grow_join HG.out hgb hk (.cells #[.slice a4 m4 k4] 40); have HG5 := Lib.hid g5; have HO5 := Lib.hid o5; have HQ5 := Lib.hid q5; have HK4 := Lib.hid (fun c S => (HK.out c S).alloc_trans (hk c S)); clear g5 o5 q5 hk hgb hxb))
        go_roundw
        case rel =>
          refine ⟨at_ + m, out ++ [lb], _, by omega, by rw [List.length_append, ← HKK.out]; simp; omega, by go_num, G6.out, ?_, HK6.out⟩
          rw [HRE.out, List.length_append, ← HKK.out, List.drop_drop]
          simp [Nat.add_assoc]
        case measure => simp [intOf]; omega
end Go.Proofs.YtnifmoigalmcmaaGreat
namespace Go.Proofs.YtnifmoigalmcmaaGreat
open Go Go.RowKit Go.MapKept Go.Maps
open Dk
variable {c c' : Col} {w w' : World}
theorem named_str (n : Nm) (w : World) (hn : n.length ≤ maxLen) : Calls Tryz.prog 117 #[str n] w fun e w' => e = .returned (.bool (named n)) ∧ w = w' := by
  have := named_any ⟨n.toArray⟩ w (by simpa [ByteArray.size] using hn)
  simpa [str] using this
def OpenPost (k d : Nat) (m : ADisk) (n : Nm) (c : Col) (w : World) (e : Ending) (w' : World) : Prop :=
  ∃ c' vk vf vu mb es ck fb, Cx w c c' ∧ Kp c (fun q => q.1 = k) w w' ∧ DiskAt' w' c' k d (begin_ m).2 vk vf vu mb es ck fb ∧
    if (begin_ m).1 ≠ 0 then e = .returned (.tuple #[.pointer none, .int .i64 (begin_ m).1]) else
    match get (begin_ m).2.files n with
    | none => e = .returned (.tuple #[.pointer none, .int .i64 13])
    | some _ => e = .returned (.tuple #[.pointer (some ⟨fb n, 0, none⟩), .int .i64 0])
theorem open_c (k d : Nat) (m : ADisk) (n : Nm) (w : World) (DD : DiskAt w c k d m) (hk0 : k ≠ 0) (hops : m.ops < 900000) (hn : n.length ≤ maxLen) :
    Calls Tryz.prog 73 #[ptr d, str n] w (OpenPost k d m n c w) := by
  have HB := Lib.hid (begin_c k d m w DD hk0 hops)
  obtain ⟨r, hr⟩ : ∃ r, r = (begin_ m).1 := ⟨_, rfl⟩
  rw [← hr] at HB
  have HR := Lib.hid hr; clear hr
  have HN := Lib.hid hn; clear hn
  clear DD hk0 hops
  unfold ptr at *
  by_cases h0 : r = 0
  · subst h0
    have h0 : ¬ (begin_ m).1 ≠ 0 := by rw [← HR.out]; simp
    have H0 := Lib.hid h0; clear h0
    cases hg : get (begin_ m).2.files n with
    | none =>
      have HG := Lib.hid hg; clear hg
      go_enter Tryz.func73, Tryz.ntmps73
      go_wp2_with (go_at_call 116; refine HB.out.mono ?_; rintro e w1 ⟨rfl, c1, hc1, hk1, vk, vf, vu, mb, es, ck, fb, D⟩; have HD := Lib.hid D; have HC := Lib.hid hc1; have HK := Lib.hid hk1; have hc8 := D.c8; have hlk := look_miss D.map D.ok.rising HN.out HG.out; clear D hc1 hk1)
      go_ret2
      refine ⟨c1, vk, vf, vu, mb, es, ck, fb, HC.out, HK.out, HD.out, ?_⟩
      rw [if_neg H0.out, HG.out]
      rfl
    | some f =>
      have HG := Lib.hid hg; clear hg
      go_enter Tryz.func73, Tryz.ntmps73
      go_wp2_with (go_at_call 116; refine HB.out.mono ?_; rintro e w1 ⟨rfl, c1, hc1, hk1, vk, vf, vu, mb, es, ck, fb, D⟩; have HD := Lib.hid D; have HC := Lib.hid hc1; have HK := Lib.hid hk1; have hc8 := D.c8; have hlk := look_hit D.map D.ok.rising HN.out HG.out; unfold ptr at hlk; clear D hc1 hk1)
      go_ret2
      refine ⟨c1, vk, vf, vu, mb, es, ck, fb, HC.out, HK.out, HD.out, ?_⟩
      rw [if_neg H0.out, HG.out]
      rfl
  · have h1 : (r != 0) = true := by simpa using h0
    have h2 : (begin_ m).1 ≠ 0 := by rw [← HR.out]; exact h0
    have H0 := Lib.hid h2; clear h2
    have H1 := Lib.hid h0; clear h0
    go_enter Tryz.func73, Tryz.ntmps73
    go_wp2_with (go_at_call 116; refine HB.out.mono ?_; rintro e w1 ⟨rfl, c1, hc1, hk1, vk, vf, vu, mb, es, ck, fb, D⟩; have HD := Lib.hid D; have HC := Lib.hid hc1; have HK := Lib.hid hk1; clear D hc1 hk1)
    go_ret2
    refine ⟨c1, vk, vf, vu, mb, es, ck, fb, HC.out, HK.out, HD.out, ?_⟩
    rw [if_pos H0.out, HR.out]
    rfl
theorem begin_zero {m : ADisk} (h : (begin_ m).1 = 0) : (begin_ m).2 = { m with ops := m.ops + 1 } ∧ m.dead = false := by
  unfold begin_ at *
  by_cases hd : m.dead = true
  · rw [if_pos hd] at h; cases h
  · rw [if_neg hd] at h ⊢
    simp only [] at *
    split at h
    · cases h
    · rename_i h1
      rw [if_neg h1]
      split at h
      · cases h
      · rename_i h2
        rw [if_neg h2]
        exact ⟨rfl, by simpa using hd⟩
section
variable {k d : Nat} {m : ADisk} {vk vf vu : Value} {mb : Nat} {es : Array MapEntry} {ck : Nat} {fb : Nm → Nat} {n : Nm} {f f' : AFile}
theorem upd_mem {fs : List (Nm × AFile)} {y : Nm × AFile} (h : y ∈ upd fs n f') : y = (n, f') ∨ (y ∈ fs ∧ y.1 ≠ n) := by
  unfold upd at h
  obtain ⟨x, hx, rfl⟩ := List.mem_map.1 h
  by_cases hn : x.1 = n
  · left; simp [hn]
  · right
    have : (x.1 == n) = false := by simpa using hn
    simp only [this, Bool.false_eq_true, if_false]
    exact ⟨hx, hn⟩
theorem upd_ok (h : m.ok) (hf : f'.ok m.ops.toNat) (hn : n.length ≤ 32) : ({ m with files := upd m.files n f' } : ADisk).ok :=
  ⟨h.ops0, fun x hx => by
    rcases upd_mem hx with rfl | ⟨hx, _⟩
    · exact hf
    · exact h.files x hx, by show (upd m.files n f').length ≤ 4096; unfold upd; rw [List.length_map]; exact h.many, fun x hx => by
    rcases upd_mem hx with rfl | ⟨hx, _⟩
    · exact hn
    · exact h.names x hx, upd_rising n f' h.rising⟩
theorem DiskAt'.upd (D : DiskAt' w c k d m vk vf vu mb es ck fb) (hg : get m.files n = some f) (hk : Kp c (fun q => q = fcol k (fb n) ∨ q = gcol k (fb n)) w w') (hc : Cx w c c') (hf : FileAt w' c' k (fb n) f') (hok : f'.ok m.ops.toNat) :
    DiskAt' w' c' k d { m with files := Dk.upd m.files n f' } vk vf vu mb es ck fb := by
  have h0 : ∀ q : Nat × Nat, (q = fcol k (fb n) ∨ q = gcol k (fb n)) → q.2 ≠ 0 := fun q hq => by rcases hq with rfl | rfl <;> simp
  refine ⟨upd_ok D.ok hok (D.ok.names _ (get_mem hg)), hk.heap D.heap (fun hq => h0 _ hq (by rw [D.col])), (hc _ D.lt).trans D.col, D.plan.kp hk (fun hq => h0 _ hq rfl) hc, D.map.upd hg hk (fun q hq => ⟨?_, fun e => h0 _ hq (by rw [e])⟩) hc hf⟩
  rcases hq with h | h
  · exact .inl h
  · exact .inr (.inl h)
end
theorem put_c (k d : Nat) (m : ADisk) (vk vf vu : Value) (mb : Nat) (es : Array MapEntry) (ck : Nat) (fb : Nm → Nat) (n : Nm) (f : AFile) (x : Chg) (v : Value) (has : Int) (w : World)
    (D : DiskAt' w c k d m vk vf vu mb es ck fb) (hk0 : k ≠ 0) (hg : get m.files n = some f) (hv : ChV w c v x) (hx : x.ok) (hm : f.chs.length + 1 ≤ m.ops.toNat) (ho : m.ops ≤ 900000) (h3 : 0 ≤ has) (h4 : has ≤ 1073741824) :
    Calls Tryz.prog 74 #[ptr d, ptr (fb n), v, .int .i64 has] w fun e w' => e = .returned (.int .i64 (change m n f x has).1) ∧ ∃ c', Cx w c c' ∧ Kp c (fun q => q.1 = k) w w' ∧ DiskAt w' c' k d (change m n f x has).2 := by
  have hfo := D.ok.files _ (get_mem hg)
  have hfo : f.ok m.ops.toNat := hfo
  have hnow := hfo.now
  have hlen : (f.now.length : Int) ≤ 1073741824 := by unfold maxFile at hnow; omega
  have HF := D.map.files _ (get_mem hg)
  obtain ⟨vs, vc, vn, hh, _, _, _, hnw⟩ := id HF
  obtain ⟨an, capn, rfl, _⟩ := hnw
  have hcn : w.cell? ⟨fb n, 2, none⟩ = some (.slice an f.now.length capn) := by
    have := cell_of_heap hh 2
    rw [List.length_map] at this
    exact this
  have HRM := Lib.hid (room_c k d m vk vf vu mb es ck fb w D f.now.length has (by omega) hlen h3 h4)
  obtain ⟨r, hr⟩ : ∃ r, r = room_ m f.now.length has := ⟨_, rfl⟩
  rw [← hr] at HRM
  have HR := Lib.hid hr; clear hr
  have HFO := Lib.hid hfo; clear hfo
  have HNW := Lib.hid hnow; clear hnow
  have HFF := Lib.hid HF; clear HF
  have HD := Lib.hid D; clear D
  have HK := Lib.hid hk0; clear hk0
  have HG := Lib.hid hg; clear hg
  have HV := Lib.hid hv; clear hv
  have HX := Lib.hid hx; clear hx
  have HM := Lib.hid hm; clear hm
  have HO := Lib.hid ho; clear ho
  clear h3 h4 hlen hh
  rename_i hz1 hz2 hz3 hz4; clear hz1 hz2 hz3 hz4
  unfold ptr at *
  by_cases h0 : r = 0
  · subst h0
    go_enter Tryz.func74, Tryz.ntmps74
    go_wp2_with (first
      | (go_at_call 118; refine HRM.out.mono ?_; rintro e w1 ⟨rfl, hk1⟩; have HK1 := Lib.hid hk1; have HF1 := Lib.hid (HFF.out.kp (hk1 c (fun _ => False)) (fun h => h) (fun h => h) (fun h => h) (Cx.refl _ _)); have HV1 := Lib.hid (HV.out.kp (hk1 c (fun _ => False)) (fun h => h) (Cx.refl _ _)); clear hk1)
      | (go_at_call 133; refine (do_any k (fb n) f x v _ HF1.out HV1.out HX.out HNW.out (by have h1 := HM.out; have h2 := HO.out; unfold lim; omega)).mono ?_; rintro e w2 ⟨rfl, c2, hc2, hk2, hf2⟩))
    go_ret
    have hch : change m n f x has = (0, { m with files := Dk.upd m.files n ⟨f.safe, f.chs ++ [x], x.app f.now⟩ }) := by
      unfold change; rw [← HR.out, if_neg (by simp)]
    rw [hch]
    have hcx : Cx w c c2 := fun b hb => hc2 b (Nat.lt_of_lt_of_le hb (HK1.out c (fun _ => False)).size)
    have hkk : Kp c (fun q => q = fcol k (fb n) ∨ q = gcol k (fb n)) w w2 := (HK1.out c _).trans hk2 (Cx.refl _ _)
    refine ⟨rfl, c2, hcx, hkk.mono (fun q hq => by rcases hq with rfl | rfl <;> rfl), vk, vf, vu, mb, es, ck, fb, HD.out.upd HG.out hkk hcx hf2 ?_⟩
    exact ⟨HFO.out.safe, app_ok HX.out HFO.out.now, fun c hc => by
      rcases List.mem_append.1 hc with h | h
      · exact HFO.out.chs c h
      · rw [List.mem_singleton.1 h]; exact HX.out, by have := HM.out; simp; exact this⟩
  · have h1 : (r != 0) = true := by simpa using h0
    have H1 := Lib.hid h0; clear h0
    go_enter Tryz.func74, Tryz.ntmps74
    go_wp2_with (go_at_call 118; refine HRM.out.mono ?_; rintro e w1 ⟨rfl, hk1⟩; have HK1 := Lib.hid hk1; clear hk1)
    go_ret
    have hch : change m n f x has = (r, m) := by
      unfold change; rw [← HR.out, if_pos H1.out]
    rw [hch]
    exact ⟨rfl, c, Cx.refl _ _, HK1.out _ _, vk, vf, vu, mb, es, ck, fb, HD.out.kp (HK1.out c (fun _ => False)) (fun _ h => h.elim) (Cx.refl _ _)⟩
end Go.Proofs.YtnifmoigalmcmaaGreat
namespace Go.Proofs.YtnifmoigalmcmaaGreat
open Go Go.RowKit Go.MapKept Go.Maps
open Dk
variable {c c' : Col} {w w' : World}
/-- What an operation on a disk answers and leaves. -/
def OpPost (k d : Nat) (p : Int × ADisk) (c : Col) (w : World) (e : Ending) (w' : World) : Prop :=
  e = .returned (.int .i64 p.1) ∧ ∃ c', Cx w c c' ∧ Kp c (fun q => q.1 = k) w w' ∧ DiskAt w' c' k d p.2
def openErr (m : ADisk) (n : Nm) : Int := if (begin_ m).1 ≠ 0 then (begin_ m).1 else match get (begin_ m).2.files n with | none => 13 | some _ => 0
theorem open_bad (k d : Nat) (m : ADisk) (n : Nm) (w : World) (DD : DiskAt w c k d m) (hk0 : k ≠ 0) (hops : m.ops < 900000) (hn : n.length ≤ maxLen) (h : openErr m n ≠ 0) :
    Calls Tryz.prog 73 #[ptr d, str n] w fun e w' => e = .returned (.tuple #[.pointer none, .int .i64 (openErr m n)]) ∧ ∃ c', Cx w c c' ∧ Kp c (fun q => q.1 = k) w w' ∧ DiskAt w' c' k d (begin_ m).2 := by
  refine (open_c k d m n w DD hk0 hops hn).mono ?_
  rintro e w' ⟨c', vk, vf, vu, mb, es, ck, fb, hc, hk, D, he⟩
  refine ⟨?_, c', hc, hk, vk, vf, vu, mb, es, ck, fb, D⟩
  unfold openErr at *
  by_cases h0 : (begin_ m).1 ≠ 0
  · rw [if_pos h0] at he ⊢; exact he
  · rw [if_neg h0] at he h ⊢
    cases hg : get (begin_ m).2.files n with
    | none => rw [hg] at he; exact he
    | some f => rw [hg] at h; exact absurd rfl h
theorem open_good (k d : Nat) (m : ADisk) (n : Nm) (w : World) (DD : DiskAt w c k d m) (hk0 : k ≠ 0) (hops : m.ops < 900000) (hn : n.length ≤ maxLen) (f : AFile) (h : (begin_ m).1 = 0) (hg : get m.files n = some f) :
    Calls Tryz.prog 73 #[ptr d, str n] w fun e w' => ∃ c' vk vf vu mb es ck fb, e = .returned (.tuple #[.pointer (some ⟨fb n, 0, none⟩), .int .i64 0]) ∧ Cx w c c' ∧ Kp c (fun q => q.1 = k) w w' ∧ DiskAt' w' c' k d { m with ops := m.ops + 1 } vk vf vu mb es ck fb := by
  refine (open_c k d m n w DD hk0 hops hn).mono ?_
  rintro e w' ⟨c', vk, vf, vu, mb, es, ck, fb, hc, hk, D, he⟩
  have hz := (begin_zero h).1
  rw [hz] at D he
  rw [if_neg (by rw [h]; simp)] at he
  have hg : get ({ m with ops := m.ops + 1 } : ADisk).files n = some f := hg
  rw [hg] at he
  exact ⟨c', vk, vf, vu, mb, es, ck, fb, he, hc, hk, D⟩
theorem openErr_zero {m : ADisk} {n : Nm} (h : openErr m n = 0) : (begin_ m).1 = 0 ∧ ∃ f, get m.files n = some f := by
  unfold openErr at h
  by_cases h0 : (begin_ m).1 ≠ 0
  · rw [if_pos h0] at h; exact absurd h h0
  · have h0 : (begin_ m).1 = 0 := by omega
    rw [if_neg (by rw [h0]; simp), (begin_zero h0).1] at h
    refine ⟨h0, ?_⟩
    cases hg : get m.files n with
    | none =>
      have hg : get ({ m with ops := m.ops + 1 } : ADisk).files n = none := hg
      rw [hg] at h; cases h
    | some f => exact ⟨f, rfl⟩
/-- an operation that begins with open. -/
theorem bad_of {m : ADisk} {n : Nm} (h : openErr m n ≠ 0) (g : AFile → ADisk → Int × ADisk) :
    (let (e, d) := begin_ m; if e ≠ 0 then (e, d) else match get d.files n with | none => (13, d) | some f => g f d) = (openErr m n, (begin_ m).2) := by
  unfold openErr at *
  rcases hb : begin_ m with ⟨e, d⟩
  rw [hb] at h
  simp only at *
  by_cases h0 : e ≠ 0
  · rw [if_pos h0, if_pos h0]
  · rw [if_neg h0] at h ⊢
    rw [if_neg h0]
    cases hg : get d.files n with
    | none => rfl
    | some f => rw [hg] at h; exact absurd rfl h
theorem good_of {m : ADisk} {n : Nm} {f : AFile} (h : (begin_ m).1 = 0) (hg : get m.files n = some f) (g : AFile → ADisk → Int × ADisk) :
    (let (e, d) := begin_ m; if e ≠ 0 then (e, d) else match get d.files n with | none => (13, d) | some f => g f d) = g f { m with ops := m.ops + 1 } := by
  have hz := (begin_zero h).1
  rcases hb : begin_ m with ⟨e, d⟩
  rw [hb] at h hz
  simp only at h hz
  subst h hz
  simp only [hg]
  rfl
theorem append_bad (k d : Nat) (m : ADisk) (n : Nm) (v : Value) (b : List UInt8) (w : World) (DD : DiskAt w c k d m) (hk0 : k ≠ 0) (hops : m.ops < 900000) (hn : n.length ≤ maxLen) (h : openErr m n ≠ 0) :
    Calls Tryz.prog 21 #[ptr d, str n, v] w (OpPost k d (Dk.append m n b) c w) := by
  have e0 : Dk.append m n b = (openErr m n, (begin_ m).2) := bad_of h (fun f d => if maxFile < b.length + f.now.length then (2, d) else change d n f (.wr f.now.length b) (f.now.length + b.length))
  rw [e0]
  have HB := Lib.hid (open_bad k d m n w DD hk0 hops hn h)
  clear e0 DD hk0 hops hn
  have h1 : (openErr m n != 0) = true := by simpa using h
  obtain ⟨r, hr⟩ : ∃ r, r = openErr m n := ⟨_, rfl⟩
  rw [← hr] at h1 HB ⊢
  clear hr h
  unfold ptr at *
  go_enter Tryz.func21, Tryz.ntmps21
  go_wp2_with (go_at_call 73; refine HB.out.mono ?_; rintro e w1 ⟨rfl, c1, hc1, hk1, D1⟩; have HD := Lib.hid D1; have HC := Lib.hid hc1; have HK := Lib.hid hk1; clear D1 hc1 hk1)
  go_ret
  exact ⟨rfl, c1, HC.out, HK.out, HD.out⟩
theorem truncate_bad (k d : Nat) (m : ADisk) (n : Nm) (i : Int) (w : World) (DD : DiskAt w c k d m) (hk0 : k ≠ 0) (hops : m.ops < 900000) (hn : n.length ≤ maxLen) (h : openErr m n ≠ 0) :
    Calls Tryz.prog 72 #[ptr d, str n, .int .i64 i] w (OpPost k d (Dk.truncate m n i) c w) := by
  have e0 : Dk.truncate m n i = (openErr m n, (begin_ m).2) := bad_of h (fun f d => if i < 0 then (1, d) else if (maxFile : Int) < i then (2, d) else change d n f (.cut i.toNat) i)
  rw [e0]
  have HB := Lib.hid (open_bad k d m n w DD hk0 hops hn h)
  clear e0 DD hk0 hops hn
  have h1 : (openErr m n != 0) = true := by simpa using h
  obtain ⟨r, hr⟩ : ∃ r, r = openErr m n := ⟨_, rfl⟩
  rw [← hr] at h1 HB ⊢
  clear hr h
  unfold ptr at *
  go_enter Tryz.func72, Tryz.ntmps72
  go_wp2_with (go_at_call 73; refine HB.out.mono ?_; rintro e w1 ⟨rfl, c1, hc1, hk1, D1⟩; have HD := Lib.hid D1; have HC := Lib.hid hc1; have HK := Lib.hid hk1; clear D1 hc1 hk1)
  go_ret
  exact ⟨rfl, c1, HC.out, HK.out, HD.out⟩
theorem sync_bad (k d : Nat) (m : ADisk) (n : Nm)  (w : World) (DD : DiskAt w c k d m) (hk0 : k ≠ 0) (hops : m.ops < 900000) (hn : n.length ≤ maxLen) (h : openErr m n ≠ 0) :
    Calls Tryz.prog 68 #[ptr d, str n] w (OpPost k d (Dk.sync m n) c w) := by
  have e0 : Dk.sync m n = (openErr m n, (begin_ m).2) := bad_of h (fun f d => (0, { d with files := upd d.files n ⟨f.now, [], f.now⟩ }))
  rw [e0]
  have HB := Lib.hid (open_bad k d m n w DD hk0 hops hn h)
  clear e0 DD hk0 hops hn
  have h1 : (openErr m n != 0) = true := by simpa using h
  obtain ⟨r, hr⟩ : ∃ r, r = openErr m n := ⟨_, rfl⟩
  rw [← hr] at h1 HB ⊢
  clear hr h
  unfold ptr at *
  go_enter Tryz.func68, Tryz.ntmps68
  go_wp2_with (go_at_call 73; refine HB.out.mono ?_; rintro e w1 ⟨rfl, c1, hc1, hk1, D1⟩; have HD := Lib.hid D1; have HC := Lib.hid hc1; have HK := Lib.hid hk1; clear D1 hc1 hk1)
  go_ret
  exact ⟨rfl, c1, HC.out, HK.out, HD.out⟩
end Go.Proofs.YtnifmoigalmcmaaGreat
namespace Go.Proofs.YtnifmoigalmcmaaGreat
open Go Go.RowKit Go.MapKept Go.Maps
open Go.WideElems (Fit rd rg pl)
open Dk
variable {c c' : Col} {w w' : World}
/-- A map's block laid anew. -/
def putMap (w : World) (mb : Nat) (es : Array MapEntry) (ck : Nat) : World := { w with heap := w.heap.setIfInBounds mb (.map es ck) }
theorem putMap_kp {k mb : Nat} {es : Array MapEntry} {ck : Nat} (hc : c mb = (k, 0)) : Kp c (fun q => q = (k, 0)) w (putMap w mb es ck) :=
  ⟨rfl, rfl, rfl, by simp [putMap], fun b hb hn => by
    have hne : mb ≠ b := fun e => hn (by rw [← e, hc])
    simp [putMap, hne]⟩
theorem putMap_heap {mb : Nat} {es : Array MapEntry} {ck : Nat} (h : mb < w.heap.size) : (putMap w mb es ck).heap[mb]? = some (.map es ck) := by
  simp [putMap, h]
theorem putMap_other {mb b : Nat} {es : Array MapEntry} {ck : Nat} (h : mb ≠ b) : (putMap w mb es ck).heap[b]? = w.heap[b]? := by
  simp [putMap, h]
section
variable {k d : Nat} {m : ADisk} {vk vf vu : Value} {mb : Nat} {es : Array MapEntry} {ck : Nat} {fb : Nm → Nat} {n : Nm} {f : AFile}
theorem MapAt.lt (M : MapAt w c k mb es ck fb m.files) : mb < w.heap.size := lt_of_heap M.heap
/-- The map's block laid anew, with entries that fit another list of files. -/
theorem DiskAt'.remap (D : DiskAt' w c k d m vk vf vu mb es ck fb) (hk0 : k ≠ 0) {es' : Array MapEntry} {ck' : Nat} {fb' : Nm → Nat} {fs : List (Nm × AFile)} (hfit : Fit Tryz.prog 9 Rn es' ck')
    (hp : (es'.toList.map fun e => (e.key, e.val)).Perm (fs.map fun x => (str x.1, ptr (fb' x.1)))) (ha : (fs.map fun x => fb' x.1).Nodup) (hf : ∀ x ∈ fs, FileAt w c k (fb' x.1) x.2) (hok : ({ m with files := fs } : ADisk).ok) :
    DiskAt' (putMap w mb es' ck') c k d { m with files := fs } vk vf vu mb es' ck' fb' := by
  have hK : Kp c (fun q => q = (k, 0)) w (putMap w mb es' ck') := putMap_kp D.map.col
  have h0 : ¬ ((0, 0) : Nat × Nat) = (k, 0) := by intro h; injection h with h; exact hk0 h.symm
  exact ⟨hok, (putMap_other D.mb_ne).trans D.heap, D.col, D.plan.kp hK h0 (Cx.refl _ _), ⟨putMap_heap D.map.lt, D.map.col, hfit, hp, ha, fun x hx => (hf x hx).kp hK (by simp) (by simp) h0 (Cx.refl _ _)⟩⟩
theorem rd_new {key : Nm} (hn : key.length ≤ maxLen) (v : Value) (b : Nat) : ∃ y, Go.WideElems.rd Tryz.prog 9 Rn ⟨str key, v, b⟩ = some y := by
  unfold Go.WideElems.rd
  rw [keyStr hn]
  exact ⟨_, rfl⟩
theorem fit_push (D : MapAt w c k mb es ck fb m.files) (hn : n.length ≤ maxLen) (hg : get m.files n = none) (hsz : es.size < maxLen) (v : Value) : Fit Tryz.prog 9 Rn (es.push ⟨str n, v, ck⟩) (ck + 1) := by
  refine ⟨by simp; omega, stamped_push D.fit.stamped ?_, ?_⟩
  · intro x hx e
    have : (x.key, x.val) ∈ m.files.map fun x => (str x.1, ptr (fb x.1)) := D.perm.mem_iff.1 (List.mem_map.2 ⟨x, hx, rfl⟩)
    obtain ⟨y, hy, heq⟩ := List.mem_map.1 this
    simp only [Prod.mk.injEq] at heq
    exact get_none hg y hy (str_inj (heq.1.trans e))
  · intro x hx
    simp only [Array.toList_push, List.mem_append, List.mem_singleton] at hx
    rcases hx with hx | rfl
    · exact D.fit.reads x hx
    · exact rd_new hn v ck
theorem es_size (D : MapAt w c k mb es ck fb m.files) : es.size = m.files.length := by
  have := D.perm.length_eq; simpa using this
theorem len_map (D : MapAt w c k mb es ck fb m.files) (ty : TypeId) : (Builtin.len_ #[117] ty #[.map (some mb)]).run Tryz.prog w = .ok (.int .i64 (m.files.length : Int)) w := by
  rw [← es_size D]
  simp [Builtin.len_, MapKept.run_getObj_map D.heap, goInt]
end
theorem named_len {n : Nm} (h : named n = true) : n.length ≤ 32 := by
  unfold named at h
  simp only [Bool.and_eq_true, decide_eq_true_eq] at h
  exact h.2.2
theorem ins_ok {m : ADisk} {n : Nm} {f : AFile} (h : m.ok) (hn : n.length ≤ 32) (hg : get m.files n = none) (hl : m.files.length < 4096) (hf : f.ok m.ops.toNat) : ({ m with files := ins n f m.files } : ADisk).ok :=
  ⟨h.ops0, fun x hx => by
    rcases List.mem_cons.1 ((ins_perm n f m.files).mem_iff.1 hx) with rfl | hx
    · exact hf
    · exact h.files x hx, by
    show (ins n f m.files).length ≤ 4096
    rw [(ins_perm n f m.files).length_eq, List.length_cons]; omega, fun x hx => by
    rcases List.mem_cons.1 ((ins_perm n f m.files).mem_iff.1 hx) with rfl | hx
    · exact hn
    · exact h.names x hx, ins_rising n f h.rising (get_none hg)⟩
theorem create_disk {k d : Nat} {m : ADisk} {vk vf vu : Value} {mb : Nat} {es : Array MapEntry} {ck : Nat} {fb : Nm → Nat} {n : Nm} (D : DiskAt' w c k d m vk vf vu mb es ck fb) (hk0 : k ≠ 0) (hn : n.length ≤ 32) (hg : get m.files n = none) (hl : m.files.length < 4096) :
    ∃ c', Cx w c c' ∧ DiskAt' (putMap (w.alloc (.cells #[.slice none 0 0, .slice none 0 0, .slice none 0 0] 141)) mb (es.push ⟨str n, .pointer (some ⟨w.heap.size, 0, none⟩), ck⟩) (ck + 1)) c' k d { m with files := ins n ⟨[], [], []⟩ m.files } vk vf vu mb (es.push ⟨str n, .pointer (some ⟨w.heap.size, 0, none⟩), ck⟩) (ck + 1) (fun x => if x = n then w.heap.size else fb x) := by
  have hcx : Cx w c (fun b => if b < w.heap.size then c b else fcol k w.heap.size) := fun b hb => if_pos hb
  have hK : Kp c (fun _ => False) w (w.alloc (.cells #[.slice none 0 0, .slice none 0 0, .slice none 0 0] 141)) := (Kp.refl _ _ _).alloc _
  have D1 := D.kp hK (fun _ h => h.elim) hcx
  have hne : ∀ x ∈ m.files, x.1 ≠ n := get_none hg
  have hfb : ∀ x ∈ m.files, (if x.1 = n then w.heap.size else fb x.1) = fb x.1 := fun x hx => if_neg (hne x hx)
  have hlt : ∀ x ∈ m.files, fb x.1 < w.heap.size := fun x hx => by
    obtain ⟨_, _, _, hh, _⟩ := D.map.files x hx
    exact lt_of_heap hh
  refine ⟨_, hcx, D1.remap hk0 (fit_push D1.map (by unfold maxLen; omega) hg (by rw [es_size D1.map]; unfold maxLen; omega) _) ?_ ?_ ?_ (ins_ok D.ok hn hg hl ⟨by simp [maxFile], by simp [maxFile], (fun c hc => by cases hc), Nat.zero_le _⟩)⟩
  · rw [Array.toList_push, List.map_append]
    refine (List.perm_append_singleton _ _).trans ?_
    refine List.Perm.trans ?_ ((ins_perm n ⟨[], [], []⟩ m.files).map _).symm
    rw [List.map_cons]
    have e1 : (m.files.map fun x => (str x.1, ptr (if x.1 = n then w.heap.size else fb x.1))) = m.files.map fun x => (str x.1, ptr (fb x.1)) :=
      List.map_congr_left fun x hx => by rw [hfb x hx]
    rw [e1]
    simp only [if_pos]
    exact (D.map.perm).cons _
  · refine ((ins_perm n ⟨[], [], []⟩ m.files).map _).nodup_iff.2 ?_
    rw [List.map_cons, List.nodup_cons]
    have e1 : (m.files.map fun x => if x.1 = n then w.heap.size else fb x.1) = m.files.map fun x => fb x.1 := List.map_congr_left hfb
    rw [e1]
    refine ⟨?_, D.map.apart⟩
    simp only [if_pos]
    intro h
    obtain ⟨x, hx, e⟩ := List.mem_map.1 h
    have := hlt x hx
    omega
  · intro x hx
    rcases List.mem_cons.1 ((ins_perm n ⟨[], [], []⟩ m.files).mem_iff.1 hx) with rfl | hx
    · simp only [if_pos]
      refine ⟨.slice none 0 0, .slice none 0 0, .slice none 0 0, heap_alloc_new _ _, ?_, Sc.nil _ _ _, ⟨[], World.ownsRow_nil _ _ _ _, by simp, by simp [Value.ownBlock]⟩, Sc.nil _ _ _⟩
      exact if_neg (Nat.lt_irrefl _)
    · have := D1.map.files x hx
      rw [hfb x hx]
      exact this
theorem create_eq (m : ADisk) (n : Nm) (h : (begin_ m).1 = 0) : create m n = (if named n = false then (15, { m with ops := m.ops + 1 }) else if (get m.files n).isSome then (14, { m with ops := m.ops + 1 }) else if 4096 ≤ m.files.length then (2, { m with ops := m.ops + 1 }) else
    if room_ { m with ops := m.ops + 1 } 0 0 ≠ 0 then (room_ { m with ops := m.ops + 1 } 0 0, { m with ops := m.ops + 1 }) else (0, { m with ops := m.ops + 1, files := ins n ⟨[], [], []⟩ m.files })) := by
  have hz := (begin_zero h).1
  unfold create
  rcases hb : begin_ m with ⟨e, d⟩
  rw [hb] at h hz
  simp only at h hz
  subst h hz
  rfl
theorem create_c (k d : Nat) (m : ADisk) (n : Nm) (w : World) (DD : DiskAt w c k d m) (hk0 : k ≠ 0) (hops : m.ops < 900000) (hn : n.length ≤ maxLen) :
    Calls Tryz.prog 51 #[ptr d, str n] w (OpPost k d (create m n) c w) := by
  have HB := Lib.hid (begin_c k d m w DD hk0 hops)
  have HK0 := Lib.hid hk0
  have HN := Lib.hid hn
  by_cases h0 : (begin_ m).1 = 0
  case neg =>
    have e0 : create m n = begin_ m := by
      unfold create
      rcases hb : begin_ m with ⟨e, d⟩
      rw [hb] at h0
      simp only at h0
      simp only [if_pos h0]
    rw [e0]
    obtain ⟨r, hr⟩ : ∃ r, r = (begin_ m).1 := ⟨_, rfl⟩
    obtain ⟨m1, hm1⟩ : ∃ r, r = (begin_ m).2 := ⟨_, rfl⟩
    have e1 : begin_ m = (r, m1) := by rw [hr, hm1]
    rw [e1] at HB ⊢
    rw [← hr] at h0
    have h1 : (r != 0) = true := by simpa using h0
    clear e0 e1 hr hm1 h0 DD hk0 hops hn
    have HB : Hid (Calls Tryz.prog 116 #[ptr d] w fun e w' => e = .returned (.int .i64 r) ∧ ∃ c', Cx w c c' ∧ Kp c (fun q => q.1 = k) w w' ∧ DiskAt w' c' k d m1) := HB
    unfold ptr at *
    go_enter Tryz.func51, Tryz.ntmps51
    go_wp2_with (go_at_call 116; refine HB.out.mono ?_; rintro e w1 ⟨rfl, c1, hc1, hk1, D1⟩; obtain ⟨vk, vf, vu, mb, es, ck, fb, D1⟩ := D1; have HD := Lib.hid D1; have HC := Lib.hid hc1; have HK := Lib.hid hk1; have h8 := D1.c8; clear D1 hc1 hk1)
    go_ret
    exact ⟨rfl, c1, HC.out, HK.out, vk, vf, vu, mb, es, ck, fb, HD.out⟩
  case pos =>
    have hz := (begin_zero h0).1
    rw [create_eq m n h0]
    obtain ⟨m1, hm1⟩ : ∃ m1 : ADisk, m1 = { m with ops := m.ops + 1 } := ⟨_, rfl⟩
    rw [h0, hz, ← hm1] at HB
    have hf1 : m.files = m1.files := by rw [hm1]
    have e2 : ({ m with ops := m.ops + 1, files := ins n ⟨[], [], []⟩ m.files } : ADisk) = { m1 with files := ins n ⟨[], [], []⟩ m1.files } := by rw [hm1]
    rw [← hm1, e2, hf1]
    clear hz e2 hf1 hm1 h0 DD hk0 hops hn
    by_cases h1 : named n = false
    · rw [if_pos h1]
      unfold ptr at *
      go_enter Tryz.func51, Tryz.ntmps51
      go_wp2_with (first | (go_at_call 116; refine HB.out.mono ?_; rintro e w1 ⟨rfl, c1, hc1, hk1, D1⟩; obtain ⟨vk, vf, vu, mb, es, ck, fb, D1⟩ := D1; have HD := Lib.hid D1; have HC := Lib.hid hc1; have HK := Lib.hid hk1; have h8 := D1.c8; clear D1 hc1 hk1) | (go_at_call 117; refine (named_str n _ HN.out).mono ?_; rintro e w2 ⟨rfl, rfl⟩))
      go_ret
      exact ⟨rfl, c1, HC.out, HK.out, vk, vf, vu, mb, es, ck, fb, HD.out⟩
    · have h1 : named n = true := by simpa using h1
      rw [if_neg (by rw [h1]; simp)]
      cases hg : get m1.files n with
      | some f =>
        rw [if_pos (by rfl)]
        have HG := Lib.hid hg; clear hg
        unfold ptr at *
        go_enter Tryz.func51, Tryz.ntmps51
        go_wp2_with (first | (go_at_call 116; refine HB.out.mono ?_; rintro e w1 ⟨rfl, c1, hc1, hk1, D1⟩; obtain ⟨vk, vf, vu, mb, es, ck, fb, D1⟩ := D1; have HD := Lib.hid D1; have HC := Lib.hid hc1; have HK := Lib.hid hk1; have h8 := D1.c8; have hlk := look_hit D1.map D1.ok.rising HN.out HG.out; unfold ptr at hlk; clear D1 hc1 hk1) | (go_at_call 117; refine (named_str n _ HN.out).mono ?_; rintro e w2 ⟨rfl, rfl⟩))
        go_ret
        exact ⟨rfl, c1, HC.out, HK.out, vk, vf, vu, mb, es, ck, fb, HD.out⟩
      | none =>
        rw [if_neg (by simp)]
        have HG := Lib.hid hg; clear hg
        by_cases h2 : 4096 ≤ m1.files.length
        · rw [if_pos h2]
          have h3 : (4096 : Int) ≤ (m1.files.length : Int) := by omega
          unfold ptr at *
          go_enter Tryz.func51, Tryz.ntmps51
          go_wp2_with (first | (go_at_call 116; refine HB.out.mono ?_; rintro e w1 ⟨rfl, c1, hc1, hk1, D1⟩; obtain ⟨vk, vf, vu, mb, es, ck, fb, D1⟩ := D1; have HD := Lib.hid D1; have HC := Lib.hid hc1; have HK := Lib.hid hk1; have h8 := D1.c8; have hlk := look_miss D1.map D1.ok.rising HN.out HG.out; have hln := len_map D1.map; clear D1 hc1 hk1) | (go_at_call 117; refine (named_str n _ HN.out).mono ?_; rintro e w2 ⟨rfl, rfl⟩))
          go_ret
          exact ⟨rfl, c1, HC.out, HK.out, vk, vf, vu, mb, es, ck, fb, HD.out⟩
        · rw [if_neg h2]
          obtain ⟨r, hr⟩ : ∃ r, r = room_ m1 0 0 := ⟨_, rfl⟩
          have hrm : ∀ (c1 : Col) (w1 : World) vk vf vu mb es ck fb, DiskAt' w1 c1 k d m1 vk vf vu mb es ck fb → Calls Tryz.prog 118 #[ptr d, .int .i64 0, .int .i64 0] w1 fun e w' => e = .returned (.int .i64 r) ∧ ∀ (c : Col) S, Kp c S w1 w' :=
            fun c1 w1 _ _ _ _ _ _ _ D => by rw [hr]; exact room_c k d m1 _ _ _ _ _ _ _ _ D 0 0 (by omega) (by omega) (by omega) (by omega)
          have HRM := Lib.hid hrm; clear hrm
          rw [← hr]
          have HR := Lib.hid hr; clear hr
          have h3 : decide ((4096 : Int) ≤ (m1.files.length : Int)) = false := by rw [decide_eq_false_iff_not]; omega
          have H2 := Lib.hid h2; clear h2
          by_cases hr0 : r = 0
          · subst hr0
            rw [if_neg (by simp)]
            unfold ptr at *
            go_enter Tryz.func51, Tryz.ntmps51
            go_wp2_with (first | (go_at_call 116; refine HB.out.mono ?_; rintro e w1 ⟨rfl, c1, hc1, hk1, D1⟩; obtain ⟨vk, vf, vu, mb, es, ck, fb, D1⟩ := D1; have HD := Lib.hid D1; have HC := Lib.hid hc1; have HK := Lib.hid hk1; have h8 := D1.c8; have hlk := look_miss D1.map D1.ok.rising HN.out HG.out; have hln := len_map D1.map; clear D1 hc1 hk1) | (go_at_call 117; refine (named_str n _ HN.out).mono ?_; rintro e w2 ⟨rfl, rfl⟩) | (go_at_call 118; refine (HRM.out _ _ _ _ _ _ _ _ _ HD.out).mono ?_; rintro e w3 ⟨rfl, hk3⟩; have HK3 := Lib.hid hk3; have D3 := HD.out.kp (hk3 c1 (fun _ => False)) (fun _ h => h.elim) (Cx.refl _ _); have g8 := D3.c8; have hst := store_new (D3.map.kp (S := fun _ => False) ((Kp.refl _ _ _).alloc (.cells #[.slice none 0 0, .slice none 0 0, .slice none 0 0] 141)) (fun _ h => h.elim) (Cx.refl _ _)) D3.ok.rising HN.out HG.out (.pointer (some ⟨w3.heap.size, 0, none⟩)); have HD3 := Lib.hid D3; clear D3 hk3))
            go_ret
            have hnl : n.length ≤ 32 := named_len h1
            have := create_disk HD3.out HK0.out hnl HG.out (by have := H2.out; omega)
            obtain ⟨c3, hc3, D4⟩ := this
            have hk4 : Kp c (fun q => q.1 = k) w w3 := HK.out.trans (HK3.out c1 _) HC.out
            have hcx : Cx w c c3 := HC.out.trans (fun b hb => hc3 b (Nat.lt_of_lt_of_le hb (HK3.out c1 (fun _ => False)).size)) HK.out.size
            refine ⟨rfl, c3, hcx, ?_, vk, vf, vu, mb, _, _, _, D4⟩
            refine (hk4.alloc (.cells #[.slice none 0 0, .slice none 0 0, .slice none 0 0] 141)).trans (c' := c3) ((putMap_kp D4.map.col).mono (fun q hq => by rw [hq])) hcx
          · rw [if_pos hr0]
            have h4 : (r != 0) = true := by simpa using hr0
            have HR0 := Lib.hid hr0; clear hr0
            unfold ptr at *
            go_enter Tryz.func51, Tryz.ntmps51
            go_wp2_with (first | (go_at_call 116; refine HB.out.mono ?_; rintro e w1 ⟨rfl, c1, hc1, hk1, D1⟩; obtain ⟨vk, vf, vu, mb, es, ck, fb, D1⟩ := D1; have HD := Lib.hid D1; have HC := Lib.hid hc1; have HK := Lib.hid hk1; have h8 := D1.c8; have hlk := look_miss D1.map D1.ok.rising HN.out HG.out; have hln := len_map D1.map; clear D1 hc1 hk1) | (go_at_call 117; refine (named_str n _ HN.out).mono ?_; rintro e w2 ⟨rfl, rfl⟩) | (go_at_call 118; refine (HRM.out _ _ _ _ _ _ _ _ _ HD.out).mono ?_; rintro e w3 ⟨rfl, hk3⟩; have HK3 := Lib.hid hk3; clear hk3))
            go_ret
            exact ⟨rfl, c1, HC.out, HK.out.trans (HK3.out c1 _) HC.out, vk, vf, vu, mb, es, ck, fb, HD.out.kp (HK3.out c1 (fun _ => False)) (fun _ h => h.elim) (Cx.refl _ _)⟩
end Go.Proofs.YtnifmoigalmcmaaGreat
namespace Go.Proofs.YtnifmoigalmcmaaGreat
open Go Go.RowKit Go.MapKept Go.Maps
open Go.WideElems (Fit rd rg pl)
open Dk
variable {c c' : Col} {w w' : World}
theorem now_le' {m : ADisk} {n : Nm} {f : AFile} (h : m.ok) (hg : get m.files n = some f) : (f.now.length : Int) ≤ 268435456 := by
  have h9 := (h.files _ (get_mem hg)).now
  have h9 : f.now.length ≤ maxFile := h9
  unfold maxFile at h9; omega
theorem erase_perm {α : Type} : ∀ (l : List α) (j : Nat) (x : α), l[j]? = some x → (x :: l.eraseIdx j).Perm l
  | [], j, x, h => by cases h
  | y :: r, 0, x, h => by simp at h; subst h; exact List.Perm.refl _
  | y :: r, j + 1, x, h => by
    have := erase_perm r j x (by simpa using h)
    rw [List.eraseIdx_cons_succ]
    exact (List.Perm.swap _ _ _).trans (this.cons y)
theorem del_perm {fs : List (Nm × AFile)} (hr : Rising fs) {n : Nm} {f : AFile} (hg : get fs n = some f) : ((n, f) :: del fs n).Perm fs := by
  induction fs with
  | nil => cases hg
  | cons x r ih =>
    obtain ⟨h1, h2⟩ := List.pairwise_cons.1 hr
    unfold del
    by_cases e : x.1 = n
    · have hx : x = (n, f) := rising_inj hr (List.mem_cons_self ..) (get_mem hg) e
      have hrest : r.filter (fun y => !(y.1 == n)) = r := List.filter_eq_self.2 fun y hy => by
        have : y.1 ≠ n := fun e2 => by have := h1 y hy; rw [e, e2] at this; exact List.lt_irrefl _ this
        simp [this]
      rw [List.filter_cons_of_neg (by simp [e]), hrest, hx]
    · rw [List.filter_cons_of_pos (by simp [e])]
      have hg' : Dk.get r n = some f := by
        unfold Dk.get at hg ⊢
        rw [List.find?_cons_of_neg (by simp [e])] at hg
        exact hg
      exact (List.Perm.swap _ _ _).trans ((ih h2 hg').cons x)
theorem del_get {fs : List (Nm × AFile)} {n : Nm} : get (del fs n) n = none := by
  cases h : get (del fs n) n with
  | none => rfl
  | some f =>
    have := get_mem h
    unfold del at this
    have := (List.mem_filter.1 this).2
    simp at this
theorem del_none {fs : List (Nm × AFile)} {n : Nm} (h : get fs n = none) : del fs n = fs := List.filter_eq_self.2 fun y hy => by
  have := get_none h y hy
  simp [this]
section
variable {k d : Nat} {m : ADisk} {vk vf vu : Value} {mb : Nat} {es : Array MapEntry} {ck : Nat} {fb : Nm → Nat} {n : Nm} {f : AFile}
theorem erase_list {j : Nat} {e : MapEntry} (h : es.toList[j]? = some e) : (es.eraseIdxIfInBounds j).toList = es.toList.eraseIdx j := by
  have hj : j < es.size := by have := (List.getElem?_eq_some_iff.1 h).1; simpa using this
  unfold Array.eraseIdxIfInBounds
  rw [dif_pos hj]
  simp
theorem del_ok (h : m.ok) : ({ m with files := del m.files n } : ADisk).ok :=
  ⟨h.ops0, fun x hx => h.files x (List.mem_filter.1 hx).1, Nat.le_trans (List.length_filter_le _ _) h.many, fun x hx => h.names x (List.mem_filter.1 hx).1, del_rising n h.rising⟩
/-- A file taken out of the map. -/
theorem DiskAt'.drop (D : DiskAt' w c k d m vk vf vu mb es ck fb) (hk0 : k ≠ 0) {j : Nat} {e : MapEntry} (hg : get m.files n = some f) (h : es.toList[j]? = some e) (he : e.key = str n) (hv : e.val = ptr (fb n)) :
    DiskAt' (putMap w mb (es.eraseIdxIfInBounds j) ck) c k d { m with files := del m.files n } vk vf vu mb (es.eraseIdxIfInBounds j) ck fb := by
  have hl := erase_list h
  refine D.remap hk0 ⟨Nat.le_trans (MapFrom.size_erase es j) D.map.fit.size, stamped_erase D.map.fit.stamped j, fun x hx => ?_⟩ ?_ ?_ (fun x hx => D.map.files x (List.mem_filter.1 hx).1) (del_ok D.ok)
  · rw [hl] at hx
    exact D.map.fit.reads x ((List.eraseIdx_sublist _ _).subset hx)
  · rw [hl]
    have h1 := (erase_perm es.toList j e h).map fun e => (e.key, e.val)
    have h2 := (del_perm D.ok.rising hg).map fun x => (str x.1, ptr (fb x.1))
    rw [List.map_cons] at h1 h2
    rw [he, hv] at h1
    exact (h1.trans (D.map.perm.trans h2.symm)).cons_inv
  · exact D.map.apart.sublist (List.filter_sublist.map _)
end
theorem set_perm' {α : Type} (l : List α) (j : Nat) (x : α) (h : j < l.length) : (l.set j x).Perm (x :: l.eraseIdx j) := by
  have := erase_perm (l.set j x) j x (by simp [h])
  rw [List.eraseIdx_set_eq] at this
  exact this.symm
section
variable {k d : Nat} {m : ADisk} {vk vf vu : Value} {mb : Nat} {es : Array MapEntry} {ck : Nat} {fb : Nm → Nat} {n : Nm} {f : AFile} {b : Nat}
theorem add_files (D : DiskAt' w c k d m vk vf vu mb es ck fb) (hf : FileAt w c k b f) (hb : ∀ x ∈ m.files, fb x.1 ≠ b) :
    ((ins n f (del m.files n)).map fun x => if x.1 = n then b else fb x.1).Nodup ∧ (∀ x ∈ ins n f (del m.files n), FileAt w c k (if x.1 = n then b else fb x.1) x.2) ∧
    ((ins n f (del m.files n)).map fun x => (str x.1, ptr (if x.1 = n then b else fb x.1))).Perm ((str n, ptr b) :: (del m.files n).map fun x => (str x.1, ptr (fb x.1))) := by
  have hne : ∀ x ∈ del m.files n, x.1 ≠ n := get_none del_get
  have hsub : ∀ x ∈ del m.files n, x ∈ m.files := fun x hx => (List.mem_filter.1 hx).1
  refine ⟨?_, fun x hx => ?_, ?_⟩
  · refine ((ins_perm n f (del m.files n)).map _).nodup_iff.2 ?_
    rw [List.map_cons, List.nodup_cons]
    have e1 : ((del m.files n).map fun x => if x.1 = n then b else fb x.1) = (del m.files n).map fun x => fb x.1 := List.map_congr_left fun x hx => if_neg (hne x hx)
    rw [e1]
    simp only [if_pos]
    refine ⟨fun h => ?_, D.map.apart.sublist (List.filter_sublist.map _)⟩
    obtain ⟨x, hx, e⟩ := List.mem_map.1 h
    exact hb x (hsub x hx) e
  · rcases List.mem_cons.1 ((ins_perm n f (del m.files n)).mem_iff.1 hx) with rfl | hx
    · simp only [if_pos]; exact hf
    · rw [if_neg (hne x hx)]; exact D.map.files x (hsub x hx)
  · refine ((ins_perm n f (del m.files n)).map _).trans ?_
    rw [List.map_cons]
    have e1 : ((del m.files n).map fun x => (str x.1, ptr (if x.1 = n then b else fb x.1))) = (del m.files n).map fun x => (str x.1, ptr (fb x.1)) := List.map_congr_left fun x hx => by rw [if_neg (hne x hx)]
    rw [e1]
    simp only [if_pos]
    exact List.Perm.refl _
theorem add_ok (h : m.ok) (hn : n.length ≤ 32) (hl : m.files.length < 4096) (hf : f.ok m.ops.toNat) : ({ m with files := ins n f (del m.files n) } : ADisk).ok := by
  have h1 : ({ m with files := del m.files n } : ADisk).ok := del_ok h
  exact ins_ok (m := { m with files := del m.files n }) h1 hn del_get (Nat.lt_of_le_of_lt (List.length_filter_le _ _) hl) hf
/-- A file that lies in memory under a name of the map, new or not. -/
theorem DiskAt'.add (D : DiskAt' w c k d m vk vf vu mb es ck fb) (hk0 : k ≠ 0) (hn : n.length ≤ 32) (hl : m.files.length < 4096) (hf : FileAt w c k b f) (hok : f.ok m.ops.toNat) (hb : ∀ x ∈ m.files, fb x.1 ≠ b) :
    ∃ es' ck' fb', (Instr.mapUpdate 117 (.map (some mb)) (str n) (ptr b)).run Tryz.prog w = .ok () (putMap w mb es' ck') ∧ DiskAt' (putMap w mb es' ck') c k d { m with files := ins n f (del m.files n) } vk vf vu mb es' ck' fb' := by
  have hnm : n.length ≤ maxLen := by unfold maxLen; omega
  obtain ⟨h1, h2, h3⟩ := add_files (n := n) D hf hb
  cases hg : Dk.get m.files n with
  | none =>
    have hrun := store_new D.map D.ok.rising hnm hg (ptr b)
    refine ⟨_, _, fun x => if x = n then b else fb x, hrun, D.remap hk0 (fit_push D.map hnm hg (by rw [es_size D.map]; unfold maxLen; omega) _) ?_ h1 h2 (add_ok D.ok hn hl hok)⟩
    refine List.Perm.trans ?_ h3.symm
    rw [Array.toList_push, List.map_append, del_none hg]
    exact (List.perm_append_singleton _ _).trans (D.map.perm.cons _)
  | some g =>
    obtain ⟨j, e, hj, he, hv, hrun⟩ := store_old D.map D.ok.rising hnm hg (ptr b)
    have hjl : j < es.toList.length := (List.getElem?_eq_some_iff.1 hj).1
    have hlist : (es.modify j (fun e => { e with key := str n, val := ptr b })).toList = es.toList.set j { e with key := str n, val := ptr b } := by
      rw [Array.toList_modify]
      rw [List.modify_eq_set]
      rw [hj]; rfl
    refine ⟨_, _, fun x => if x = n then b else fb x, hrun, D.remap hk0 ⟨by simpa using D.map.fit.size, stamped_modify D.map.fit.stamped _ _ (fun _ _ => rfl) (fun e' _ he' => ?_), fun x hx => ?_⟩ ?_ h1 h2 (add_ok D.ok hn hl hok)⟩
    · have : e' = e := by
        rw [Array.getElem?_toList] at hj
        rw [hj] at he'; exact (Option.some.inj he').symm
      rw [this, he]
    · rw [hlist] at hx
      rcases List.mem_or_eq_of_mem_set hx with hx | rfl
      · exact D.map.fit.reads x hx
      · exact rd_new hnm _ _
    · refine List.Perm.trans ?_ h3.symm
      rw [hlist]
      refine ((set_perm' es.toList j _ hjl).map _).trans ?_
      rw [List.map_cons]
      refine List.Perm.cons _ ?_
      have h4 := (erase_perm es.toList j e hj).map fun e => (e.key, e.val)
      have h5 := (del_perm D.ok.rising hg).map fun x => (str x.1, ptr (fb x.1))
      rw [List.map_cons] at h4 h5
      rw [he, hv] at h4
      exact (h4.trans (D.map.perm.trans h5.symm)).cons_inv
end
end Go.Proofs.YtnifmoigalmcmaaGreat
