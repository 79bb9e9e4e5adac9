import Derived.Test.YtnifmoigalmcmaaK
namespace Go.Proofs.Ytnifmoigalmcmaa
open Go Go.RowKit Go.MapKept Go.Maps
open Dk
variable {c c' : Col} {w w' : World}
theorem named_str (n : Nm) (w : World) (hn : n.length ≤ maxLen) : Calls Try.prog 61 #[str n] w fun e w' => e = .returned (.bool (named n)) ∧ w = w' := by
  have := named_any ⟨n.toArray⟩ w (by simpa [ByteArray.size] using hn)
  simpa [str] using this
theorem begin_ops (m : ADisk) : (begin_ m).2.ops ≤ m.ops + 1 ∨ (begin_ m).2.ops = m.ops := by
  unfold begin_
  split
  · exact .inr rfl
  · simp only []
    split
    · exact .inl (Int.le_refl _)
    · split <;> exact .inl (Int.le_refl _)
def OpenPost (k d : Nat) (m : ADisk) (n : Nm) (c : Col) (w : World) (e : Ending) (w' : World) : Prop :=
  ∃ c' vk vf vu mb es ck fb, Cx w c c' ∧ Kp c (fun q => q.1 = k) w w' ∧ DiskAt' w' c' k d (begin_ m).2 vk vf vu mb es ck fb ∧
    if (begin_ m).1 ≠ 0 then e = .returned (.tuple #[.pointer none, .int .i64 (begin_ m).1]) else
    match get (begin_ m).2.files n with
    | none => e = .returned (.tuple #[.pointer none, .int .i64 13])
    | some _ => e = .returned (.tuple #[.pointer (some ⟨fb n, 0, none⟩), .int .i64 0])
theorem open_c (k d : Nat) (m : ADisk) (n : Nm) (w : World) (DD : DiskAt w c k d m) (hk0 : k ≠ 0) (hops : m.ops < 900000) (hn : n.length ≤ maxLen) :
    Calls Try.prog 63 #[ptr d, str n] w (OpenPost k d m n c w) := by
  have HB := Lib.hid (begin_c k d m w DD hk0 hops)
  obtain ⟨r, hr⟩ : ∃ r, r = (begin_ m).1 := ⟨_, rfl⟩
  rw [← hr] at HB
  have HR := Lib.hid hr; clear hr
  have HN := Lib.hid hn; clear hn
  clear DD hk0 hops
  unfold ptr at *
  by_cases h0 : r = 0
  · subst h0
    have h0 : ¬ (begin_ m).1 ≠ 0 := by rw [← HR.out]; simp
    have H0 := Lib.hid h0; clear h0
    cases hg : get (begin_ m).2.files n with
    | none =>
      have HG := Lib.hid hg; clear hg
      go_enter Try.func63, Try.ntmps63
      go_wp2_with (go_at_call 60; refine HB.out.mono ?_; rintro e w1 ⟨rfl, c1, hc1, hk1, vk, vf, vu, mb, es, ck, fb, D⟩; have HD := Lib.hid D; have HC := Lib.hid hc1; have HK := Lib.hid hk1; have hc8 := D.c8; have hlk := look_miss D.map D.ok.rising HN.out HG.out; clear D hc1 hk1)
      go_ret2
      refine ⟨c1, vk, vf, vu, mb, es, ck, fb, HC.out, HK.out, HD.out, ?_⟩
      rw [if_neg H0.out, HG.out]
      rfl
    | some f =>
      have HG := Lib.hid hg; clear hg
      go_enter Try.func63, Try.ntmps63
      go_wp2_with (go_at_call 60; refine HB.out.mono ?_; rintro e w1 ⟨rfl, c1, hc1, hk1, vk, vf, vu, mb, es, ck, fb, D⟩; have HD := Lib.hid D; have HC := Lib.hid hc1; have HK := Lib.hid hk1; have hc8 := D.c8; have hlk := look_hit D.map D.ok.rising HN.out HG.out; unfold ptr at hlk; clear D hc1 hk1)
      go_ret2
      refine ⟨c1, vk, vf, vu, mb, es, ck, fb, HC.out, HK.out, HD.out, ?_⟩
      rw [if_neg H0.out, HG.out]
      rfl
  · have h1 : (r != 0) = true := by simpa using h0
    have h2 : (begin_ m).1 ≠ 0 := by rw [← HR.out]; exact h0
    have H0 := Lib.hid h2; clear h2
    have H1 := Lib.hid h0; clear h0
    go_enter Try.func63, Try.ntmps63
    go_wp2_with (go_at_call 60; refine HB.out.mono ?_; rintro e w1 ⟨rfl, c1, hc1, hk1, vk, vf, vu, mb, es, ck, fb, D⟩; have HD := Lib.hid D; have HC := Lib.hid hc1; have HK := Lib.hid hk1; clear D hc1 hk1)
    go_ret2
    refine ⟨c1, vk, vf, vu, mb, es, ck, fb, HC.out, HK.out, HD.out, ?_⟩
    rw [if_pos H0.out, HR.out]
    rfl
theorem begin_zero {m : ADisk} (h : (begin_ m).1 = 0) : (begin_ m).2 = { m with ops := m.ops + 1 } ∧ m.dead = false := by
  unfold begin_ at *
  by_cases hd : m.dead = true
  · rw [if_pos hd] at h; cases h
  · rw [if_neg hd] at h ⊢
    simp only [] at *
    split at h
    · cases h
    · rename_i h1
      rw [if_neg h1]
      split at h
      · cases h
      · rename_i h2
        rw [if_neg h2]
        exact ⟨rfl, by simpa using hd⟩
section
variable {k d : Nat} {m : ADisk} {vk vf vu : Value} {mb : Nat} {es : Array MapEntry} {ck : Nat} {fb : Nm → Nat} {n : Nm} {f f' : AFile}
theorem upd_mem {fs : List (Nm × AFile)} {y : Nm × AFile} (h : y ∈ upd fs n f') : y = (n, f') ∨ (y ∈ fs ∧ y.1 ≠ n) := by
  unfold upd at h
  obtain ⟨x, hx, rfl⟩ := List.mem_map.1 h
  by_cases hn : x.1 = n
  · left; simp [hn]
  · right
    have : (x.1 == n) = false := by simpa using hn
    simp only [this, Bool.false_eq_true, if_false]
    exact ⟨hx, hn⟩
theorem upd_ok (h : m.ok) (hf : f'.ok m.ops.toNat) (hn : n.length ≤ 32) : ({ m with files := upd m.files n f' } : ADisk).ok :=
  ⟨h.ops0, fun x hx => by
    rcases upd_mem hx with rfl | ⟨hx, _⟩
    · exact hf
    · exact h.files x hx, by show (upd m.files n f').length ≤ 4096; unfold upd; rw [List.length_map]; exact h.many, fun x hx => by
    rcases upd_mem hx with rfl | ⟨hx, _⟩
    · exact hn
    · exact h.names x hx, upd_rising n f' h.rising⟩
theorem DiskAt'.upd (D : DiskAt' w c k d m vk vf vu mb es ck fb) (hg : get m.files n = some f) (hk : Kp c (fun q => q = fcol k (fb n) ∨ q = gcol k (fb n)) w w') (hc : Cx w c c') (hf : FileAt w' c' k (fb n) f') (hok : f'.ok m.ops.toNat) :
    DiskAt' w' c' k d { m with files := Dk.upd m.files n f' } vk vf vu mb es ck fb := by
  have h0 : ∀ q : Nat × Nat, (q = fcol k (fb n) ∨ q = gcol k (fb n)) → q.2 ≠ 0 := fun q hq => by rcases hq with rfl | rfl <;> simp
  refine ⟨upd_ok D.ok hok (D.ok.names _ (get_mem hg)), hk.heap D.heap (fun hq => h0 _ hq (by rw [D.col])), (hc _ D.lt).trans D.col, D.plan.kp hk (fun hq => h0 _ hq rfl) hc, D.map.upd hg hk (fun q hq => ⟨?_, fun e => h0 _ hq (by rw [e])⟩) hc hf⟩
  rcases hq with h | h
  · exact .inl h
  · exact .inr (.inl h)
end
theorem put_c (k d : Nat) (m : ADisk) (vk vf vu : Value) (mb : Nat) (es : Array MapEntry) (ck : Nat) (fb : Nm → Nat) (n : Nm) (f : AFile) (x : Chg) (v : Value) (has : Int) (w : World)
    (D : DiskAt' w c k d m vk vf vu mb es ck fb) (hk0 : k ≠ 0) (hg : get m.files n = some f) (hv : ChV w c v x) (hx : x.ok) (hm : f.chs.length + 1 ≤ m.ops.toNat) (ho : m.ops ≤ 900000) (h3 : 0 ≤ has) (h4 : has ≤ 1073741824) :
    Calls Try.prog 64 #[ptr d, ptr (fb n), v, .int .i64 has] w fun e w' => e = .returned (.int .i64 (change m n f x has).1) ∧ ∃ c', Cx w c c' ∧ Kp c (fun q => q.1 = k) w w' ∧ DiskAt w' c' k d (change m n f x has).2 := by
  have hfo := D.ok.files _ (get_mem hg)
  have hfo : f.ok m.ops.toNat := hfo
  have hnow := hfo.now
  have hlen : (f.now.length : Int) ≤ 1073741824 := by unfold maxFile at hnow; omega
  have HF := D.map.files _ (get_mem hg)
  obtain ⟨vs, vc, vn, hh, _, _, _, hnw⟩ := id HF
  obtain ⟨an, capn, rfl, _⟩ := hnw
  have hcn : w.cell? ⟨fb n, 2, none⟩ = some (.slice an f.now.length capn) := by
    have := cell_of_heap hh 2
    rw [List.length_map] at this
    exact this
  have HRM := Lib.hid (room_c k d m vk vf vu mb es ck fb w D f.now.length has (by omega) hlen h3 h4)
  obtain ⟨r, hr⟩ : ∃ r, r = room_ m f.now.length has := ⟨_, rfl⟩
  rw [← hr] at HRM
  have HR := Lib.hid hr; clear hr
  have HFO := Lib.hid hfo; clear hfo
  have HNW := Lib.hid hnow; clear hnow
  have HFF := Lib.hid HF; clear HF
  have HD := Lib.hid D; clear D
  have HK := Lib.hid hk0; clear hk0
  have HG := Lib.hid hg; clear hg
  have HV := Lib.hid hv; clear hv
  have HX := Lib.hid hx; clear hx
  have HM := Lib.hid hm; clear hm
  have HO := Lib.hid ho; clear ho
  clear h3 h4 hlen hh
  rename_i hz1 hz2 hz3 hz4; clear hz1 hz2 hz3 hz4
  unfold ptr at *
  by_cases h0 : r = 0
  · subst h0
    go_enter Try.func64, Try.ntmps64
    go_wp2_with (first
      | (go_at_call 62; refine HRM.out.mono ?_; rintro e w1 ⟨rfl, hk1⟩; have HK1 := Lib.hid hk1; have HF1 := Lib.hid (HFF.out.kp (hk1 c (fun _ => False)) (fun h => h) (fun h => h) (fun h => h) (Cx.refl _ _)); have HV1 := Lib.hid (HV.out.kp (hk1 c (fun _ => False)) (fun h => h) (Cx.refl _ _)); clear hk1)
      | (go_at_call 75; refine (do_any k (fb n) f x v _ HF1.out HV1.out HX.out HNW.out (by have h1 := HM.out; have h2 := HO.out; unfold lim; omega)).mono ?_; rintro e w2 ⟨rfl, c2, hc2, hk2, hf2⟩))
    go_ret
    have hch : change m n f x has = (0, { m with files := Dk.upd m.files n ⟨f.safe, f.chs ++ [x], x.app f.now⟩ }) := by
      unfold change; rw [← HR.out, if_neg (by simp)]
    rw [hch]
    have hcx : Cx w c c2 := fun b hb => hc2 b (Nat.lt_of_lt_of_le hb (HK1.out c (fun _ => False)).size)
    have hkk : Kp c (fun q => q = fcol k (fb n) ∨ q = gcol k (fb n)) w w2 := (HK1.out c _).trans hk2 (Cx.refl _ _)
    refine ⟨rfl, c2, hcx, hkk.mono (fun q hq => by rcases hq with rfl | rfl <;> rfl), vk, vf, vu, mb, es, ck, fb, HD.out.upd HG.out hkk hcx hf2 ?_⟩
    exact ⟨HFO.out.safe, app_ok HX.out HFO.out.now, fun c hc => by
      rcases List.mem_append.1 hc with h | h
      · exact HFO.out.chs c h
      · rw [List.mem_singleton.1 h]; exact HX.out, by have := HM.out; simp; exact this⟩
  · have h1 : (r != 0) = true := by simpa using h0
    have H1 := Lib.hid h0; clear h0
    go_enter Try.func64, Try.ntmps64
    go_wp2_with (go_at_call 62; refine HRM.out.mono ?_; rintro e w1 ⟨rfl, hk1⟩; have HK1 := Lib.hid hk1; clear hk1)
    go_ret
    have hch : change m n f x has = (r, m) := by
      unfold change; rw [← HR.out, if_pos H1.out]
    rw [hch]
    exact ⟨rfl, c, Cx.refl _ _, HK1.out _ _, vk, vf, vu, mb, es, ck, fb, HD.out.kp (HK1.out c (fun _ => False)) (fun _ h => h.elim) (Cx.refl _ _)⟩
end Go.Proofs.Ytnifmoigalmcmaa
