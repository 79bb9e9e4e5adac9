import Derived.Test.YtnifmoigalmcmaaM
namespace Go.Proofs.Ytnifmoigalmcmaa
open Go Go.RowKit Go.MapKept Go.Maps
open Go.WideElems (Fit rd rg pl)
open Dk
variable {c c' : Col} {w w' : World}
/-- A map's block laid anew. -/
def putMap (w : World) (mb : Nat) (es : Array MapEntry) (ck : Nat) : World := { w with heap := w.heap.setIfInBounds mb (.map es ck) }
theorem putMap_kp {k mb : Nat} {es : Array MapEntry} {ck : Nat} (hc : c mb = (k, 0)) : Kp c (fun q => q = (k, 0)) w (putMap w mb es ck) :=
  ⟨rfl, rfl, rfl, by simp [putMap], fun b hb hn => by
    have hne : mb ≠ b := fun e => hn (by rw [← e, hc])
    simp [putMap, hne]⟩
theorem putMap_heap {mb : Nat} {es : Array MapEntry} {ck : Nat} (h : mb < w.heap.size) : (putMap w mb es ck).heap[mb]? = some (.map es ck) := by
  simp [putMap, h]
theorem putMap_other {mb b : Nat} {es : Array MapEntry} {ck : Nat} (h : mb ≠ b) : (putMap w mb es ck).heap[b]? = w.heap[b]? := by
  simp [putMap, h]
section
variable {k d : Nat} {m : ADisk} {vk vf vu : Value} {mb : Nat} {es : Array MapEntry} {ck : Nat} {fb : Nm → Nat} {n : Nm} {f : AFile}
theorem MapAt.lt (M : MapAt w c k mb es ck fb m.files) : mb < w.heap.size := lt_of_heap M.heap
/-- The map's block laid anew, with entries that fit another list of files. -/
theorem DiskAt'.remap (D : DiskAt' w c k d m vk vf vu mb es ck fb) (hk0 : k ≠ 0) {es' : Array MapEntry} {ck' : Nat} {fb' : Nm → Nat} {fs : List (Nm × AFile)} (hfit : Fit Try.prog 9 Rn es' ck')
    (hp : (es'.toList.map fun e => (e.key, e.val)).Perm (fs.map fun x => (str x.1, ptr (fb' x.1)))) (ha : (fs.map fun x => fb' x.1).Nodup) (hf : ∀ x ∈ fs, FileAt w c k (fb' x.1) x.2) (hok : ({ m with files := fs } : ADisk).ok) :
    DiskAt' (putMap w mb es' ck') c k d { m with files := fs } vk vf vu mb es' ck' fb' := by
  have hK : Kp c (fun q => q = (k, 0)) w (putMap w mb es' ck') := putMap_kp D.map.col
  have h0 : ¬ ((0, 0) : Nat × Nat) = (k, 0) := by intro h; injection h with h; exact hk0 h.symm
  exact ⟨hok, (putMap_other D.mb_ne).trans D.heap, D.col, D.plan.kp hK h0 (Cx.refl _ _), ⟨putMap_heap D.map.lt, D.map.col, hfit, hp, ha, fun x hx => (hf x hx).kp hK (by simp) (by simp) h0 (Cx.refl _ _)⟩⟩
theorem rd_new {key : Nm} (hn : key.length ≤ maxLen) (v : Value) (b : Nat) : ∃ y, Go.WideElems.rd Try.prog 9 Rn ⟨str key, v, b⟩ = some y := by
  unfold Go.WideElems.rd
  rw [keyStr hn]
  exact ⟨_, rfl⟩
theorem fit_push (D : MapAt w c k mb es ck fb m.files) (hn : n.length ≤ maxLen) (hg : get m.files n = none) (hsz : es.size < maxLen) (v : Value) : Fit Try.prog 9 Rn (es.push ⟨str n, v, ck⟩) (ck + 1) := by
  refine ⟨by simp; omega, stamped_push D.fit.stamped ?_, ?_⟩
  · intro x hx e
    have : (x.key, x.val) ∈ m.files.map fun x => (str x.1, ptr (fb x.1)) := D.perm.mem_iff.1 (List.mem_map.2 ⟨x, hx, rfl⟩)
    obtain ⟨y, hy, heq⟩ := List.mem_map.1 this
    simp only [Prod.mk.injEq] at heq
    exact get_none hg y hy (str_inj (heq.1.trans e))
  · intro x hx
    simp only [Array.toList_push, List.mem_append, List.mem_singleton] at hx
    rcases hx with hx | rfl
    · exact D.fit.reads x hx
    · exact rd_new hn v ck
theorem es_size (D : MapAt w c k mb es ck fb m.files) : es.size = m.files.length := by
  have := D.perm.length_eq; simpa using this
theorem len_map (D : MapAt w c k mb es ck fb m.files) (ty : TypeId) : (Builtin.len_ #[74] ty #[.map (some mb)]).run Try.prog w = .ok (.int .i64 (m.files.length : Int)) w := by
  rw [← es_size D]
  simp [Builtin.len_, MapKept.run_getObj_map D.heap, goInt]
end
theorem named_len {n : Nm} (h : named n = true) : n.length ≤ 32 := by
  unfold named at h
  simp only [Bool.and_eq_true, decide_eq_true_eq] at h
  exact h.2.2
theorem ins_ok {m : ADisk} {n : Nm} {f : AFile} (h : m.ok) (hn : n.length ≤ 32) (hg : get m.files n = none) (hl : m.files.length < 4096) (hf : f.ok m.ops.toNat) : ({ m with files := ins n f m.files } : ADisk).ok :=
  ⟨h.ops0, fun x hx => by
    rcases List.mem_cons.1 ((ins_perm n f m.files).mem_iff.1 hx) with rfl | hx
    · exact hf
    · exact h.files x hx, by
    show (ins n f m.files).length ≤ 4096
    rw [(ins_perm n f m.files).length_eq, List.length_cons]; omega, fun x hx => by
    rcases List.mem_cons.1 ((ins_perm n f m.files).mem_iff.1 hx) with rfl | hx
    · exact hn
    · exact h.names x hx, ins_rising n f h.rising (get_none hg)⟩
theorem create_disk {k d : Nat} {m : ADisk} {vk vf vu : Value} {mb : Nat} {es : Array MapEntry} {ck : Nat} {fb : Nm → Nat} {n : Nm} (D : DiskAt' w c k d m vk vf vu mb es ck fb) (hk0 : k ≠ 0) (hn : n.length ≤ 32) (hg : get m.files n = none) (hl : m.files.length < 4096) :
    ∃ c', Cx w c c' ∧ DiskAt' (putMap (w.alloc (.cells #[.slice none 0 0, .slice none 0 0, .slice none 0 0] 109)) mb (es.push ⟨str n, .pointer (some ⟨w.heap.size, 0, none⟩), ck⟩) (ck + 1)) c' k d { m with files := ins n ⟨[], [], []⟩ m.files } vk vf vu mb (es.push ⟨str n, .pointer (some ⟨w.heap.size, 0, none⟩), ck⟩) (ck + 1) (fun x => if x = n then w.heap.size else fb x) := by
  have hcx : Cx w c (fun b => if b < w.heap.size then c b else fcol k w.heap.size) := fun b hb => if_pos hb
  have hK : Kp c (fun _ => False) w (w.alloc (.cells #[.slice none 0 0, .slice none 0 0, .slice none 0 0] 109)) := (Kp.refl _ _ _).alloc _
  have D1 := D.kp hK (fun _ h => h.elim) hcx
  have hne : ∀ x ∈ m.files, x.1 ≠ n := get_none hg
  have hfb : ∀ x ∈ m.files, (if x.1 = n then w.heap.size else fb x.1) = fb x.1 := fun x hx => if_neg (hne x hx)
  have hlt : ∀ x ∈ m.files, fb x.1 < w.heap.size := fun x hx => by
    obtain ⟨_, _, _, hh, _⟩ := D.map.files x hx
    exact lt_of_heap hh
  refine ⟨_, hcx, D1.remap hk0 (fit_push D1.map (by unfold maxLen; omega) hg (by rw [es_size D1.map]; unfold maxLen; omega) _) ?_ ?_ ?_ (ins_ok D.ok hn hg hl ⟨by simp [maxFile], by simp [maxFile], (fun c hc => by cases hc), Nat.zero_le _⟩)⟩
  · rw [Array.toList_push, List.map_append]
    refine (List.perm_append_singleton _ _).trans ?_
    refine List.Perm.trans ?_ ((ins_perm n ⟨[], [], []⟩ m.files).map _).symm
    rw [List.map_cons]
    have e1 : (m.files.map fun x => (str x.1, ptr (if x.1 = n then w.heap.size else fb x.1))) = m.files.map fun x => (str x.1, ptr (fb x.1)) :=
      List.map_congr_left fun x hx => by rw [hfb x hx]
    rw [e1]
    simp only [if_pos]
    exact (D.map.perm).cons _
  · refine ((ins_perm n ⟨[], [], []⟩ m.files).map _).nodup_iff.2 ?_
    rw [List.map_cons, List.nodup_cons]
    have e1 : (m.files.map fun x => if x.1 = n then w.heap.size else fb x.1) = m.files.map fun x => fb x.1 := List.map_congr_left hfb
    rw [e1]
    refine ⟨?_, D.map.apart⟩
    simp only [if_pos]
    intro h
    obtain ⟨x, hx, e⟩ := List.mem_map.1 h
    have := hlt x hx
    omega
  · intro x hx
    rcases List.mem_cons.1 ((ins_perm n ⟨[], [], []⟩ m.files).mem_iff.1 hx) with rfl | hx
    · simp only [if_pos]
      refine ⟨.slice none 0 0, .slice none 0 0, .slice none 0 0, heap_alloc_new _ _, ?_, Sc.nil _ _ _, ⟨[], World.ownsRow_nil _ _ _ _, by simp, by simp [Value.ownBlock]⟩, Sc.nil _ _ _⟩
      exact if_neg (Nat.lt_irrefl _)
    · have := D1.map.files x hx
      rw [hfb x hx]
      exact this
theorem create_eq (m : ADisk) (n : Nm) (h : (begin_ m).1 = 0) : create m n = (if named n = false then (15, { m with ops := m.ops + 1 }) else if (get m.files n).isSome then (14, { m with ops := m.ops + 1 }) else if 4096 ≤ m.files.length then (2, { m with ops := m.ops + 1 }) else
    if room_ { m with ops := m.ops + 1 } 0 0 ≠ 0 then (room_ { m with ops := m.ops + 1 } 0 0, { m with ops := m.ops + 1 }) else (0, { m with ops := m.ops + 1, files := ins n ⟨[], [], []⟩ m.files })) := by
  have hz := (begin_zero h).1
  unfold create
  rcases hb : begin_ m with ⟨e, d⟩
  rw [hb] at h hz
  simp only at h hz
  subst h hz
  rfl
theorem create_c (k d : Nat) (m : ADisk) (n : Nm) (w : World) (DD : DiskAt w c k d m) (hk0 : k ≠ 0) (hops : m.ops < 900000) (hn : n.length ≤ maxLen) :
    Calls Try.prog 36 #[ptr d, str n] w (OpPost k d (create m n) c w) := by
  have HB := Lib.hid (begin_c k d m w DD hk0 hops)
  have HK0 := Lib.hid hk0
  have HN := Lib.hid hn
  by_cases h0 : (begin_ m).1 = 0
  case neg =>
    have e0 : create m n = begin_ m := by
      unfold create
      rcases hb : begin_ m with ⟨e, d⟩
      rw [hb] at h0
      simp only at h0
      simp only [if_pos h0]
    rw [e0]
    obtain ⟨r, hr⟩ : ∃ r, r = (begin_ m).1 := ⟨_, rfl⟩
    obtain ⟨m1, hm1⟩ : ∃ r, r = (begin_ m).2 := ⟨_, rfl⟩
    have e1 : begin_ m = (r, m1) := by rw [hr, hm1]
    rw [e1] at HB ⊢
    rw [← hr] at h0
    have h1 : (r != 0) = true := by simpa using h0
    clear e0 e1 hr hm1 h0 DD hk0 hops hn
    have HB : Hid (Calls Try.prog 60 #[ptr d] w fun e w' => e = .returned (.int .i64 r) ∧ ∃ c', Cx w c c' ∧ Kp c (fun q => q.1 = k) w w' ∧ DiskAt w' c' k d m1) := HB
    unfold ptr at *
    go_enter Try.func36, Try.ntmps36
    go_wp2_with (go_at_call 60; refine HB.out.mono ?_; rintro e w1 ⟨rfl, c1, hc1, hk1, D1⟩; obtain ⟨vk, vf, vu, mb, es, ck, fb, D1⟩ := D1; have HD := Lib.hid D1; have HC := Lib.hid hc1; have HK := Lib.hid hk1; have h8 := D1.c8; clear D1 hc1 hk1)
    go_ret
    exact ⟨rfl, c1, HC.out, HK.out, vk, vf, vu, mb, es, ck, fb, HD.out⟩
  case pos =>
    have hz := (begin_zero h0).1
    rw [create_eq m n h0]
    obtain ⟨m1, hm1⟩ : ∃ m1 : ADisk, m1 = { m with ops := m.ops + 1 } := ⟨_, rfl⟩
    rw [h0, hz, ← hm1] at HB
    have hf1 : m.files = m1.files := by rw [hm1]
    have e2 : ({ m with ops := m.ops + 1, files := ins n ⟨[], [], []⟩ m.files } : ADisk) = { m1 with files := ins n ⟨[], [], []⟩ m1.files } := by rw [hm1]
    rw [← hm1, e2, hf1]
    clear hz e2 hf1 hm1 h0 DD hk0 hops hn
    by_cases h1 : named n = false
    · rw [if_pos h1]
      unfold ptr at *
      go_enter Try.func36, Try.ntmps36
      go_wp2_with (first | (go_at_call 60; refine HB.out.mono ?_; rintro e w1 ⟨rfl, c1, hc1, hk1, D1⟩; obtain ⟨vk, vf, vu, mb, es, ck, fb, D1⟩ := D1; have HD := Lib.hid D1; have HC := Lib.hid hc1; have HK := Lib.hid hk1; have h8 := D1.c8; clear D1 hc1 hk1) | (go_at_call 61; refine (named_str n _ HN.out).mono ?_; rintro e w2 ⟨rfl, rfl⟩))
      go_ret
      exact ⟨rfl, c1, HC.out, HK.out, vk, vf, vu, mb, es, ck, fb, HD.out⟩
    · have h1 : named n = true := by simpa using h1
      rw [if_neg (by rw [h1]; simp)]
      cases hg : get m1.files n with
      | some f =>
        rw [if_pos (by rfl)]
        have HG := Lib.hid hg; clear hg
        unfold ptr at *
        go_enter Try.func36, Try.ntmps36
        go_wp2_with (first | (go_at_call 60; refine HB.out.mono ?_; rintro e w1 ⟨rfl, c1, hc1, hk1, D1⟩; obtain ⟨vk, vf, vu, mb, es, ck, fb, D1⟩ := D1; have HD := Lib.hid D1; have HC := Lib.hid hc1; have HK := Lib.hid hk1; have h8 := D1.c8; have hlk := look_hit D1.map D1.ok.rising HN.out HG.out; unfold ptr at hlk; clear D1 hc1 hk1) | (go_at_call 61; refine (named_str n _ HN.out).mono ?_; rintro e w2 ⟨rfl, rfl⟩))
        go_ret
        exact ⟨rfl, c1, HC.out, HK.out, vk, vf, vu, mb, es, ck, fb, HD.out⟩
      | none =>
        rw [if_neg (by simp)]
        have HG := Lib.hid hg; clear hg
        by_cases h2 : 4096 ≤ m1.files.length
        · rw [if_pos h2]
          have h3 : (4096 : Int) ≤ (m1.files.length : Int) := by omega
          unfold ptr at *
          go_enter Try.func36, Try.ntmps36
          go_wp2_with (first | (go_at_call 60; refine HB.out.mono ?_; rintro e w1 ⟨rfl, c1, hc1, hk1, D1⟩; obtain ⟨vk, vf, vu, mb, es, ck, fb, D1⟩ := D1; have HD := Lib.hid D1; have HC := Lib.hid hc1; have HK := Lib.hid hk1; have h8 := D1.c8; have hlk := look_miss D1.map D1.ok.rising HN.out HG.out; have hln := len_map D1.map; clear D1 hc1 hk1) | (go_at_call 61; refine (named_str n _ HN.out).mono ?_; rintro e w2 ⟨rfl, rfl⟩))
          go_ret
          exact ⟨rfl, c1, HC.out, HK.out, vk, vf, vu, mb, es, ck, fb, HD.out⟩
        · rw [if_neg h2]
          obtain ⟨r, hr⟩ : ∃ r, r = room_ m1 0 0 := ⟨_, rfl⟩
          have hrm : ∀ (c1 : Col) (w1 : World) vk vf vu mb es ck fb, DiskAt' w1 c1 k d m1 vk vf vu mb es ck fb → Calls Try.prog 62 #[ptr d, .int .i64 0, .int .i64 0] w1 fun e w' => e = .returned (.int .i64 r) ∧ ∀ (c : Col) S, Kp c S w1 w' :=
            fun c1 w1 _ _ _ _ _ _ _ D => by rw [hr]; exact room_c k d m1 _ _ _ _ _ _ _ _ D 0 0 (by omega) (by omega) (by omega) (by omega)
          have HRM := Lib.hid hrm; clear hrm
          rw [← hr]
          have HR := Lib.hid hr; clear hr
          have h3 : decide ((4096 : Int) ≤ (m1.files.length : Int)) = false := by rw [decide_eq_false_iff_not]; omega
          have H2 := Lib.hid h2; clear h2
          by_cases hr0 : r = 0
          · subst hr0
            rw [if_neg (by simp)]
            unfold ptr at *
            go_enter Try.func36, Try.ntmps36
            go_wp2_with (first | (go_at_call 60; refine HB.out.mono ?_; rintro e w1 ⟨rfl, c1, hc1, hk1, D1⟩; obtain ⟨vk, vf, vu, mb, es, ck, fb, D1⟩ := D1; have HD := Lib.hid D1; have HC := Lib.hid hc1; have HK := Lib.hid hk1; have h8 := D1.c8; have hlk := look_miss D1.map D1.ok.rising HN.out HG.out; have hln := len_map D1.map; clear D1 hc1 hk1) | (go_at_call 61; refine (named_str n _ HN.out).mono ?_; rintro e w2 ⟨rfl, rfl⟩) | (go_at_call 62; refine (HRM.out _ _ _ _ _ _ _ _ _ HD.out).mono ?_; rintro e w3 ⟨rfl, hk3⟩; have HK3 := Lib.hid hk3; have D3 := HD.out.kp (hk3 c1 (fun _ => False)) (fun _ h => h.elim) (Cx.refl _ _); have g8 := D3.c8; have hst := store_new (D3.map.kp (S := fun _ => False) ((Kp.refl _ _ _).alloc (.cells #[.slice none 0 0, .slice none 0 0, .slice none 0 0] 109)) (fun _ h => h.elim) (Cx.refl _ _)) D3.ok.rising HN.out HG.out (.pointer (some ⟨w3.heap.size, 0, none⟩)); have HD3 := Lib.hid D3; clear D3 hk3))
            go_ret
            have hnl : n.length ≤ 32 := named_len h1
            have := create_disk HD3.out HK0.out hnl HG.out (by have := H2.out; omega)
            obtain ⟨c3, hc3, D4⟩ := this
            have hk4 : Kp c (fun q => q.1 = k) w w3 := HK.out.trans (HK3.out c1 _) HC.out
            have hcx : Cx w c c3 := HC.out.trans (fun b hb => hc3 b (Nat.lt_of_lt_of_le hb (HK3.out c1 (fun _ => False)).size)) HK.out.size
            refine ⟨rfl, c3, hcx, ?_, vk, vf, vu, mb, _, _, _, D4⟩
            refine (hk4.alloc (.cells #[.slice none 0 0, .slice none 0 0, .slice none 0 0] 109)).trans (c' := c3) ((putMap_kp D4.map.col).mono (fun q hq => by rw [hq])) hcx
          · rw [if_pos hr0]
            have h4 : (r != 0) = true := by simpa using hr0
            have HR0 := Lib.hid hr0; clear hr0
            unfold ptr at *
            go_enter Try.func36, Try.ntmps36
            go_wp2_with (first | (go_at_call 60; refine HB.out.mono ?_; rintro e w1 ⟨rfl, c1, hc1, hk1, D1⟩; obtain ⟨vk, vf, vu, mb, es, ck, fb, D1⟩ := D1; have HD := Lib.hid D1; have HC := Lib.hid hc1; have HK := Lib.hid hk1; have h8 := D1.c8; have hlk := look_miss D1.map D1.ok.rising HN.out HG.out; have hln := len_map D1.map; clear D1 hc1 hk1) | (go_at_call 61; refine (named_str n _ HN.out).mono ?_; rintro e w2 ⟨rfl, rfl⟩) | (go_at_call 62; refine (HRM.out _ _ _ _ _ _ _ _ _ HD.out).mono ?_; rintro e w3 ⟨rfl, hk3⟩; have HK3 := Lib.hid hk3; clear hk3))
            go_ret
            exact ⟨rfl, c1, HC.out, HK.out.trans (HK3.out c1 _) HC.out, vk, vf, vu, mb, es, ck, fb, HD.out.kp (HK3.out c1 (fun _ => False)) (fun _ h => h.elim) (Cx.refl _ _)⟩
end Go.Proofs.Ytnifmoigalmcmaa
