import Derived.Test.YtnifmoigalmcmaaL
namespace Go.Proofs.Ytnifmoigalmcmaa
open Go Go.RowKit Go.MapKept Go.Maps
open Dk
variable {c c' : Col} {w w' : World}
/-- What an operation on a disk answers and leaves. -/
def OpPost (k d : Nat) (p : Int × ADisk) (c : Col) (w : World) (e : Ending) (w' : World) : Prop :=
  e = .returned (.int .i64 p.1) ∧ ∃ c', Cx w c c' ∧ Kp c (fun q => q.1 = k) w w' ∧ DiskAt w' c' k d p.2
def openErr (m : ADisk) (n : Nm) : Int := if (begin_ m).1 ≠ 0 then (begin_ m).1 else match get (begin_ m).2.files n with | none => 13 | some _ => 0
theorem open_bad (k d : Nat) (m : ADisk) (n : Nm) (w : World) (DD : DiskAt w c k d m) (hk0 : k ≠ 0) (hops : m.ops < 900000) (hn : n.length ≤ maxLen) (h : openErr m n ≠ 0) :
    Calls Try.prog 63 #[ptr d, str n] w fun e w' => e = .returned (.tuple #[.pointer none, .int .i64 (openErr m n)]) ∧ ∃ c', Cx w c c' ∧ Kp c (fun q => q.1 = k) w w' ∧ DiskAt w' c' k d (begin_ m).2 := by
  refine (open_c k d m n w DD hk0 hops hn).mono ?_
  rintro e w' ⟨c', vk, vf, vu, mb, es, ck, fb, hc, hk, D, he⟩
  refine ⟨?_, c', hc, hk, vk, vf, vu, mb, es, ck, fb, D⟩
  unfold openErr at *
  by_cases h0 : (begin_ m).1 ≠ 0
  · rw [if_pos h0] at he ⊢; exact he
  · rw [if_neg h0] at he h ⊢
    cases hg : get (begin_ m).2.files n with
    | none => rw [hg] at he; exact he
    | some f => rw [hg] at h; exact absurd rfl h
theorem open_good (k d : Nat) (m : ADisk) (n : Nm) (w : World) (DD : DiskAt w c k d m) (hk0 : k ≠ 0) (hops : m.ops < 900000) (hn : n.length ≤ maxLen) (f : AFile) (h : (begin_ m).1 = 0) (hg : get m.files n = some f) :
    Calls Try.prog 63 #[ptr d, str n] w fun e w' => ∃ c' vk vf vu mb es ck fb, e = .returned (.tuple #[.pointer (some ⟨fb n, 0, none⟩), .int .i64 0]) ∧ Cx w c c' ∧ Kp c (fun q => q.1 = k) w w' ∧ DiskAt' w' c' k d { m with ops := m.ops + 1 } vk vf vu mb es ck fb := by
  refine (open_c k d m n w DD hk0 hops hn).mono ?_
  rintro e w' ⟨c', vk, vf, vu, mb, es, ck, fb, hc, hk, D, he⟩
  have hz := (begin_zero h).1
  rw [hz] at D he
  rw [if_neg (by rw [h]; simp)] at he
  have hg : get ({ m with ops := m.ops + 1 } : ADisk).files n = some f := hg
  rw [hg] at he
  exact ⟨c', vk, vf, vu, mb, es, ck, fb, he, hc, hk, D⟩
theorem openErr_zero {m : ADisk} {n : Nm} (h : openErr m n = 0) : (begin_ m).1 = 0 ∧ ∃ f, get m.files n = some f := by
  unfold openErr at h
  by_cases h0 : (begin_ m).1 ≠ 0
  · rw [if_pos h0] at h; exact absurd h h0
  · have h0 : (begin_ m).1 = 0 := by omega
    rw [if_neg (by rw [h0]; simp), (begin_zero h0).1] at h
    refine ⟨h0, ?_⟩
    cases hg : get m.files n with
    | none =>
      have hg : get ({ m with ops := m.ops + 1 } : ADisk).files n = none := hg
      rw [hg] at h; cases h
    | some f => exact ⟨f, rfl⟩
/-- an operation that begins with open. -/
theorem bad_of {m : ADisk} {n : Nm} (h : openErr m n ≠ 0) (g : AFile → ADisk → Int × ADisk) :
    (let (e, d) := begin_ m; if e ≠ 0 then (e, d) else match get d.files n with | none => (13, d) | some f => g f d) = (openErr m n, (begin_ m).2) := by
  unfold openErr at *
  rcases hb : begin_ m with ⟨e, d⟩
  rw [hb] at h
  simp only at *
  by_cases h0 : e ≠ 0
  · rw [if_pos h0, if_pos h0]
  · rw [if_neg h0] at h ⊢
    rw [if_neg h0]
    cases hg : get d.files n with
    | none => rfl
    | some f => rw [hg] at h; exact absurd rfl h
theorem good_of {m : ADisk} {n : Nm} {f : AFile} (h : (begin_ m).1 = 0) (hg : get m.files n = some f) (g : AFile → ADisk → Int × ADisk) :
    (let (e, d) := begin_ m; if e ≠ 0 then (e, d) else match get d.files n with | none => (13, d) | some f => g f d) = g f { m with ops := m.ops + 1 } := by
  have hz := (begin_zero h).1
  rcases hb : begin_ m with ⟨e, d⟩
  rw [hb] at h hz
  simp only at h hz
  subst h hz
  simp only [hg]
  rfl
theorem append_bad (k d : Nat) (m : ADisk) (n : Nm) (v : Value) (b : List UInt8) (w : World) (DD : DiskAt w c k d m) (hk0 : k ≠ 0) (hops : m.ops < 900000) (hn : n.length ≤ maxLen) (h : openErr m n ≠ 0) :
    Calls Try.prog 40 #[ptr d, str n, v] w (OpPost k d (Dk.append m n b) c w) := by
  have e0 : Dk.append m n b = (openErr m n, (begin_ m).2) := bad_of h (fun f d => if maxFile < b.length + f.now.length then (2, d) else change d n f (.wr f.now.length b) (f.now.length + b.length))
  rw [e0]
  have HB := Lib.hid (open_bad k d m n w DD hk0 hops hn h)
  clear e0 DD hk0 hops hn
  have h1 : (openErr m n != 0) = true := by simpa using h
  obtain ⟨r, hr⟩ : ∃ r, r = openErr m n := ⟨_, rfl⟩
  rw [← hr] at h1 HB ⊢
  clear hr h
  unfold ptr at *
  go_enter Try.func40, Try.ntmps40
  go_wp2_with (go_at_call 63; refine HB.out.mono ?_; rintro e w1 ⟨rfl, c1, hc1, hk1, D1⟩; have HD := Lib.hid D1; have HC := Lib.hid hc1; have HK := Lib.hid hk1; clear D1 hc1 hk1)
  go_ret
  exact ⟨rfl, c1, HC.out, HK.out, HD.out⟩
theorem truncate_bad (k d : Nat) (m : ADisk) (n : Nm) (i : Int) (w : World) (DD : DiskAt w c k d m) (hk0 : k ≠ 0) (hops : m.ops < 900000) (hn : n.length ≤ maxLen) (h : openErr m n ≠ 0) :
    Calls Try.prog 48 #[ptr d, str n, .int .i64 i] w (OpPost k d (Dk.truncate m n i) c w) := by
  have e0 : Dk.truncate m n i = (openErr m n, (begin_ m).2) := bad_of h (fun f d => if i < 0 then (1, d) else if (maxFile : Int) < i then (2, d) else change d n f (.cut i.toNat) i)
  rw [e0]
  have HB := Lib.hid (open_bad k d m n w DD hk0 hops hn h)
  clear e0 DD hk0 hops hn
  have h1 : (openErr m n != 0) = true := by simpa using h
  obtain ⟨r, hr⟩ : ∃ r, r = openErr m n := ⟨_, rfl⟩
  rw [← hr] at h1 HB ⊢
  clear hr h
  unfold ptr at *
  go_enter Try.func48, Try.ntmps48
  go_wp2_with (go_at_call 63; refine HB.out.mono ?_; rintro e w1 ⟨rfl, c1, hc1, hk1, D1⟩; have HD := Lib.hid D1; have HC := Lib.hid hc1; have HK := Lib.hid hk1; clear D1 hc1 hk1)
  go_ret
  exact ⟨rfl, c1, HC.out, HK.out, HD.out⟩
theorem sync_bad (k d : Nat) (m : ADisk) (n : Nm)  (w : World) (DD : DiskAt w c k d m) (hk0 : k ≠ 0) (hops : m.ops < 900000) (hn : n.length ≤ maxLen) (h : openErr m n ≠ 0) :
    Calls Try.prog 41 #[ptr d, str n] w (OpPost k d (Dk.sync m n) c w) := by
  have e0 : Dk.sync m n = (openErr m n, (begin_ m).2) := bad_of h (fun f d => (0, { d with files := upd d.files n ⟨f.now, [], f.now⟩ }))
  rw [e0]
  have HB := Lib.hid (open_bad k d m n w DD hk0 hops hn h)
  clear e0 DD hk0 hops hn
  have h1 : (openErr m n != 0) = true := by simpa using h
  obtain ⟨r, hr⟩ : ∃ r, r = openErr m n := ⟨_, rfl⟩
  rw [← hr] at h1 HB ⊢
  clear hr h
  unfold ptr at *
  go_enter Try.func41, Try.ntmps41
  go_wp2_with (go_at_call 63; refine HB.out.mono ?_; rintro e w1 ⟨rfl, c1, hc1, hk1, D1⟩; have HD := Lib.hid D1; have HC := Lib.hid hc1; have HK := Lib.hid hk1; clear D1 hc1 hk1)
  go_ret
  exact ⟨rfl, c1, HC.out, HK.out, HD.out⟩
end Go.Proofs.Ytnifmoigalmcmaa
