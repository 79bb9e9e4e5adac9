/- WalDoes: what it stands on. -/
import Derived.Test.YtnifmoigalmcmaaGreatVj
import Derived.Test.YtnifmoigalmcmaaGreatNo
import Derived.Test.YtnifmoigalmcmaaGreatYr
import Derived.Test.YtnifmoigalmcmaaGreatZc
import Derived.Test.YtnifmoigalmcmaaGreatAl
import Derived.Test.YtnifmoigalmcmaaGreatRs
import Derived.Test.YtnifmoigalmcmaaGreatRw
import Derived.Test.YtnifmoigalmcmaaGreatWy
import Derived.Test.YtnifmoigalmcmaaGreatUc
/- A log's operations over a disk, in plain Lean; the program's log does just these. -/
namespace Go.Proofs.YtnifmoigalmcmaaGreat
open Go Go.RowKit Dk
open Wl
variable {c c' : Col} {w w' : World} {S : Nat × Nat → Prop} {q : Nat × Nat}
/-- What a log holds. -/
structure Lg where
  ls : List (List Bs)
  size : Nat
  dirty : Bool
def lopen (m : ADisk) (n : Nm) : Int × ADisk × Lg :=
  if m.dead then (10, m, ⟨[], 0, false⟩) else
  match get m.files n with
  | none => ((create m n).1, (create m n).2, ⟨[], 0, false⟩)
  | some f =>
    ((if (Wl.read kec f.now).2 < f.now.length then trimD m n (Wl.read kec f.now).2 else (0, m)).1, (if (Wl.read kec f.now).2 < f.now.length then trimD m n (Wl.read kec f.now).2 else (0, m)).2, ⟨(Wl.read kec f.now).1, (Wl.read kec f.now).2, false⟩)
/-- A batch put behind a log whose last call went well. -/
def lput (m : ADisk) (n : Nm) (g : Lg) (b : List Bs) : Int × ADisk × Lg :=
  if (append m n (enc kec g.ls.length b)).1 ≠ 0 then ((append m n (enc kec g.ls.length b)).1, (append m n (enc kec g.ls.length b)).2, ⟨g.ls, g.size, true⟩) else
  if (sync (append m n (enc kec g.ls.length b)).2 n).1 ≠ 0 then ((sync (append m n (enc kec g.ls.length b)).2 n).1, (sync (append m n (enc kec g.ls.length b)).2 n).2, ⟨g.ls, g.size, true⟩) else
  (0, (sync (append m n (enc kec g.ls.length b)).2 n).2, ⟨g.ls ++ [b], g.size + (enc kec g.ls.length b).length, false⟩)
def lapp (m : ADisk) (n : Nm) (g : Lg) (b : List Bs) : Int × ADisk × Lg :=
  if good b = false then (102, m, g) else
  if g.dirty then (if (trimD m n g.size).1 ≠ 0 then ((trimD m n g.size).1, (trimD m n g.size).2, g) else lput (trimD m n g.size).2 n g b) else lput m n g b
def lreset (m : ADisk) (n : Nm) (g : Lg) : Int × ADisk × Lg :=
  if (truncate m n 0).1 ≠ 0 then ((truncate m n 0).1, (truncate m n 0).2, ⟨g.ls, g.size, true⟩) else
  if (sync (truncate m n 0).2 n).1 ≠ 0 then ((sync (truncate m n 0).2 n).1, (sync (truncate m n 0).2 n).2, ⟨[], 0, true⟩) else
  (0, (sync (truncate m n 0).2 n).2, ⟨[], 0, false⟩)
theorem trimD_ops (m : ADisk) (n : Nm) (s : Nat) : (trimD m n s).2.ops ≤ m.ops + 2 := by
  have h1 := truncate_ops m n s
  have h2 := sync_ops (truncate m n s).2 n
  unfold trimD
  split <;> omega
/-- How a call on the program's log ends. -/
def LPost (k kl d lb : Nat) (n : Nm) (R : Int × ADisk × Lg) (c : Col) (w : World) (e : Ending) (w' : World) : Prop :=
  e = .returned (.int .i64 R.1) ∧ ∃ c', Cx w c c' ∧ Kp c (fun q => q.1 = k ∨ q.1 = kl) w w' ∧ DiskAt w' c' k d R.2.1 ∧ ∃ vl', LogAt w' c' kl lb d n vl' R.2.2.ls R.2.2.size R.2.2.dirty
/-- How the program's Open ends. -/
def OPost (k kl d : Nat) (n : Nm) (R : Int × ADisk × Lg) (c : Col) (w : World) (e : Ending) (w' : World) : Prop :=
  ∃ c', Cx w c c' ∧ Kp c (fun q => q.1 = k) w w' ∧ DiskAt w' c' k d R.2.1 ∧
    (R.1 = 0 → ∃ lb vl, e = .returned (.tuple #[ptr lb, .int .i64 0]) ∧ w.heap.size ≤ lb ∧ LogAt w' c' kl lb d n vl R.2.2.ls R.2.2.size R.2.2.dirty) ∧
    (R.1 ≠ 0 → e = .returned (.tuple #[.pointer none, .int .i64 R.1]))
theorem DiskAt.okk {k d : Nat} {m : ADisk} (h : DiskAt w c k d m) : m.ok := by
  obtain ⟨_, _, _, _, _, _, _, h⟩ := h
  exact h.ok
theorem get_ok {m : ADisk} {n : Nm} {f : AFile} (h : m.ok) (hg : get m.files n = some f) : f.now.length ≤ maxFile := (h.files (n, f) (get_mem hg)).now
section
variable {kl lb d k : Nat} {nm : Nm} {vl vb : Value} {m : ADisk} {g : Lg} {batch : List Bs} {qa qb : Nat × Nat}
theorem wappend_c (w : World) (L : LogAt w c kl lb d nm vl g.ls g.size g.dirty) (DD : DiskAt w c k d m) (hk0 : k ≠ 0) (hkl : kl ≠ k) (hkl0 : kl ≠ 0) (hops : m.ops < 899980) (hn : nm.length ≤ maxLen)
    (hsz : g.size ≤ 1000000000) (hls : g.ls.length ≤ 100000000) (HBT : Bat w c qa qb vb batch) (hqq : Apart k kl qa qb) (hl : batch.length ≤ 1000000000) (hb : ∀ r ∈ batch, r.length ≤ 1000000000) :
    Calls Tryz.prog 17 #[ptr lb, vb] w (LPost k kl d lb nm (lapp m nm g batch) c w) := by
  obtain ⟨ls, size, dirty⟩ := g
  simp only at L hsz hls
  unfold lapp
  by_cases hg : good batch = false
  · rw [if_pos hg]
    refine (append_bad_c w vb batch L HBT hl hb hg).mono ?_
    rintro e w' ⟨rfl, rfl⟩
    exact ⟨rfl, c, Cx.refl _ _, Kp.refl _ _ _, DD, vl, L⟩
  · rw [if_neg hg]
    have hg : good batch = true := by simpa using hg
    cases dirty with
    | false =>
      simp only [Bool.false_eq_true, if_false]
      unfold lput
      by_cases h1 : (append m nm (enc kec ls.length batch)).1 = 0
      · rw [if_neg (by simpa using h1)]
        by_cases h2 : (sync (append m nm (enc kec ls.length batch)).2 nm).1 = 0
        · rw [if_neg (by simpa using h2)]
          exact append_clean k m w vb batch L DD hk0 hkl hkl0 (by omega) hn hsz hls HBT hqq hl hb hg h1 h2
        · rw [if_pos h2]
          refine (append_ill2 k m w vb batch L DD hk0 hkl hkl0 (by omega) hn hsz hls HBT hqq hl hb hg _ _ _ (Prod.ext h1 rfl) rfl h2).mono ?_
          rintro e w' ⟨rfl, c', h3, h4, h5, h6⟩
          exact ⟨rfl, c', h3, h4, h5, vl, h6⟩
      · rw [if_pos h1]
        refine (append_ill1 k m w vb batch L DD hk0 hkl hkl0 (by omega) hn hsz hls HBT hqq hl hb hg _ _ rfl h1).mono ?_
        rintro e w' ⟨rfl, c', h3, h4, h5, h6⟩
        exact ⟨rfl, c', h3, h4, h5, vl, h6⟩
    | true =>
      simp only [if_true]
      by_cases h0 : (trimD m nm size).1 = 0
      · rw [if_neg (by simpa using h0)]
        have hto := trimD_ops m nm size
        have ht : trimD m nm size = (0, (trimD m nm size).2) := by rw [← h0]
        obtain ⟨m1, hm1⟩ : ∃ m1, m1 = (trimD m nm size).2 := ⟨_, rfl⟩
        rw [← hm1] at ht hto ⊢
        unfold lput
        by_cases h1 : (append m1 nm (enc kec ls.length batch)).1 = 0
        · rw [if_neg (by simpa using h1)]
          by_cases h2 : (sync (append m1 nm (enc kec ls.length batch)).2 nm).1 = 0
          · rw [if_neg (by simpa using h2)]
            exact append_clean_d k m m1 ht w vb batch L DD hk0 hkl hkl0 (by omega) (by omega) hn hsz hls HBT hqq hl hb hg h1 h2
          · rw [if_pos h2]
            refine (append_ill2_d k m m1 ht w vb batch L DD hk0 hkl hkl0 (by omega) (by omega) hn hsz hls HBT hqq hl hb hg _ _ _ (Prod.ext h1 rfl) rfl h2).mono ?_
            rintro e w' ⟨rfl, c', h3, h4, h5, h6⟩
            exact ⟨rfl, c', h3, h4, h5, vl, h6⟩
        · rw [if_pos h1]
          refine (append_ill1_d k m m1 ht w vb batch L DD hk0 hkl hkl0 (by omega) (by omega) hn hsz hls HBT hqq hl hb hg _ _ rfl h1).mono ?_
          rintro e w' ⟨rfl, c', h3, h4, h5, h6⟩
          exact ⟨rfl, c', h3, h4, h5, vl, h6⟩
      · rw [if_pos h0]
        refine (append_illt k m w vb batch L DD hk0 hkl hkl0 (by omega) hn hsz hls HBT hqq hl hb hg _ _ rfl h0).mono ?_
        rintro e w' ⟨rfl, c', h3, h4, h5, h6⟩
        exact ⟨rfl, c', h3, h4, h5, vl, h6⟩
theorem wreset_c (w : World) (L : LogAt w c kl lb d nm vl g.ls g.size g.dirty) (DD : DiskAt w c k d m) (hk0 : k ≠ 0) (hkl : kl ≠ k) (hkl0 : kl ≠ 0) (hops : m.ops < 899980) (hn : nm.length ≤ maxLen) :
    Calls Tryz.prog 19 #[ptr lb] w (LPost k kl d lb nm (lreset m nm g) c w) := by
  unfold lreset
  by_cases h1 : (truncate m nm 0).1 = 0
  · rw [if_neg (by simpa using h1)]
    by_cases h2 : (sync (truncate m nm 0).2 nm).1 = 0
    · rw [if_neg (by simpa using h2)]
      refine (reset_c k m w L DD hk0 hkl hkl0 (by omega) hn _ _ (Prod.ext h1 rfl) (Prod.ext h2 rfl)).mono ?_
      rintro e w' ⟨rfl, c', h3, h4, h5, h6⟩
      exact ⟨rfl, c', h3, h4, h5, _, h6⟩
    · rw [if_pos h2]
      refine (reset_ill2 k m w L DD hk0 hkl hkl0 (by omega) hn _ _ _ (Prod.ext h1 rfl) rfl h2).mono ?_
      rintro e w' ⟨rfl, c', h3, h4, h5, h6⟩
      exact ⟨rfl, c', h3, h4, h5, _, h6⟩
  · rw [if_pos h1]
    refine (reset_ill1 k m w L DD hk0 hkl hkl0 (by omega) hn _ _ rfl h1).mono ?_
    rintro e w' ⟨rfl, c', h3, h4, h5, h6⟩
    exact ⟨rfl, c', h3, h4, h5, _, h6⟩
theorem size_dead {n : Nm} (hd : m.dead = true) : size m n = (0, 10) := by unfold Dk.size; rw [if_pos hd]
set_option maxRecDepth 20000 in
theorem open_dead (n : Nm) (w : World) (DD : DiskAt w c k d m) (hn : n.length ≤ maxLen) (hd : m.dead = true) :
    Calls Tryz.prog 14 #[ptr d, str n] w (OPost k kl d n (10, m, ⟨[], 0, false⟩) c w) := by
  have hcol : Cx w c (newCol w c (0, 0)) := newCol_cx _ _ _
  obtain ⟨o, ho⟩ : ∃ o, o = Obj.cells #[.int .i64 1, ptr d, str n, .slice none 0 0, .int .i64 0, .int .i64 0] 121 := ⟨_, rfl⟩
  have D1 := DD.kp ((Kp.refl c (fun _ => False) w).alloc o) (fun _ h => h.elim) hcol
  have hs := size_c k d m n (w.alloc o) D1 hn
  rw [size_dead hd] at hs
  have HS := Lib.hid hs; have HO := Lib.hid ho; have HD1 := Lib.hid D1; have HCOL := Lib.hid hcol
  clear hs D1 DD hd hcol
  unfold ptr str at HS HO ⊢
  go_enter Tryz.func14, Tryz.ntmps14
  rw [HO.out] at HS
  go_wp2_with (go_at_call 58; refine HS.out.mono ?_; rintro _ w1 ⟨rfl, rfl⟩)
  go_ret2
  exact ⟨_, HCOL.out, (Kp.refl c _ w).alloc _, HO.out ▸ HD1.out, fun h => absurd (show (10 : Int) = 0 from h) (by decide), fun _ => rfl⟩
theorem wopen_c (n : Nm) (w : World) (DD : DiskAt w c k d m) (hk0 : k ≠ 0) (hkl : kl ≠ k) (hkl0 : kl ≠ 0) (hops : m.ops < 899980) (hn : n.length ≤ maxLen) :
    Calls Tryz.prog 14 #[ptr d, str n] w (OPost k kl d n (lopen m n) c w) := by
  unfold lopen
  cases hd : m.dead with
  | true => simp only [if_true]; exact open_dead n w DD hn hd
  | false =>
    simp only [Bool.false_eq_true, if_false]
    rcases get_or m.files n with hg | ⟨f, hg⟩
    · rw [hg]
      refine (open_none k kl d m n w DD hk0 hkl (by omega) hn hd hg).mono ?_
      rintro e w' ⟨c', h1, h2, h3, h4, h5⟩
      refine ⟨c', h1, h2, h3, fun h => ?_, h5⟩
      obtain ⟨lb, h6, h7, h8⟩ := h4 h
      exact ⟨lb, _, h6, h7, h8⟩
    · rw [hg]
      have hf := get_ok DD.okk hg
      unfold maxFile at hf
      exact open_some k kl d m n f w DD hk0 hkl hkl0 (by omega) hn hd hg (by omega) _ rfl _ _ rfl
end
end Go.Proofs.YtnifmoigalmcmaaGreat
/- The document's disk: Append, Truncate, Sync, Size, whatever comes. -/
namespace Go.Proofs.YtnifmoigalmcmaaGreat
open Go Go.RowKit Go.MapKept Go.Maps
open Dk
variable {c c' : Col} {S : Nat × Nat → Prop} {w w' : World} {q : Nat × Nat}
theorem rappend_c (k r : Nat) (m : ADisk) (n : Nm) (v : Value) (b : List UInt8) (w : World) (DD : RD w c k r m) (hk0 : k ≠ 0) (hops : m.ops < 900000) (hv : Sw w c q v (b.map bv)) (hq : q.1 ≠ k) (hb : b.length ≤ lim) :
    Calls Tryz.prog 22 #[ptr r, .string ⟨n.toArray⟩, v] w (RPost k r (Dk.append m n b) c w) := by
  by_cases h : openErr m n = 0
  · obtain ⟨h1, f, h2⟩ := openErr_zero h
    exact rappend_good k r m n v b w DD hk0 hops hv hq hb f h1 h2
  · have e : Dk.append m n b = (openErr m n, (begin_ m).2) := bad_of h (fun f d => if maxFile < b.length + f.now.length then (2, d) else Dk.change d n f (.wr f.now.length b) (f.now.length + b.length))
    rw [e]
    exact rappend_bad k r m n v w DD hk0 hops h
theorem rtruncate_c (k r : Nat) (m : ADisk) (n : Nm) (i : Int) (w : World) (DD : RD w c k r m) (hk0 : k ≠ 0) (hops : m.ops < 900000)  :
    Calls Tryz.prog 65 #[ptr r, .string ⟨n.toArray⟩, .int .i64 i] w (RPost k r (Dk.truncate m n i) c w) := by
  by_cases h : openErr m n = 0
  · obtain ⟨h1, f, h2⟩ := openErr_zero h
    exact rtruncate_good k r m n i w DD hk0 hops f h1 h2
  · have e : Dk.truncate m n i = (openErr m n, (begin_ m).2) := bad_of h (fun f d => if i < 0 then (1, d) else if (maxFile : Int) < i then (2, d) else Dk.change d n f (.cut i.toNat) i)
    rw [e]
    exact rtruncate_bad k r m n i w DD hk0 hops h
theorem rsync_c (k r : Nat) (m : ADisk) (n : Nm)  (w : World) (DD : RD w c k r m) (hk0 : k ≠ 0) (hops : m.ops < 900000)  :
    Calls Tryz.prog 66 #[ptr r, .string ⟨n.toArray⟩] w (RPost k r (Dk.sync m n ) c w) := by
  by_cases h : openErr m n = 0
  · obtain ⟨h1, f, h2⟩ := openErr_zero h
    exact rsync_good k r m n w DD hk0 hops f h1 h2
  · have e : Dk.sync m n  = (openErr m n, (begin_ m).2) := bad_of h (fun f d => (0, { d with files := Dk.upd d.files n ⟨f.now, [], f.now⟩ }))
    rw [e]
    exact rsync_bad k r m n  w DD hk0 hops h
set_option maxRecDepth 20000 in
set_option maxHeartbeats 4000000 in
theorem rsize_c (k r : Nat) (m : ADisk) (n : Nm) (w : World) (DD : RD w c k r m) (hops : m.ops ≤ 1000000) :
    Calls Tryz.prog 61 #[ptr r, .string ⟨n.toArray⟩] w fun e w' => e = .returned (.tuple #[.int .i64 (size m n).1, .int .i64 (size m n).2]) ∧ ∀ S, Kp c S w w' := by
  obtain ⟨vk, vf, vu, vF, F, D⟩ := DD
  have hc7 := D.c7
  rcases get_or m.files n with hg | ⟨f, hg⟩
  · have hf := find_no D n hg
    unfold ptr at hf
    have HF := Lib.hid hf
    cases hd : m.dead with
    | true =>
      have e : size m n = (0, 10) := by unfold Dk.size; rw [if_pos hd]
      have HE := Lib.hid e
      rw [hd] at hc7
      clear e D hf hd hg hops
      unfold ptr
      go_enter Tryz.func61, Tryz.ntmps61
      go_wp2_with (go_at_call 77; (with_reducible refine HF.out.mono ?_); rintro e w2 ⟨rfl, rfl⟩)
      go_ret2
      exact ⟨by rw [HE.out]; rfl, fun S => Kp.refl _ _ _⟩
    | false =>
      have e : size m n = (0, 13) := by unfold Dk.size; rw [if_neg (by rw [hd]; simp), hg]
      have HE := Lib.hid e
      rw [hd] at hc7
      clear e D hf hd hg hops
      unfold ptr
      go_enter Tryz.func61, Tryz.ntmps61
      go_wp2_with (go_at_call 77; (with_reducible refine HF.out.mono ?_); rintro e w2 ⟨rfl, rfl⟩)
      go_ret2
      exact ⟨by rw [HE.out]; rfl, fun S => Kp.refl _ _ _⟩
  · obtain ⟨t, x, htx, hxn, hxf, hfy⟩ := find_yes D n hg
    have hf := hfy D
    unfold ptr at hf
    have HF := Lib.hid hf
    have ht0 : (0 : Int) ≤ (t : Int) := Int.natCast_nonneg _
    cases hd : m.dead with
    | true =>
      have e : size m n = (0, 10) := by unfold Dk.size; rw [if_pos hd]
      have HE := Lib.hid e
      rw [hd] at hc7
      clear e D hf hd hg hops htx hxn hxf hfy
      unfold ptr
      go_enter Tryz.func61, Tryz.ntmps61
      go_wp2_with (go_at_call 77; (with_reducible refine HF.out.mono ?_); rintro e w2 ⟨rfl, rfl⟩)
      go_ret2
      exact ⟨by rw [HE.out]; rfl, fun S => Kp.refl _ _ _⟩
    | false =>
      rw [hd] at hc7
      obtain ⟨g, kf, e2, hlc, hcm, -, f0, f1, f2, -⟩ := D.files.cells htx
      have hr5 := D.c5
      rw [e2] at hr5
      have hlt : t < F.length := (List.getElem?_eq_some_iff.1 htx).1
      have hlen := D.len
      have hlen' : (F.length : Int) ≤ 4096 := by omega
      have hlt' : (t : Int) < (F.length : Int) := by omega
      have hRF := D.files.each x (List.mem_of_getElem? htx)
      obtain ⟨asx, ksx, evs, -⟩ := id hRF.safe
      obtain ⟨avc, kvc, evc⟩ := own_shape hRF.chs.own
      rw [List.length_map] at evs
      have hnow := (D.fok (List.mem_of_getElem? htx)).now
      have hnow' : (x.f.now.length : Int) ≤ 268435456 := by unfold maxFile at hnow; omega
      have hdc := fun W hW => data_c (c := c) k x W hW (D.fok (List.mem_of_getElem? htx)) (by omega) (D.nok (List.mem_of_getElem? htx))
      rw [evs] at f1 hdc
      rw [evc] at f2 hdc
      unfold str at f0
      have HDC := Lib.hid hdc
      have HRF := Lib.hid hRF
      have HXF := Lib.hid hxf
      have e : size m n = ((x.f.now.length : Int), 0) := by unfold Dk.size; rw [if_neg (by rw [hd]; simp), hg, ← hxf]
      have HE := Lib.hid e
      clear e hdc hRF hxf evs evc hnow e2 hlc hcm hlen hlt D hf hd hg htx hxn hfy
      unfold ptr
      go_enter Tryz.func61, Tryz.ntmps61
      go_wp2_with (first | (go_at_call 77; (with_reducible refine HF.out.mono ?_); rintro e w2 ⟨rfl, rfl⟩) | (go_at_call 78; refine (HDC.out _ HRF.out).mono ?_; rintro e w2 ⟨v2, rfl, hown2, hb2⟩; have HB2 := Lib.hid hb2; obtain ⟨a2, cap2, rfl⟩ := own_shape hown2; clear hown2 hb2))
      go_ret2
      exact ⟨by rw [HE.out]; rfl, fun S => Kp.of_below HB2.out⟩
end Go.Proofs.YtnifmoigalmcmaaGreat
/- The document's log in memory. -/
namespace Go.Proofs.YtnifmoigalmcmaaGreat
open Go Go.RowKit Dk
open Wl
variable {c c' : Col} {w w' : World} {S : Nat × Nat → Prop} {q : Nat × Nat}
/-- The document's log: its own block, its list of batches. -/
structure RLogAt (w : World) (c : Col) (kl lb r : Nat) (nm : Nm) (vl : Value) (ls : List (List Bs)) (size : Nat) (torn : Bool) : Prop where
  heap : w.heap[lb]? = some (.cells #[ptr r, str nm, vl, .int .i64 size, .bool torn] 126 (0, 0))
  col : c lb = (kl, 0)
  own : ∃ xs, w.ownsRow 0 40 1 vl ls.length xs ∧ ∀ (i : Nat) x y, xs[i]? = some x → ls[i]? = some y → QL w c x y
  ocol : ∀ g, vl.ownBlock = some g → c g = (kl, 1)
variable {kl lb r : Nat} {nm : Nm} {vl : Value} {ls : List (List Bs)} {size : Nat} {torn : Bool}
theorem RLogAt.kp (h : RLogAt w c kl lb r nm vl ls size torn) (hk : Kp c S w w') (h0 : ¬ S (kl, 0)) (h1 : ¬ S (kl, 1)) (hz : ¬ S (0, 0)) (hc : Cx w c c') : RLogAt w' c' kl lb r nm vl ls size torn := by
  obtain ⟨a, b, ⟨xs, ho, hx⟩, e⟩ := h
  exact ⟨hk.heap a (by rw [b]; exact h0), (hc _ (lt_of_heap a)).trans b, ⟨xs, ownsRow_kp ho e hk h1, fun i x y hi hj => QL.stays.stay (hx i x y hi hj) hk hz hc⟩, fun g hg => (hc g (ownBlock_lt ho g hg)).trans (e g hg)⟩
theorem RLogAt.c0 (h : RLogAt w c kl lb r nm vl ls size torn) : w.cell? ⟨lb, 0, none⟩ = some (ptr r) := cell_of_heap h.heap 0
theorem RLogAt.c1 (h : RLogAt w c kl lb r nm vl ls size torn) : w.cell? ⟨lb, 1, none⟩ = some (str nm) := cell_of_heap h.heap 1
theorem RLogAt.c2 (h : RLogAt w c kl lb r nm vl ls size torn) : w.cell? ⟨lb, 2, none⟩ = some vl := cell_of_heap h.heap 2
theorem RLogAt.c3 (h : RLogAt w c kl lb r nm vl ls size torn) : w.cell? ⟨lb, 3, none⟩ = some (.int .i64 size) := cell_of_heap h.heap 3
theorem RLogAt.c4 (h : RLogAt w c kl lb r nm vl ls size torn) : w.cell? ⟨lb, 4, none⟩ = some (.bool torn) := cell_of_heap h.heap 4
theorem RLogAt.fz (h : RLogAt w c kl lb r nm vl ls size torn) (i : Nat) : w.frozen? ⟨lb, i, none⟩ = false := unfrozen_of_heap h.heap i
theorem RLogAt.drew (h : RLogAt w c kl lb r nm vl ls size torn) : RLogAt w.drew c kl lb r nm vl ls size torn := h.kp (S := fun _ => False) ((Kp.refl c _ w).drew) (fun h => h) (fun h => h) (fun h => h) (Cx.refl _ _)
theorem RLogAt.mark (h : RLogAt w c kl lb r nm vl ls size torn) (hkl : kl ≠ 0) (b : Bool) : RLogAt (w.setCell ⟨lb, 4, none⟩ (.bool b)) c kl lb r nm vl ls size b := by
  obtain ⟨a, e, ⟨xs, ho, hx⟩, f⟩ := h
  have hk : Kp c (· = (kl, 0)) w (w.setCell ⟨lb, 4, none⟩ (.bool b)) := (Kp.refl c _ w).setCell (fun _ => e) _
  exact ⟨heap_setCell a 4 _, e, ⟨xs, ownsRow_kp ho f hk (by simp), fun i x y hi hj => QL.stays.stay (hx i x y hi hj) hk (by simp; exact fun h => hkl h.symm) (Cx.refl _ _)⟩, f⟩
theorem RLogAt.empty (h : RLogAt w c kl lb r nm vl ls size torn) : RLogAt ((w.setCell ⟨lb, 2, none⟩ (.slice none 0 0)).setCell ⟨lb, 3, none⟩ (.int .i64 0)) c kl lb r nm (.slice none 0 0) [] 0 torn := by
  obtain ⟨a, e, _, _⟩ := h
  refine ⟨?_, e, ⟨[], World.ownsRow_nil _ _ _ _, fun i x y hx => by simp at hx⟩, fun g hg => by cases hg⟩
  have := heap_setCell (heap_setCell a 2 (.slice none 0 0)) 3 (.int .i64 0)
  rw [this]
  simp
end Go.Proofs.YtnifmoigalmcmaaGreat
