/- cairnref10: Read. -/
import Derived.Test.YtnifmoigalmcmaaGreatUc
import Derived.Test.YtnifmoigalmcmaaGreatOp
import Derived.Test.YtnifmoigalmcmaaGreatQ
namespace Go.Proofs.YtnifmoigalmcmaaGreat
open Go Go.RowKit
open Wl
variable {c c' : Col} {w w' : World} {S : Nat × Nat → Prop} {q : Nat × Nat}
set_option maxRecDepth 20000 in
set_option maxHeartbeats 2000000 in
theorem wrread_c (w : World) (v : Value) (bs : Bs) (h : Sw w c q v (bs.map bv)) (hl : bs.length ≤ 1000000000) :
    Calls Tryz.prog 64 #[v] w fun e w' => ∃ v' cf, e = .returned (.tuple #[v', .int .i64 (((read kec bs).2 : Nat) : Int)]) ∧ Grow QL w.heap.size w' 40 v' cf (read kec bs).1 ∧ ∀ c S, Kp c S w w' := by
  obtain ⟨i0, hi, hz0, hz1, hz2⟩ := info_batch
  have H6 := Lib.hid hi; have H7 := Lib.hid hz0; have H8 := Lib.hid hz1; have H9 := Lib.hid hz2; clear hi hz0 hz1 hz2
  obtain ⟨R, hR⟩ : ∃ R, R = read kec bs := ⟨_, rfl⟩
  rw [← hR]
  obtain ⟨K, hK⟩ : ∃ K, K = kec := ⟨_, rfl⟩
  rw [← hK] at hR
  by_cases hb0 : bs.length = 0
  · have hbs : bs = [] := List.eq_nil_of_length_eq_zero hb0
    subst hbs
    have hR0 : R = ([], 0) := by rw [hR]; exact readF_none K (by simp [first])
    subst hR0
    clear hR hK hb0 hl
    obtain ⟨a, cap, rfl, h1, h2, h3, h4⟩ := h
    have hone := fun (v : Value) (hv : Sw w c q v (([] : Bs).map bv)) => one_c w v [] 0 hv (by simp) (by omega)
    rw [show first kec [] 0 = none by simp [first]] at hone
    have HO := Lib.hid hone; clear hone h1 h4
    cases a with
    | none =>
      have hc0 := h3 rfl
      subst hc0
      have HF := Lib.hid (HO.out (.slice none 0 0) ⟨none, 0, rfl, by simp, by omega, fun _ => rfl, fun ad had => by cases had⟩)
      clear HO h2 h3
      go_enter Tryz.func64, Tryz.ntmps64
      go_wp2
      refine wp_loop_rounds 1 ?_
      rw [rounds_succ]
      go_wp2_with (go_at_call 128; refine HF.out.mono ?_; rintro _ w1 ⟨hk, rfl⟩; have HK := Lib.hid hk; clear hk)
      go_ret2
      exact ⟨_, _, rfl, Grow.start _ (HK5s HK.out), HK.out⟩
    | some ad =>
      obtain ⟨b, o, sp⟩ := ad
      go_enter Tryz.func64, Tryz.ntmps64
      go_wp2
      refine wp_loop_rounds 1 ?_
      rw [rounds_succ]
      go_wp2_with (go_at_call 128; refine (HO.out _ ⟨_, _, rfl, by simp, by omega, by first | (intro h; cases h) | (intro h; split at h <;> cases h), fun ad had j u hj => by simp at hj⟩).mono ?_; rintro _ w1 ⟨hk, rfl⟩; have HK := Lib.hid hk; clear hk)
      go_ret2
      exact ⟨_, _, rfl, Grow.start _ (HK5s HK.out), HK.out⟩
  · obtain ⟨b, o, cap, rfl, hlc, hcm, hc⟩ := h.spots hb0
    have HC := Lib.hid hc
    clear hc h hb0
    go_enter Tryz.func64, Tryz.ntmps64
    go_wp2
    obtain ⟨n, hn⟩ : ∃ n, n = bs.length := ⟨_, rfl⟩
    rw [← hn] at hl hlc ⊢
    have HN := Lib.hid hn; have HR := Lib.hid hR; have HKC := Lib.hid hK; clear hn hR hK
    go_loopw [4, 5] (fun v s wr => ∃ (at_ : Nat) (out : List (List Bs)) (cf : Col), at_ ≤ n ∧ out.length ≤ at_ ∧ s = .int .i64 at_ ∧ Grow QL w.heap.size wr 40 v cf out ∧
      R = (out ++ (readF K (n + 1) (bs.drop at_) out.length).1, at_ + (readF K (n + 1) (bs.drop at_) out.length).2) ∧ ∀ c S, Kp c S w wr) (fun _ s _ => n - (intOf s).toNat)
    case atStart => exact ⟨0, [], _, by omega, by simp, rfl, Grow.start _ (Nat.le_refl _), by rw [HR.out]; unfold Wl.read; rw [← HN.out]; simp, fun c S => Kp.refl c S w⟩
    case round =>
      obtain ⟨at_, out, cf, hat, hol, rfl, G, hRR, hK⟩ := hrel
      have HG := Lib.hid G; have HRR := Lib.hid hRR; have HK := Lib.hid hK; clear G hRR hK
      obtain ⟨k, hk⟩ : ∃ k, k = out.length := ⟨_, rfl⟩
      rw [← hk] at hol HRR
      have hfc := one_c wr _ (bs.drop at_) k (sub_sc (HC.out.on HK.out) HN.out hat hlc hcm).wide (by rw [List.length_drop, ← HN.out]; omega) (by omega)
      have HKK := Lib.hid hk; clear hk
      obtain ⟨xo, hxo⟩ := HG.out.own
      obtain ⟨ao, co, rfl⟩ := own_shape1 hxo.1
      clear hxo
      rw [← HKK.out] at HG ⊢
      rw [← HKC.out] at hfc
      have hdl : (bs.drop at_).length < n + 1 := by rw [List.length_drop]; have := HN.out; omega
      cases hfi : first K (bs.drop at_) k with
      | none =>
        rw [hfi] at hfc
        have HF := Lib.hid hfc
        have HRE := Lib.hid (show R = (out, at_) from by rw [HRR.out, readF_none K hfi]; simp)
        clear hfc hfi HRR hdl
        go_wp2_with (go_at_call 128; refine HF.out.mono ?_; rintro _ w1 ⟨hk, rfl⟩; have HK1 := Lib.hid hk; clear hk)
        all_goals
          go_ret2
          rw [HRE.out]
          first
          | exact ⟨_, rfl, ⟨_, HG.out.kp QL.stays (HK1.out cf (fun _ => False)) (fun h => h) (fun h => h)⟩, fun c S => (HK.out c S).alloc_trans (HK1.out c S)⟩
          | exact ⟨_, _, rfl, HG.out.kp QL.stays (HK1.out cf (fun _ => False)) (fun h => h) (fun h => h), fun c S => (HK.out c S).alloc_trans (HK1.out c S)⟩
      | some x =>
        obtain ⟨lb, m⟩ := x
        have hpos := first_pos K hfi
        have hpos' := hpos
        rw [List.length_drop, ← HN.out] at hpos'
        rw [hfi, if_neg (show ¬ cap = at_ by omega)] at hfc
        have HF := Lib.hid hfc
        have HRE := Lib.hid (show R = _ from by rw [HRR.out, readF_some K hdl hfi])
        rw [List.length_drop, ← HN.out] at hpos
        have hne : ¬ cap = at_ := by omega
        clear hfc hfi HRR hdl
        go_wp2_with (first
          | (at_builtin; refine wpList_append2 rfl _ _ _ rfl 40 i0 (.slice none 0 0) 24 Tryz.underlying114 H6.out H7.out H8.out H9.out rfl (.slice ao k co) out.length xs5 (by rw [HKK.out]; rfl) HO5.out ⟨w1.heap.size, 0, none⟩ 1 1 [.slice a4 m4 k4] rfl rfl (one_new _ _ _) (fun u hu => by rw [List.mem_singleton.1 hu]; exact QL.stays.one HQ5.out) (by rw [← HKK.out]; unfold maxLen; omega) (by rw [← HKK.out]; omega) ?_; intro v6 w6 hown6 hg6 hf6; have G6 := Lib.hid (HG5.out.push QL.stays HO5.out HQ5.out hown6 hg6 hf6); have HK6 := Lib.hid (fun c S => ((HK4.out c S).alloc _).grown hg6 (fun g hg hlt => absurd (HG5.out.fresh g hg) (by omega))); clear hown6 hg6 hf6)
          | (go_at_call 128; refine HF.out.mono ?_; rintro _ w1 ⟨hk, vb, cb, rfl, hgb⟩; obtain ⟨xb, hxb, _⟩ := hgb.own; obtain ⟨a4, m4, k4, rfl⟩ := own_slice hxb; obtain ⟨cg, xs5, g5, o5, q5⟩ := grow_join HG.out hgb hk (.cells #[.slice a4 m4 k4] 40); have HG5 := Lib.hid g5; have HO5 := Lib.hid o5; have HQ5 := Lib.hid q5; have HK4 := Lib.hid (fun c S => (HK.out c S).alloc_trans (hk c S)); clear g5 o5 q5 hk hgb hxb))
        go_roundw
        case rel =>
          refine ⟨at_ + m, out ++ [lb], _, by omega, by rw [List.length_append, ← HKK.out]; simp; omega, by go_num, G6.out, ?_, HK6.out⟩
          rw [HRE.out, List.length_append, ← HKK.out, List.drop_drop]
          simp [Nat.add_assoc]
        case measure => simp [intOf]; omega
end Go.Proofs.YtnifmoigalmcmaaGreat
/- The plain law behind DiskRoom: no operation but a start passes the room. -/
namespace Go.Proofs.YtnifmoigalmcmaaGreat
open Dk
structure RoomInv (m : ADisk) (r : Int) (i : Nat) : Prop where
  crash : m.plan.crash = 0
  room : m.plan.room = r
  dead : m.dead = false
  tot : (total m : Int) ≤ r
  ops0 : 0 ≤ m.ops
  ops : m.ops ≤ i
theorem RoomInv.begin {m : ADisk} {r : Int} {i : Nat} (h : RoomInv m r i) : (begin_ m).2 = { m with ops := m.ops + 1 } := by
  have h1 := h.ops0
  have h2 := h.crash
  unfold begin_
  rw [h.dead]
  simp only [Bool.false_eq_true, if_false]
  rw [if_neg (by show ¬ m.ops + 1 = m.plan.crash; omega)]
  split <;> rfl
theorem RoomInv.with {m : ADisk} {r : Int} {i : Nat} (h : RoomInv m r i) (fs : List (Nm × AFile)) (ht : (((fs.map fun x => x.2.now.length).sum : Nat) : Int) ≤ r) : RoomInv { m with ops := m.ops + 1, files := fs } r (i + 1) :=
  ⟨h.crash, h.room, h.dead, ht, by have := h.ops0; show 0 ≤ m.ops + 1; omega, by have := h.ops; show m.ops + 1 ≤ ((i + 1 : Nat) : Int); omega⟩
end Go.Proofs.YtnifmoigalmcmaaGreat
/- The plain law behind DiskSynced: what was synced is there behind a start. -/
namespace Go.Proofs.YtnifmoigalmcmaaGreat
open Dk
theorem get_upd {fs : List (Nm × AFile)} {n : Nm} {f g : AFile} (h : get fs n = some f) : get (upd fs n g) n = some g := by
  induction fs with
  | nil => simp [Dk.get] at h
  | cons x r ih =>
    unfold Dk.get upd at *
    rw [List.map_cons, List.find?_cons]
    cases hx : (x.1 == n) with
    | true => simp
    | false =>
      rw [List.find?_cons, hx] at h
      have e0 : (if false = true then (n, g) else x) = x := if_neg (by simp)
      rw [e0, hx]
      exact ih h
theorem get_dieAll {p : APlan} {n : Nm} {l : List UInt8} {l' : List UInt8} : ∀ {fs : List (Nm × AFile)} {N : Nat}, Dk.get fs n = some ⟨l, [], l'⟩ → Dk.get (dieAll p N fs) n = some ⟨l, [], l⟩
  | [], N, h => by simp [Dk.get] at h
  | x :: r, N, h => by
    unfold Dk.get at *
    unfold dieAll
    rw [List.find?_cons] at h ⊢
    cases hx : (x.1 == n) with
    | true =>
      rw [hx] at h
      simp at h
      simp [h, dieFile]
    | false =>
      rw [hx] at h
      simp only
      exact get_dieAll (fs := r) h
theorem sync_zero {m : ADisk} {n : Nm} (h : (Dk.sync m n).1 = 0) : ∃ f, Dk.get m.files n = some f ∧ Dk.sync m n = (0, { m with ops := m.ops + 1, files := upd m.files n ⟨f.now, [], f.now⟩ }) := by
  by_cases h0 : openErr m n = 0
  · obtain ⟨h1, f, hg⟩ := openErr_zero h0
    exact ⟨f, hg, good_of h1 hg (fun f d => (0, { d with files := upd d.files n ⟨f.now, [], f.now⟩ }))⟩
  · have e : Dk.sync m n = _ := bad_of h0 (fun f d => (0, { d with files := upd d.files n ⟨f.now, [], f.now⟩ }))
    rw [e] at h
    exact absurd h h0
theorem synced {m : ADisk} {n : Nm} {f : AFile} (hd : m.dead = false) (hg : Dk.get m.files n = some f) (h : (Dk.sync m n).1 = 0) (p : APlan) :
    (Dk.sync m n).2.dead = false ∧ Dk.get (Dk.sync m n).2.files n = some ⟨f.now, [], f.now⟩ ∧ (Dk.start (Dk.sync m n).2 p).dead = false ∧ Dk.get (Dk.start (Dk.sync m n).2 p).files n = some ⟨f.now, [], f.now⟩ := by
  obtain ⟨f', hg', e⟩ := sync_zero h
  rw [hg] at hg'
  cases hg'
  rw [e]
  have h1 := get_upd (g := ⟨f.now, [], f.now⟩) hg
  refine ⟨hd, h1, rfl, ?_⟩
  unfold Dk.start
  show Dk.get (if m.dead = true then _ else _ : ADisk).files n = _
  rw [hd]
  exact get_dieAll h1
end Go.Proofs.YtnifmoigalmcmaaGreat
/- What every operation keeps: a dead disk has no change that is not synced; operations are counted by one. -/
namespace Go.Proofs.YtnifmoigalmcmaaGreat
open Dk
structure OpsInv (m : ADisk) (i : Nat) : Prop where
  dry : m.dead = true → ∀ x ∈ m.files, x.2.chs = []
  ops0 : 0 ≤ m.ops
  ops : m.ops ≤ i
theorem OpsInv.begin {m : ADisk} {i : Nat} (h : OpsInv m i) : OpsInv (begin_ m).2 (i + 1) ∧ ((begin_ m).1 = 0 → (begin_ m).2.dead = false) := by
  unfold begin_
  cases hd : m.dead with
  | true =>
    simp only [if_true]
    exact ⟨⟨h.dry, h.ops0, by have := h.ops; omega⟩, fun e => by cases e⟩
  | false =>
    simp only [Bool.false_eq_true, if_false]
    have h1 := h.ops0
    have h2 := h.ops
    split
    · refine ⟨⟨fun _ x hx => ?_, by show 0 ≤ m.ops + 1; omega, by show m.ops + 1 ≤ ((i + 1 : Nat) : Int); omega⟩, fun e => by cases e⟩
      obtain ⟨y, _, j, e⟩ := dieAll_mem _ _ _ x hx
      rw [e]
    · split
      · exact ⟨⟨(fun e => by cases e), (by show 0 ≤ m.ops + 1; omega), (by show m.ops + 1 ≤ ((i + 1 : Nat) : Int); omega)⟩, (fun e => by cases e)⟩
      · exact ⟨⟨(fun e => by cases e), (by show 0 ≤ m.ops + 1; omega), (by show m.ops + 1 ≤ ((i + 1 : Nat) : Int); omega)⟩, (fun _ => rfl)⟩
theorem open_inv {m : ADisk} {i : Nat} (h : OpsInv m i) (n : Nm) (g : AFile → ADisk → Int × ADisk) (hg : ∀ f d, (g f d).2.dead = d.dead ∧ (g f d).2.ops = d.ops) :
    OpsInv (let (e, d) := begin_ m; if e ≠ 0 then (e, d) else match Dk.get d.files n with | none => (13, d) | some f => g f d).2 (i + 1) := by
  obtain ⟨h1, h2⟩ := h.begin
  rcases hbe : begin_ m with ⟨e, d⟩
  rw [hbe] at h1 h2
  simp only at *
  split
  · exact h1
  · rename_i he
    have he : e = 0 := by omega
    have hd := h2 he
    split
    · exact h1
    · rename_i f hf
      obtain ⟨g1, g2⟩ := hg f d
      exact ⟨(fun e => by have e : (g f d).2.dead = true := e; rw [g1, hd] at e; cases e), (by show 0 ≤ (g f d).2.ops; rw [g2]; exact h1.ops0), (by show (g f d).2.ops ≤ _; rw [g2]; exact h1.ops)⟩
theorem change_same (d : ADisk) (n : Nm) (f : AFile) (c : Chg) (has : Int) : (change d n f c has).2.dead = d.dead ∧ (change d n f c has).2.ops = d.ops := by
  unfold change; split <;> exact ⟨rfl, rfl⟩
theorem doOp_inv {m : ADisk} {i : Nat} (h : OpsInv m i) (o : AOp) : OpsInv (doOp m o).2 (i + 1) := by
  unfold doOp
  split
  · unfold create
    obtain ⟨h1, h2⟩ := h.begin
    rcases hbe : begin_ m with ⟨e, d⟩
    rw [hbe] at h1 h2
    simp only at *
    split
    · exact h1
    rename_i he
    have hd := h2 (by omega)
    split
    · exact h1
    split
    · exact h1
    split
    · exact h1
    split
    · exact h1
    · exact ⟨(fun e => by have e : d.dead = true := e; rw [hd] at e; cases e), h1.ops0, h1.ops⟩
  split
  · exact open_inv h o.name (fun f d => if maxFile < o.data.length + f.now.length then (2, d) else change d o.name f (.wr f.now.length o.data) (f.now.length + o.data.length)) fun f d => by
      split
      · exact ⟨rfl, rfl⟩
      · exact change_same _ _ _ _ _
  split
  · exact open_inv h o.name (fun f d => if o.at_ < 0 then (1, d) else if (maxFile : Int) < o.at_ + o.data.length then (2, d) else change d o.name f (.wr o.at_.toNat o.data) (max (f.now.length : Int) (o.at_ + o.data.length))) fun f d => by
      split
      · exact ⟨rfl, rfl⟩
      split
      · exact ⟨rfl, rfl⟩
      · exact change_same _ _ _ _ _
  split
  · exact open_inv h o.name (fun f d => if o.long < 0 then (1, d) else if (maxFile : Int) < o.long then (2, d) else change d o.name f (.cut o.long.toNat) o.long) fun f d => by
      split
      · exact ⟨rfl, rfl⟩
      split
      · exact ⟨rfl, rfl⟩
      · exact change_same _ _ _ _ _
  split
  · exact open_inv h o.name (fun f d => (0, { d with files := upd d.files o.name ⟨f.now, [], f.now⟩ })) fun f d => ⟨rfl, rfl⟩
  split
  · exact open_inv h o.name (fun f d => if named o.to = false then (15, d) else (0, { d with files := ins o.to f (del (del d.files o.name) o.to) })) fun f d => by
      split <;> exact ⟨rfl, rfl⟩
  split
  · exact open_inv h o.name (fun f d => (0, { d with files := del d.files o.name })) fun f d => ⟨rfl, rfl⟩
  split
  · refine ⟨fun e => ?_, Int.le_refl _, by show (0 : Int) ≤ ((i + 1 : Nat) : Int); omega⟩
    have e : false = true := e
    cases e
  · exact ⟨h.dry, h.ops0, by have := h.ops; show m.ops ≤ ((i + 1 : Nat) : Int); omega⟩
end Go.Proofs.YtnifmoigalmcmaaGreat
/- The plain law behind DiskAll: with a plan that keeps all nothing is lost; with one that keeps nothing a file is what it was when it was last synced. -/
namespace Go.Proofs.YtnifmoigalmcmaaGreat
open Dk
def folded (f : AFile) : Prop := f.now = f.chs.foldl (fun l c => c.app l) f.safe
structure AllInv (P : APlan) (m : ADisk) (i : Nat) : Prop where
  crash : P.crash = 0
  plan : m.plan = P
  dead : m.dead = false
  fold : ∀ x ∈ m.files, folded x.2
  ops0 : 0 ≤ m.ops
  ops : m.ops ≤ i
theorem AllInv.begin {P : APlan} {m : ADisk} {i : Nat} (h : AllInv P m i) : (begin_ m).2 = { m with ops := m.ops + 1 } := by
  have h1 := h.ops0
  have h2 := h.crash
  unfold begin_
  rw [h.dead]
  simp only [Bool.false_eq_true, if_false]
  rw [if_neg (by rw [h.plan, h2]; omega)]
  split <;> rfl
theorem AllInv.more {P : APlan} {m : ADisk} {i : Nat} (h : AllInv P m i) : AllInv P { m with ops := m.ops + 1 } (i + 1) :=
  ⟨h.crash, h.plan, h.dead, h.fold, by have := h.ops0; show 0 ≤ m.ops + 1; omega, by have := h.ops; show m.ops + 1 ≤ ((i + 1 : Nat) : Int); omega⟩
theorem AllInv.with {P : APlan} {m : ADisk} {i : Nat} (h : AllInv P m i) (fs : List (Nm × AFile)) (hf : ∀ x ∈ fs, folded x.2) : AllInv P { m with files := fs } i :=
  ⟨h.crash, h.plan, h.dead, hf, h.ops0, h.ops⟩
theorem insMem {fs : List (Nm × AFile)} {n : Nm} {f : AFile} {x : Nm × AFile} (h : x ∈ ins n f fs) : x = (n, f) ∨ x ∈ fs :=
  List.mem_cons.1 ((ins_perm n f fs).mem_iff.1 h)
end Go.Proofs.YtnifmoigalmcmaaGreat
