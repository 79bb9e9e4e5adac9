/- Two disks side by side: what DiskTwins keeps. -/
import Derived.Test.YtepphepcaphlkaaCn
import Derived.Test.YtepphepcaphlkaaDn
import Derived.Test.YtepphepcaphlkaaDs
namespace Go.Proofs.Ytepphepcaphlkaa
open Go Go.RowKit Go.MapKept Go.Maps
open Dk
variable {c c' : Col} {w w' : World}
/-- All operations, a start too. -/
theorem do_all (k d : Nat) (m : ADisk) (o : AOp) (vd vk vf vu : Value) (w : World) {i : Nat} (R : OpsInv m i) (hi : i ≤ 1000) (DD : DiskAt w c k d m) (hk0 : k ≠ 0) {b off : Nat} (O : OpAt w c b off o vd vk vf vu) :
    Calls Try.prog 12 #[ptr d, opV o vd vk vf vu] w (OpPost k d (doOp m o) c w) := by
  have hops : m.ops < 900000 := by have := R.ops; omega
  by_cases h7 : o.kind = 7
  · exact do_start k d m o vd vk vf vu w DD hk0 hops R.dry O.data O.fits.1 O.plan O.fits.2.1 O.fits.2.2.1 O.fits.2.2.2 h7
  · exact do_any7 k d m o vd vk vf vu w DD hk0 hops O h7
def PF (p : APlan) : Prop := p.keep.length ≤ lim ∧ p.fail.length ≤ lim ∧ p.full.length ≤ lim
theorem begin_plan (m : ADisk) : (begin_ m).2.plan = m.plan := by
  unfold begin_
  split
  · rfl
  simp only
  split
  · rfl
  · split <;> rfl
theorem open_plan (m : ADisk) (n : Nm) (g : AFile → ADisk → Int × ADisk) (hg : ∀ f d, (g f d).2.plan = d.plan) :
    (let (e, d) := begin_ m; if e ≠ 0 then (e, d) else match Dk.get d.files n with | none => (13, d) | some f => g f d).2.plan = m.plan := by
  have h := begin_plan m
  rcases hbe : begin_ m with ⟨e, d⟩
  rw [hbe] at h
  simp only at *
  split
  · exact h
  · split
    · exact h
    · exact (hg _ _).trans h
theorem change_plan (d : ADisk) (n : Nm) (f : AFile) (x : Chg) (has : Int) : (change d n f x has).2.plan = d.plan := by
  unfold change; split <;> rfl
theorem doOp_plan (m : ADisk) (o : AOp) (h7 : o.kind ≠ 7) : (doOp m o).2.plan = m.plan := by
  unfold doOp
  split
  · unfold create
    have h := begin_plan m
    rcases hbe : begin_ m with ⟨e, d⟩
    rw [hbe] at h
    simp only at *
    split
    · exact h
    split
    · exact h
    split
    · exact h
    split
    · exact h
    split
    · exact h
    · exact h
  split
  · exact open_plan m o.name (fun f d => if maxFile < o.data.length + f.now.length then (2, d) else change d o.name f (.wr f.now.length o.data) (f.now.length + o.data.length)) fun f d => by
      split
      · rfl
      · exact change_plan _ _ _ _ _
  split
  · exact open_plan m o.name (fun f d => if o.at_ < 0 then (1, d) else if (maxFile : Int) < o.at_ + o.data.length then (2, d) else change d o.name f (.wr o.at_.toNat o.data) (max (f.now.length : Int) (o.at_ + o.data.length))) fun f d => by
      split
      · rfl
      split
      · rfl
      · exact change_plan _ _ _ _ _
  split
  · exact open_plan m o.name (fun f d => if o.long < 0 then (1, d) else if (maxFile : Int) < o.long then (2, d) else change d o.name f (.cut o.long.toNat) o.long) fun f d => by
      split
      · rfl
      split
      · rfl
      · exact change_plan _ _ _ _ _
  split
  · exact open_plan m o.name (fun f d => (0, { d with files := upd d.files o.name ⟨f.now, [], f.now⟩ })) fun f d => rfl
  split
  · exact open_plan m o.name (fun f d => if named o.to = false then (15, d) else (0, { d with files := ins o.to f (del (del d.files o.name) o.to) })) fun f d => by
      split <;> rfl
  split
  · exact open_plan m o.name (fun f d => (0, { d with files := del d.files o.name })) fun f d => rfl
  · rfl
theorem doOp_pf {m : ADisk} {o : AOp} (h : PF m.plan) (ho : PF o.plan) : PF (doOp m o).2.plan := by
  by_cases h7 : o.kind = 7
  · have e : doOp m o = (0, Dk.start m o.plan) := by unfold doOp; simp [h7]
    rw [e]; exact ho
  · rw [doOp_plan m o h7]; exact h
/-- The disk behind operations, and what they answered. -/
def runD (m : ADisk) (l : List AOp) : ADisk := l.foldl (fun m o => (doOp m o).2) m
def saidL (m : ADisk) : List AOp → List Int
  | [] => []
  | o :: r => (doOp m o).1 :: saidL (doOp m o).2 r
theorem runD_snoc (m : ADisk) (l : List AOp) (o : AOp) : runD m (l ++ [o]) = (doOp (runD m l) o).2 := by unfold runD; rw [List.foldl_append]; rfl
theorem saidL_snoc (l : List AOp) (o : AOp) : ∀ m, saidL m (l ++ [o]) = saidL m l ++ [(doOp (runD m l) o).1] := by
  induction l with
  | nil => intro m; rfl
  | cons x r ih =>
    intro m
    simp only [List.cons_append, saidL]
    rw [ih]
    rfl
theorem saidL_len (l : List AOp) : ∀ m, (saidL m l).length = l.length := by
  induction l with
  | nil => intro m; rfl
  | cons x r ih => intro m; simp [saidL, ih]
theorem saidL_at (l : List AOp) : ∀ (m : ADisk) (j : Nat) (o : AOp), l[j]? = some o → (saidL m l)[j]? = some (doOp (runD m (l.take j)) o).1 := by
  induction l with
  | nil => intro m j o h; cases h
  | cons x r ih =>
    intro m j o h
    cases j with
    | zero => cases h; rfl
    | succ j => exact ih (doOp m x).2 j o h
structure DTInv (w : World) (c : Col) (k d : Nat) (i : Nat) (wr : World) : Prop where
  ex : ∃ ci mi, Cx w c ci ∧ Kp c (fun q => q.1 = k) w wr ∧ DiskAt wr ci k d mi ∧ OpsInv mi i ∧ PF mi.plan
theorem three_cols (c : Col) (n : Nat) : ∃ k k2 k3, k ≠ 0 ∧ k2 ≠ 0 ∧ k3 ≠ 0 ∧ k ≠ k2 ∧ k ≠ k3 ∧ k2 ≠ k3 ∧ ∀ b, b < n → (c b).1 ≠ k ∧ (c b).1 ≠ k2 ∧ (c b).1 ≠ k3 := by
  have : ∀ n, ∃ B, ∀ b, b < n → (c b).1 ≤ B := by
    intro n
    induction n with
    | zero => exact ⟨0, fun b h => by omega⟩
    | succ n ih =>
      obtain ⟨B, hB⟩ := ih
      refine ⟨B + (c n).1, fun b h => ?_⟩
      by_cases e : b = n
      · subst e; omega
      · have := hB b (by omega); omega
  obtain ⟨B, hB⟩ := this n
  exact ⟨B + 1, B + 2, B + 3, by omega, by omega, by omega, by omega, by omega, by omega, fun b hb => by have := hB b hb; omega⟩
/-- Two disks, lists that were told, numbers that were said. -/
def TW (w : World) (c : Col) (k d : Nat) (md : ADisk) (k2 d2 : Nat) (mc : ADisk) (k3 : Nat) (L : List (Value × List (Nm × List UInt8))) (vs : Value) (xs : List Int) (wi : World) : Prop :=
  ∃ ci, Cx w c ci ∧ Kp c (fun q => q.1 = k ∨ q.1 = k2 ∨ q.1 = k3) w wi ∧ DiskAt wi ci k d md ∧ DiskAt wi ci k2 d2 mc ∧ (∀ x ∈ L, FilesAt wi ci x.1 x.2) ∧ wi.ownsRow 0 3 1 vs xs.length (xs.map iv) ∧ ∀ g, vs.ownBlock = some g → ci g = (k3, 0)
theorem dtN {p : APlan} {b1 b2 b3 : Option Addr} {l1 l2 l3 : Nat} {w0 : World} (k : Nat) (hk0 : k ≠ 0) (h : PW w c p b1 b2 b3 l1 l2 l3 w0) (lk : p.keep.length ≤ lim) (lf : p.fail.length ≤ lim) (lu : p.full.length ≤ lim) :
    Calls Try.prog 11 #[.agg #[.int .i64 p.crash, .slice b1 p.keep.length l1, .slice b2 p.fail.length l2, .slice b3 p.full.length l3, .int .i64 p.room]] w0 fun e w' => ∃ d, e = .returned (.pointer (some ⟨d, 0, none⟩)) ∧ DTInv w c k d 0 w' := by
  obtain ⟨ci, hc, h0, hp⟩ := h
  refine (new_c k p _ _ _ w0 hp.keep hp.fail hp.full lk lf lu hk0).mono fun e w' h => ?_
  obtain ⟨d, c1, he, hcx, hkp, hdd, _⟩ := h
  have hs := (h0 (fun _ => False)).size
  exact ⟨d, he, c1, new_ p, hc.trans hcx hs, (h0 _).trans (hkp _) hc, hdd, ⟨(fun e => by cases e), by simp [new_], by simp [new_]⟩, lk, lf, lu⟩
theorem dt_clone {k k2 k3 d i : Nat} {m : ADisk} {wr : World} {ci : Col} (hc : Cx w c ci) (hk : Kp c (fun q => q.1 = k) w wr) (D : DiskAt wr ci k d m) (hk20 : k2 ≠ 0) (R : OpsInv m i) (hi : i ≤ 1000) (hp : PF m.plan) :
    Calls Try.prog 26 #[ptr d] wr fun e w' => ∃ d2, e = .returned (.pointer (some ⟨d2, 0, none⟩)) ∧ TW w c k d m k2 d2 m k3 [] (.slice none 0 0) [] w' := by
  refine (clone_c k k2 d m wr D hk20 (by have := R.ops; omega) hp.1 hp.2.1 hp.2.2).mono fun e w' h => ?_
  obtain ⟨d2, c', he, hx, hb, D2⟩ := h
  exact ⟨d2, he, c', hc.trans hx hk.size, (hk.trans (Kp.of_below hb) hc).mono (fun q hq => .inl hq), D.kp (Kp.of_below (S := fun _ => False) hb) (fun _ h => h.elim) hx, D2, (fun x hx => by cases hx), World.ownsRow_nil _ _ _ _, (fun g e => by cases e)⟩
section
variable {k d k2 d2 k3 : Nat} {md mc : ADisk} {L : List (Value × List (Nm × List UInt8))} {vs : Value} {xs : List Int} {wi : World}
structure Ks (k k2 k3 : Nat) : Prop where
  k0 : k ≠ 0
  k20 : k2 ≠ 0
  k30 : k3 ≠ 0
  n12 : k ≠ k2
  n13 : k ≠ k3
  n23 : k2 ≠ k3
theorem TW.end (h : TW w c k d md k2 d2 mc k3 L vs xs wi) (hkf : ∀ b, b < w.heap.size → (c b).1 ≠ k ∧ (c b).1 ≠ k2 ∧ (c b).1 ≠ k3) (S : Nat × Nat → Prop) : Kp c S w wi := by
  obtain ⟨ci, hc, hk, D, _⟩ := h
  exact ⟨hk.os, hk.tape, hk.output, hk.size, fun b hb _ => hk.block b hb (by have := hkf b hb; omega)⟩
/-- A step that turns no more than the first disk's blocks. -/
theorem TW.step1 (h : TW w c k d md k2 d2 mc k3 L vs xs wi) (K : Ks k k2 k3) {L' : List (Value × List (Nm × List UInt8))} {md' : ADisk} (hs : ∀ ci, DiskAt wi ci k d md → ∃ ci', Cx wi ci ci' ∧ Kp ci (fun q => q.1 = k) wi w' ∧ DiskAt w' ci' k d md' ∧ ∀ x ∈ L', x ∈ L ∨ FilesAt w' ci' x.1 x.2) :
    TW w c k d md' k2 d2 mc k3 L' vs xs w' := by
  obtain ⟨ci, hc, hk, D, D2, hL, ho, hg⟩ := h
  obtain ⟨ci', hx, hk', D', hL'⟩ := hs ci D
  have h1 := K.k0; have h2 := K.n12; have h3 := K.n13
  have hn0 : ¬ ((0, 0) : Nat × Nat).1 = k := by simp; omega
  refine ⟨ci', hc.trans hx hk.size, hk.trans (hk'.mono fun q hq => .inl hq) hc, D', D2.kp hk' (fun q hq => ⟨by rw [hq]; exact h2, fun e => by rw [e] at hq; exact hn0 hq⟩) hx, fun x hx' => ?_, ownsRow_kp ho hg hk' (by simp; omega), fun g e => (hx g (ownBlock_lt ho g e)).trans (hg g e)⟩
  rcases hL' x hx' with h | h
  · exact (hL x h).kp hk' hn0 hx
  · exact h
/-- .. the second disk's. -/
theorem TW.step2 (h : TW w c k d md k2 d2 mc k3 L vs xs wi) (K : Ks k k2 k3) {L' : List (Value × List (Nm × List UInt8))} {mc' : ADisk} (hs : ∀ ci, DiskAt wi ci k2 d2 mc → ∃ ci', Cx wi ci ci' ∧ Kp ci (fun q => q.1 = k2) wi w' ∧ DiskAt w' ci' k2 d2 mc' ∧ ∀ x ∈ L', x ∈ L ∨ FilesAt w' ci' x.1 x.2) :
    TW w c k d md k2 d2 mc' k3 L' vs xs w' := by
  obtain ⟨ci, hc, hk, D, D2, hL, ho, hg⟩ := h
  obtain ⟨ci', hx, hk', D', hL'⟩ := hs ci D2
  have h1 := K.k20; have h2 := K.n12; have h3 := K.n23
  have hn0 : ¬ ((0, 0) : Nat × Nat).1 = k2 := by simp; omega
  refine ⟨ci', hc.trans hx hk.size, hk.trans (hk'.mono fun q hq => .inr (.inl hq)) hc, D.kp hk' (fun q hq => ⟨by rw [hq]; exact h2.symm, fun e => by rw [e] at hq; exact hn0 hq⟩) hx, D', fun x hx' => ?_, ownsRow_kp ho hg hk' (by simp; omega), fun g e => (hx g (ownBlock_lt ho g e)).trans (hg g e)⟩
  rcases hL' x hx' with h | h
  · exact (hL x h).kp hk' hn0 hx
  · exact h
theorem TW.alloc (h : TW w c k d md k2 d2 mc k3 L vs xs wi) (K : Ks k k2 k3) (o : Obj) : TW w c k d md k2 d2 mc k3 L vs xs (wi.alloc o) :=
  h.step1 K fun ci D => ⟨ci, Cx.refl _ _, (Kp.refl _ _ _).alloc _, D.kp ((Kp.refl ci (fun _ => False) wi).alloc _) (fun _ h => h.elim) (Cx.refl _ _), fun _ hx => .inl hx⟩
theorem TW.drew (h : TW w c k d md k2 d2 mc k3 L vs xs wi) (K : Ks k k2 k3) : TW w c k d md k2 d2 mc k3 L vs xs wi.drew :=
  h.step1 K fun ci D => ⟨ci, Cx.refl _ _, (Kp.refl _ _ _).drew, D.kp ((Kp.refl ci (fun _ => False) wi).drew) (fun _ h => h.elim) (Cx.refl _ _), fun _ hx => .inl hx⟩
theorem tw_do1 (h : TW w c k d md k2 d2 mc k3 L vs xs wi) (K : Ks k k2 k3) {o : AOp} {vd vk vf vu : Value} {i b off : Nat} (R : OpsInv md i) (hi : i ≤ 1000) (O : ∀ ci, Cx w c ci → Kp c (fun q => q.1 = k ∨ q.1 = k2 ∨ q.1 = k3) w wi → OpAt wi ci b off o vd vk vf vu) :
    Calls Try.prog 12 #[ptr d, opV o vd vk vf vu] wi fun e w' => e = .returned (.int .i64 (doOp md o).1) ∧ TW w c k d (doOp md o).2 k2 d2 mc k3 L vs xs w' := by
  have h' := h
  obtain ⟨ci, hc, hk, D, D2, hL, ho, hg⟩ := h
  refine (do_all k d md o vd vk vf vu wi R hi D K.k0 (O ci hc hk)).mono fun e w' hp => ?_
  obtain ⟨he, c2, hx, hkp, hd⟩ := hp
  refine ⟨he, ?_⟩
  have h1 := K.k0; have h2 := K.n12; have h3 := K.n13
  have hn0 : ¬ ((0, 0) : Nat × Nat).1 = k := by simp; omega
  exact ⟨c2, hc.trans hx hk.size, hk.trans (hkp.mono fun q hq => .inl hq) hc, hd, D2.kp hkp (fun q hq => ⟨by rw [hq]; exact h2, fun e => by rw [e] at hq; exact hn0 hq⟩) hx, fun x hx' => (hL x hx').kp hkp hn0 hx, ownsRow_kp ho hg hkp (by simp; omega), fun g e => (hx g (ownBlock_lt ho g e)).trans (hg g e)⟩
theorem tw_do2 (h : TW w c k d md k2 d2 mc k3 L vs xs wi) (K : Ks k k2 k3) {o : AOp} {vd vk vf vu : Value} {i b off : Nat} (R : OpsInv mc i) (hi : i ≤ 1000) (O : ∀ ci, Cx w c ci → Kp c (fun q => q.1 = k ∨ q.1 = k2 ∨ q.1 = k3) w wi → OpAt wi ci b off o vd vk vf vu) :
    Calls Try.prog 12 #[ptr d2, opV o vd vk vf vu] wi fun e w' => e = .returned (.int .i64 (doOp mc o).1) ∧ TW w c k d md k2 d2 (doOp mc o).2 k3 L vs xs w' := by
  obtain ⟨ci, hc, hk, D, D2, hL, ho, hg⟩ := h
  refine (do_all k2 d2 mc o vd vk vf vu wi R hi D2 K.k20 (O ci hc hk)).mono fun e w' hp => ?_
  obtain ⟨he, c2, hx, hkp, hd⟩ := hp
  refine ⟨he, ?_⟩
  have h1 := K.k20; have h2 := K.n12; have h3 := K.n23
  have hn0 : ¬ ((0, 0) : Nat × Nat).1 = k2 := by simp; omega
  exact ⟨c2, hc.trans hx hk.size, hk.trans (hkp.mono fun q hq => .inr (.inl hq)) hc, D.kp hkp (fun q hq => ⟨by rw [hq]; exact h2.symm, fun e => by rw [e] at hq; exact hn0 hq⟩) hx, hd, fun x hx' => (hL x hx').kp hkp hn0 hx, ownsRow_kp ho hg hkp (by simp; omega), fun g e => (hx g (ownBlock_lt ho g e)).trans (hg g e)⟩
theorem tw_files1 (h : TW w c k d md k2 d2 mc k3 L vs xs wi) :
    Calls Try.prog 13 #[ptr d] wi fun e w' => ∃ a cap, e = .returned (.slice a (files md).length cap) ∧ TW w c k d md k2 d2 mc k3 ((.slice a (files md).length cap, files md) :: L) vs xs w' := by
  have h' := h
  obtain ⟨ci, hc, hk, D, D2, hL, ho, hg⟩ := h
  refine (files_c k d md wi D).mono fun e w' hp => ?_
  obtain ⟨v, c2, he, hx, hkp, hf⟩ := hp
  obtain ⟨a, cap, rfl⟩ := files_shape hf
  have hn0 : ¬ (fun _ : Nat × Nat => False) (0, 0) := fun h => h
  refine ⟨a, cap, he, c2, hc.trans hx hk.size, hk.trans (hkp _) hc, D.kp (hkp (fun _ => False)) (fun _ h => h.elim) hx, D2.kp (hkp (fun _ => False)) (fun _ h => h.elim) hx, fun x hx' => ?_, ownsRow_kp ho hg (hkp (fun _ => False)) (fun h => h), fun g e => (hx g (ownBlock_lt ho g e)).trans (hg g e)⟩
  rcases List.mem_cons.1 hx' with rfl | h
  · exact hf
  · exact (hL x h).kp (hkp (fun _ => False)) hn0 hx
theorem tw_files2 (h : TW w c k d md k2 d2 mc k3 L vs xs wi) :
    Calls Try.prog 13 #[ptr d2] wi fun e w' => ∃ a cap, e = .returned (.slice a (files mc).length cap) ∧ TW w c k d md k2 d2 mc k3 ((.slice a (files mc).length cap, files mc) :: L) vs xs w' := by
  obtain ⟨ci, hc, hk, D, D2, hL, ho, hg⟩ := h
  refine (files_c k2 d2 mc wi D2).mono fun e w' hp => ?_
  obtain ⟨v, c2, he, hx, hkp, hf⟩ := hp
  obtain ⟨a, cap, rfl⟩ := files_shape hf
  have hn0 : ¬ (fun _ : Nat × Nat => False) (0, 0) := fun h => h
  refine ⟨a, cap, he, c2, hc.trans hx hk.size, hk.trans (hkp _) hc, D.kp (hkp (fun _ => False)) (fun _ h => h.elim) hx, D2.kp (hkp (fun _ => False)) (fun _ h => h.elim) hx, fun x hx' => ?_, ownsRow_kp ho hg (hkp (fun _ => False)) (fun h => h), fun g e => (hx g (ownBlock_lt ho g e)).trans (hg g e)⟩
  rcases List.mem_cons.1 hx' with rfl | h
  · exact hf
  · exact (hL x h).kp (hkp (fun _ => False)) hn0 hx
theorem tw_safe1 (h : TW w c k d md k2 d2 mc k3 L vs xs wi) :
    Calls Try.prog 14 #[ptr d] wi fun e w' => ∃ a cap, e = .returned (.slice a (safe md).length cap) ∧ TW w c k d md k2 d2 mc k3 ((.slice a (safe md).length cap, safe md) :: L) vs xs w' := by
  obtain ⟨ci, hc, hk, D, D2, hL, ho, hg⟩ := h
  refine (safe_c k d md wi D).mono fun e w' hp => ?_
  obtain ⟨v, c2, he, hx, hkp, hf⟩ := hp
  obtain ⟨a, cap, rfl⟩ := files_shape hf
  have hn0 : ¬ (fun _ : Nat × Nat => False) (0, 0) := fun h => h
  refine ⟨a, cap, he, c2, hc.trans hx hk.size, hk.trans (hkp _) hc, D.kp (hkp (fun _ => False)) (fun _ h => h.elim) hx, D2.kp (hkp (fun _ => False)) (fun _ h => h.elim) hx, fun x hx' => ?_, ownsRow_kp ho hg (hkp (fun _ => False)) (fun h => h), fun g e => (hx g (ownBlock_lt ho g e)).trans (hg g e)⟩
  rcases List.mem_cons.1 hx' with rfl | h
  · exact hf
  · exact (hL x h).kp (hkp (fun _ => False)) hn0 hx
theorem tw_safe2 (h : TW w c k d md k2 d2 mc k3 L vs xs wi) :
    Calls Try.prog 14 #[ptr d2] wi fun e w' => ∃ a cap, e = .returned (.slice a (safe mc).length cap) ∧ TW w c k d md k2 d2 mc k3 ((.slice a (safe mc).length cap, safe mc) :: L) vs xs w' := by
  obtain ⟨ci, hc, hk, D, D2, hL, ho, hg⟩ := h
  refine (safe_c k2 d2 mc wi D2).mono fun e w' hp => ?_
  obtain ⟨v, c2, he, hx, hkp, hf⟩ := hp
  obtain ⟨a, cap, rfl⟩ := files_shape hf
  have hn0 : ¬ (fun _ : Nat × Nat => False) (0, 0) := fun h => h
  refine ⟨a, cap, he, c2, hc.trans hx hk.size, hk.trans (hkp _) hc, D.kp (hkp (fun _ => False)) (fun _ h => h.elim) hx, D2.kp (hkp (fun _ => False)) (fun _ h => h.elim) hx, fun x hx' => ?_, ownsRow_kp ho hg (hkp (fun _ => False)) (fun h => h), fun g e => (hx g (ownBlock_lt ho g e)).trans (hg g e)⟩
  rcases List.mem_cons.1 hx' with rfl | h
  · exact hf
  · exact (hL x h).kp (hkp (fun _ => False)) hn0 hx
theorem tw_ops1 (h : TW w c k d md k2 d2 mc k3 L vs xs wi) : Calls Try.prog 17 #[ptr d] wi fun e w' => e = .returned (.int .i64 md.ops) ∧ wi = w' := by
  obtain ⟨ci, hc, hk, D, D2, hL, ho, hg⟩ := h
  exact ops_c k d md wi D
theorem tw_ops2 (h : TW w c k d md k2 d2 mc k3 L vs xs wi) : Calls Try.prog 17 #[ptr d2] wi fun e w' => e = .returned (.int .i64 mc.ops) ∧ wi = w' := by
  obtain ⟨ci, hc, hk, D, D2, hL, ho, hg⟩ := h
  exact ops_c k2 d2 mc wi D2
theorem tw_same (h : TW w c k d md k2 d2 mc k3 L vs xs wi) {v1 v2 : Value} {f1 f2 : List (Nm × List UInt8)} (h1 : (v1, f1) ∈ L) (h2 : (v2, f2) ∈ L) (l1 : f1.length ≤ 4096) (hb : f1 = f2) :
    Calls Try.prog 16 #[v1, v2] wi fun e w' => e = .returned (.bool true) ∧ TW w c k d md k2 d2 mc k3 L vs xs w' := by
  obtain ⟨ci, hc, hk, D, D2, hL, ho, hg⟩ := h
  refine (same_c v1 v2 f1 f2 wi (hL _ h1) (hL _ h2) (by omega)).mono fun e w' hp => ?_
  obtain ⟨he, hkp⟩ := hp
  have hn0 : ¬ (fun _ : Nat × Nat => False) (0, 0) := fun h => h
  exact ⟨by rw [he, hb]; simp, ci, hc, hk.trans (hkp _) hc, D.kp (hkp (fun _ => False)) (fun _ h => h.elim) (Cx.refl _ _), D2.kp (hkp (fun _ => False)) (fun _ h => h.elim) (Cx.refl _ _), fun x hx' => (hL x hx').kp (hkp (fun _ => False)) hn0 (Cx.refl _ _), ownsRow_kp ho hg (hkp (fun _ => False)) (fun h => h), hg⟩
theorem tw_append (h : TW w c k d md k2 d2 mc k3 L vs xs wi) (K : Ks k k2 k3) {x : Int} {v' : Value} (hown : w'.ownsRow 0 3 1 v' (xs.length + 1) (xs.map iv ++ [iv x])) (hgrow : wi.grownBy w' vs.ownBlock) (hnew : ∀ g, v'.ownBlock = some g → vs.ownBlock = some g ∨ wi.heap.size ≤ g) :
    TW w c k d md k2 d2 mc k3 L v' (xs ++ [x]) w' := by
  obtain ⟨ci, hc, hk, D, D2, hL, ho, hg⟩ := h
  have h1 := K.k30; have h2 := K.n13; have h3 := K.n23
  have hkp : Kp ci (fun q => q.1 = k3) wi w' := Kp.of_grown hgrow fun g e _ => by rw [hg g e]
  have hx : Cx wi ci (fun b => if b < wi.heap.size then ci b else (k3, 0)) := fun b hb => if_pos hb
  have hn0 : ¬ ((0, 0) : Nat × Nat).1 = k3 := by simp; omega
  refine ⟨_, hc.trans hx hk.size, hk.trans (hkp.mono fun q hq => .inr (.inr hq)) hc, D.kp hkp (fun q hq => ⟨by rw [hq]; exact h2.symm, fun e => by rw [e] at hq; exact hn0 hq⟩) hx, D2.kp hkp (fun q hq => ⟨by rw [hq]; exact h3.symm, fun e => by rw [e] at hq; exact hn0 hq⟩) hx, fun x hx' => (hL x hx').kp hkp hn0 hx, ?_, fun g e => ?_⟩
  · rw [List.length_append, List.map_append]; exact hown
  · show (if g < wi.heap.size then ci g else (k3, 0)) = (k3, 0)
    rcases hnew g e with h | h
    · rw [if_pos (ownBlock_lt ho g h)]; exact hg g h
    · rw [if_neg (by omega)]
theorem tw_said (h : TW w c k d md k2 d2 mc k3 L vs xs wi) {j : Nat} {x : Int} (hx : xs[j]? = some x) : ∃ g cap, vs = .slice (some ⟨g, 0, none⟩) xs.length cap ∧ wi.cell? ⟨g, j, none⟩ = some (.int .i64 x) := by
  obtain ⟨ci, hc, hk, D, D2, hL, ho, hg⟩ := h
  rcases id ho.2 with ⟨_, h0⟩ | ⟨g, cap, cur, rfl, _⟩
  · have := (List.getElem?_eq_some_iff.1 hx).1; omega
  · refine ⟨g, cap, rfl, ?_⟩
    have h := ho.cells (g := g) rfl j (iv x) (by rw [List.getElem?_map, hx]; rfl)
    rw [add_eq rfl] at h
    simpa [iv] using h
theorem tw_shape (h : TW w c k d md k2 d2 mc k3 L vs xs wi) : ∃ a cap, vs = .slice a xs.length cap := by
  obtain ⟨ci, hc, hk, D, D2, hL, ho, hg⟩ := h
  rcases id ho.2 with ⟨rfl, h0⟩ | ⟨g, cap, cur, rfl, _⟩
  · exact ⟨none, 0, by rw [h0]⟩
  · exact ⟨_, _, rfl⟩
theorem tw_own (h : TW w c k d md k2 d2 mc k3 L vs xs wi) : wi.ownsRow 0 3 1 vs xs.length (xs.map iv) := by
  obtain ⟨ci, hc, hk, D, D2, hL, ho, hg⟩ := h
  exact ho
theorem tw_op (h : TW w c k d md k2 d2 mc k3 L vs xs wi) (K : Ks k k2 k3) {o : AOp} {vd vk vf vu : Value} {b off : Nat} (O : OpAt w c b off o vd vk vf vu) : ∃ ci, OpAt wi ci b off o vd vk vf vu := by
  obtain ⟨ci, hc, hk, D, D2, hL, ho, hg⟩ := h
  have h1 := K.k0; have h2 := K.k20; have h3 := K.k30
  exact ⟨ci, O.kp hk (by simp; omega) hc⟩
theorem op_fn (K : Ks k k2 k3) {o : AOp} {vd vk vf vu : Value} {b off : Nat} (O : OpAt w c b off o vd vk vf vu) : ∀ ci, Cx w c ci → Kp c (fun q => q.1 = k ∨ q.1 = k2 ∨ q.1 = k3) w wi → OpAt wi ci b off o vd vk vf vu := fun ci hc hk => by
  have h1 := K.k0; have h2 := K.k20; have h3 := K.k30
  exact O.kp hk (by simp; omega) hc
theorem tw_ok1 (h : TW w c k d md k2 d2 mc k3 L vs xs wi) : md.ok := by
  obtain ⟨ci, hc, hk, D, D2, _⟩ := h
  exact ok_of D
theorem tw_ok2 (h : TW w c k d md k2 d2 mc k3 L vs xs wi) : mc.ok := by
  obtain ⟨ci, hc, hk, D, D2, _⟩ := h
  exact ok_of D2
end
end Go.Proofs.Ytepphepcaphlkaa
