/- DiskDoes: a disk answers, operation by operation, what the document's disk answers. -/
import Derived.Test.YtepphepcaphlkaaLk
import Derived.Test.YtepphepcaphlkaaTo
namespace Go.Proofs.Ytepphepcaphlkaa
open Go Go.RowKit Go.MapKept Go.Maps
open Dk
variable {c c' : Col} {w w' : World} {q : Nat × Nat}
section
variable {P : Program} {ops : Array Oper} {Q : Exit → Act → World → Prop} {S S2 : World → Prop} {l l2 : Nat}
/-- Behind operation l another fact may be held, up to another operation. -/
theorem wpAnyG_switch (S2 : World → Prop) (l2 : Nat) : ∀ (fuel : Nat) (listed : Array Bool) (a : Act) (w : World), listed.getD l true = true → wpAnyG P ops Q S2 l2 fuel listed a w → wpAnyG P ops Q S l fuel listed a w
  | 0, _, _, _, _, h => h
  | fuel + 1, _, _, _, hl, h => ⟨h.1, fun i hi => wpOp_mono (fun a' w' h' => ⟨(fun hc => by rw [getD_set_t hl] at hc; cases hc), wpAnyG_switch S2 l2 fuel _ a' w' (getD_set_t hl) h'.2⟩) (h.2 i hi)⟩
end
theorem kp_fresh {k : Nat} {wi : World} {ci : Col} (h : ∀ S, Kp c S w wi) (hc : Cx w c ci) (hk : Kp ci (fun q => q.1 = k) wi w') (hf : ∀ b, b < w.heap.size → (c b).1 ≠ k) : ∀ S, Kp c S w w' := fun S => by
  have h0 := h S
  exact ⟨hk.os.trans h0.os, hk.tape.trans h0.tape, hk.output.trans h0.output, Nat.le_trans h0.size hk.size, fun b hb hn => (hk.block b (Nat.lt_of_lt_of_le hb h0.size) (by rw [hc b hb]; exact hf b hb)).trans (h0.block b hb hn)⟩
structure Fr (w : World) (c : Col) (k kr k3 : Nat) : Prop where
  k0 : k ≠ 0
  r0 : kr ≠ 0
  t0 : k3 ≠ 0
  dk : k ≠ kr
  kt : k ≠ k3
  rt : kr ≠ k3
  fk : ∀ b, b < w.heap.size → (c b).1 ≠ k
  fr : ∀ b, b < w.heap.size → (c b).1 ≠ kr
  ft : ∀ b, b < w.heap.size → (c b).1 ≠ k3
theorem fresh3 (w : World) (c : Col) : ∃ k kr k3, Fr w c k kr k3 := by
  obtain ⟨k, hk0, -, hkf⟩ := fresh_col c w.heap.size 0
  obtain ⟨kr, hr0, hrk, hrf⟩ := fresh_col c w.heap.size k
  obtain ⟨k3, ht0, htr, htf⟩ := fresh_col (fun b => if b < w.heap.size then c b else (k, 0)) (w.heap.size + 1) kr
  have h1 : k3 ≠ k := by
    have := htf w.heap.size (by omega)
    rw [if_neg (by omega)] at this
    exact fun e => this e.symm
  refine ⟨k, kr, k3, hk0, hr0, ht0, fun e => hrk e.symm, fun e => h1 e.symm, fun e => htr e.symm, hkf, hrf, fun b hb => ?_⟩
  have := htf b (by omega)
  rwa [if_pos hb] at this
/-- Both disks, bytes that they told, and boxes. -/
def DD (w : World) (c : Col) (k d kr r : Nat) (m m2 : ADisk) (L : List (Value × List UInt8)) (B : List (Nat × Obj)) (wi : World) : Prop :=
  ∃ ci, Cx w c ci ∧ (∀ S, Kp c S w wi) ∧ DiskAt wi ci k d m ∧ RD wi ci kr r m2 ∧ (∀ x ∈ L, Sc wi ci (0, 0) x.1 (x.2.map bv)) ∧ ∀ x ∈ B, wi.heap[x.1]? = some x.2 ∧ ci x.1 = (0, 0)
section
variable {k d kr r k3 : Nat} {m m2 : ADisk} {L : List (Value × List UInt8)} {B : List (Nat × Obj)} {wi : World}
theorem DD.kp (h : DD w c k d kr r m m2 L B wi) : ∀ S, Kp c S w wi := by obtain ⟨_, _, h, _⟩ := h; exact h
theorem DD.alloc (h : DD w c k d kr r m m2 L B wi) (o : Obj) : DD w c k d kr r m m2 L ((wi.heap.size, o) :: B) (wi.alloc o) := by
  obtain ⟨ci, hc, hk, D, R, hL, hB⟩ := h
  have hs := (hk S2F).size
  have hx : Cx wi ci (fun b => if b = wi.heap.size then (0, 0) else ci b) := fun b hb => if_neg (by omega)
  have hk1 : Kp ci S2F wi (wi.alloc o) := (Kp.refl _ _ _).alloc o
  refine ⟨_, hc.trans hx hs, fun S => (hk S).alloc o, D.kp hk1 (fun _ h => h.elim) hx, R.kp hk1 (fun _ h => h.elim) hx, fun x hxx => (hL x hxx).kp hk1 (fun h => h) hx, fun x hxB => ?_⟩
  rcases List.mem_cons.1 hxB with rfl | h
  · exact ⟨heap_alloc_new _ _, if_pos rfl⟩
  · obtain ⟨h1, h2⟩ := hB x h
    exact ⟨heap_alloc_old _ h1, (hx _ (lt_of_heap h1)).trans h2⟩
theorem DD.drew (h : DD w c k d kr r m m2 L B wi) : DD w c k d kr r m m2 L B wi.drew := by
  obtain ⟨ci, hc, hk, D, R, hL, hB⟩ := h
  have hk1 : Kp ci S2F wi wi.drew := (Kp.refl _ _ _).drew
  exact ⟨ci, hc, fun S => (hk S).drew, D.kp hk1 (fun _ h => h.elim) (Cx.refl _ _), R.kp hk1 (fun _ h => h.elim) (Cx.refl _ _), fun x hxx => (hL x hxx).kp hk1 (fun h => h) (Cx.refl _ _), hB⟩
theorem DD.sub {B' : List (Nat × Obj)} (h : DD w c k d kr r m m2 L B wi) (hs : ∀ x ∈ B', x ∈ B) : DD w c k d kr r m m2 [] B' wi := by
  obtain ⟨ci, hc, hk, D, R, hL, hB⟩ := h
  exact ⟨ci, hc, hk, D, R, (fun x hx => by cases hx), fun x hx => hB x (hs x hx)⟩
theorem DD.box (h : DD w c k d kr r m m2 L B wi) {b : Nat} {o : Obj} (hb : (b, o) ∈ B) : wi.heap[b]? = some o := by
  obtain ⟨ci, hc, hk, D, R, hL, hB⟩ := h
  exact (hB _ hb).1
theorem DD.r6 (h : DD w c k d kr r m m2 L B wi) : wi.cell? ⟨r, 6, none⟩ = some (.int .i64 m2.ops) := by
  obtain ⟨ci, hc, hk, D, ⟨vk, vf, vu, vF, F, R⟩, hL, hB⟩ := h
  exact R.c6
theorem dd_ops (h : DD w c k d kr r m m2 L B wi) : Calls Try.prog 17 #[.pointer (some ⟨d, 0, none⟩)] wi fun e w' => e = .returned (.int .i64 m.ops) ∧ wi = w' := by
  obtain ⟨ci, hc, hk, D, R, hL, hB⟩ := h
  exact ops_c k d m wi D
theorem dd_do (F : Fr w c k kr k3) (h : DD w c k d kr r m m2 L B wi) {i : Nat} (I : OpsInv m i) (hi : i ≤ 1000) {b off : Nat} {o : AOp} {vd vk vf vu : Value} (O : OpAt w c b off o vd vk vf vu) :
    Calls Try.prog 12 #[ptr d, opV o vd vk vf vu] wi fun e w' => e = .returned (.int .i64 (doOp m o).1) ∧ DD w c k d kr r (doOp m o).2 m2 L B w' := by
  obtain ⟨ci, hc, hk, D, R, hL, hB⟩ := h
  have hops : m.ops < 900000 := by have := I.ops; omega
  have O1 : OpAt wi ci b off o vd vk vf vu := O.kp (hk S2F) (fun h => h) hc
  have h1 : Calls Try.prog 12 #[ptr d, opV o vd vk vf vu] wi (OpPost k d (doOp m o) ci wi) := by
    by_cases h7 : o.kind = 7
    · exact do_start k d m o vd vk vf vu wi D F.k0 hops I.dry O1.data O1.fits.1 O1.plan O1.fits.2.1 O1.fits.2.2.1 O1.fits.2.2.2 h7
    · exact do_any7 k d m o vd vk vf vu wi D F.k0 hops O1 h7
  refine h1.mono fun e w' h => ?_
  obtain ⟨he, c2, hx, hk2, D2⟩ := h
  have hn0 : ¬ ((0 : Nat), (0 : Nat)).1 = k := fun h => F.k0 h.symm
  exact ⟨he, c2, hc.trans hx (hk S2F).size, kp_fresh hk hc hk2 F.fk, D2, R.kp hk2 (fun q hq => ⟨fun e => F.dk (hq.symm.trans e), fun e => by rw [e] at hq; exact hn0 hq⟩) hx, fun x hxx => (hL x hxx).kp hk2 hn0 hx, fun x hxB => ⟨hk2.heap (hB x hxB).1 (by rw [(hB x hxB).2]; exact hn0), (hx _ (lt_of_heap (hB x hxB).1)).trans (hB x hxB).2⟩⟩
theorem dd_model (F : Fr w c k kr k3) (h : DD w c k d kr r m m2 L B wi) {i : Nat} (I : OpsInv m2 i) (hi : i ≤ 1000) {b off : Nat} {o : AOp} {vd vk vf vu : Value} (O : OpAt w c b off o vd vk vf vu) :
    Calls Try.prog 23 #[ptr r, opV o vd vk vf vu] wi fun e w' => e = .returned (.int .i64 (doOp m2 o).1) ∧ DD w c k d kr r m (doOp m2 o).2 L B w' := by
  obtain ⟨ci, hc, hk, D, R, hL, hB⟩ := h
  have hops : m2.ops < 900000 := by have := I.ops; omega
  have O1 : OpAt wi ci b off o vd vk vf vu := O.kp (hk S2F) (fun h => h) hc
  refine (model_c kr r m2 o vd vk vf vu wi R F.r0 hops I.dry O1.name O1.to O1.data O1.fits.1 O1.at_ O1.long O1.plan O1.fits.2.1 O1.fits.2.2.1 O1.fits.2.2.2).mono fun e w' h => ?_
  obtain ⟨he, c2, hx, hk2, D2⟩ := h
  have hn0 : ¬ ((0 : Nat), (0 : Nat)).1 = kr := fun h => F.r0 h.symm
  exact ⟨he, c2, hc.trans hx (hk S2F).size, kp_fresh hk hc hk2 F.fr, D.kp hk2 (fun q hq => ⟨fun e => F.dk (e.symm.trans hq), fun e => by rw [e] at hq; exact hn0 hq⟩) hx, D2, fun x hxx => (hL x hxx).kp hk2 hn0 hx, fun x hxB => ⟨hk2.heap (hB x hxB).1 (by rw [(hB x hxB).2]; exact hn0), (hx _ (lt_of_heap (hB x hxB).1)).trans (hB x hxB).2⟩⟩
theorem DD.tell (h : DD w c k d kr r m m2 L B wi) {n : Nm} {i j : Int} {m0 : ADisk} {g : Nat} {vs : Array Value} (hC : ∀ ci, DiskAt wi ci k d m → RD wi ci kr r m2 → Calls Try.prog g vs wi (ReadPost m0 n i j ci wi)) :
    Calls Try.prog g vs wi fun e w' => ∃ a cap, e = .returned (.tuple #[.slice a (Dk.read m0 n i j).1.length cap, .int .i64 (Dk.read m0 n i j).2]) ∧ DD w c k d kr r m m2 ((.slice a (Dk.read m0 n i j).1.length cap, (Dk.read m0 n i j).1) :: L) B w' := by
  obtain ⟨ci, hc, hk, D, R, hL, hB⟩ := h
  refine (hC ci D R).mono fun e w' h => ?_
  obtain ⟨v, c2, he, hx, hkp, hs⟩ := h
  obtain ⟨a, cap, rfl, -⟩ := id hs
  rw [List.length_map] at he hs
  have hk2 := hkp S2F
  refine ⟨a, cap, he, c2, hc.trans hx (hk S2F).size, fun S => (hk S).trans (hkp S) hc, D.kp hk2 (fun _ h => h.elim) hx, R.kp hk2 (fun _ h => h.elim) hx, fun x hxx => ?_, fun x hxB => ⟨hk2.heap (hB x hxB).1 (fun h => h), (hx _ (lt_of_heap (hB x hxB).1)).trans (hB x hxB).2⟩⟩
  rcases List.mem_cons.1 hxx with rfl | h
  · exact hs
  · exact (hL x h).kp hk2 (fun h => h) hx
theorem DD.conv (h : DD w c k d kr r m m2 L B wi) {v : Value} {l : List UInt8} (hx : (v, l) ∈ L) : (convert 30 9 v).run Try.prog wi = .ok (.string ⟨l.toArray⟩) wi := by
  obtain ⟨ci, hc, hk, D, R, hL, hB⟩ := h
  exact conv_sc (hL _ hx)
end
/-- The twin of a plan, in new memory of its own colour. -/
def RowAt (w : World) (c : Col) (k3 : Nat) (a : Option Addr) (n : Nat) : Prop :=
  (a = none → n = 0) ∧ ∀ ad, a = some ad → ∃ g cs, ad = ⟨g, 0, none⟩ ∧ n ≤ cs.size ∧ w.heap[g]? = some (.cells cs 3 (0, 0)) ∧ c g = (k3, 0)
theorem RowAt.kp {S : Nat × Nat → Prop} {k3 n : Nat} {a : Option Addr} (h : RowAt w c k3 a n) (hk : Kp c S w w') (h0 : ¬ S (k3, 0)) (hc : Cx w c c') : RowAt w' c' k3 a n :=
  ⟨h.1, fun ad had => by
    obtain ⟨g, cs, h1, h2, h3, h4⟩ := h.2 ad had
    exact ⟨g, cs, h1, h2, hk.heap h3 (by rw [h4]; exact h0), (hc _ (lt_of_heap h3)).trans h4⟩⟩
def TW (w : World) (c : Col) (k3 : Nat) (p : APlan) (a1 a2 a3 : Option Addr) (k1 k2 k3' : Nat) (wi : World) : Prop :=
  ∃ ci, Cx w c ci ∧ (∀ S, Kp c S w wi) ∧ Sc wi ci (k3, 0) (.slice a1 p.keep.length k1) (p.keep.map iv) ∧ Sc wi ci (k3, 0) (.slice a2 p.fail.length k2) (p.fail.map iv) ∧ Sc wi ci (k3, 0) (.slice a3 p.full.length k3') (p.full.map iv) ∧
    RowAt wi ci k3 a1 p.keep.length
abbrev K0 (w w' : World) : Prop := Kp (fun _ => (0, 0)) S2F w w'
theorem K0.of {ci : Col} (h : Kp ci S2F w w') : K0 w w' := ⟨h.os, h.tape, h.output, h.size, fun b hb _ => h.block b hb (fun h => h)⟩
theorem K0.to {S : Nat × Nat → Prop} {ci : Col} (h : K0 w w') : Kp ci S w w' := ⟨h.os, h.tape, h.output, h.size, fun b hb _ => h.block b hb (fun h => h)⟩
section
variable {p : APlan} {k d kr r k3 : Nat} {b1 b2 b3 : Option Addr} {l1 l2 l3 : Nat} {wi : World}
theorem dd_twin {ak af au : Option Addr} {nk nf nu : Nat} {w0 : World} (k3 : Nat) (h0 : ∀ S, Kp c S w w0) (hp : PlanW w c (.slice ak p.keep.length nk) (.slice af p.fail.length nf) (.slice au p.full.length nu) p) (lk : p.keep.length ≤ lim) (lf : p.fail.length ≤ lim) (lu : p.full.length ≤ lim) :
    Calls Try.prog 18 #[.agg #[.int .i64 p.crash, .slice ak p.keep.length nk, .slice af p.fail.length nf, .slice au p.full.length nu, .int .i64 p.room]] w0 fun e w' => ∃ b1 b2 b3 l1 l2 l3, e = .returned (.agg #[.int .i64 p.crash, .slice b1 p.keep.length l1, .slice b2 p.fail.length l2, .slice b3 p.full.length l3, .int .i64 p.room]) ∧ TW w c k3 p b1 b2 b3 l1 l2 l3 w' ∧ K0 w0 w' := by
  refine (rtwin_o p _ _ _ _ (hp.kp (h0 (fun _ => False)) (fun h => h) (Cx.refl _ _)) lk lf lu).mono fun e w' h => ?_
  obtain ⟨a1, k1, a2, k2, a3, k4, he, hT⟩ := h
  obtain ⟨ci, hc, hk, s1, s2, s3, ho, hcol⟩ := hT.out (c := c) k3
  refine ⟨a1, a2, a3, k1, k2, k4, he, ⟨ci, (Cx.refl w c).trans hc (h0 (fun _ => False)).size, fun S => (h0 S).trans (hk S) (Cx.refl _ _), s1, s2, s3, ?_⟩, K0.of (hk S2F)⟩
  rcases ho.2 with ⟨he1, he2⟩ | ⟨g, cap, cur, he1, hg, hh, hn1, hm1, hcs, ht⟩
  · injection he1 with e1 e2 e3
    exact ⟨fun _ => e2, fun ad had => by rw [e1] at had; cases had⟩
  · have he1' := he1
    injection he1 with e1 e2 e3
    refine ⟨fun hn0 => (by rw [e1] at hn0; cases hn0), fun ad had => ?_⟩
    rw [e1] at had
    cases had
    have hl : cur.size = _ := hcs
    exact ⟨g, cur, rfl, by omega, hh, hcol g (by rw [he1']; rfl)⟩
theorem TW.alloc (h : TW w c k3 p b1 b2 b3 l1 l2 l3 wi) (o : Obj) : TW w c k3 p b1 b2 b3 l1 l2 l3 (wi.alloc o).drew := by
  obtain ⟨ci, hc, hk, s1, s2, s3, ho⟩ := h
  have h1 : Kp ci S2F wi (wi.alloc o).drew := ((Kp.refl _ _ _).alloc o).drew
  exact ⟨ci, hc, fun S => ((hk S).alloc o).drew, s1.kp h1 (fun h => h) (Cx.refl _ _), s2.kp h1 (fun h => h) (Cx.refl _ _), s3.kp h1 (fun h => h) (Cx.refl _ _), ho.kp h1 (fun h => h) (Cx.refl _ _)⟩
def N1 (w : World) (c : Col) (k d k3 : Nat) (p : APlan) (a1 : Option Addr) (wi : World) : Prop :=
  ∃ ci, Cx w c ci ∧ (∀ S, Kp c S w wi) ∧ DiskAt wi ci k d (new_ p) ∧ RowAt wi ci k3 a1 p.keep.length
def N2 (w : World) (c : Col) (k d kr r k3 : Nat) (p : APlan) (a1 : Option Addr) (wi : World) : Prop :=
  ∃ ci, Cx w c ci ∧ (∀ S, Kp c S w wi) ∧ DiskAt wi ci k d (new_ p) ∧ RD wi ci kr r (new_ p) ∧ RowAt wi ci k3 a1 p.keep.length
theorem dd_new (hk0 : k ≠ 0) (h : TW w c k3 p b1 b2 b3 l1 l2 l3 wi) (lk : p.keep.length ≤ lim) (lf : p.fail.length ≤ lim) (lu : p.full.length ≤ lim) :
    Calls Try.prog 11 #[.agg #[.int .i64 p.crash, .slice b1 p.keep.length l1, .slice b2 p.fail.length l2, .slice b3 p.full.length l3, .int .i64 p.room]] wi fun e w' => ∃ d, e = .returned (.pointer (some ⟨d, 0, none⟩)) ∧ N1 w c k d k3 p b1 w' ∧ K0 wi w' := by
  obtain ⟨ci, hc, hk, s1, s2, s3, ho⟩ := h
  refine (new_c k p _ _ _ wi s1 s2 s3 lk lf lu hk0).mono fun e w' h => ?_
  obtain ⟨d, c1, he, hcx, hkp, hdd, _⟩ := h
  exact ⟨d, he, ⟨c1, hc.trans hcx (hk S2F).size, fun S => (hk S).trans (hkp S) hc, hdd, ho.kp (hkp S2F) (fun h => h) hcx⟩, K0.of (hkp S2F)⟩
theorem dd_rnew {ak af au : Option Addr} {nk nf nu : Nat} (hk0 : kr ≠ 0) (h : N1 w c k d k3 p b1 wi) (hp : PlanW w c (.slice ak p.keep.length nk) (.slice af p.fail.length nf) (.slice au p.full.length nu) p) (lk : p.keep.length ≤ lim) (lf : p.fail.length ≤ lim) (lu : p.full.length ≤ lim) :
    Calls Try.prog 22 #[.agg #[.int .i64 p.crash, .slice ak p.keep.length nk, .slice af p.fail.length nf, .slice au p.full.length nu, .int .i64 p.room]] wi fun e w' => ∃ r, e = .returned (.pointer (some ⟨r, 0, none⟩)) ∧ N2 w c k d kr r k3 p b1 w' ∧ K0 wi w' := by
  obtain ⟨ci, hc, hk, D, ho⟩ := h
  refine (rnew_c kr p wi (hp.kp' (hk S2F) (fun h => h) hc) lk lf lu hk0).mono fun e w' h => ?_
  obtain ⟨r, c1, he, hcx, hkp, hdd, _⟩ := h
  exact ⟨r, he, ⟨c1, hc.trans hcx (hk S2F).size, fun S => (hk S).trans (hkp S) hc, D.kp (hkp S2F) (fun _ h => h.elim) hcx, hdd, ho.kp (hkp S2F) (fun h => h) hcx⟩, K0.of (hkp S2F)⟩
theorem TW.lt (h : TW w c k3 p b1 b2 b3 l1 l2 l3 wi) {ad : Addr} (had : b1 = some ad) : ad.block < wi.heap.size := by
  obtain ⟨ci, hc, hk, s1, s2, s3, ho⟩ := h
  obtain ⟨g, cs, rfl, h2, h3, h4⟩ := ho.2 ad had
  exact lt_of_heap h3
theorem N2.row (h : N2 w c k d kr r k3 p b1 wi) {i : Nat} (hi : i < p.keep.length) : ∃ g u, b1 = some ⟨g, 0, none⟩ ∧ wi.cell? ⟨g, i, none⟩ = some u ∧ wi.frozen? ⟨g, i, none⟩ = false := by
  obtain ⟨ci, hc, hk, D, R, hr⟩ := h
  cases b1 with
  | none => rw [hr.1 rfl] at hi; cases hi
  | some ad =>
    obtain ⟨g, cs, rfl, h2, h3, h4⟩ := hr.2 ad rfl
    exact ⟨g, cs[i]'(by omega), rfl, (cell_of_heap h3 i).trans (Array.getElem?_eq_getElem _), unfrozen_of_heap h3 i⟩
theorem N2.store {g : Nat} (F : Fr w c k kr k3) (h : N2 w c k d kr r k3 p (some ⟨g, 0, none⟩) wi) (i : Nat) (u : Value) : N2 w c k d kr r k3 p (some ⟨g, 0, none⟩) (wi.setCell ⟨g, i, none⟩ u) := by
  obtain ⟨ci, hc, hk, D, R, hr⟩ := h
  obtain ⟨g', cs, he, h2, h3, h4⟩ := hr.2 _ rfl
  cases he
  have hk1 : Kp ci (fun q => q = (k3, 0)) wi (wi.setCell ⟨g, i, none⟩ u) := (Kp.refl _ _ _).setCell (fun _ => h4) u
  refine ⟨ci, hc, kp_fresh hk hc (hk1.mono (S' := fun q => q.1 = k3) fun q hq => by rw [hq]) F.ft, D.kp hk1 (fun q hq => by rw [hq]; exact ⟨fun e => F.kt e.symm, fun e => F.t0 (by injection e)⟩) (Cx.refl _ _), R.kp hk1 (fun q hq => by rw [hq]; exact ⟨fun e => F.rt e.symm, fun e => F.t0 (by injection e)⟩) (Cx.refl _ _), ⟨(fun e => by cases e), fun ad had => ?_⟩⟩
  cases had
  exact ⟨g, _, rfl, (by rw [Array.size_setIfInBounds]; exact h2), heap_setCell h3 i u, h4⟩
theorem dd_read {m m2 : ADisk} {L : List (Value × List UInt8)} {B : List (Nat × Obj)} (h : DD w c k d kr r m m2 L B wi) (n : Nm) (i j : Int) (hn : n.length ≤ maxLen) (hi : -9223372036854775808 ≤ i ∧ i ≤ 9223372036854775807) (hj : -9223372036854775808 ≤ j ∧ j ≤ 9223372036854775807) :
    Calls Try.prog 21 #[.pointer (some ⟨d, 0, none⟩), .string ⟨n.toArray⟩, .int .i64 i, .int .i64 j] wi fun e w' => ∃ a cap, e = .returned (.tuple #[.slice a (Dk.read m n i j).1.length cap, .int .i64 (Dk.read m n i j).2]) ∧ DD w c k d kr r m m2 ((.slice a (Dk.read m n i j).1.length cap, (Dk.read m n i j).1) :: L) B w' :=
  h.tell fun _ D _ => read_c k d m n i j wi D hn hi hj
theorem dd_rread {m m2 : ADisk} {L : List (Value × List UInt8)} {B : List (Nat × Obj)} (h : DD w c k d kr r m m2 L B wi) (n : Nm) (i j : Int) (hops : m2.ops ≤ 1000000) (hi : -9223372036854775808 ≤ i ∧ i ≤ 9223372036854775807) (hj : -9223372036854775808 ≤ j ∧ j ≤ 9223372036854775807) :
    Calls Try.prog 24 #[.pointer (some ⟨r, 0, none⟩), .string ⟨n.toArray⟩, .int .i64 i, .int .i64 j] wi fun e w' => ∃ a cap, e = .returned (.tuple #[.slice a (Dk.read m2 n i j).1.length cap, .int .i64 (Dk.read m2 n i j).2]) ∧ DD w c k d kr r m m2 ((.slice a (Dk.read m2 n i j).1.length cap, (Dk.read m2 n i j).1) :: L) B w' :=
  h.tell fun _ _ R => rread_c kr r m2 n i j wi R hops hi hj
def Box (wi : World) (b : Nat) (cs : Array Value) : Prop := wi.heap[b]? = some (.cells cs 32 (0, 0))
theorem dd_looks {m : ADisk} {L : List (Value × List UInt8)} {B : List (Nat × Obj)} (h : DD w c k d kr r m m L B wi) (hops : m.ops ≤ 1000000) :
    Calls Try.prog 25 #[.pointer (some ⟨d, 0, none⟩), .pointer (some ⟨r, 0, none⟩)] wi fun e w' => e = .returned (.bool true) ∧ ∀ S, Kp c S w w' := by
  obtain ⟨ci, hc, hk, D, R, hL, hB⟩ := h
  exact (looks_c k d kr r m wi D R hops).mono fun e w' h => ⟨h.1, fun S => (hk S).trans (h.2 S) hc⟩
theorem N2.dd (h : N2 w c k d kr r k3 p b1 wi) : DD w c k d kr r (new_ p) (new_ p) [] [] wi := by
  obtain ⟨ci, hc, hk, D, R, _⟩ := h
  exact ⟨ci, hc, hk, D, R, (fun x hx => by cases hx), (fun x hx => by cases hx)⟩
end
set_option maxRecDepth 20000 in
set_option maxHeartbeats 8000000 in
theorem diskDoes_c (p : APlan) (vk vf vu : Value) (v : Value) (l : List AOp) (w : World) (h : OpsAt w c v l) (hp : PlanW w c vk vf vu p) (lk : p.keep.length ≤ lim) (lf : p.fail.length ≤ lim) (lu : p.full.length ≤ lim) :
    Calls Try.prog 6 #[planV p vk vf vu, v] w fun e w' => e = .returned (.bool true) ∧ ∀ S, Kp c S w w' := by
  obtain ⟨k, kr, k3, F⟩ := fresh3 w c
  have HFR := Lib.hid F; clear F
  have HOP := Lib.hid h
  obtain ⟨ak, capk, rfl, -⟩ := id hp.keep
  obtain ⟨af, capf, rfl, -⟩ := id hp.fail
  obtain ⟨au, capu, rfl, -⟩ := id hp.full
  obtain ⟨a, cap, rfl, hm, hn, hop⟩ := h
  have hlen : (l.length : Int) ≤ 9223372036854775807 := by unfold maxLen at hm; omega
  have hkl : (p.keep.length : Int) ≤ 9223372036854775807 := by have := lk; unfold lim at this; omega
  have HNN := Lib.hid hn; clear hn
  have HOA := Lib.hid hop; clear hop hm
  have HPW := Lib.hid hp; clear hp
  have LK := Lib.hid lk; clear lk
  have LF := Lib.hid lf; clear lf
  have LU := Lib.hid lu; clear lu
  simp only [List.length_map] at HPW ⊢
  unfold planV
  go_enter Try.func6, Try.ntmps6
  go_wp2_with (first
    | (go_at_call 9; refine (awake_c (c := c) _).mono ?_; rintro e w1 ⟨rfl, ha⟩; have HA : Hid (∀ S, Kp c S w w1) := (fun S => ((Kp.refl c S w).alloc _).trans (ha S) (Cx.refl _ _)); have HQ1 := Lib.hid ((ha S2F).heap (heap_alloc_new w _) (fun h => h)); clear ha)
    | (go_at_call 10; refine (few_c (c := c) _ _ _ (HOP.out.kp (HA.out S2F) (fun h => h) (Cx.refl _ _))).mono ?_; rintro e w2 ⟨b, rfl, hb, hf⟩; have HB : Hid (∀ S, Kp c S w w2) := (fun S => (HA.out S).trans (hb S) (Cx.refl _ _)); have HQ2 := Lib.hid ((hb S2F).heap HQ1.out (fun h => h)); have HF := Lib.hid hf; clear hb hf; have q0 : w2.cell? ⟨w.heap.size, 0, none⟩ = some (.int .i64 p.crash) := cell_of_heap HQ2.out 0; have q1 : w2.cell? ⟨w.heap.size, 1, none⟩ = some (.slice ak p.keep.length capk) := cell_of_heap HQ2.out 1; have q2 : w2.cell? ⟨w.heap.size, 2, none⟩ = some (.slice af p.fail.length capf) := cell_of_heap HQ2.out 2; have q3 : w2.cell? ⟨w.heap.size, 3, none⟩ = some (.slice au p.full.length capu) := cell_of_heap HQ2.out 3; have q4 : w2.cell? ⟨w.heap.size, 4, none⟩ = some (.int .i64 p.room) := cell_of_heap HQ2.out 4)
    | (go_at_call 18; refine (dd_twin k3 HB.out HPW.out LK.out LF.out LU.out).mono ?_; rintro e w3 ⟨b1, b2, b3, l1, l2, l3, rfl, hp3, hk3⟩; clear q0 q1 q2 q3 q4; have HP3 := Lib.hid hp3; have HQ3 := Lib.hid ((hk3.to (ci := c) : Kp c S2F _ _).heap HQ2.out (fun h => h)); clear hp3 hk3))
  · go_ret
    exact ⟨rfl, HB.out⟩
  have hbt : (!b) = false := by assumption
  have hbt : b = true := by simpa using hbt
  obtain ⟨hl60, hsm⟩ := HF.out hbt
  subst hbt
  clear hsm
  have HL := Lib.hid hl60; clear hl60
  obtain ⟨W4, hW4⟩ : ∃ W4, W4 = w3.alloc (.cells #[.int .i64 p.crash, .slice b1 p.keep.length l1, .slice b2 p.fail.length l2, .slice b3 p.full.length l3, .int .i64 p.room] 29) := ⟨_, rfl⟩
  have HP4 := Lib.hid (show TW w c k3 p b1 b2 b3 l1 l2 l3 W4.drew by rw [hW4]; exact HP3.out.alloc _)
  have hS0 := Lib.hid (show (fun X : World => X.heap[w.heap.size]? = some (.cells #[.int .i64 p.crash, .slice ak p.keep.length capk, .slice af p.fail.length capf, .slice au p.full.length capu, .int .i64 p.room] 29 (0, 0)) ∧ X.heap[w3.heap.size]? = some (.cells #[.int .i64 p.crash, .slice b1 p.keep.length l1, .slice b2 p.fail.length l2, .slice b3 p.full.length l3, .int .i64 p.room] 29 (0, 0))) W4.drew from ⟨by rw [hW4]; exact heap_alloc_old _ HQ3.out, by rw [hW4]; exact heap_alloc_new _ _⟩)
  have HRW := Lib.hid (show ∀ g cs t, w3.heap[g]? = some (.cells cs t (0, 0)) → g ≠ w3.heap.size from fun g cs t h => Nat.ne_of_lt (lt_of_heap h))
  rw [← hW4]
  clear hW4
  refine wp_region_G (fun X : World => X.heap[w.heap.size]? = some (.cells #[.int .i64 p.crash, .slice ak p.keep.length capk, .slice af p.fail.length capf, .slice au p.full.length capu, .int .i64 p.room] 29 (0, 0)) ∧ X.heap[w3.heap.size]? = some (.cells #[.int .i64 p.crash, .slice b1 p.keep.length l1, .slice b2 p.fail.length l2, .slice b3 p.full.length l3, .int .i64 p.room] 29 (0, 0))) 4 rfl ?_
  refine wpAnyG_take (i := 0) (oi := _) (v := .agg #[.int .i64 p.crash, .slice b1 p.keep.length l1, .slice b2 p.fail.length l2, .slice b3 p.full.length l3, .int .i64 p.room]) rfl (by kernel_rfl) (by kernel_rfl) (by kernel_rfl) (by kernel_rfl) (by kernel_rfl) (by kernel_rfl) (fun _ _ _ h => h) (Or.inl ⟨by rfl, fun X hX => ?_⟩) hS0.out ?_
  · obtain ⟨x1, x2⟩ := hX
    (have y0 := cell_of_heap x2 0; have y1 := cell_of_heap x2 1; have y2 := cell_of_heap x2 2; have y3 := cell_of_heap x2 3; have y4 := cell_of_heap x2 4; go_simp)
  simp only [Act.put, List.setIfInBounds_toArray]
  refine wpAnyG_take (i := 2) (oi := _) (v := .agg #[.int .i64 p.crash, .slice ak p.keep.length capk, .slice af p.fail.length capf, .slice au p.full.length capu, .int .i64 p.room]) rfl (by kernel_rfl) (by kernel_rfl) (by kernel_rfl) (by kernel_rfl) (by kernel_rfl) (by kernel_rfl) (fun _ _ _ h => h) (Or.inl ⟨by rfl, fun X hX => ?_⟩) hS0.out ?_
  · obtain ⟨x1, x2⟩ := hX
    (have y0 := cell_of_heap x1 0; have y1 := cell_of_heap x1 1; have y2 := cell_of_heap x1 2; have y3 := cell_of_heap x1 3; have y4 := cell_of_heap x1 4; go_simp)
  simp only [Act.put]
  refine wpAnyG_one (i := 1) (by kernel_rfl) rfl (fun K' hK' => ?_)
  go_simp
  refine (dd_new HFR.out.k0 HP4.out LK.out LF.out LU.out).mono ?_
  rintro e w5 ⟨d, rfl, hn, hk⟩
  have HN1 := Lib.hid hn; clear hn
  have hS1 := Lib.hid (show (fun X : World => X.heap[w.heap.size]? = some (.cells #[.int .i64 p.crash, .slice ak p.keep.length capk, .slice af p.fail.length capf, .slice au p.full.length capu, .int .i64 p.room] 29 (0, 0)) ∧ X.heap[w3.heap.size]? = some (.cells #[.int .i64 p.crash, .slice b1 p.keep.length l1, .slice b2 p.fail.length l2, .slice b3 p.full.length l3, .int .i64 p.room] 29 (0, 0))) w5 from ⟨Kp.heap hk hS0.out.1 (fun h => h), Kp.heap hk hS0.out.2 (fun h => h)⟩)
  clear hk hS0 HP4
  refine hK'.out _ _ (fun _ => hS1.out) ?_
  refine wpAnyG_one (i := 3) (by kernel_rfl) rfl (fun K' hK' => ?_)
  go_simp
  refine (dd_rnew HFR.out.r0 HN1.out HPW.out LK.out LF.out LU.out).mono ?_
  rintro e w6 ⟨r, rfl, hn, hk⟩
  have HN2 := Lib.hid hn; clear hn
  have hS2 := Lib.hid (show (fun X : World => X.heap[w.heap.size]? = some (.cells #[.int .i64 p.crash, .slice ak p.keep.length capk, .slice af p.fail.length capf, .slice au p.full.length capu, .int .i64 p.room] 29 (0, 0)) ∧ X.heap[w3.heap.size]? = some (.cells #[.int .i64 p.crash, .slice b1 p.keep.length l1, .slice b2 p.fail.length l2, .slice b3 p.full.length l3, .int .i64 p.room] 29 (0, 0))) w6 from ⟨Kp.heap hk hS1.out.1 (fun h => h), Kp.heap hk hS1.out.2 (fun h => h)⟩)
  clear hk hS1 HN1
  refine hK'.out _ _ (fun _ => hS2.out) ?_
  refine wpAnyG_one (i := 4) (by kernel_rfl) rfl (fun K' hK' => ?_)
  go_simp
  refine hK'.out _ _ (fun h => absurd h (by decide)) ?_
  refine wpAnyG_one (i := 5) (by kernel_rfl) rfl (fun K' hK' => ?_)
  go_simp
  refine hK'.out _ _ (fun h => absurd h (by decide)) ?_
  refine wpAnyG_done (by kernel_rfl) ?_
  have m0 := cell_of_heap hS2.out.2 0
  have m1 := cell_of_heap hS2.out.2 1
  have m2 := cell_of_heap hS2.out.2 2
  have m3 := cell_of_heap hS2.out.2 3
  have m4 := cell_of_heap hS2.out.2 4
  go_wp2
  go_loopw [31] (fun s wr => ∃ i : Nat, i ≤ p.keep.length ∧ s = .int .i64 i ∧ N2 w c k d kr r k3 p b1 wr ∧ wr.heap[w3.heap.size]? = some (.cells #[.int .i64 p.crash, .slice b1 p.keep.length l1, .slice b2 p.fail.length l2, .slice b3 p.full.length l3, .int .i64 p.room] 29 (0, 0))) (fun s _ => p.keep.length - (intOf s).toNat)
  case atStart =>
    exact ⟨0, Nat.zero_le _, rfl, HN2.out, hS2.out.2⟩
  case round =>
    obtain ⟨i, hi, rfl, I, hbox⟩ := hrel
    clear m0 m1 m2 m3 m4
    have HI := Lib.hid I
    by_cases hlt : i < p.keep.length
    · obtain ⟨g, u, hb1, hc1, hf1⟩ := I.row hlt
      have hg : g ≠ w3.heap.size := Nat.ne_of_lt (HP3.out.lt hb1)
      subst hb1
      have HBX := Lib.hid hbox
      have m0 := cell_of_heap hbox 0
      have m1 := cell_of_heap hbox 1
      have m2 := cell_of_heap hbox 2
      have m3 := cell_of_heap hbox 3
      have m4 := cell_of_heap hbox 4
      clear I hbox
      go_wp2
      go_roundw
      case rel => exact ⟨i + 1, by omega, by go_num, HI.out.store HFR.out i _, (Below.heap_setCell _ _ _ _ hg.symm).trans HBX.out⟩
      case measure => simp [intOf]; omega
    · obtain rfl : i = p.keep.length := by omega
      have HD0 := Lib.hid I.dd
      clear I hbox HI hlt
      have HI0 := Lib.hid (show OpsInv (new_ p) 0 from ⟨(fun e => by cases e), by simp [new_], by simp [new_]⟩)
      clear HP3 HQ3 hS2 HRW HN2 hkl HPW LK LF LU HQ1 HQ2 HB HA
      go_wp2
      go_loopw [41] (fun s wr => ∃ i : Nat, i ≤ l.length ∧ s = .int .i64 i ∧ ∃ m, DD w c k d kr r m m [] [] wr ∧ OpsInv m i) (fun s _ => l.length - (intOf s).toNat)
      case atStart =>
        exact ⟨0, Nat.zero_le _, rfl, _, HD0.out, HI0.out⟩
      case round =>
        obtain ⟨i, hi, rfl, m, I, J⟩ := hrel
        have HI := Lib.hid I
        have HJ := Lib.hid J; clear J
        by_cases hlt : i < l.length
        · obtain ⟨o, ho⟩ : ∃ o, l[i]? = some o := ⟨l[i], List.getElem?_eq_getElem hlt⟩
          cases a with
          | none => rw [HNN.out rfl] at hlt; cases hlt
          | some ad =>
            obtain ⟨b, off, sp⟩ := ad
            obtain ⟨hsp, vd, vk, vf, vu, O⟩ := HOA.out _ rfl i o ho
            cases hsp
            obtain ⟨ad, kd, rfl, -⟩ := O.data
            obtain ⟨ak', kk, rfl, -⟩ := O.plan.keep
            obtain ⟨af', kf, rfl, -⟩ := O.plan.fail
            obtain ⟨au', ku, rfl, -⟩ := O.plan.full
            simp only [List.length_map] at O
            have hk := I.kp S2F
            have g0 : wr.cell? ⟨b, off + i * 11, none⟩ = some (.int .i64 o.kind) := hk.cell (O.cells 0 _ rfl) (fun h => h)
            have g1 : wr.cell? ⟨b, off + i * 11 + 1, none⟩ = some (.string ⟨o.name.toArray⟩) := hk.cell (O.cells 1 _ rfl) (fun h => h)
            have g2 : wr.cell? ⟨b, off + i * 11 + 2, none⟩ = some (.string ⟨o.to.toArray⟩) := hk.cell (O.cells 2 _ rfl) (fun h => h)
            have g3 : wr.cell? ⟨b, off + i * 11 + 3, none⟩ = some (.int .i64 o.at_) := hk.cell (O.cells 3 _ rfl) (fun h => h)
            have g4 : wr.cell? ⟨b, off + i * 11 + 4, none⟩ = some (.int .i64 o.long) := hk.cell (O.cells 4 _ rfl) (fun h => h)
            have g5 : wr.cell? ⟨b, off + i * 11 + 5, none⟩ = some (.slice ad o.data.length kd) := hk.cell (O.cells 5 _ rfl) (fun h => h)
            have g6 : wr.cell? ⟨b, off + i * 11 + 6, none⟩ = some (.int .i64 o.plan.crash) := hk.cell (O.cells 6 _ rfl) (fun h => h)
            have g7 : wr.cell? ⟨b, off + i * 11 + 7, none⟩ = some (.slice ak' o.plan.keep.length kk) := hk.cell (O.cells 7 _ rfl) (fun h => h)
            have g8 : wr.cell? ⟨b, off + i * 11 + 8, none⟩ = some (.slice af' o.plan.fail.length kf) := hk.cell (O.cells 8 _ rfl) (fun h => h)
            have g9 : wr.cell? ⟨b, off + i * 11 + 9, none⟩ = some (.slice au' o.plan.full.length ku) := hk.cell (O.cells 9 _ rfl) (fun h => h)
            have g10 : wr.cell? ⟨b, off + i * 11 + 10, none⟩ = some (.int .i64 o.plan.room) := hk.cell (O.cells 10 _ rfl) (fun h => h)
            have HO := Lib.hid O; clear O hk
            go_wp2
            obtain ⟨W5, hW5⟩ : ∃ W5, W5 = wr.alloc (.cells #[.int .i64 o.kind, .string ⟨o.name.toArray⟩, .string ⟨o.to.toArray⟩, .int .i64 o.at_, .int .i64 o.long, .slice ad o.data.length kd, .int .i64 o.plan.crash, .slice ak' o.plan.keep.length kk, .slice af' o.plan.fail.length kf, .slice au' o.plan.full.length ku, .int .i64 o.plan.room] 32) := ⟨_, rfl⟩
            have HD5 := Lib.hid (show DD w c k d kr r m m [] [(wr.heap.size, .cells #[.int .i64 o.kind, .string ⟨o.name.toArray⟩, .string ⟨o.to.toArray⟩, .int .i64 o.at_, .int .i64 o.long, .slice ad o.data.length kd, .int .i64 o.plan.crash, .slice ak' o.plan.keep.length kk, .slice af' o.plan.fail.length kf, .slice au' o.plan.full.length ku, .int .i64 o.plan.room] 32 (0, 0))] W5.drew by rw [hW5]; exact (HI.out.alloc _).drew)
            rw [← hW5]
            have HLN := Lib.hid (show i ≤ 1000 by have := HL.out; omega)
            have hS0 := Lib.hid (show (fun X : World => Box X wr.heap.size #[.int .i64 o.kind, .string ⟨o.name.toArray⟩, .string ⟨o.to.toArray⟩, .int .i64 o.at_, .int .i64 o.long, .slice ad o.data.length kd, .int .i64 o.plan.crash, .slice ak' o.plan.keep.length kk, .slice af' o.plan.fail.length kf, .slice au' o.plan.full.length ku, .int .i64 o.plan.room]) W5.drew from HD5.out.box (.head _))
            clear hW5 g0 g1 g2 g3 g4 g5 g6 g7 g8 g9 g10 I
            refine wp_region_G (fun X : World => Box X wr.heap.size #[.int .i64 o.kind, .string ⟨o.name.toArray⟩, .string ⟨o.to.toArray⟩, .int .i64 o.at_, .int .i64 o.long, .slice ad o.data.length kd, .int .i64 o.plan.crash, .slice ak' o.plan.keep.length kk, .slice af' o.plan.fail.length kf, .slice au' o.plan.full.length ku, .int .i64 o.plan.room]) 5 rfl ?_
            refine wpAnyG_take (i := 0) (oi := _) (v := .pointer (some ⟨d, 0, none⟩)) rfl (by kernel_rfl) (by kernel_rfl) (by kernel_rfl) (by kernel_rfl) (by kernel_rfl) (by kernel_rfl) (fun _ _ _ h => h) (Or.inl ⟨by rfl, fun X hX => ?_⟩) hS0.out ?_
            · have x1 := hX
              go_simp
            simp only [Act.put, List.setIfInBounds_toArray]
            refine wpAnyG_take (i := 1) (oi := _) (v := .agg #[.int .i64 o.kind, .string ⟨o.name.toArray⟩, .string ⟨o.to.toArray⟩, .int .i64 o.at_, .int .i64 o.long, .slice ad o.data.length kd, .int .i64 o.plan.crash, .slice ak' o.plan.keep.length kk, .slice af' o.plan.fail.length kf, .slice au' o.plan.full.length ku, .int .i64 o.plan.room]) rfl (by kernel_rfl) (by kernel_rfl) (by kernel_rfl) (by kernel_rfl) (by kernel_rfl) (by kernel_rfl) (fun _ _ _ h => h) (Or.inl ⟨by rfl, fun X hX => ?_⟩) hS0.out ?_
            · have x1 := hX
              (have y0 := cell_of_heap x1 0; have y1 := cell_of_heap x1 1; have y2 := cell_of_heap x1 2; have y3 := cell_of_heap x1 3; have y4 := cell_of_heap x1 4; have y5 := cell_of_heap x1 5; have y6 := cell_of_heap x1 6; have y7 := cell_of_heap x1 7; have y8 := cell_of_heap x1 8; have y9 := cell_of_heap x1 9; have y10 := cell_of_heap x1 10; go_simp)
            simp only [Act.put]
            refine wpAnyG_take (i := 3) (oi := _) (v := .pointer (some ⟨r, 0, none⟩)) rfl (by kernel_rfl) (by kernel_rfl) (by kernel_rfl) (by kernel_rfl) (by kernel_rfl) (by kernel_rfl) (fun _ _ _ h => h) (Or.inl ⟨by rfl, fun X hX => ?_⟩) hS0.out ?_
            · have x1 := hX
              go_simp
            simp only [Act.put]
            refine wpAnyG_take (i := 4) (oi := _) (v := .agg #[.int .i64 o.kind, .string ⟨o.name.toArray⟩, .string ⟨o.to.toArray⟩, .int .i64 o.at_, .int .i64 o.long, .slice ad o.data.length kd, .int .i64 o.plan.crash, .slice ak' o.plan.keep.length kk, .slice af' o.plan.fail.length kf, .slice au' o.plan.full.length ku, .int .i64 o.plan.room]) rfl (by kernel_rfl) (by kernel_rfl) (by kernel_rfl) (by kernel_rfl) (by kernel_rfl) (by kernel_rfl) (fun _ _ _ h => h) (Or.inl ⟨by rfl, fun X hX => ?_⟩) hS0.out ?_
            · have x1 := hX
              (have y0 := cell_of_heap x1 0; have y1 := cell_of_heap x1 1; have y2 := cell_of_heap x1 2; have y3 := cell_of_heap x1 3; have y4 := cell_of_heap x1 4; have y5 := cell_of_heap x1 5; have y6 := cell_of_heap x1 6; have y7 := cell_of_heap x1 7; have y8 := cell_of_heap x1 8; have y9 := cell_of_heap x1 9; have y10 := cell_of_heap x1 10; go_simp)
            simp only [Act.put]
            refine wpAnyG_one (i := 2) (by kernel_rfl) rfl (fun K' hK' => ?_)
            go_simp
            refine (dd_do HFR.out HD5.out HJ.out HLN.out HO.out).mono ?_
            rintro e w5 ⟨rfl, hd⟩
            have HD6 := Lib.hid hd; clear hd
            have hS1 := Lib.hid (show (fun X : World => Box X wr.heap.size #[.int .i64 o.kind, .string ⟨o.name.toArray⟩, .string ⟨o.to.toArray⟩, .int .i64 o.at_, .int .i64 o.long, .slice ad o.data.length kd, .int .i64 o.plan.crash, .slice ak' o.plan.keep.length kk, .slice af' o.plan.fail.length kf, .slice au' o.plan.full.length ku, .int .i64 o.plan.room]) w5 from HD6.out.box (.head _))
            refine hK'.out _ _ (fun _ => hS1.out) ?_
            refine wpAnyG_one (i := 5) (by kernel_rfl) rfl (fun K' hK' => ?_)
            go_simp
            refine (dd_model HFR.out HD6.out HJ.out HLN.out HO.out).mono ?_
            rintro e w6 ⟨rfl, hd⟩
            have HD7 := Lib.hid hd; clear hd
            have HJ7 := Lib.hid (doOp_inv HJ.out o)
            refine hK'.out _ _ (fun h => absurd h (by decide)) ?_
            clear HD5 HD6 hS0 hS1
            generalize hm7 : (doOp m o).2 = m7 at *
            generalize he7 : (doOp m o).1 = e7 at *
            clear hm7 he7
            have hS0 := Lib.hid (show (fun X : World => X.cell? ⟨r, 6, none⟩ = some (.int .i64 m7.ops)) w6 from HD7.out.r6)
            refine wpAnyG_switch (fun X : World => X.cell? ⟨r, 6, none⟩ = some (.int .i64 m7.ops)) 15 _ _ _ _ (by kernel_rfl) ?_
            refine wpAnyG_take (i := 6) (oi := _) (v := .bool false) rfl (by kernel_rfl) (by kernel_rfl) (by kernel_rfl) (by kernel_rfl) (by kernel_rfl) (by kernel_rfl) (fun _ _ _ h => h) (Or.inl ⟨by rfl, fun X hX => ?_⟩) hS0.out ?_
            · have x1 := hX
              go_simp
            simp only [Act.put]
            refine wpAnyG_take (i := 7) (oi := _) (v := .bool false) rfl (by kernel_rfl) (by kernel_rfl) (by kernel_rfl) (by kernel_rfl) (by kernel_rfl) (by kernel_rfl) (fun _ _ _ h => h) (Or.inl ⟨by rfl, fun X hX => ?_⟩) hS0.out ?_
            · have x1 := hX
              go_simp
            simp only [Act.put]
            refine wpAnyG_take (i := 8) (oi := _) (v := .pointer (some ⟨d, 0, none⟩)) rfl (by kernel_rfl) (by kernel_rfl) (by kernel_rfl) (by kernel_rfl) (by kernel_rfl) (by kernel_rfl) (fun _ _ _ h => h) (Or.inl ⟨by rfl, fun X hX => ?_⟩) hS0.out ?_
            · have x1 := hX
              go_simp
            simp only [Act.put]
            refine wpAnyG_take (i := 10) (oi := _) (v := .pointer (some ⟨r, 0, none⟩)) rfl (by kernel_rfl) (by kernel_rfl) (by kernel_rfl) (by kernel_rfl) (by kernel_rfl) (by kernel_rfl) (fun _ _ _ h => h) (Or.inl ⟨by rfl, fun X hX => ?_⟩) hS0.out ?_
            · have x1 := hX
              go_simp
            simp only [Act.put]
            refine wpAnyG_take (i := 11) (oi := _) (v := .pointer (some ⟨r, 0, none⟩)) rfl (by kernel_rfl) (by kernel_rfl) (by kernel_rfl) (by kernel_rfl) (by kernel_rfl) (by kernel_rfl) (fun _ _ _ h => h) (Or.inl ⟨by rfl, fun X hX => ?_⟩) hS0.out ?_
            · have x1 := hX
              go_simp
            simp only [Act.put]
            refine wpAnyG_take (i := 12) (oi := _) (v := .pointer (some ⟨r, 6, none⟩)) rfl (by kernel_rfl) (by kernel_rfl) (by kernel_rfl) (by kernel_rfl) (by kernel_rfl) (by kernel_rfl) (fun _ _ _ h => h) (Or.inl ⟨by rfl, fun X hX => ?_⟩) hS0.out ?_
            · have x1 := hX
              go_simp
            simp only [Act.put]
            refine wpAnyG_take (i := 13) (oi := _) (v := .int .i64 m7.ops) rfl (by kernel_rfl) (by kernel_rfl) (by kernel_rfl) (by kernel_rfl) (by kernel_rfl) (by kernel_rfl) (fun _ _ _ h => h) (Or.inl ⟨by rfl, fun X hX => ?_⟩) hS0.out ?_
            · have x1 := hX
              go_simp
            simp only [Act.put]
            refine wpAnyG_one (i := 9) (by kernel_rfl) rfl (fun K' hK' => ?_)
            go_simp
            refine (dd_ops HD7.out).mono ?_
            rintro e w7 ⟨rfl, rfl⟩
            refine hK'.out _ _ (fun _ => hS0.out) ?_
            refine wpAnyG_take (i := 14) (oi := _) (v := .bool false) rfl (by kernel_rfl) (by kernel_rfl) (by kernel_rfl) (by kernel_rfl) (by kernel_rfl) (by kernel_rfl) (fun _ _ _ h => h) (Or.inl ⟨by rfl, fun X hX => ?_⟩) hS0.out ?_
            · have x1 := hX
              go_simp
            simp only [Act.put]
            refine wpAnyG_one (i := 15) (by kernel_rfl) rfl (fun K' hK' => ?_)
            go_simp
            refine hK'.out _ _ (fun h => absurd h (by decide)) ?_
            refine wpAnyG_done (by kernel_rfl) ?_
            have hbx := HD7.out.box (.head _)
            have z0 := cell_of_heap hbx 0
            have z1 := cell_of_heap hbx 1
            have z2 := cell_of_heap hbx 2
            have z3 := cell_of_heap hbx 3
            have z4 := cell_of_heap hbx 4
            have z5 := cell_of_heap hbx 5
            have z6 := cell_of_heap hbx 6
            have z7 := cell_of_heap hbx 7
            have z8 := cell_of_heap hbx 8
            have z9 := cell_of_heap hbx 9
            have z10 := cell_of_heap hbx 10
            have HM7 := Lib.hid (show m7.ops ≤ 1000000 by have h1 := HJ7.out.ops; have h2 := HLN.out; omega)
            clear hbx hS0 hi
            go_wp2_with (first
              | (go_at_call 21; refine (dd_read HD7.out o.name o.at_ o.long HO.out.name HO.out.at_ HO.out.long).mono ?_; rintro e w8 ⟨a8, k8, rfl, hd⟩; have HD8 := Lib.hid hd; clear hd; have hbx := HD8.out.box (.head _); have z0 := cell_of_heap hbx 0; have z1 := cell_of_heap hbx 1; have z3 := cell_of_heap hbx 3; have z4 := cell_of_heap hbx 4; clear hbx)
              | (go_at_call 24; refine (dd_rread HD8.out o.name o.at_ o.long HM7.out HO.out.at_ HO.out.long).mono ?_; rintro e w9 ⟨a9, k9, rfl, hd⟩; have HD9 := Lib.hid hd; clear hd; have j1 := HD9.out.conv (.head _); have j2 := HD9.out.conv (.tail _ (.head _))))
            · go_roundw
              case rel => exact ⟨i + 1, by omega, by go_num, m7, HD9.out.sub (fun x hx => by cases hx), HJ7.out⟩
              case measure => simp [intOf]; omega
            · go_roundw
              case rel => exact ⟨i + 1, by omega, by go_num, m7, HD7.out.sub (fun x hx => by cases hx), HJ7.out⟩
              case measure => simp [intOf]; omega
        · obtain rfl : i = l.length := by omega
          have HM := Lib.hid (show m.ops ≤ 1000000 by have h1 := HJ.out.ops; have h2 := HL.out; omega)
          clear I hlt
          go_wp2_with (go_at_call 25; refine (dd_looks HI.out HM.out).mono ?_; rintro e w9 ⟨rfl, hk⟩; have HK9 := Lib.hid hk; clear hk)
          go_ret
          exact ⟨rfl, HK9.out⟩
end Go.Proofs.Ytepphepcaphlkaa
