/- A log's bounds over steps, in plain Lean. -/
import Derived.Test.YtnifmoigalmcmaaGreatWa
import Derived.Test.YtnifmoigalmcmaaGreatAl
import Derived.Test.YtnifmoigalmcmaaGreatWg
import Derived.Test.YtnifmoigalmcmaaGreatYr
import Derived.Test.YtnifmoigalmcmaaGreatVd
namespace Go.Proofs.YtnifmoigalmcmaaGreat
open Go Go.RowKit Dk
open Wl
/-- A batch that is not great. -/
def Sma (y : List Bs) : Prop := y.length ≤ 4096 ∧ ∀ r ∈ y, r.length ≤ 1048576
theorem parse_small : ∀ (k : Nat) (b : Bs) (l : List Bs), parse k b = some l → l.length = k ∧ ∀ r ∈ l, r.length ≤ 1048576
  | 0, b, l, h => by
    unfold parse at h
    split at h
    · cases h; exact ⟨rfl, fun r hr => by cases hr⟩
    · cases h
  | k + 1, b, l, h => by
    unfold parse at h
    split at h
    · cases h
    split at h
    · cases h
    rename_i h1 h2
    cases hp : parse k (b.drop (4 + num (b.take 4))) with
    | none => rw [hp] at h; cases h
    | some x =>
      rw [hp] at h
      simp only [Option.map_some, Option.some.injEq] at h
      obtain ⟨h3, h4⟩ := parse_small k _ x hp
      subst h
      refine ⟨by simp [h3], fun r hr => ?_⟩
      rcases List.mem_cons.1 hr with rfl | hr
      · rw [List.length_take]; omega
      · exact h4 r hr
theorem first_small {K : Bs → Bs} {b : Bs} {k : Nat} {l : List Bs} {n : Nat} (h : first K b k = some (l, n)) : Sma l := by
  unfold first at h
  split at h; · cases h
  split at h; · cases h
  split at h; · cases h
  split at h; · cases h
  split at h; · cases h
  rename_i h5
  cases hp : parse (num ((b.drop 12).take 4)) ((b.drop 16).take (num (b.take 4) - 12)) with
  | none => rw [hp] at h; cases h
  | some x =>
    rw [hp] at h
    simp only [Option.map_some, Option.some.injEq, Prod.mk.injEq] at h
    obtain ⟨h6, h7⟩ := parse_small _ _ x hp
    obtain ⟨rfl, -⟩ := h
    exact ⟨by omega, h7⟩
theorem readF_small {K : Bs → Bs} : ∀ (f : Nat) (b : Bs) (k : Nat), (readF K f b k).1.length * 24 ≤ (readF K f b k).2 ∧ (readF K f b k).2 ≤ b.length ∧ ∀ y ∈ (readF K f b k).1, Sma y
  | 0, b, k => ⟨Nat.le_refl _, Nat.zero_le _, fun y hy => by cases hy⟩
  | f + 1, b, k => by
    unfold readF
    cases h : first K b k with
    | none => exact ⟨Nat.le_refl _, Nat.zero_le _, fun y hy => by cases hy⟩
    | some x =>
      obtain ⟨l, n⟩ := x
      have h1 := first_pos K h
      obtain ⟨h2, h3, h4⟩ := readF_small (K := K) f (b.drop n) (k + 1)
      rw [List.length_drop] at h3
      simp only [List.length_cons]
      refine ⟨by omega, by omega, fun y hy => ?_⟩
      rcases List.mem_cons.1 hy with rfl | hy
      · exact first_small h
      · exact h4 y hy
structure LgOk (g : Lg) (i : Nat) : Prop where
  size : g.size ≤ 268435456 + 16777300 * i
  len : g.ls.length ≤ 20000000 + i
  small : ∀ y ∈ g.ls, Sma y
variable {g : Lg} {i j : Nat} {m : ADisk} {n : Nm} {b : List Bs}
theorem LgOk.mono (h : LgOk g i) (hij : i ≤ j) : LgOk g j := ⟨by have := h.size; omega, by have := h.len; omega, h.small⟩
theorem LgOk.none (d : Bool) : LgOk ⟨[], 0, d⟩ i := ⟨Nat.zero_le _, Nat.zero_le _, fun y hy => by cases hy⟩
theorem LgOk.set {g' : Lg} (h : LgOk g i) (h1 : g'.ls = g.ls) (h2 : g'.size = g.size) : LgOk g' i := ⟨by rw [h2]; exact h.size, by rw [h1]; exact h.len, by rw [h1]; exact h.small⟩
theorem lopen_ok (h : m.ok) : LgOk (lopen m n).2.2 0 := by
  unfold lopen
  split
  · exact LgOk.none _
  · split
    · exact LgOk.none _
    · rename_i f hg
      have h1 := get_ok h hg
      unfold maxFile at h1
      obtain ⟨h2, h3, h4⟩ := readF_small (K := kec) (f.now.length + 1) f.now 0
      exact ⟨(by show (readF kec (f.now.length + 1) f.now 0).2 ≤ _; omega), (by show (readF kec (f.now.length + 1) f.now 0).1.length ≤ _; omega), h4⟩
theorem lput_ok (h : LgOk g i) (hg : good b = true) : LgOk (lput m n g b).2.2 (i + 1) := by
  unfold lput
  split
  · exact (h.mono (Nat.le_succ _)).set rfl rfl
  · split
    · exact (h.mono (Nat.le_succ _)).set rfl rfl
    · obtain ⟨g1, g2, g3, g4⟩ := good_length hg
      have h1 := h.size
      have h2 := h.len
      have h3 := enc_length (kec := kec) kec_length g.ls.length b
      refine ⟨(by show g.size + (enc kec g.ls.length b).length ≤ _; omega), (by show (g.ls ++ [b]).length ≤ _; simp; omega), fun y hy => ?_⟩
      rcases List.mem_append.1 (show y ∈ g.ls ++ [b] from hy) with hy | hy
      · exact h.small y hy
      · rw [List.mem_singleton.1 hy]; exact ⟨g2, g3⟩
theorem lapp_ok (h : LgOk g i) : LgOk (lapp m n g b).2.2 (i + 1) := by
  unfold lapp
  split
  · exact h.mono (Nat.le_succ _)
  · rename_i hg
    have hg : good b = true := by simpa using hg
    split
    · split
      · exact h.mono (Nat.le_succ _)
      · exact lput_ok h hg
    · exact lput_ok h hg
theorem lreset_ok (h : LgOk g i) : LgOk (lreset m n g).2.2 i := by
  unfold lreset
  split
  · exact h.set rfl rfl
  · split
    · exact LgOk.none _
    · exact LgOk.none _
theorem OpsInv.mono (h : OpsInv m i) (hij : i ≤ j) : OpsInv m j := ⟨h.dry, h.ops0, by have := h.ops; omega⟩
theorem create_inv (h : OpsInv m i) (n : Nm) : OpsInv (create m n).2 (i + 1) := doOp_inv h ⟨0, n, n, 0, 0, [], ⟨0, [], [], [], 0⟩⟩
theorem append_inv (h : OpsInv m i) (n : Nm) (x : List UInt8) : OpsInv (append m n x).2 (i + 1) := doOp_inv h ⟨1, n, n, 0, 0, x, ⟨0, [], [], [], 0⟩⟩
theorem truncate_inv (h : OpsInv m i) (n : Nm) (s : Int) : OpsInv (truncate m n s).2 (i + 1) := doOp_inv h ⟨3, n, n, 0, s, [], ⟨0, [], [], [], 0⟩⟩
theorem sync_inv (h : OpsInv m i) (n : Nm) : OpsInv (sync m n).2 (i + 1) := doOp_inv h ⟨4, n, n, 0, 0, [], ⟨0, [], [], [], 0⟩⟩
theorem start_inv (h : OpsInv m i) (p : APlan) : OpsInv (Dk.start m p) (i + 1) := doOp_inv h ⟨7, [], [], 0, 0, [], p⟩
theorem trimD_inv (h : OpsInv m i) (n : Nm) (s : Nat) : OpsInv (trimD m n s).2 (i + 2) := by
  unfold trimD
  split
  · exact sync_inv (truncate_inv h n s) n
  · exact (truncate_inv h n s).mono (by omega)
theorem lopen_inv (h : OpsInv m i) : OpsInv (lopen m n).2.1 (i + 2) := by
  unfold lopen
  split
  · exact h.mono (by omega)
  · split
    · exact (create_inv h n).mono (by omega)
    · split
      · exact trimD_inv h n _
      · exact h.mono (by omega)
theorem lput_inv (h : OpsInv m i) : OpsInv (lput m n g b).2.1 (i + 2) := by
  unfold lput
  split
  · exact (append_inv h n _).mono (by omega)
  · split
    · exact sync_inv (append_inv h n _) n
    · exact sync_inv (append_inv h n _) n
theorem lapp_inv (h : OpsInv m i) : OpsInv (lapp m n g b).2.1 (i + 4) := by
  unfold lapp
  split
  · exact h.mono (by omega)
  · split
    · split
      · exact (trimD_inv h n _).mono (by omega)
      · exact lput_inv (trimD_inv h n _)
    · exact (lput_inv h).mono (by omega)
theorem lreset_inv (h : OpsInv m i) : OpsInv (lreset m n g).2.1 (i + 2) := by
  unfold lreset
  split
  · exact (truncate_inv h n 0).mono (by omega)
  · split
    · exact sync_inv (truncate_inv h n 0) n
    · exact sync_inv (truncate_inv h n 0) n
end Go.Proofs.YtnifmoigalmcmaaGreat
/- WalDoes' state: two disks, two logs, and what lies beside them. -/
namespace Go.Proofs.YtnifmoigalmcmaaGreat
open Go Go.RowKit Dk
open Wl
variable {c c' : Col} {w w' wi : World} {S : Nat × Nat → Prop} {q : Nat × Nat}
/-- The log's name. -/
def LOGn : Nm := [76, 79, 71]
theorem filesAt_kp {v : Value} {fs : List (Nm × List UInt8)} (h : FilesAt w c v fs) (hk : Kp c S w w') (hS : ¬ S (0, 0)) (hc : Cx w c c') : FilesAt w' c' v fs := by
  obtain ⟨xs, hown, hcol, hd⟩ := h
  refine ⟨xs, ownsRow_kp hown hcol hk hS, fun g hg => (hc g (ownBlock_lt hown g hg)).trans (hcol g hg), fun i x hx => ?_⟩
  obtain ⟨vd, h1, h2, h3⟩ := hd i x hx
  exact ⟨vd, h1, h2, h3.kp hk hS hc⟩
/-- Things that lie beside the disks and the logs. -/
inductive Th where
  | box (b : Nat) (o : Obj)
  | files (v : Value) (fs : List (Nm × List UInt8))
  | bat (v : Value) (l : List Bs)
  | mine (v : Value) (l : List Bs)
  | xo (v : Value) (l : List Nat)
  | row (v : Value) (l : List UInt8)
  | plan (vk vf vu : Value) (p : APlan)
def Th.at (w : World) (c : Col) : Th → Prop
  | .box b o => w.heap[b]? = some o ∧ c b = (0, 0)
  | .files v fs => FilesAt w c v fs
  | .bat v l => QL w c v l
  | .mine v l => Bat w c (7, 1) (7, 0) v l
  | .xo v l => XO w c v l
  | .row v l => Sc w c (0, 0) v (l.map bv)
  | .plan vk vf vu p => PlanAt w c vk vf vu p
theorem Th.kp {t : Th} (h : t.at w c) (hk : Kp c S w w') (h0 : ¬ S (0, 0)) (h1 : ¬ S (7, 0)) (h2 : ¬ S (7, 1)) (hc : Cx w c c') : t.at w' c' := by
  cases t with
  | box b o => exact ⟨hk.heap h.1 (by rw [h.2]; exact h0), (hc _ (lt_of_heap h.1)).trans h.2⟩
  | files v fs => exact filesAt_kp h hk h0 hc
  | bat v l => exact QL.stays.stay h hk h0 hc
  | mine v l => exact Bat.kp h hk h2 h1 hc
  | xo v l => exact XO.kp h hk h1 h2 hc
  | row v l => exact Sc.kp h hk h0 hc
  | plan vk vf vu p => exact PlanAt.kp h hk h0 hc
def PX (d : Nat) (w : World) (c : Col) : Option (Nat × Lg) → Prop
  | none => True
  | some x => ∃ v, LogAt w c 3 x.1 d LOGn v x.2.ls x.2.size x.2.dirty
def PY (r : Nat) (w : World) (c : Col) : Option (Nat × Lg) → Prop
  | none => True
  | some x => ∃ v, RLogAt w c 4 x.1 r LOGn v x.2.ls x.2.size x.2.dirty
theorem PX.kp {d : Nat} {x : Option (Nat × Lg)} (h : PX d w c x) (hk : Kp c S w w') (h0 : ¬ S (3, 0)) (h1 : ¬ S (3, 1)) (hz : ¬ S (0, 0)) (hc : Cx w c c') : PX d w' c' x := by
  cases x with
  | none => trivial
  | some x => obtain ⟨v, h⟩ := h; exact ⟨v, h.kp hk h0 h1 hz hc⟩
theorem PY.kp {r : Nat} {x : Option (Nat × Lg)} (h : PY r w c x) (hk : Kp c S w w') (h0 : ¬ S (4, 0)) (h1 : ¬ S (4, 1)) (hz : ¬ S (0, 0)) (hc : Cx w c c') : PY r w' c' x := by
  cases x with
  | none => trivial
  | some x => obtain ⟨v, h⟩ := h; exact ⟨v, h.kp hk h0 h1 hz hc⟩
/-- The whole state. -/
def WS (w : World) (d r : Nat) (A A2 : ADisk) (x y : Option (Nat × Lg)) (Ts : List Th) (wi : World) : Prop :=
  ∃ ci, Cx w c00 ci ∧ (∀ S, Kp c00 S w wi) ∧ DiskAt wi ci 1 d A ∧ RD wi ci 2 r A2 ∧ PX d wi ci x ∧ PY r wi ci y ∧ ∀ t ∈ Ts, t.at wi ci
variable {d r : Nat} {A A2 B : ADisk} {x y : Option (Nat × Lg)} {Ts Ts' : List Th}
theorem kp_fresh0 {ci : Col} (h : ∀ S, Kp c00 S w wi) (hc : Cx w c00 ci) (hk : Kp ci S wi w') (h0 : ¬ S (0, 0)) : ∀ S, Kp c00 S w w' := fun T => by
  have h1 := h T
  exact ⟨hk.os.trans h1.os, hk.tape.trans h1.tape, hk.output.trans h1.output, Nat.le_trans h1.size hk.size, fun b hb hn => (hk.block b (Nat.lt_of_lt_of_le hb h1.size) (by rw [hc b hb]; exact h0)).trans (h1.block b hb hn)⟩
theorem WS.kp (h : WS w d r A A2 x y Ts wi) : ∀ S, Kp c00 S w wi := by obtain ⟨_, _, h, _⟩ := h; exact h
theorem WS.get (h : WS w d r A A2 x y Ts wi) {b : Nat} {o : Obj} (hb : Th.box b o ∈ Ts) : wi.heap[b]? = some o := by
  obtain ⟨ci, _, _, _, _, _, _, h⟩ := h
  exact (h _ hb).1
theorem WS.sub (h : WS w d r A A2 x y Ts wi) (hs : ∀ t ∈ Ts', t ∈ Ts) : WS w d r A A2 x y Ts' wi := by
  obtain ⟨ci, h1, h2, h3, h4, h5, h6, h7⟩ := h
  exact ⟨ci, h1, h2, h3, h4, h5, h6, fun t ht => h7 t (hs t ht)⟩
/-- What leaves all old memory alone leaves the state; new things may join. -/
theorem WS.quiet {ci : Col} (hc : Cx w c00 ci) (hk : ∀ S, Kp c00 S w wi) (D : DiskAt wi ci 1 d A) (R : RD wi ci 2 r A2) (X : PX d wi ci x) (Y : PY r wi ci y) (hT : ∀ t ∈ Ts, t.at wi ci)
    (hc' : Cx wi ci c') (hk' : ∀ S, Kp ci S wi w') (hN : ∀ t ∈ Ts', t ∈ Ts ∨ t.at w' c') : WS w d r A A2 x y Ts' w' :=
  ⟨c', hc.trans hc' (hk (fun _ => False)).size, fun S => (hk S).trans (hk' S) hc, D.kp (hk' (fun _ => False)) (fun _ h => h.elim) hc', R.kp (hk' (fun _ => False)) (fun _ h => h.elim) hc', X.kp (hk' (fun _ => False)) (fun h => h) (fun h => h) (fun h => h) hc', Y.kp (hk' (fun _ => False)) (fun h => h) (fun h => h) (fun h => h) hc', fun t ht => by
    rcases hN t ht with h | h
    · exact Th.kp (hT t h) (hk' (fun _ => False)) (fun h => h) (fun h => h) (fun h => h) hc'
    · exact h⟩
theorem WS.same (h : WS w d r A A2 x y Ts wi) (hk' : ∀ (c : Col) S, Kp c S wi w') : WS w d r A A2 x y Ts w' := by
  obtain ⟨ci, hc, hk, D, R, X, Y, hT⟩ := h
  exact WS.quiet hc hk D R X Y hT (Cx.refl _ _) (fun S => hk' ci S) fun t ht => .inl ht
theorem WS.drew (h : WS w d r A A2 x y Ts wi) : WS w d r A A2 x y Ts wi.drew := h.same fun _ _ => (Kp.refl _ _ _).drew
theorem WS.alloc (h : WS w d r A A2 x y Ts wi) (cs : Array Value) (t : TypeId) : WS w d r A A2 x y (.box wi.heap.size (.cells cs t (0, 0)) :: Ts) (wi.alloc (.cells cs t)) := by
  obtain ⟨ci, hc, hk, D, R, X, Y, hT⟩ := h
  refine WS.quiet hc hk D R X Y hT (newCol_cx wi ci (0, 0)) (fun S => (Kp.refl _ _ _).alloc _) fun t ht => ?_
  rcases List.mem_cons.1 ht with rfl | h
  · exact .inr ⟨heap_alloc_new _ _, if_neg (Nat.lt_irrefl _)⟩
  · exact .inl h
/-- What turns the program's side alone. -/
theorem WS.left {ci : Col} {x' : Option (Nat × Lg)} (hc : Cx w c00 ci) (hk : ∀ S, Kp c00 S w wi) (R : RD wi ci 2 r A2) (Y : PY r wi ci y) (hT : ∀ t ∈ Ts, t.at wi ci)
    (hc' : Cx wi ci c') (hk' : Kp ci (fun q => q.1 = 1 ∨ q.1 = 3) wi w') (D' : DiskAt w' c' 1 d B) (X' : PX d w' c' x') : WS w d r B A2 x' y Ts w' :=
  ⟨c', hc.trans hc' (hk (fun _ => False)).size, kp_fresh0 hk hc hk' (by simp), D', R.kp hk' (fun q hq => ⟨(fun e => by rw [e] at hq; rcases hq with hq | hq <;> cases hq), fun e => by rw [e] at hq; rcases hq with hq | hq <;> cases hq⟩) hc', X', Y.kp hk' (by simp) (by simp) (by simp) hc', fun t ht => Th.kp (hT t ht) hk' (by simp) (by simp) (by simp) hc'⟩
theorem WS.right {ci : Col} {y' : Option (Nat × Lg)} (hc : Cx w c00 ci) (hk : ∀ S, Kp c00 S w wi) (D : DiskAt wi ci 1 d A) (X : PX d wi ci x) (hT : ∀ t ∈ Ts, t.at wi ci)
    (hc' : Cx wi ci c') (hk' : Kp ci (fun q => q.1 = 2 ∨ q.1 = 4) wi w') (R' : RD w' c' 2 r B) (Y' : PY r w' c' y') : WS w d r A B x y' Ts w' :=
  ⟨c', hc.trans hc' (hk (fun _ => False)).size, kp_fresh0 hk hc hk' (by simp), D.kp hk' (fun q hq => ⟨(fun e => by rw [e] at hq; rcases hq with hq | hq <;> cases hq), fun e => by rw [e] at hq; rcases hq with hq | hq <;> cases hq⟩) hc', R', X.kp hk' (by simp) (by simp) (by simp) hc', Y', fun t ht => Th.kp (hT t ht) hk' (by simp) (by simp) (by simp) hc'⟩
abbrev LOGv : Value := .string ⟨#[76, 79, 71]⟩
theorem log_len : LOGn.length ≤ maxLen := by decide
/-- Where a log's pointer is. -/
def ptrO : Option (Nat × Lg) → Value
  | none => .pointer none
  | some x => .pointer (some ⟨x.1, 0, none⟩)
section
variable {g : Lg} {lb : Nat} {v : Value} {l : List Bs}
theorem ws_xapp (h : WS w d r A A2 (some (lb, g)) y Ts wi) (hm : Th.mine v l ∈ Ts) (hops : A.ops < 899980) (hsz : g.size ≤ 1000000000) (hls : g.ls.length ≤ 100000000) (hl : l.length ≤ 1000000000) (hb : ∀ r ∈ l, r.length ≤ 1000000000) :
    Calls Tryz.prog 17 #[.pointer (some ⟨lb, 0, none⟩), v] wi fun e w' => e = .returned (.int .i64 (lapp A LOGn g l).1) ∧ WS w d r (lapp A LOGn g l).2.1 A2 (some (lb, (lapp A LOGn g l).2.2)) y Ts w' := by
  obtain ⟨ci, hc, hk, D, R, ⟨vx, X⟩, Y, hT⟩ := h
  refine (wappend_c (kl := 3) (qa := (7, 1)) (qb := (7, 0)) wi X D (by decide) (by decide) (by decide) hops log_len hsz hls (hT _ hm) ⟨⟨by decide, by decide⟩, by decide, by decide⟩ hl hb).mono ?_
  rintro e w' ⟨he, c', hc', hk', D', vl', L'⟩
  exact ⟨he, WS.left hc hk R Y hT hc' hk' D' ⟨vl', L'⟩⟩
theorem ws_yapp (h : WS w d r A A2 x (some (lb, g)) Ts wi) (hm : Th.bat v l ∈ Ts) (hops : A2.ops < 899980) (hsz : g.size ≤ 1000000000) (hls : g.ls.length ≤ 100000000) (hl : l.length ≤ 1000000000) (hb : ∀ r ∈ l, r.length ≤ 1000000000) :
    Calls Tryz.prog 18 #[.pointer (some ⟨lb, 0, none⟩), v] wi fun e w' => e = .returned (.int .i64 (lapp A2 LOGn g l).1) ∧ WS w d r A (lapp A2 LOGn g l).2.1 x (some (lb, (lapp A2 LOGn g l).2.2)) Ts w' := by
  obtain ⟨ci, hc, hk, D, R, X, ⟨vy, Y⟩, hT⟩ := h
  refine (rlapp_c (kl := 4) wi Y R (by decide) (by decide) (by decide) hops hsz hls (hT _ hm) hl hb).mono ?_
  rintro e w' ⟨he, c', hc', hk', D', vl', L'⟩
  exact ⟨he, WS.right hc hk D X hT hc' hk' D' ⟨vl', L'⟩⟩
theorem ws_xreset (h : WS w d r A A2 (some (lb, g)) y Ts wi) (hops : A.ops < 899980) :
    Calls Tryz.prog 19 #[.pointer (some ⟨lb, 0, none⟩)] wi fun e w' => e = .returned (.int .i64 (lreset A LOGn g).1) ∧ WS w d r (lreset A LOGn g).2.1 A2 (some (lb, (lreset A LOGn g).2.2)) y Ts w' := by
  obtain ⟨ci, hc, hk, D, R, ⟨vx, X⟩, Y, hT⟩ := h
  refine (wreset_c (kl := 3) wi X D (by decide) (by decide) (by decide) hops log_len).mono ?_
  rintro e w' ⟨he, c', hc', hk', D', vl', L'⟩
  exact ⟨he, WS.left hc hk R Y hT hc' hk' D' ⟨vl', L'⟩⟩
theorem ws_yreset (h : WS w d r A A2 x (some (lb, g)) Ts wi) (hops : A2.ops < 899980) :
    Calls Tryz.prog 20 #[.pointer (some ⟨lb, 0, none⟩)] wi fun e w' => e = .returned (.int .i64 (lreset A2 LOGn g).1) ∧ WS w d r A (lreset A2 LOGn g).2.1 x (some (lb, (lreset A2 LOGn g).2.2)) Ts w' := by
  obtain ⟨ci, hc, hk, D, R, X, ⟨vy, Y⟩, hT⟩ := h
  refine (rreset_c (kl := 4) wi Y R (by decide) (by decide) (by decide) hops).mono ?_
  rintro e w' ⟨he, c', hc', hk', D', vl', L'⟩
  exact ⟨he, WS.right hc hk D X hT hc' hk' D' ⟨vl', L'⟩⟩
/-- What Open leaves. -/
def lnew (lb : Nat) (R : Int × ADisk × Lg) : Option (Nat × Lg) := if R.1 = 0 then some (lb, R.2.2) else none
theorem ws_xopen (h : WS w d r A A2 x y Ts wi) (hops : A.ops < 899980) :
    Calls Tryz.prog 14 #[.pointer (some ⟨d, 0, none⟩), LOGv] wi fun e w' => ∃ lb, e = .returned (.tuple #[ptrO (lnew lb (lopen A LOGn)), .int .i64 (lopen A LOGn).1]) ∧ WS w d r (lopen A LOGn).2.1 A2 (lnew lb (lopen A LOGn)) y Ts w' := by
  obtain ⟨ci, hc, hk, D, R, X, Y, hT⟩ := h
  refine (wopen_c (kl := 3) LOGn wi D (by decide) (by decide) (by decide) hops log_len).mono ?_
  rintro e w' ⟨c', hc', hk', D', h0, h1⟩
  have hk' : Kp ci (fun q => q.1 = 1 ∨ q.1 = 3) wi w' := hk'.mono fun q h => .inl h
  unfold lnew
  by_cases he : (lopen A LOGn).1 = 0
  · obtain ⟨lb, vl, he2, _, L⟩ := h0 he
    refine ⟨lb, ?_, ?_⟩
    · rw [he2, if_pos he, he]; rfl
    · rw [if_pos he]; exact WS.left hc hk R Y hT hc' hk' D' ⟨vl, L⟩
  · refine ⟨0, ?_, ?_⟩
    · rw [h1 he, if_neg he]; rfl
    · rw [if_neg he]; exact WS.left hc hk R Y hT hc' hk' D' trivial
theorem ws_yopen (h : WS w d r A A2 x y Ts wi) (hops : A2.ops < 899980) :
    Calls Tryz.prog 15 #[.pointer (some ⟨r, 0, none⟩), LOGv] wi fun e w' => ∃ lb, e = .returned (.tuple #[ptrO (lnew lb (lopen A2 LOGn)), .int .i64 (lopen A2 LOGn).1]) ∧ WS w d r A (lopen A2 LOGn).2.1 x (lnew lb (lopen A2 LOGn)) Ts w' := by
  obtain ⟨ci, hc, hk, D, R, X, Y, hT⟩ := h
  refine (ropen_c (kl := 4) LOGn wi R (by decide) (by decide) (by decide) hops log_len).mono ?_
  rintro e w' ⟨c', hc', hk', D', h0, h1⟩
  have hk' : Kp ci (fun q => q.1 = 2 ∨ q.1 = 4) wi w' := hk'.mono fun q h => .inl h
  unfold lnew
  by_cases he : (lopen A2 LOGn).1 = 0
  · obtain ⟨lb, vl, he2, _, L⟩ := h0 he
    refine ⟨lb, ?_, ?_⟩
    · rw [he2, if_pos he, he]; rfl
    · rw [if_pos he]; exact WS.right hc hk D X hT hc' hk' D' ⟨vl, L⟩
  · refine ⟨0, ?_, ?_⟩
    · rw [h1 he, if_neg he]; rfl
    · rw [if_neg he]; exact WS.right hc hk D X hT hc' hk' D' trivial
theorem ws_dapp (h : WS w d r A A2 x y Ts wi) {b : List UInt8} (hm : Th.row v b ∈ Ts) (hops : A.ops < 899980) (hb : b.length ≤ lim) :
    Calls Tryz.prog 21 #[.pointer (some ⟨d, 0, none⟩), LOGv, v] wi fun e w' => e = .returned (.int .i64 (append A LOGn b).1) ∧ WS w d r (append A LOGn b).2 A2 none y Ts w' := by
  obtain ⟨ci, hc, hk, D, R, X, Y, hT⟩ := h
  refine (append_c 1 d A LOGn v b wi D (by decide) (by omega) log_len (hT _ hm) (by decide) hb).mono ?_
  rintro e w' ⟨he, c', hc', hk', D'⟩
  exact ⟨he, WS.left hc hk R Y hT hc' (hk'.mono fun q h => .inl h) D' trivial⟩
theorem ws_rapp (h : WS w d r A A2 x y Ts wi) {b : List UInt8} (hv : Sw w c00 (0, 0) v (b.map bv)) (hops : A2.ops < 899980) (hb : b.length ≤ lim) :
    Calls Tryz.prog 22 #[.pointer (some ⟨r, 0, none⟩), LOGv, v] wi fun e w' => e = .returned (.int .i64 (append A2 LOGn b).1) ∧ WS w d r A (append A2 LOGn b).2 x none Ts w' := by
  obtain ⟨ci, hc, hk, D, R, X, Y, hT⟩ := h
  refine (rappend_c 2 r A2 LOGn v b wi R (by decide) (by omega) (hv.kp (hk (fun _ => False)) (fun h => h) hc) (by decide) hb).mono ?_
  rintro e w' ⟨he, c', hc', hk', D'⟩
  exact ⟨he, WS.right hc hk D X hT hc' (hk'.mono fun q h => .inl h) D' trivial⟩
theorem ws_dstart (h : WS w d r A A2 x y Ts wi) {i : Nat} (I : OpsInv A i) (hi : i ≤ 800000) {p : APlan} {vk vf vu : Value} (hm : Th.plan vk vf vu p ∈ Ts) (lk : p.keep.length ≤ lim) (lf : p.fail.length ≤ lim) (lu : p.full.length ≤ lim) :
    Calls Tryz.prog 23 #[.pointer (some ⟨d, 0, none⟩), planV p vk vf vu] wi fun e w' => e = .returned (.int .i64 0) ∧ WS w d r (Dk.start A p) A2 none y Ts w' := by
  obtain ⟨ci, hc, hk, D, R, X, Y, hT⟩ := h
  have hp : PlanAt wi ci vk vf vu p := hT _ hm
  have := I.ops
  refine (start_c 1 d A wi D p vk vf vu hp.keep hp.fail hp.full lk lf lu (by decide) (by decide) (by omega) I.dry).mono ?_
  rintro e w' ⟨he, c', hc', hk', D'⟩
  exact ⟨he, WS.left hc hk R Y hT hc' (hk'.mono fun q h => .inl h) D' trivial⟩
theorem ws_rstart (h : WS w d r A A2 x y Ts wi) {i : Nat} (I : OpsInv A2 i) (hi : i ≤ 800000) {p : APlan} {ak af au : Option Addr} {nk nf nu : Nat} (hp : PlanW w c00 (.slice ak p.keep.length nk) (.slice af p.fail.length nf) (.slice au p.full.length nu) p) (lk : p.keep.length ≤ lim) (lf : p.fail.length ≤ lim) (lu : p.full.length ≤ lim) :
    Calls Tryz.prog 24 #[.pointer (some ⟨r, 0, none⟩), .agg #[.int .i64 p.crash, .slice ak p.keep.length nk, .slice af p.fail.length nf, .slice au p.full.length nu, .int .i64 p.room]] wi fun e w' => e = .returned (.tuple #[]) ∧ WS w d r A (Dk.start A2 p) x none Ts w' := by
  obtain ⟨ci, hc, hk, D, R, X, Y, hT⟩ := h
  have := I.ops
  refine (rstart_c 2 r A2 wi R p (hp.kp (hk (fun _ => False)) (fun h => h) hc) lk lf lu (by decide) (by omega) I.dry).mono ?_
  rintro e w' ⟨he, c', hc', hk', D'⟩
  exact ⟨he, WS.right hc hk D X hT hc' (hk'.mono fun q h => .inl h) D' trivial⟩
theorem ws_twin (h : WS w d r A A2 x y Ts wi) {p : APlan} {ak af au : Option Addr} {nk nf nu : Nat} (hp : PlanW w c00 (.slice ak p.keep.length nk) (.slice af p.fail.length nf) (.slice au p.full.length nu) p) (lk : p.keep.length ≤ lim) (lf : p.fail.length ≤ lim) (lu : p.full.length ≤ lim) :
    Calls Tryz.prog 12 #[.agg #[.int .i64 p.crash, .slice ak p.keep.length nk, .slice af p.fail.length nf, .slice au p.full.length nu, .int .i64 p.room]] wi fun e w' => ∃ b1 l1 b2 l2 b3 l3, e = .returned (.agg #[.int .i64 p.crash, .slice b1 p.keep.length l1, .slice b2 p.fail.length l2, .slice b3 p.full.length l3, .int .i64 p.room]) ∧
      WS w d r A A2 x y (.plan (.slice b1 p.keep.length l1) (.slice b2 p.fail.length l2) (.slice b3 p.full.length l3) p :: Ts) w' := by
  obtain ⟨ci, hc, hk, D, R, X, Y, hT⟩ := h
  refine (rtwin_y (hp.kp (hk (fun _ => False)) (fun h => h) hc) lk lf lu).mono ?_
  rintro e w' ⟨b1, l1, b2, l2, b3, l3, c', he, hc', hk', hpl⟩
  refine ⟨b1, l1, b2, l2, b3, l3, he, WS.quiet hc hk D R X Y hT hc' hk' fun t ht => ?_⟩
  rcases List.mem_cons.1 ht with rfl | h
  · exact .inr hpl
  · exact .inl h
theorem ws_files (h : WS w d r A A2 x y Ts wi) : Calls Tryz.prog 27 #[.pointer (some ⟨d, 0, none⟩)] wi fun e w' => ∃ v, e = .returned v ∧ WS w d r A A2 x y (.files v (files A) :: Ts) w' := by
  obtain ⟨ci, hc, hk, D, R, X, Y, hT⟩ := h
  refine (files_c 1 d A wi D).mono ?_
  rintro e w' ⟨v, c', he, hc', hk', hf⟩
  refine ⟨v, he, WS.quiet hc hk D R X Y hT hc' hk' fun t ht => ?_⟩
  rcases List.mem_cons.1 ht with rfl | h
  · exact .inr hf
  · exact .inl h
theorem ws_safe (h : WS w d r A A2 x y Ts wi) : Calls Tryz.prog 29 #[.pointer (some ⟨d, 0, none⟩)] wi fun e w' => ∃ v, e = .returned v ∧ WS w d r A A2 x y (.files v (safe A) :: Ts) w' := by
  obtain ⟨ci, hc, hk, D, R, X, Y, hT⟩ := h
  refine (safe_c 1 d A wi D).mono ?_
  rintro e w' ⟨v, c', he, hc', hk', hf⟩
  refine ⟨v, he, WS.quiet hc hk D R X Y hT hc' hk' fun t ht => ?_⟩
  rcases List.mem_cons.1 ht with rfl | h
  · exact .inr hf
  · exact .inl h
theorem ws_all (h : WS w d r A A2 x y Ts wi) (hops : A2.ops ≤ 1000000) : Calls Tryz.prog 28 #[.pointer (some ⟨r, 0, none⟩), .bool false] wi fun e w' => ∃ v, e = .returned v ∧ WS w d r A A2 x y (.files v (files A2) :: Ts) w' := by
  obtain ⟨ci, hc, hk, D, R, X, Y, hT⟩ := h
  refine (rall_false 2 r A2 wi R hops).mono ?_
  rintro e w' ⟨a, n, k, c', he, hn, hc', hk', hf⟩
  refine ⟨_, he, WS.quiet hc hk D R X Y hT hc' hk' fun t ht => ?_⟩
  rcases List.mem_cons.1 ht with rfl | h
  · exact .inr hf
  · exact .inl h
theorem ws_allS (h : WS w d r A A2 x y Ts wi) (hops : A2.ops ≤ 1000000) : Calls Tryz.prog 28 #[.pointer (some ⟨r, 0, none⟩), .bool true] wi fun e w' => ∃ v, e = .returned v ∧ WS w d r A A2 x y (.files v (safe A2) :: Ts) w' := by
  obtain ⟨ci, hc, hk, D, R, X, Y, hT⟩ := h
  refine (rall_true 2 r A2 wi R hops).mono ?_
  rintro e w' ⟨a, n, k, c', he, hn, hc', hk', hf⟩
  refine ⟨_, he, WS.quiet hc hk D R X Y hT hc' hk' fun t ht => ?_⟩
  rcases List.mem_cons.1 ht with rfl | h
  · exact .inr hf
  · exact .inl h
theorem ws_same (h : WS w d r A A2 x y Ts wi) {v1 v2 : Value} {fs : List (Nm × List UInt8)} (h1 : Th.files v1 fs ∈ Ts) (h2 : Th.files v2 fs ∈ Ts) (hl : fs.length ≤ 4096) :
    Calls Tryz.prog 26 #[v1, v2] wi fun e w' => e = .returned (.bool true) ∧ WS w d r A A2 x y Ts w' := by
  obtain ⟨ci, hc, hk, D, R, X, Y, hT⟩ := h
  refine (same_c v1 v2 fs fs wi (hT _ h1) (hT _ h2) (by omega)).mono ?_
  rintro e w' ⟨he, hk'⟩
  exact ⟨by rw [he]; simp, WS.quiet hc hk D R X Y hT (Cx.refl _ _) hk' fun t ht => .inl ht⟩
theorem ws_ops (h : WS w d r A A2 x y Ts wi) : Calls Tryz.prog 30 #[.pointer (some ⟨d, 0, none⟩)] wi fun e w' => e = .returned (.int .i64 A.ops) ∧ wi = w' := by
  obtain ⟨ci, hc, hk, D, R, X, Y, hT⟩ := h
  exact ops_c 1 d A wi D
theorem WS.ok (h : WS w d r A A2 x y Ts wi) : A.ok := by
  obtain ⟨ci, hc, hk, D, R, X, Y, hT⟩ := h
  exact DiskAt.okk D
theorem ws_mine (h : WS w d r A A2 x y Ts wi) {q1 q2 : Nat × Nat} (hb : BatW w c00 q1 q2 v l) (hl : l.length ≤ 1000000000) (hbl : ∀ r ∈ l, r.length ≤ lim) :
    Calls Tryz.prog 16 #[v] wi fun e w' => ∃ v', e = .returned v' ∧ WS w d r A A2 x y (.mine v' l :: .xo v' (l.map List.length) :: Ts) w' := by
  obtain ⟨ci, hc, hk, D, R, X, Y, hT⟩ := h
  refine (twinsO_c q1 q2 v l (hb.kp (hk (fun _ => False)) (fun h => h) (fun h => h) hc) hl hbl).mono ?_
  rintro e w' ⟨v', cf, he, G, hk'⟩
  obtain ⟨m1, m2⟩ := mine_of (c := ci) G
  refine ⟨v', he, WS.quiet hc hk D R X Y hT (mineCol_cx wi ci cf) (fun S => hk' ci S) fun t ht => ?_⟩
  rcases List.mem_cons.1 ht with rfl | ht
  · exact .inr m1
  · rcases List.mem_cons.1 ht with rfl | ht
    · exact .inr m2
    · exact .inl ht
theorem ws_bat (h : WS w d r A A2 x y Ts wi) {q1 q2 : Nat × Nat} (hb : BatW w c00 q1 q2 v l) (hl : l.length ≤ 1000000000) (hbl : ∀ r ∈ l, r.length ≤ lim) :
    Calls Tryz.prog 16 #[v] wi fun e w' => ∃ v', e = .returned v' ∧ WS w d r A A2 x y (.bat v' l :: Ts) w' := by
  obtain ⟨ci, hc, hk, D, R, X, Y, hT⟩ := h
  refine (twinsW_c q1 q2 v l (hb.kp (hk (fun _ => False)) (fun h => h) (fun h => h) hc) hl hbl).mono ?_
  rintro e w' ⟨v', cf, he, G, hk'⟩
  refine ⟨v', he, WS.quiet hc hk D R X Y hT (newCol_cx wi ci (0, 0)) (fun S => hk' ci S) fun t ht => ?_⟩
  rcases List.mem_cons.1 ht with rfl | h
  · exact .inr (grow_bat G (fun g hg => if_neg (Nat.not_lt.2 (G.fresh g hg))) (fun b hb _ => if_neg (Nat.not_lt.2 hb)))
  · exact .inl h
/-- Bytes of one's own batch are turned. -/
theorem WS.turn {Us : List Th} (h : WS w d r A A2 x y Ts wi) {m : List Nat} (hm : Th.xo v m ∈ Ts) {g : Nat} {j : Nat} {u : UInt8} (hg : ∀ ci, Th.at wi ci (Th.xo v m) → ci g = (7, 0)) (hu : ∀ t ∈ Us, t ∈ Ts ∧ ∃ b o, t = .box b o) :
    WS w d r A A2 x y (.xo v m :: Us) (wi.setCell ⟨g, j, none⟩ (bv u)) := by
  obtain ⟨ci, hc, hk, D, R, X, Y, hT⟩ := h
  have hcg := hg ci (hT _ hm)
  have hk' : Kp ci (· = (7, 0)) wi (wi.setCell ⟨g, j, none⟩ (bv u)) := (Kp.refl _ _ _).setCell (fun _ => hcg) _
  refine ⟨ci, hc, kp_fresh0 hk hc hk' (by simp), D.kp hk' (fun q hq => by rw [hq]; exact ⟨by decide, by decide⟩) (Cx.refl _ _), R.kp hk' (fun q hq => by rw [hq]; exact ⟨by decide, by decide⟩) (Cx.refl _ _), X.kp hk' (by simp) (by simp) (by simp) (Cx.refl _ _), Y.kp hk' (by simp) (by simp) (by simp) (Cx.refl _ _), fun t ht => ?_⟩
  rcases List.mem_cons.1 ht with rfl | ht
  · exact XO.turn (hT _ hm) hcg u
  · obtain ⟨h1, b, o, rfl⟩ := hu t ht
    have h2 := hT _ h1
    exact ⟨hk'.heap h2.1 (by rw [h2.2]; simp), h2.2⟩
end
end Go.Proofs.YtnifmoigalmcmaaGreat
/- What Each hands on over a log, in plain Lean and in memory. -/
namespace Go.Proofs.YtnifmoigalmcmaaGreat
open Go Go.RowKit
open Wl
variable {c c' : Col} {w w' W : World} {S : Nat × Nat → Prop} {q : Nat × Nat}
/-- All records, each with its batch's number. -/
def flatN : Nat → List (List Bs) → List (Nat × Bs)
  | _, [] => []
  | i, y :: r => y.map (fun b => (i, b)) ++ flatN (i + 1) r
/-- How many records stand ahead of a batch. -/
def posN (ls : List (List Bs)) (i : Nat) : Nat := ((ls.take i).map List.length).sum
theorem posN_zero (ls : List (List Bs)) : posN ls 0 = 0 := by simp [posN]
theorem posN_succ (ls : List (List Bs)) (i : Nat) (h : i < ls.length) : posN ls (i + 1) = posN ls i + ls[i].length := by
  unfold posN
  rw [List.take_succ_eq_append_getElem h, List.map_append, List.sum_append]; simp
theorem flatN_length : ∀ (ls : List (List Bs)) (i : Nat), (flatN i ls).length = posN ls ls.length
  | [], i => by simp [flatN, posN]
  | y :: r, i => by
    have h := flatN_length r (i + 1)
    unfold posN at h ⊢
    rw [List.take_length] at h ⊢
    simp only [flatN, List.length_append, List.length_map, List.map_cons, List.sum_cons, h]
theorem flatN_get : ∀ (ls : List (List Bs)) (i0 i k : Nat) (hi : i < ls.length) (hk : k < ls[i].length), (flatN i0 ls)[posN ls i + k]? = some (i0 + i, ls[i][k])
  | [], _, _, _, hi, _ => absurd hi (Nat.not_lt_zero _)
  | y :: r, i0, 0, k, _, hk => by
    have hk : k < y.length := hk
    rw [posN_zero, Nat.zero_add]
    unfold flatN
    rw [List.getElem?_append_left (by simpa using hk), List.getElem?_map, List.getElem?_eq_getElem hk]
    rfl
  | y :: r, i0, i + 1, k, hi, hk => by
    have hi' : i < r.length := by simpa using hi
    have h := flatN_get r (i0 + 1) i k hi' hk
    have hp : posN (y :: r) (i + 1) = y.length + posN r i := by simp [posN]
    rw [hp]
    unfold flatN
    rw [List.getElem?_append_right (by simp; omega), List.length_map, show y.length + posN r i + k - y.length = posN r i + k by omega, h]
    show some (i0 + 1 + i, r[i][k]) = some (i0 + (i + 1), r[i][k])
    rw [show i0 + 1 + i = i0 + (i + 1) by omega]
theorem posN_le (ls : List (List Bs)) : ∀ (d i : Nat), i + d ≤ ls.length → posN ls i ≤ posN ls (i + d)
  | 0, _, _ => Nat.le_refl _
  | d + 1, i, h => by
    have h1 := posN_le ls d i (by omega)
    have h2 := posN_succ ls (i + d) (by omega)
    rw [show i + (d + 1) = i + d + 1 by omega]
    omega
theorem posN_end (ls : List (List Bs)) (i : Nat) (h : i ≤ ls.length) : posN ls i ≤ posN ls ls.length := by
  have := posN_le ls (ls.length - i) i (by omega)
  rwa [show i + (ls.length - i) = ls.length by omega] at this
theorem flw_flat : ∀ (LL : List (Value × List (Value × Bs))) (i : Nat), (flw i LL).map (fun x => (x.1, x.2.2)) = flatN i (LL.map fun x => x.2.map (·.2))
  | [], _ => rfl
  | x :: r, i => by
    simp only [flw, List.map_cons, flatN, List.map_append, List.map_map, flw_flat r (i + 1)]
    rfl
theorem cells_at {g o : Nat} {xs : List Value} (hc : ∀ (j : Nat) u, xs[j]? = some u → W.cell? ⟨g, o + j, none⟩ = some u) (hn : 0 < xs.length) : ∃ cs t fz, W.heap[g]? = some (.cells cs t fz) ∧ ∀ (j : Nat) u, xs[j]? = some u → cs[o + j]? = some u := by
  obtain ⟨o', ho, hcl⟩ := cells_of_cell (hc 0 xs[0] (List.getElem?_eq_getElem hn))
  cases o' with
  | cells cs t fz => exact ⟨cs, t, fz, ho, fun j u hj => (cell_of_heap ho (o + j)).symm.trans (hc j u hj)⟩
  | _ => cases hcl
theorem recX_of {Bx : Nat → Prop} {v : Value} {r : Bs} (h : Sc W c (0, 0) v (r.map bv)) (hx : ∀ b, c b = (0, 0) → ¬ Bx b) : RecX Bx W v r := by
  obtain ⟨a, cap, e, h1, h2, h3, h4⟩ := h
  rw [List.length_map] at e h1
  refine ⟨a, cap, e, h1, h2, h3, fun ad had hr => ?_⟩
  obtain ⟨s0, h5⟩ := h4 ad had
  have hn : 0 < (r.map bv).length := by rw [List.length_map]; omega
  obtain ⟨cs, t, fz, hh, hcs⟩ := cells_at (W := W) (g := ad.block) (o := ad.off) (xs := r.map bv) (fun j u hj => (h5 j u hj).2) hn
  exact ⟨s0, hx _ (h5 0 _ (List.getElem?_eq_getElem hn)).1, cs, t, fz, hh, hcs⟩
theorem pairs_of {Bx : Nat → Prop} {v : Value} {l : List Bs} (h : Bat W c (0, 0) (0, 0) v l) (hx : ∀ b, c b = (0, 0) → ¬ Bx b) (hl : l.length ≤ 1000000000) : ∃ L, Pairs Bx W v L ∧ L.map (·.2) = l := by
  obtain ⟨xs, ⟨a, cap, e, h1, h2, h3, h4⟩, hlen, hd⟩ := h
  have hzl : (xs.zip l).length = l.length := by rw [List.length_zip]; omega
  refine ⟨xs.zip l, ⟨a, cap, by rw [hzl, ← hlen]; exact e, by rw [hzl]; omega, fun h0 => ?_, fun x hxm => ?_⟩, List.map_snd_zip (by omega)⟩
  · have hn : 0 < xs.length := by omega
    cases a with
    | none => have := h3 rfl; omega
    | some ad =>
      obtain ⟨s0, h5⟩ := h4 ad rfl
      obtain ⟨cs, t, fz, hh, hcs⟩ := cells_at (W := W) (g := ad.block) (o := ad.off) (xs := xs) (fun j u hj => (h5 j u hj).2) hn
      refine ⟨ad.block, ad.off, cs, t, fz, ?_, hx _ (h5 0 _ (List.getElem?_eq_getElem hn)).1, hh, fun j x hj => hcs j x.1 (List.getElem?_zip_eq_some.1 hj).1⟩
      obtain ⟨b, off, s⟩ := ad
      cases s0; rfl
  · obtain ⟨j, hj⟩ := List.mem_iff_getElem?.1 hxm
    obtain ⟨e1, e2⟩ := List.getElem?_zip_eq_some.1 hj
    exact recX_of (hd j x.1 x.2 e1 e2) hx
theorem lists_of {Bx : Nat → Prop} : ∀ (xs : List Value) (ls : List (List Bs)), xs.length = ls.length → (∀ (i : Nat) x y, xs[i]? = some x → ls[i]? = some y → ∃ L, Pairs Bx W x L ∧ L.map (·.2) = y) →
    ∃ LL : List (Value × List (Value × Bs)), LL.map (·.1) = xs ∧ LL.map (fun x => x.2.map (·.2)) = ls ∧ ∀ x ∈ LL, Pairs Bx W x.1 x.2
  | [], [], _, _ => ⟨[], rfl, rfl, fun x h => by cases h⟩
  | [], _ :: _, h, _ => by cases h
  | _ :: _, [], h, _ => by cases h
  | x :: xs, y :: ls, h, hd => by
    obtain ⟨L, h1, h2⟩ := hd 0 x y rfl rfl
    obtain ⟨LL, h3, h4, h5⟩ := lists_of (Bx := Bx) xs ls (by simpa using h) (fun i x y hx hy => hd (i + 1) x y (by simpa using hx) (by simpa using hy))
    refine ⟨(x, L) :: LL, by simp [h3], by simp [h2, h4], fun z hz => ?_⟩
    rcases List.mem_cons.1 hz with rfl | hz
    · exact h1
    · exact h5 z hz
theorem pl_of {B : Nat} {Bx : Nat → Prop} {t : TypeId} {v : Value} {cf : Col} {ls : List (List Bs)} (G : Grow QL B W t v cf ls) (hx : ∀ b, Bx b → b < B) (hlen : ls.length ≤ 1000000000) (hb : ∀ y ∈ ls, y.length ≤ 1000000000) :
    ∃ LL, PL Bx W v LL ∧ LL.map (fun x => x.2.map (·.2)) = ls := by
  obtain ⟨⟨xs, ho, hq⟩, hc, hold, -⟩ := G
  have hl : xs.length = ls.length := by simpa using ho.1
  have hz : ∀ p : Nat × Nat, p ≠ (9, 9) → ∀ b, cf b = p → ¬ Bx b := fun p hp b hb h => by rw [hold b (hx b h)] at hb; exact hp hb.symm
  obtain ⟨LL, h1, h2, h3⟩ := lists_of (W := W) (Bx := Bx) xs ls hl (fun i x y hi hj => pairs_of (hq i x y hi hj) (hz (0, 0) (by decide)) (hb y (List.mem_of_getElem? hj)))
  have hLL : LL.length = ls.length := by rw [← h2, List.length_map]
  obtain ⟨a, cap, e, s1, s2, s3, s4⟩ := Sc.of_owns (c := cf) (q := (1, 0)) (show W.ownsRow 0 t 1 v xs.length xs by rw [hl]; exact ho) hc
  refine ⟨LL, ⟨a, cap, by rw [hLL, ← hl]; exact e, by omega, fun h0 => ?_, h3⟩, h2⟩
  have hn : 0 < xs.length := by omega
  cases a with
  | none => have := s3 rfl; omega
  | some ad =>
    obtain ⟨s0, h5⟩ := s4 ad rfl
    obtain ⟨cs, t, fz, hh, hcs⟩ := cells_at (W := W) (g := ad.block) (o := ad.off) (xs := xs) (fun j u hj => (h5 j u hj).2) hn
    refine ⟨ad.block, ad.off, cs, t, fz, ?_, hz (1, 0) (by decide) _ (h5 0 _ (List.getElem?_eq_getElem hn)).1, hh, fun j x hj => hcs j x.1 ?_⟩
    · obtain ⟨b, off, s⟩ := ad
      cases s0; rfl
    · rw [← h1, List.getElem?_map, hj]; rfl
theorem grown_of_kp (h : ∀ c S, Kp c S w w') : w.grownBy w' none := by
  have hk := h (fun _ => (0, 0)) (fun _ => False)
  exact ⟨hk.os, hk.tape, hk.output, hk.size, fun b hb _ => hk.block b hb (fun h => h)⟩
variable {kl lb d : Nat} {nm : Dk.Nm} {vl : Value} {ls : List (List Bs)} {size : Nat} {dirty : Bool}
/-- What Each asks of Batches. -/
theorem each_batches (Bx : Nat → Prop) (hBx : ∀ b, Bx b → b < w.heap.size) (L : LogAt w c kl lb d nm vl ls size dirty) (hl : ls.length ≤ 100000000) (hb : ∀ y ∈ ls, y.length ≤ 1000000000 ∧ ∀ r ∈ y, r.length ≤ lim) :
    ∀ W, Below w.heap.size w W → Calls Tryz.prog 85 #[.pointer (some ⟨lb, 0, none⟩)] W fun e w' => ∃ v LL, e = .returned v ∧ W.grownBy w' none ∧ PL Bx w' v LL ∧ (flw 0 LL).length ≤ posN ls ls.length ∧ (flw 0 LL).map (fun x => (x.1, x.2.2)) = flatN 0 ls := by
  intro W hW
  have LW := L.kp (S := fun _ => False) (Kp.of_below hW) (fun h => h) (fun h => h) (fun h => h) (Cx.refl _ _)
  refine (wbatches_c LW hl hb).mono ?_
  rintro e w' ⟨v', cf, rfl, G, hk⟩
  obtain ⟨LL, h1, h2⟩ := pl_of (Bx := Bx) G (fun b hb => Nat.lt_of_lt_of_le (hBx b hb) hW.size) (by omega) (fun y hy => (hb y hy).1)
  have h3 := flw_flat LL 0
  rw [h2] at h3
  refine ⟨v', LL, rfl, grown_of_kp hk, h1, ?_, h3⟩
  rw [← flatN_length ls 0, ← h3, List.length_map]
  exact Nat.le_refl _
end Go.Proofs.YtnifmoigalmcmaaGreat
