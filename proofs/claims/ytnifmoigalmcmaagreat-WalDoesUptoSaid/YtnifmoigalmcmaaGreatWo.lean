/- WalDoes' steps over its state. -/
import Derived.Test.YtnifmoigalmcmaaGreatWk
import Derived.Test.YtnifmoigalmcmaaGreatWm
import Derived.Test.YtnifmoigalmcmaaGreatZc
namespace Go.Proofs.YtnifmoigalmcmaaGreat
open Go Go.RowKit Dk
open Wl
variable {c c' : Col} {w w' wi : World} {S : Nat × Nat → Prop} {q : Nat × Nat}
variable {d r : Nat} {A A2 B : ADisk} {x y : Option (Nat × Lg)} {Ts Ts' Us : List Th}
/-- Both logs hold the same, or there is none. -/
def Pr (i : Nat) (x y : Option (Nat × Lg)) : Prop := (x = none ∧ y = none) ∨ ∃ lx ly g, x = some (lx, g) ∧ y = some (ly, g) ∧ LgOk g i
theorem ws_looks {lx ly i : Nat} {g : Lg} (h : WS w d r A A2 (some (lx, g)) (some (ly, g)) Ts wi) (hg : LgOk g i) (hi : i ≤ 41) :
    Calls Tryz.prog 25 #[.pointer (some ⟨lx, 0, none⟩), .pointer (some ⟨ly, 0, none⟩)] wi fun e w' => e = .returned (.bool true) ∧ WS w d r A A2 (some (lx, g)) (some (ly, g)) Ts w' := by
  obtain ⟨ci, hc, hk, D, R, ⟨vx, X⟩, ⟨vy, Y⟩, hT⟩ := h
  have h1 := hg.size; have h2 := hg.len
  refine (wlooks_c (ls := g.ls) (size := g.size) wi X Y (by omega) hg.small (by omega)).mono ?_
  rintro e w' ⟨he, hk'⟩
  exact ⟨he, WS.quiet hc hk D R ⟨vx, X⟩ ⟨vy, Y⟩ hT (Cx.refl _ _) hk' fun t ht => .inl ht⟩
theorem WS.r6 (h : WS w d r A A2 x y Ts wi) : wi.cell? ⟨r, 6, none⟩ = some (.int .i64 A2.ops) := by
  obtain ⟨ci, hc, hk, D, ⟨vk, vf, vu, vF, F, R⟩, _⟩ := h
  exact R.c6
theorem ws_row (h : WS w d r A A2 x y Ts wi) {v : Value} {b : List UInt8} (ho : w'.ownsRow 0 5 1 v b.length (b.map bv)) (hf : ∀ g, v.ownBlock = some g → wi.heap.size ≤ g) (hk' : ∀ c S, Kp c S wi w') : WS w d r A A2 x y (.row v b :: Ts) w' := by
  obtain ⟨ci, hc, hk, D, R, X, Y, hT⟩ := h
  refine WS.quiet hc hk D R X Y hT (newCol_cx wi ci (0, 0)) (fun S => hk' ci S) fun t ht => ?_
  rcases List.mem_cons.1 ht with rfl | h
  · exact .inr (Sc.of_owns (show w'.ownsRow 0 5 1 v (b.map bv).length (b.map bv) by rw [List.length_map]; exact ho) (fun g hg => if_neg (Nat.not_lt.2 (hf g hg))))
  · exact .inl h
theorem ws_xopen_ok (h : WS w d r A A2 x y Ts wi) (hops : A.ops < 899980) (he : (lopen A LOGn).1 = 0) :
    Calls Tryz.prog 14 #[.pointer (some ⟨d, 0, none⟩), LOGv] wi fun e w' => ∃ lb, e = .returned (.tuple #[.pointer (some ⟨lb, 0, none⟩), .int .i64 0]) ∧ WS w d r (lopen A LOGn).2.1 A2 (some (lb, (lopen A LOGn).2.2)) y Ts w' := by
  refine (ws_xopen h hops).mono ?_
  rintro e w' ⟨lb, h1, h2⟩
  unfold lnew at h1 h2
  rw [if_pos he] at h1 h2
  exact ⟨lb, by rw [h1, he]; rfl, h2⟩
theorem ws_xopen_no (h : WS w d r A A2 x y Ts wi) (hops : A.ops < 899980) (he : ¬ (lopen A LOGn).1 = 0) :
    Calls Tryz.prog 14 #[.pointer (some ⟨d, 0, none⟩), LOGv] wi fun e w' => e = .returned (.tuple #[.pointer none, .int .i64 (lopen A LOGn).1]) ∧ WS w d r (lopen A LOGn).2.1 A2 none y Ts w' := by
  refine (ws_xopen h hops).mono ?_
  rintro e w' ⟨lb, h1, h2⟩
  unfold lnew at h1 h2
  rw [if_neg he] at h1 h2
  exact ⟨by rw [h1]; rfl, h2⟩
theorem ws_yopen_ok (h : WS w d r A A2 x y Ts wi) (hops : A2.ops < 899980) (he : (lopen A2 LOGn).1 = 0) :
    Calls Tryz.prog 15 #[.pointer (some ⟨r, 0, none⟩), LOGv] wi fun e w' => ∃ lb, e = .returned (.tuple #[.pointer (some ⟨lb, 0, none⟩), .int .i64 0]) ∧ WS w d r A (lopen A2 LOGn).2.1 x (some (lb, (lopen A2 LOGn).2.2)) Ts w' := by
  refine (ws_yopen h hops).mono ?_
  rintro e w' ⟨lb, h1, h2⟩
  unfold lnew at h1 h2
  rw [if_pos he] at h1 h2
  exact ⟨lb, by rw [h1, he]; rfl, h2⟩
theorem ws_yopen_no (h : WS w d r A A2 x y Ts wi) (hops : A2.ops < 899980) (he : ¬ (lopen A2 LOGn).1 = 0) :
    Calls Tryz.prog 15 #[.pointer (some ⟨r, 0, none⟩), LOGv] wi fun e w' => e = .returned (.tuple #[.pointer none, .int .i64 (lopen A2 LOGn).1]) ∧ WS w d r A (lopen A2 LOGn).2.1 x none Ts w' := by
  refine (ws_yopen h hops).mono ?_
  rintro e w' ⟨lb, h1, h2⟩
  unfold lnew at h1 h2
  rw [if_neg he] at h1 h2
  exact ⟨by rw [h1]; rfl, h2⟩
theorem ws_mine' (h : WS w d r A A2 x y Ts wi) {v : Value} {l : List Bs} {q1 q2 : Nat × Nat} (hb : BatW w c00 q1 q2 v l) (hl : l.length ≤ 1000000000) (hbl : ∀ r ∈ l, r.length ≤ lim) :
    Calls Tryz.prog 16 #[v] wi fun e w' => ∃ a k, e = .returned (.slice a l.length k) ∧ WS w d r A A2 x y (.mine (.slice a l.length k) l :: .xo (.slice a l.length k) (l.map List.length) :: Ts) w' := by
  refine (ws_mine h hb hl hbl).mono ?_
  rintro e w' ⟨v', he, hs⟩
  obtain ⟨a, k, rfl⟩ : ∃ a k, v' = .slice a l.length k := by
    obtain ⟨ci, _, _, _, _, _, _, hT⟩ := hs
    obtain ⟨a, k, e, _⟩ := (show XO w' ci v' (l.map List.length) from hT (.xo v' (l.map List.length)) (by simp))
    rw [List.length_map] at e
    exact ⟨a, k, e⟩
  exact ⟨a, k, he, hs⟩
/-- An element of one's own batch. -/
theorem ws_elem (h : WS w d r A A2 x y Ts wi) {a : Option Addr} {k n : Nat} {ns : List Nat} (hm : Th.xo (.slice a n k) ns ∈ Ts) {j m : Nat} (hj : ns[j]? = some m) :
    ∃ g ad cp, a = some ⟨g, 0, none⟩ ∧ wi.cell? ⟨g, j, none⟩ = some (.slice ad m cp) := by
  obtain ⟨ci, _, _, _, _, _, _, hT⟩ := h
  obtain ⟨a', k', e, h1⟩ := (show XO wi ci (.slice a n k) ns from hT _ hm)
  injection e with e1 e2 e3
  subst e1
  obtain ⟨g, rfl, _, h2⟩ := h1 (by have := (List.getElem?_eq_some_iff.1 hj).1; omega)
  obtain ⟨e, h3, ad, cp, rfl, _⟩ := h2 j m hj
  exact ⟨g, ad, cp, rfl, h3⟩
/-- A byte of one's own batch: what it is, and that it may be turned. -/
theorem ws_byte (h : WS w d r A A2 x y Ts wi) {a : Option Addr} {k n : Nat} {ns : List Nat} (hm : Th.xo (.slice a n k) ns ∈ Ts) (hu : ∀ t ∈ Us, t ∈ Ts ∧ ∃ b o, t = .box b o) {j m : Nat} (hj : ns[j]? = some m) {i : Nat} (hi : i < m) :
    ∃ g g1 cp, ∃ u : UInt8, a = some ⟨g, 0, none⟩ ∧ wi.cell? ⟨g, j, none⟩ = some (.slice (some ⟨g1, 0, none⟩) m cp) ∧ wi.cell? ⟨g1, i, none⟩ = some (.int .u8 (u.toNat : Int)) ∧ wi.frozen? ⟨g1, i, none⟩ = false ∧
      ∀ u' : UInt8, WS w d r A A2 x y (.xo (.slice a n k) ns :: Us) (wi.setCell ⟨g1, i, none⟩ (.int .u8 (u'.toNat : Int))) := by
  have h' := h
  obtain ⟨ci, hc, hk, D, R, X, Y, hT⟩ := h'
  obtain ⟨a', k', e, h1⟩ := (show XO wi ci (.slice a n k) ns from hT _ hm)
  injection e with e1 e2 e3
  subst e1
  have hpos : 0 < ns.length := by have := (List.getElem?_eq_some_iff.1 hj).1; omega
  obtain ⟨g, rfl, _, h2⟩ := h1 hpos
  obtain ⟨e, h3, ad, cp, rfl, h4⟩ := h2 j m hj
  obtain ⟨g1, rfl, h5, h6⟩ := h4 (by omega)
  obtain ⟨⟨u, h7⟩, h8⟩ := h6 i hi
  refine ⟨g, g1, cp, u, rfl, h3, h7, h8, fun u' => WS.turn (g := g1) (j := i) (u := u') h hm (fun cj hx => ?_) hu⟩
  obtain ⟨a2, k2, e', i1⟩ := (show XO wi cj (.slice (some ⟨g, 0, none⟩) n k) ns from hx)
  injection e' with f1 f2 f3
  subst f1
  obtain ⟨g', hg', _, i2⟩ := i1 hpos
  cases hg'
  obtain ⟨e2, i3, ad2, cp2, rfl, i4⟩ := i2 j m hj
  rw [h3] at i3
  cases i3
  obtain ⟨g3, hg3, i5, _⟩ := i4 (by omega)
  cases hg3
  exact i5
/-- The two disks that were made. -/
theorem ws_start {c4 c5 : Col} {w3 : World} {p : APlan} (hk : ∀ c S, Kp c S w w3) (hc : Cx w c00 c4) (D : DiskAt w3 c4 1 d (new_ p)) (hc' : Cx w3 c4 c5) (hk' : ∀ S, Kp c4 S w3 wi) (R : RD wi c5 2 r (new_ p)) : WS w d r (new_ p) (new_ p) none none [] wi :=
  ⟨c5, hc.trans hc' (hk c00 (fun _ => False)).size, fun S => (hk c00 S).trans (hk' S) hc, D.kp (hk' (fun _ => False)) (fun _ h => h.elim) hc', R, trivial, trivial, fun t ht => by cases ht⟩
theorem StepsAt.kp {v : Value} {l : List AStep} (h : StepsAt w c v l) (hk : Kp c S w w') (h0 : ¬ S (0, 0)) (hc : Cx w c c') : StepsAt w' c' v l := by
  obtain ⟨a, cap, e, h1, h2, h3⟩ := h
  refine ⟨a, cap, e, h1, h2, fun hn => ?_⟩
  obtain ⟨b, o, e2, h4⟩ := h3 hn
  refine ⟨b, o, e2, fun i hi => ?_⟩
  obtain ⟨vb, vk, vf, vu, vy, T⟩ := h4 i hi
  exact ⟨vb, vk, vf, vu, vy, T.kp hk h0 hc⟩
theorem lnew_isNone (lb : Nat) (R : Int × ADisk × Lg) : (lnew lb R).isNone = (R.1 != 0) := by
  unfold lnew
  by_cases h : R.1 = 0
  · rw [if_pos h, h]; rfl
  · rw [if_neg h]; simpa using h
theorem eql_x (lb : Nat) (R : Int × ADisk × Lg) (W : World) : (binOp .eql 33 (ptrO (lnew lb R)) (.pointer none)).run Tryz.prog W = .ok (.bool (R.1 != 0)) W := by
  rw [← lnew_isNone lb R]
  cases lnew lb R with
  | none => kernel_rfl
  | some z => kernel_rfl
theorem eql_y (lb : Nat) (R : Int × ADisk × Lg) (W : World) : (binOp .eql 37 (ptrO (lnew lb R)) (.pointer none)).run Tryz.prog W = .ok (.bool (R.1 != 0)) W := by
  rw [← lnew_isNone lb R]
  cases lnew lb R with
  | none => kernel_rfl
  | some z => kernel_rfl
theorem grd_x (lb : Nat) (R : Int × ADisk × Lg) (W : World) : (eqGuard .eql 33 (.tmp 40) (.const (.pointer none)) (ptrO (lnew lb R)) (.pointer none)).run Tryz.prog W = .ok () W := by
  cases lnew lb R with
  | none => kernel_rfl
  | some z => kernel_rfl
theorem grd_y (lb : Nat) (R : Int × ADisk × Lg) (W : World) : (eqGuard .eql 37 (.tmp 42) (.const (.pointer none)) (ptrO (lnew lb R)) (.pointer none)).run Tryz.prog W = .ok () W := by
  cases lnew lb R with
  | none => kernel_rfl
  | some z => kernel_rfl
theorem pr_new {i lx ly : Nat} {R : Int × ADisk × Lg} (h : LgOk R.2.2 i) : Pr i (lnew lx R) (lnew ly R) := by
  unfold lnew
  by_cases he : R.1 = 0
  · rw [if_pos he, if_pos he]; exact .inr ⟨lx, ly, _, rfl, rfl, h⟩
  · rw [if_neg he, if_neg he]; exact .inl ⟨rfl, rfl⟩
theorem files_le (h : WS w d r A A2 x y Ts wi) : (files A).length ≤ 4096 := by
  have := h.ok.many
  unfold files
  split
  · simp
  · simpa using this
theorem safe_le (h : WS w d r A A2 x y Ts wi) : (safe A).length ≤ 4096 := by
  have := h.ok.many
  unfold safe
  simpa using this
theorem xor_all : ((List.range 256).all fun n => decide (0 ≤ bits BinOp.xor IntKind.u8 (n : Int) 85) && decide (bits BinOp.xor IntKind.u8 (n : Int) 85 < 256)) = true := by kernel_rfl
theorem xor_byte (u : UInt8) : ∃ u' : UInt8, Value.int .u8 (bits BinOp.xor IntKind.u8 (u.toNat : Int) 85) = .int .u8 (u'.toNat : Int) := by
  have h := List.all_eq_true.1 xor_all u.toNat (List.mem_range.2 (UInt8.toNat_lt u))
  simp only [Bool.and_eq_true, decide_eq_true_eq] at h
  refine ⟨UInt8.ofNat (bits BinOp.xor IntKind.u8 (u.toNat : Int) 85).toNat, ?_⟩
  have h2 : (bits BinOp.xor IntKind.u8 (u.toNat : Int) 85).toNat < 256 := by omega
  have h3 : (UInt8.ofNat (bits BinOp.xor IntKind.u8 (u.toNat : Int) 85).toNat).toNat = (bits BinOp.xor IntKind.u8 (u.toNat : Int) 85).toNat := by
    rw [UInt8.toNat_ofNat']; exact Nat.mod_eq_of_lt h2
  rw [h3, Int.toNat_of_nonneg h.1]
theorem xor_turn {P : World → Prop} {wk : World} {a : Addr} {z : Value} (h : ∀ u' : UInt8, P (wk.setCell a (.int .u8 (u'.toNat : Int)))) (hz : ∃ u' : UInt8, z = .int .u8 (u'.toNat : Int)) : P (wk.setCell a z) := by
  obtain ⟨u', rfl⟩ := hz
  exact h u'
theorem pr_none (i : Nat) : Pr i none none := .inl ⟨rfl, rfl⟩
theorem pr_some {i : Nat} {lx ly : Nat} {g : Lg} (h : LgOk g i) : Pr i (some (lx, g)) (some (ly, g)) := .inr ⟨lx, ly, g, rfl, rfl, h⟩
theorem new_inv (p : APlan) : OpsInv (new_ p) 0 := ⟨(fun e => by cases e), by simp [new_], by simp [new_]⟩
end Go.Proofs.YtnifmoigalmcmaaGreat
