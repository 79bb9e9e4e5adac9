/- wal.Each on a log that nobody opened. -/
import Derived.Test.YtnifmoigalmcmaaGreatYl
import Derived.Test.YtnifmoigalmcmaaGreatEa
import Derived.Test.YtnifmoigalmcmaaGreatLt
namespace Go.Proofs.YtnifmoigalmcmaaGreat
open Go Go.RowKit Go.Shelf
open Wl
attribute [local go_sem] Oper.semAt_some
variable {c c' : Col} {w w' : World} {S : Nat × Nat → Prop} {q : Nat × Nat}
theorem weach_c (p : Option Addr) (w : World) : Calls Tryz.prog 86 #[.pointer p] w fun e w' => e = .returned (.func (.func 139) #[] #[.pointer (some ⟨w.heap.size, 0, none⟩)]) ∧ w' = w.alloc (.cells #[.pointer p] 33) := by
  go_enter Tryz.func86, Tryz.ntmps86
  go_wp2
  go_ret
  exact ⟨rfl, rfl⟩
theorem grown_alloc (W : World) (o : Obj) : W.grownBy (W.alloc o) none :=
  ⟨rfl, rfl, rfl, by simp, fun b hb _ => Below.heap_alloc _ _ _ hb⟩
end Go.Proofs.YtnifmoigalmcmaaGreat
/- Batches that came in (their parts' addresses are asked nothing where they are empty): twins, Good. -/
namespace Go.Proofs.YtnifmoigalmcmaaGreat
open Go Go.RowKit
open Wl
variable {c c' : Col} {w w' : World} {S : Nat × Nat → Prop} {q : Nat × Nat}
section
variable {P : Program}
/-- A slice that came in, appended to one that is owned. -/
theorem wpList_appendW {ops : Array Oper} {rest : List Oper} {o : Oper} {a : Act} {Q : Exit → Act → World → Prop} (hgd : o.guard = none) (s x : Operand) (t : TypeId)
    (ho : o.op = .call { callee := .builtin .append, args := #[s, x], argTypes := #[t, t] })
    (e : TypeId) (i : TypeInfo) (z : Value) (bytes : Nat) (ht : P.underlying t = some (.slice e)) (hi : P.info? e = some i) (hz : i.zero = some z)
    (hsize : i.size = 1) (hby : i.bytes = bytes) (hzs : z.cells.size = 1)
    (v : Value) (n : Nat) (xs0 : List Value) (hs : a.eval s = v) (hown : w.ownsRow 0 e 1 v n xs0)
    (vx : Value) (xs : List Value) (hx : a.eval x = vx) (h : Sw w c q vx xs) (h1 : ∀ u ∈ xs, u.oneCell' = true)
    (h63 : n + xs.length ≤ maxLen) (hbytes : (n + xs.length) * bytes ≤ 140737488355328)
    (hK : ∀ v' w', w'.ownsRow 0 e 1 v' (n + xs.length) (xs0 ++ xs) → w.grownBy w' v.ownBlock → (∀ g, v'.ownBlock = some g → v.ownBlock = some g ∨ w.heap.size ≤ g) → wpList P ops Q rest (a.put o.dst v') w') : wpList P ops Q (o :: rest) a w := by
  obtain ⟨ad, cap, rfl, hlc, hcm, hn0, hc⟩ := h
  cases ad with
  | none =>
    have h0 := hn0 rfl
    subst h0
    have hxs : xs = [] := List.eq_nil_of_length_eq_zero (by omega)
    subst hxs
    refine wpList_plain hgd fun K hK' => ?_
    have hrun := run_append_owned_none (P := P) (w := w) 0 t o.type e i 1 ht hi v n xs0 hown
    unfold Oper.wp
    simp [execOp, ho, resolve, invoke, builtin, hs, hx, hrun, Result.andThen]
    exact hK' _ _ (hK _ _ (by simpa using hown) ⟨rfl, rfl, rfl, Nat.le_refl _, fun _ _ _ => rfl⟩ (fun g hg => .inl hg))
  | some ad =>
    have hcell := hc ad rfl
    exact wpList_append2 hgd s x t ho e i z bytes ht hi hz hsize hby hzs v n xs0 hs hown ad xs.length cap xs hx rfl (fun j u hj => by rw [add_eq (hcell j u hj).1]; exact (hcell j u hj).2.2) h1 h63 hbytes hK
end
theorem Sc.wide {v : Value} {xs : List Value} (h : Sc w c q v xs) : Sw w c q v xs := by
  obtain ⟨a, cap, h1, h2, h3, h4, h5⟩ := h
  exact ⟨a, cap, h1, h2, h3, h4, fun ad had j u hj => ⟨(h5 ad had).1, (h5 ad had).2 j u hj⟩⟩
/-- A batch that came in. -/
def BatW (w : World) (c : Col) (q1 q2 : Nat × Nat) (v : Value) (l : List Bs) : Prop :=
  ∃ xs, Sw w c q1 v xs ∧ xs.length = l.length ∧ ∀ (i : Nat) x y, xs[i]? = some x → l[i]? = some y → Sw w c q2 x (y.map bv)
theorem Bat.wide {q1 q2 : Nat × Nat} {v : Value} {l : List Bs} (h : Bat w c q1 q2 v l) : BatW w c q1 q2 v l := by
  obtain ⟨xs, a, b, d⟩ := h
  exact ⟨xs, a.wide, b, fun i x y hx hy => (d i x y hx hy).wide⟩
theorem BatW.kp {q1 q2 : Nat × Nat} {v : Value} {l : List Bs} (h : BatW w c q1 q2 v l) (hk : Kp c S w w') (h1 : ¬ S q1) (h2 : ¬ S q2) (hc : Cx w c c') : BatW w' c' q1 q2 v l := by
  obtain ⟨xs, a, b, d⟩ := h
  exact ⟨xs, a.kp hk h1 hc, b, fun i x y hx hy => (d i x y hx hy).kp hk h2 hc⟩
theorem BatW.at {q1 q2 : Nat × Nat} {v : Value} {l : List Bs} (h : BatW w c q1 q2 v l) : (∃ a cap, v = .slice a 0 cap ∧ l = []) ∨ ∃ b o cap, v = .slice (some ⟨b, o, none⟩) l.length cap ∧ l.length ≤ cap ∧ cap ≤ maxLen ∧
    ∀ (j : Nat) (hj : j < l.length), ∃ a k, w.cell? ⟨b, o + j, none⟩ = some (.slice a l[j].length k) ∧ Sw w c q2 (.slice a l[j].length k) (l[j].map bv) := by
  obtain ⟨xs, ⟨a, cap, rfl, hlc, hcm, h0, hc⟩, hl, hx⟩ := h
  by_cases hn : l.length = 0
  · exact .inl ⟨a, cap, by rw [hl, hn], List.eq_nil_of_length_eq_zero hn⟩
  · right
    cases a with
    | none => have := h0 rfl; omega
    | some ad =>
      have h1 := (hc ad rfl 0 (xs[0]'(by omega)) (List.getElem?_eq_getElem _)).1
      obtain ⟨b, o, s⟩ := ad
      cases h1
      refine ⟨b, o, cap, by rw [hl], by omega, hcm, fun j hj => ?_⟩
      have hj' : j < xs.length := by omega
      have h1 := hx j xs[j] l[j] (List.getElem?_eq_getElem hj') (List.getElem?_eq_getElem hj)
      have h2 := (hc _ rfl j xs[j] (List.getElem?_eq_getElem hj')).2.2
      obtain ⟨a, k, he, h3⟩ := id h1
      rw [List.length_map] at he
      rw [he] at h1 h2
      exact ⟨a, k, h2, h1⟩
set_option maxRecDepth 20000 in
set_option maxHeartbeats 1000000 in
theorem twinsW_c (q1 q2 : Nat × Nat) (v : Value) (l : List Bs) (h : BatW w c q1 q2 v l) (hl : l.length ≤ 1000000000) (hb : ∀ r ∈ l, r.length ≤ lim) :
    Calls Tryz.prog 16 #[v] w fun e w' => ∃ v' cf, e = .returned v' ∧ Grow QB w.heap.size w' 41 v' cf l ∧ ∀ c S, Kp c S w w' := by
  obtain ⟨i0, hi, hz0, hz1, hz2⟩ := info_bytes
  have H6 := Lib.hid hi; have H7 := Lib.hid hz0; have H8 := Lib.hid hz1; have H9 := Lib.hid hz2; clear hi hz0 hz1 hz2
  obtain ⟨i1, hi, hz0, hz1, hz2⟩ := info_parts info_u8
  have J6 := Lib.hid hi; have J7 := Lib.hid hz0; have J8 := Lib.hid hz1; have J9 := Lib.hid hz2; clear hi hz0 hz1 hz2
  rcases h.at with ⟨a, cap, rfl, rfl⟩ | ⟨b, o, cap, rfl, hlc, hcm, hx⟩
  · go_enter Tryz.func16, Tryz.ntmps16
    go_wp2
    refine wp_loop_rounds 1 ?_
    rw [rounds_succ]
    go_wp2
    go_ret
    exact ⟨_, _, rfl, Grow.start _ (Nat.le_refl _), fun c S => Kp.refl c S w⟩
  · have HX := Lib.hid hx; have HB := Lib.hid hb; clear hx h hb
    go_enter Tryz.func16, Tryz.ntmps16
    go_wp2
    go_loopw [3, 8] (fun v s wr => ∃ i : Nat, i ≤ l.length ∧ s = .int .i64 i ∧ (∃ cf, Grow QB w.heap.size wr 41 v cf (l.take i)) ∧ ∀ c S, Kp c S w wr) (fun _ s _ => l.length - (intOf s).toNat)
    case atStart => exact ⟨0, by omega, rfl, ⟨_, Grow.start _ (Nat.le_refl _)⟩, fun c S => Kp.refl c S w⟩
    case round =>
      obtain ⟨i, hi, rfl, ⟨cf, G⟩, hK⟩ := hrel
      have HG := Lib.hid G; have HK := Lib.hid hK; clear G hK
      by_cases hlt : i < l.length
      · obtain ⟨a, k, gc, hsc⟩ := HX.out i hlt
        have g0 := (HK.out c (fun _ => False)).cell gc (fun h => h)
        have hbl := HB.out l[i] (List.getElem_mem hlt)
        have htk := List.take_succ_eq_append_getElem hlt
        obtain ⟨r, hr⟩ : ∃ r, r = l[i] := ⟨_, rfl⟩
        rw [← hr] at g0 hsc hbl htk
        have HS := Lib.hid (hsc.kp (HK.out c (fun _ => False)) (fun h => h) (Cx.refl _ _)); have HTK := Lib.hid htk; have HBL := Lib.hid hbl; clear gc hsc hr htk hbl
        obtain ⟨L, hL⟩ : ∃ L, L = l.take i := ⟨_, rfl⟩
        have hLl : L.length = i := by rw [hL, List.length_take]; omega
        rw [← hL] at HG HTK
        have HLL := Lib.hid hLl; clear hL hLl
        go_wp2_with (first
          | (at_builtin; refine wpList_append2 rfl _ _ _ rfl 41 i0 (.slice none 0 0) 24 Tryz.underlying40 H6.out H7.out H8.out H9.out rfl u3 L.length xs5 rfl HO5.out ⟨w4.heap.size, 0, none⟩ 1 1 [.slice a4 m4 k4] rfl rfl (one_new _ _ _) (fun u hu => by rw [List.mem_singleton.1 hu]; exact QB.stays.one HQ5.out) (by rw [HLL.out]; unfold maxLen; omega) (by rw [HLL.out]; omega) ?_; intro v6 w6 hown6 hg6 hf6; have G6 := Lib.hid (HG5.out.push QB.stays HO5.out HQ5.out hown6 hg6 hf6); have HK6 := Lib.hid (fun c S => ((HK4.out c S).alloc _).grown hg6 (fun g hg hlt => absurd (HG5.out.fresh g hg) (by omega))); clear hown6 hg6 hf6)
          | (at_builtin; refine wpList_appendW rfl _ _ _ rfl 5 i1 (.int .u8 0) 1 Tryz.underlying41 J6.out J7.out J8.out J9.out rfl (.slice none 0 0) 0 [] rfl (World.ownsRow_nil _ _ _ _) (.slice a r.length k) (r.map bv) rfl HS.out (one_bv r) (by rw [List.length_map]; have := HBL.out; unfold lim at this; unfold maxLen; omega) (by rw [List.length_map]; have := HBL.out; unfold lim at this; omega) ?_; intro v4 w4 ho4 hg4 hf4; rw [List.length_map, Nat.zero_add, List.nil_append] at ho4; obtain ⟨a4, m4, k4, rfl⟩ := own_slice ho4; have hk4 : ∀ c S, Kp c S wr w4 := (fun c S => Kp.of_grown hg4 (fun g hg => by cases hg)); obtain ⟨cg, xs5, g5, o5, q5⟩ := grow_clone HG.out ho4 (fun g hg => (hf4 g hg).elim (fun e => by cases e) id) hk4 (.cells #[.slice a4 m4 k4] 41); have HG5 := Lib.hid g5; have HO5 := Lib.hid o5; have HQ5 := Lib.hid q5; have HK4 := Lib.hid (fun c S => (HK.out c S).alloc_trans (hk4 c S)); clear g5 o5 q5 ho4 hg4 hf4 hk4))
        go_roundw
        case rel => exact ⟨i + 1, by omega, by go_num, ⟨_, by rw [HTK.out]; exact G6.out⟩, HK6.out⟩
        case measure => simp [intOf]; omega
      · obtain rfl : i = l.length := by omega
        go_wp2
        go_ret
        have := HG.out
        rw [List.take_length] at this
        exact ⟨_, _, rfl, this, HK.out⟩
set_option maxRecDepth 20000 in
set_option maxHeartbeats 1000000 in
theorem GoodW_c (q1 q2 : Nat × Nat) (v : Value) (l : List Bs) (h : BatW w c q1 q2 v l) (hl : l.length ≤ 1000000000) (hb : ∀ r ∈ l, r.length ≤ 1000000000) : Calls Tryz.prog 70 #[v] w fun e w' => e = .returned (.bool (good l)) ∧ w' = w := by
  rcases h.at with ⟨a, cap, rfl, rfl⟩ | ⟨b, o, cap, rfl, hlc, hcm, hx⟩
  · go_enter Tryz.func70, Tryz.ntmps70
    go_wp2
    go_ret
    exact ⟨rfl, rfl⟩
  · have HX := Lib.hid hx; clear hx h
    by_cases h1 : l.length < 1
    · have hg : good l = false := by unfold good; simp; omega
      have hl0 : l.length = 0 := by omega
      rw [hl0, hg]
      go_enter Tryz.func70, Tryz.ntmps70
      go_wp2
      go_ret
      exact ⟨rfl, rfl⟩
    · by_cases h2 : 4096 < l.length
      · have hg : good l = false := by unfold good; simp; omega
        rw [hg]
        go_enter Tryz.func70, Tryz.ntmps70
        go_wp2
        go_ret
        exact ⟨rfl, rfl⟩
      · have HB := Lib.hid hb; clear hb
        go_enter Tryz.func70, Tryz.ntmps70
        go_wp2
        have d1 : decide ((l.length : Int) < 1) = false := by simp; omega
        have d2 : decide ((4096 : Int) < l.length) = false := by simp; omega
        (try simp only [d1, d2, Bool.or_self])
        clear d1 d2
        go_loop [3, 16] (fun v s => ∃ i : Nat, i ≤ l.length ∧ s = .int .i64 i ∧ v = .int .i64 ((12 + sumTo l i : Nat) : Int) ∧ ∀ j (hj : j < l.length), j < i → l[j].length ≤ 1048576) (fun _ s => l.length - (intOf s).toNat)
        case atStart => exact ⟨0, by omega, rfl, rfl, fun _ _ h => absurd h (Nat.not_lt_zero _)⟩
        case round =>
          obtain ⟨i, hi, rfl, rfl, hr⟩ := hrel
          have hsum := sumTo_le l i hr
          have hs63 : sumTo l i ≤ 5000000000 := by have : i * 1048580 ≤ 4096 * 1048580 := Nat.mul_le_mul_right _ (by omega); omega
          by_cases hlt : i < l.length
          · obtain ⟨a, k, g, hsc⟩ := HX.out i hlt
            have hsucc := sumTo_succ l i hlt
            have hbi := HB.out l[i] (List.getElem_mem hlt)
            obtain ⟨m, hm⟩ : ∃ m, m = l[i].length := ⟨_, rfl⟩
            rw [← hm] at g hsucc hbi
            have HM := Lib.hid hm; have HR := Lib.hid hr; clear hm hr hsc
            obtain ⟨x, hx⟩ : ∃ x, x = sumTo l i := ⟨_, rfl⟩
            rw [← hx] at hsucc hsum hs63 ⊢
            have HSU := Lib.hid hsucc; have HX2 := Lib.hid hx; clear hsucc hx hsum
            by_cases hbig : 1048576 < m
            · have hg : good l = false := by
                have : ¬ l[i].length ≤ 1048576 := by rw [← HM.out]; omega
                unfold good
                simp only [decide_eq_false_iff_not]
                exact fun h => this (h.2.2.1 _ (List.getElem_mem hlt))
              have HG := Lib.hid hg; clear hg
              go_wp2
              go_ret
              exact ⟨by rw [HG.out]; rfl, rfl⟩
            · go_wp2
              go_round
              case rel =>
                refine ⟨i + 1, by omega, by go_num, ?_, fun j hj hji => ?_⟩
                · rw [HSU.out]; go_num
                · by_cases he : j = i
                  · subst he; rw [← HM.out]; omega
                  · exact HR.out j hj (by omega)
              case measure => simp [intOf]; omega
          · obtain rfl : i = l.length := by omega
            have hall : ∀ r ∈ l, r.length ≤ 1048576 := fun r hr' => by
              obtain ⟨j, hj, rfl⟩ := List.getElem_of_mem hr'
              exact hr j hj hj
            have hfull : sumTo l l.length = (l.map fun r => 4 + r.length).sum := by unfold sumTo; rw [List.take_length]
            obtain ⟨x, hx⟩ : ∃ x, x = sumTo l l.length := ⟨_, rfl⟩
            rw [← hx] at hsum hs63 hfull ⊢
            have hg : good l = decide ((((12 + x : Nat)) : Int) ≤ 16777216) := by
              unfold good
              rw [decide_eq_decide]
              constructor
              · intro h; rw [hfull]; have := h.2.2.2; omega
              · intro h; exact ⟨by omega, by omega, hall, by rw [← hfull]; omega⟩
            have HG := Lib.hid hg
            clear hr hall hfull hx hg hsum HX HB
            go_wp2
            go_ret
            refine ⟨?_, rfl⟩
            rw [HG.out]; simp
end Go.Proofs.YtnifmoigalmcmaaGreat
