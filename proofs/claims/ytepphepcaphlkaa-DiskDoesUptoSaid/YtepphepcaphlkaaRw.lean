/- The document's disk: Rename. -/
import Derived.Test.YtepphepcaphlkaaRs
import Derived.Test.YtepphepcaphlkaaR
namespace Go.Proofs.Ytepphepcaphlkaa
open Go Go.RowKit Go.MapKept Go.Maps
open Dk
variable {c c' : Col} {S : Nat × Nat → Prop} {w w' : World} {q : Nat × Nat}
theorem perm_rising : ∀ {a b : List (Nm × AFile)}, a.Perm b → Rising a → Rising b → a = b
  | [], b, h, _, _ => (List.Perm.nil_eq h)
  | x :: r, [], h, _, _ => absurd h.length_eq (by simp)
  | x :: r, y :: s, h, ha, hb => by
    obtain ⟨a1, a2⟩ := List.pairwise_cons.1 ha
    obtain ⟨b1, b2⟩ := List.pairwise_cons.1 hb
    have e : x = y := by
      rcases List.mem_cons.1 (h.mem_iff.1 (List.mem_cons_self ..)) with h1 | h1
      · exact h1
      · rcases List.mem_cons.1 (h.mem_iff.2 (List.mem_cons_self ..)) with h2 | h2
        · exact h2.symm
        · exact absurd (List.lt_trans (a1 y h2) (b1 x h1)) (List.lt_irrefl _)
    subst e
    rw [perm_rising (List.perm_cons _ |>.1 h) a2 b2]
theorem ins_same {fs : List (Nm × AFile)} (hr : Rising fs) {n : Nm} {f : AFile} (hg : get fs n = some f) : Dk.ins n f (Dk.del (Dk.del fs n) n) = fs := by
  have e : Dk.del (Dk.del fs n) n = Dk.del fs n := del_none del_get
  rw [e]
  exact perm_rising ((ins_perm n f _).trans (del_perm hr hg)) (ins_rising n f (del_rising n hr) (get_none del_get)) hr
theorem del_comm (fs : List (Nm × AFile)) (a b : Nm) : Dk.del (Dk.del fs a) b = Dk.del (Dk.del fs b) a := by
  unfold Dk.del
  rw [List.filter_filter, List.filter_filter]
  congr 1
  funext x
  exact Bool.and_comm _ _
theorem get_del_ne {fs : List (Nm × AFile)} {a b : Nm} (h : a ≠ b) : get (Dk.del fs b) a = get fs a := by
  induction fs with
  | nil => rfl
  | cons x r ih =>
    unfold Dk.del Dk.get at *
    rw [List.filter_cons]
    by_cases hx : x.1 = b
    · have h1 : (x.1 == b) = true := by simpa using hx
      have h2 : (x.1 == a) = false := by rw [hx]; simpa using Ne.symm h
      rw [h1]
      simp only [Bool.not_true, Bool.false_eq_true, if_false, List.find?_cons, h2]
      exact ih
    · have h1 : (x.1 == b) = false := by simpa using hx
      rw [h1]
      simp only [Bool.not_false, if_true, List.find?_cons]
      cases hxa : x.1 == a with
      | true => rfl
      | false => exact ih
theorem get_or (fs : List (Nm × AFile)) (n : Nm) : Dk.get fs n = none ∨ ∃ f, Dk.get fs n = some f := by cases Dk.get fs n <;> simp
def OutRest (k r i : Nat) (m : ADisk) (vk vf vu : Value) (F : List RFl) (x : RFl) (c : Col) (w w' : World) : Prop :=
  ∃ c' vF', Cx w c c' ∧ Kp c (fun q => q.1 = k) w w' ∧ RD' w' c' k r { m with files := Dk.del m.files x.n } vk vf vu vF' (F.eraseIdx i) ∧ RF w' c' k x ∧
    ∀ y ∈ F.eraseIdx i, ∀ g, x.vc.ownBlock = some g → y.vc.ownBlock ≠ some g
theorem out_c2 (k r : Nat) (m : ADisk) (vk vf vu vF : Value) (F : List RFl) (w : World) (D : RD' w c k r m vk vf vu vF F) (hk0 : k ≠ 0) {i : Nat} {x : RFl} (hx : F[i]? = some x) {a1 a2 : Value} (h1 : x.vs = a1) (h2 : x.vc = a2) :
    Calls Try.prog 71 #[ptr r, .int .i64 (i : Int)] w fun e w' => e = .returned (.agg #[.string ⟨x.n.toArray⟩, a1, a2]) ∧ OutRest k r i m vk vf vu F x c w w' := by
  refine (out_c k r m vk vf vu vF F w D hk0 hx).mono ?_
  rintro e w' ⟨he, hp⟩
  rw [h1, h2] at he
  exact ⟨he, hp⟩
theorem rput_c2 (k r : Nat) (m : ADisk) (vk vf vu vF : Value) (F : List RFl) (w : World) (D : RD' w c k r m vk vf vu vF F) (hk0 : k ≠ 0) (x : RFl) (n2 : Nm) (hx : RF w c k x) {a1 a2 : Value} (h1 : x.vs = a1) (h2 : x.vc = a2)
    (hap : ∀ y ∈ F, ∀ g, x.vc.ownBlock = some g → y.vc.ownBlock ≠ some g) (hnew : get m.files n2 = none) (hl : n2.length ≤ 32) (hm : m.files.length < 4096) (hf : x.f.ok m.ops.toNat) :
    Calls Try.prog 69 #[ptr r, .agg #[.string ⟨n2.toArray⟩, a1, a2]] w fun e w' => e = .returned (.tuple #[]) ∧ ∃ c', Cx w c c' ∧ Kp c (fun q => q.1 = k) w w' ∧ RD w' c' k r { m with files := Dk.ins n2 x.f m.files } := by
  have := rput_c k r m vk vf vu vF F w D hk0 ⟨n2, x.f, x.vs, x.vc, x.L⟩ ⟨hx.safe, hx.fst, hx.chs, hx.fold⟩ hap (fun y hy => get_none hnew _ (D.mem hy)) hl (by rw [← D.names, List.length_map] at hm; exact hm) hf
  simp only [h1, h2] at this
  exact this
set_option maxRecDepth 20000 in
set_option maxHeartbeats 4000000 in
theorem rrename_good (k r : Nat) (m : ADisk) (n n2 : Nm) (w : World) (DD : RD w c k r m) (hk0 : k ≠ 0) (hops : m.ops < 900000) (hn2 : n2.length ≤ maxLen) (f : AFile) (h : (begin_ m).1 = 0) (hg : get m.files n = some f) :
    Calls Try.prog 50 #[ptr r, .string ⟨n.toArray⟩, .string ⟨n2.toArray⟩] w (RPost k r (Dk.rename m n n2) c w) := by
  have e : Dk.rename m n n2 = (if named n2 = false then (15, { m with ops := m.ops + 1 }) else (0, { ({ m with ops := m.ops + 1 } : ADisk) with files := Dk.ins n2 f (Dk.del (Dk.del ({ m with ops := m.ops + 1 } : ADisk).files n) n2) })) := good_of h hg (fun f d => if named n2 = false then (15, d) else (0, { d with files := Dk.ins n2 f (Dk.del (Dk.del d.files n) n2) }))
  rw [e]
  clear e
  have hok : m.ok := by obtain ⟨_, _, _, _, _, D⟩ := DD; exact D.ok
  have HMANY := rmany hok hg
  have HB := rbegin_ok k r m w DD hk0 hops h
  have HO : ({ m with ops := m.ops + 1 } : ADisk).ops ≤ 1000000 := by show m.ops + 1 ≤ _; omega
  have HK0 := Lib.hid hk0
  have HG : get ({ m with ops := m.ops + 1 } : ADisk).files n = some f := hg
  clear DD hk0 hops h hg hok
  generalize ({ m with ops := m.ops + 1 } : ADisk) = m1 at HMANY HB HO HG ⊢
  have HB := Lib.hid HB
  have HO := Lib.hid HO
  have HG := Lib.hid HG
  have HMANY := Lib.hid HMANY
  unfold ptr at *
  have HNM := Lib.hid (fun W => rmay_str n2 W hn2)
  by_cases hnm : named n2 = false
  · rw [if_pos hnm]
    rw [hnm] at HNM
    clear hnm
    go_enter Try.func50, Try.ntmps50
    go_wp2_with (go_at_call 66; refine HB.out.mono ?_; rintro e w1 ⟨rfl, c1, hc1, hk1, D1⟩)
    obtain ⟨vk, vf, vu, vF, F, D⟩ := D1
    obtain ⟨i, x, hix, hxn, hxf, hfy⟩ := find_yes D n HG.out
    have hfy := hfy D
    unfold ptr at hfy
    have HFY := Lib.hid hfy
    have hi0 : (0 : Int) ≤ (i : Int) := Int.natCast_nonneg _
    have hilt : i < F.length := (List.getElem?_eq_some_iff.1 hix).1
    have hlen := D.len
    have hlen' : (F.length : Int) ≤ 4096 := by omega
    have hilt' : (i : Int) < (F.length : Int) := by omega
    have HC := Lib.hid hc1
    have HK := Lib.hid hk1
    have HD := Lib.hid D
    have HIX := Lib.hid hix
    have HXN := Lib.hid hxn
    have HXF := Lib.hid hxf
    obtain ⟨g, kf, e2, hlc, hcm, -, f0, f1, f2, -⟩ := D.files.cells hix
    have hr5 := D.c5
    rw [e2] at hr5
    have hrl : r < w1.heap.size := D.lt
    have hgl : g < w1.heap.size := World.block_lt_of_cell? _ _ f1
    have HE2 := Lib.hid e2
    have hRF := D.files.each x (List.mem_of_getElem? hix)
    obtain ⟨asx, ksx, evs, -⟩ := id hRF.safe
    obtain ⟨avc, kvc, evc⟩ := own_shape hRF.chs.own
    rw [List.length_map] at evs
    have hnow := (D.fok (List.mem_of_getElem? hix)).now
    have hnow' : (x.f.now.length : Int) ≤ 268435456 := by unfold maxFile at hnow; omega
    have hdc := fun W hW => data_c (c := c1) k x W hW (D.fok (List.mem_of_getElem? hix)) (by have := HO.out; omega) (D.nok (List.mem_of_getElem? hix))
    rw [evs] at f1 hdc
    rw [evc] at f2 hdc
    unfold str at f0
    have HDC := Lib.hid hdc
    have HRF := Lib.hid hRF
    clear hc1 hk1 D hix hxn hxf hfy e2 hlc hcm hRF evs evc hnow hdc hlen hilt
    go_wp2_with (first | (go_at_call 53; (with_reducible refine HFY.out.mono ?_); rintro e w2 ⟨rfl, rfl⟩) | (go_at_call 67; refine (HNM.out _).mono ?_; rintro e w2 ⟨rfl, rfl⟩))
    go_ret
    exact ⟨rfl, c1, HC.out, HK.out, vk, vf, vu, vF, F, HD.out⟩
  · rw [if_neg hnm]
    have hnm : named n2 = true := by simpa using hnm
    have HNL := Lib.hid (named_len hnm)
    rw [hnm] at HNM
    clear hnm
    by_cases heq : n = n2
    · subst heq
      have hee : (n == n) = true := by simp
      go_enter Try.func50, Try.ntmps50
      go_wp2_with (go_at_call 66; refine HB.out.mono ?_; rintro e w1 ⟨rfl, c1, hc1, hk1, D1⟩)
      obtain ⟨vk, vf, vu, vF, F, D⟩ := D1
      obtain ⟨i, x, hix, hxn, hxf, hfy⟩ := find_yes D n HG.out
      have hfy := hfy D
      unfold ptr at hfy
      have HFY := Lib.hid hfy
      have hi0 : (0 : Int) ≤ (i : Int) := Int.natCast_nonneg _
      have hilt : i < F.length := (List.getElem?_eq_some_iff.1 hix).1
      have hlen := D.len
      have hlen' : (F.length : Int) ≤ 4096 := by omega
      have hilt' : (i : Int) < (F.length : Int) := by omega
      have HC := Lib.hid hc1
      have HK := Lib.hid hk1
      have HD := Lib.hid D
      have HIX := Lib.hid hix
      have HXN := Lib.hid hxn
      have HXF := Lib.hid hxf
      obtain ⟨g, kf, e2, hlc, hcm, -, f0, f1, f2, -⟩ := D.files.cells hix
      have hr5 := D.c5
      rw [e2] at hr5
      have hrl : r < w1.heap.size := D.lt
      have hgl : g < w1.heap.size := World.block_lt_of_cell? _ _ f1
      have HE2 := Lib.hid e2
      have hRF := D.files.each x (List.mem_of_getElem? hix)
      obtain ⟨asx, ksx, evs, -⟩ := id hRF.safe
      obtain ⟨avc, kvc, evc⟩ := own_shape hRF.chs.own
      rw [List.length_map] at evs
      have hnow := (D.fok (List.mem_of_getElem? hix)).now
      have hnow' : (x.f.now.length : Int) ≤ 268435456 := by unfold maxFile at hnow; omega
      have hdc := fun W hW => data_c (c := c1) k x W hW (D.fok (List.mem_of_getElem? hix)) (by have := HO.out; omega) (D.nok (List.mem_of_getElem? hix))
      rw [evs] at f1 hdc
      rw [evc] at f2 hdc
      unfold str at f0
      have HDC := Lib.hid hdc
      have HRF := Lib.hid hRF
      clear hc1 hk1 D hix hxn hxf hfy e2 hlc hcm hRF evs evc hnow hdc hlen hilt
      go_wp2_with (first | (go_at_call 53; (with_reducible refine HFY.out.mono ?_); rintro e w2 ⟨rfl, rfl⟩) | (go_at_call 67; refine (HNM.out _).mono ?_; rintro e w2 ⟨rfl, rfl⟩))
      go_ret
      refine ⟨rfl, c1, HC.out, HK.out, vk, vf, vu, vF, F, ?_⟩
      show RD' _ _ _ _ { m1 with files := Dk.ins n f (Dk.del (Dk.del m1.files n) n) } _ _ _ _ _
      rw [ins_same HD.out.ok.rising HG.out]
      exact HD.out
    · have hee : (n == n2) = false := by simpa using heq
      have HEQ := Lib.hid heq; clear heq
      have HNONE := Lib.hid (show get (Dk.del (Dk.del m1.files n2) n) n2 = none by rw [get_del_ne (Ne.symm HEQ.out)]; exact del_get)
      rcases get_or m1.files n2 with hg2 | ⟨f2, hg2⟩
      · have HG2 := Lib.hid hg2
        have e5 : Dk.del m1.files n2 = m1.files := del_none hg2
        have e6 : Dk.del (Dk.del m1.files n) n2 = Dk.del m1.files n := by rw [del_comm, e5]
        rw [e6]
        rw [e5] at HNONE
        clear hg2 e5 e6
        go_enter Try.func50, Try.ntmps50
        go_wp2_with (go_at_call 66; refine HB.out.mono ?_; rintro e w1 ⟨rfl, c1, hc1, hk1, D1⟩)
        obtain ⟨vk, vf, vu, vF, F, D⟩ := D1
        obtain ⟨i, x, hix, hxn, hxf, hfy⟩ := find_yes D n HG.out
        have hfy := hfy D
        unfold ptr at hfy
        have HFY := Lib.hid hfy
        have hi0 : (0 : Int) ≤ (i : Int) := Int.natCast_nonneg _
        have hilt : i < F.length := (List.getElem?_eq_some_iff.1 hix).1
        have hlen := D.len
        have hlen' : (F.length : Int) ≤ 4096 := by omega
        have hilt' : (i : Int) < (F.length : Int) := by omega
        have HC := Lib.hid hc1
        have HK := Lib.hid hk1
        have HD := Lib.hid D
        have HIX := Lib.hid hix
        have HXN := Lib.hid hxn
        have HXF := Lib.hid hxf
        obtain ⟨g, kf, e2, hlc, hcm, -, f0, f1, f2, -⟩ := D.files.cells hix
        have hr5 := D.c5
        rw [e2] at hr5
        have hrl : r < w1.heap.size := D.lt
        have hgl : g < w1.heap.size := World.block_lt_of_cell? _ _ f1
        have HE2 := Lib.hid e2
        have hRF := D.files.each x (List.mem_of_getElem? hix)
        obtain ⟨asx, ksx, evs, -⟩ := id hRF.safe
        obtain ⟨avc, kvc, evc⟩ := own_shape hRF.chs.own
        rw [List.length_map] at evs
        have hnow := (D.fok (List.mem_of_getElem? hix)).now
        have hnow' : (x.f.now.length : Int) ≤ 268435456 := by unfold maxFile at hnow; omega
        have hdc := fun W hW => data_c (c := c1) k x W hW (D.fok (List.mem_of_getElem? hix)) (by have := HO.out; omega) (D.nok (List.mem_of_getElem? hix))
        rw [evs] at f1 hdc
        rw [evc] at f2 hdc
        unfold str at f0
        have HDC := Lib.hid hdc
        have HRF := Lib.hid hRF
        clear hc1 hk1 D hix hxn hxf hfy e2 hlc hcm hRF evs evc hnow hdc hlen hilt
        have HLT := Lib.hid (show (Dk.del m1.files n).length < 4096 from del_lt HD.out.ok HG.out)
        go_wp2_with (first | (go_at_call 53; (with_reducible refine HFY.out.mono ?_); rintro e w2 ⟨rfl, rfl⟩) | (go_at_call 67; refine (HNM.out _).mono ?_; rintro e w2 ⟨rfl, rfl⟩))
        have hfn := find_no HD.out n2 HG2.out
        unfold ptr at hfn
        have HFN := Lib.hid hfn; clear hfn
        go_wp2_with (go_at_call 53; (with_reducible refine HFN.out.mono ?_); rintro e w2 ⟨rfl, rfl⟩)
        obtain ⟨i2, y, hiy, hyn, hyf, hfy2⟩ := find_yes HD.out n HG.out
        have hfy2 := hfy2 HD.out
        unfold ptr at hfy2
        have HFZ := Lib.hid hfy2
        have hRy := (HD.out).files.each y (List.mem_of_getElem? hiy)
        have hyok := (HD.out).fok (List.mem_of_getElem? hiy)
        obtain ⟨asy, ksy, eys, -⟩ := id hRy.safe
        obtain ⟨avy, kvy, eyc⟩ := own_shape hRy.chs.own
        rw [List.length_map] at eys
        have HEYS := Lib.hid eys
        have HEYC := Lib.hid eyc
        have HYN := Lib.hid hyn
        have HYF := Lib.hid hyf
        have HYOK := Lib.hid hyok
        have HOUT := Lib.hid (out_c2 k r _ vk vf vu _ _ _ (HD.out) HK0.out hiy eys eyc)
        have hi20 : (0 : Int) ≤ (i2 : Int) := Int.natCast_nonneg _
        clear hiy hyn hyf hfy2 hRy hyok eys eyc
        go_wp2_with (first | (go_at_call 53; (with_reducible refine HFZ.out.mono ?_); rintro e w2 ⟨rfl, rfl⟩) | (go_at_call 71; refine HOUT.out.mono ?_; rintro e wb ⟨rfl, hp⟩; obtain ⟨cb, vFb, hb1, hb2, hb3, hb4, hb5⟩ := hp; have HB1 := Lib.hid hb1; have HB2 := Lib.hid hb2; have HB3 := Lib.hid hb3; have HB4 := Lib.hid hb4; have HB5 := Lib.hid hb5; clear hb1 hb2 hb3 hb4 hb5) | (go_at_call 69; refine (rput_c2 (c := cb) k r _ vk vf vu vFb _ _ (HB3.out.kp (S := S2F) ((Kp.refl _ _ _).alloc _) (fun _ h => h.elim) (Cx.refl _ _)) HK0.out y n2 (HB4.out.kp ((Kp.refl _ S2F _).alloc _) (fun h => h) (fun _ _ h => h) (Cx.refl _ _)) HEYS.out HEYC.out HB5.out (by rw [HYN.out]; exact HNONE.out) HNL.out (by rw [HYN.out]; exact HLT.out) HYOK.out).mono ?_; rintro e wp ⟨rfl, hp⟩; have HP := Lib.hid hp; clear hp))
        go_ret
        obtain ⟨cp, hp1, hp2, hp3⟩ := HP.out
        rw [HYN.out, HYF.out] at hp3
        exact ⟨rfl, cp, HC.out.trans (HB1.out.trans (fun b hb => hp1 b (by simp; omega)) HB2.out.size) HK.out.size, HK.out.trans (HB2.out.trans (((Kp.refl _ _ _).alloc _).trans hp2 (Cx.refl _ _)) HB1.out) HC.out, hp3⟩
      · have HG2 := Lib.hid hg2
        clear hg2
        rw [del_comm]
        go_enter Try.func50, Try.ntmps50
        go_wp2_with (go_at_call 66; refine HB.out.mono ?_; rintro e w1 ⟨rfl, c1, hc1, hk1, D1⟩)
        obtain ⟨vk, vf, vu, vF, F, D⟩ := D1
        obtain ⟨i, x, hix, hxn, hxf, hfy⟩ := find_yes D n HG.out
        have hfy := hfy D
        unfold ptr at hfy
        have HFY := Lib.hid hfy
        have hi0 : (0 : Int) ≤ (i : Int) := Int.natCast_nonneg _
        have hilt : i < F.length := (List.getElem?_eq_some_iff.1 hix).1
        have hlen := D.len
        have hlen' : (F.length : Int) ≤ 4096 := by omega
        have hilt' : (i : Int) < (F.length : Int) := by omega
        have HC := Lib.hid hc1
        have HK := Lib.hid hk1
        have HD := Lib.hid D
        have HIX := Lib.hid hix
        have HXN := Lib.hid hxn
        have HXF := Lib.hid hxf
        obtain ⟨g, kf, e2, hlc, hcm, -, f0, f1, f2, -⟩ := D.files.cells hix
        have hr5 := D.c5
        rw [e2] at hr5
        have hrl : r < w1.heap.size := D.lt
        have hgl : g < w1.heap.size := World.block_lt_of_cell? _ _ f1
        have HE2 := Lib.hid e2
        have hRF := D.files.each x (List.mem_of_getElem? hix)
        obtain ⟨asx, ksx, evs, -⟩ := id hRF.safe
        obtain ⟨avc, kvc, evc⟩ := own_shape hRF.chs.own
        rw [List.length_map] at evs
        have hnow := (D.fok (List.mem_of_getElem? hix)).now
        have hnow' : (x.f.now.length : Int) ≤ 268435456 := by unfold maxFile at hnow; omega
        have hdc := fun W hW => data_c (c := c1) k x W hW (D.fok (List.mem_of_getElem? hix)) (by have := HO.out; omega) (D.nok (List.mem_of_getElem? hix))
        rw [evs] at f1 hdc
        rw [evc] at f2 hdc
        unfold str at f0
        have HDC := Lib.hid hdc
        have HRF := Lib.hid hRF
        clear hc1 hk1 D hix hxn hxf hfy e2 hlc hcm hRF evs evc hnow hdc hlen hilt
        go_wp2_with (first | (go_at_call 53; (with_reducible refine HFY.out.mono ?_); rintro e w2 ⟨rfl, rfl⟩) | (go_at_call 67; refine (HNM.out _).mono ?_; rintro e w2 ⟨rfl, rfl⟩))
        obtain ⟨j, z, hjz, hzn, hzf, hfz⟩ := find_yes HD.out n2 HG2.out
        have hfz := hfz HD.out
        unfold ptr at hfz
        have HFJ := Lib.hid hfz
        have hj0 : (0 : Int) ≤ (j : Int) := Int.natCast_nonneg _
        have HZN := Lib.hid hzn
        have HOJ := Lib.hid (out_c k r _ vk vf vu _ _ _ HD.out HK0.out hjz)
        clear hjz hzn hzf hfz
        go_wp2_with (first | (go_at_call 53; (with_reducible refine HFJ.out.mono ?_); rintro e w2 ⟨rfl, rfl⟩) | (go_at_call 71; refine HOJ.out.mono ?_; rintro e wa ⟨rfl, hp⟩; obtain ⟨ca, vFa, ha1, ha2, ha3, -, -⟩ := hp; rw [HZN.out] at ha3; have HA1 := Lib.hid ha1; have HA2 := Lib.hid ha2; have HA3 := Lib.hid ha3; clear ha1 ha2 ha3))
        have HGA := Lib.hid (show get ({ m1 with files := Dk.del m1.files n2 } : ADisk).files n = some f by show get (Dk.del m1.files n2) n = _; rw [get_del_ne HEQ.out]; exact HG.out)
        have HLT := Lib.hid (show (Dk.del (Dk.del m1.files n2) n).length < 4096 from del_lt HA3.out.ok HGA.out)
        obtain ⟨i2, y, hiy, hyn, hyf, hfy2⟩ := find_yes HA3.out n HGA.out
        have hfy2 := hfy2 HA3.out
        unfold ptr at hfy2
        have HFZ := Lib.hid hfy2
        have hRy := (HA3.out).files.each y (List.mem_of_getElem? hiy)
        have hyok := (HA3.out).fok (List.mem_of_getElem? hiy)
        obtain ⟨asy, ksy, eys, -⟩ := id hRy.safe
        obtain ⟨avy, kvy, eyc⟩ := own_shape hRy.chs.own
        rw [List.length_map] at eys
        have HEYS := Lib.hid eys
        have HEYC := Lib.hid eyc
        have HYN := Lib.hid hyn
        have HYF := Lib.hid hyf
        have HYOK := Lib.hid hyok
        have HOUT := Lib.hid (out_c2 k r _ vk vf vu _ _ _ (HA3.out) HK0.out hiy eys eyc)
        have hi20 : (0 : Int) ≤ (i2 : Int) := Int.natCast_nonneg _
        clear hiy hyn hyf hfy2 hRy hyok eys eyc
        go_wp2_with (first | (go_at_call 53; (with_reducible refine HFZ.out.mono ?_); rintro e w2 ⟨rfl, rfl⟩) | (go_at_call 71; refine HOUT.out.mono ?_; rintro e wb ⟨rfl, hp⟩; obtain ⟨cb, vFb, hb1, hb2, hb3, hb4, hb5⟩ := hp; have HB1 := Lib.hid hb1; have HB2 := Lib.hid hb2; have HB3 := Lib.hid hb3; have HB4 := Lib.hid hb4; have HB5 := Lib.hid hb5; clear hb1 hb2 hb3 hb4 hb5) | (go_at_call 69; refine (rput_c2 (c := cb) k r _ vk vf vu vFb _ _ (HB3.out.kp (S := S2F) ((Kp.refl _ _ _).alloc _) (fun _ h => h.elim) (Cx.refl _ _)) HK0.out y n2 (HB4.out.kp ((Kp.refl _ S2F _).alloc _) (fun h => h) (fun _ _ h => h) (Cx.refl _ _)) HEYS.out HEYC.out HB5.out (by rw [HYN.out]; exact HNONE.out) HNL.out (by rw [HYN.out]; exact HLT.out) HYOK.out).mono ?_; rintro e wp ⟨rfl, hp⟩; have HP := Lib.hid hp; clear hp))
        go_ret
        obtain ⟨cp, hp1, hp2, hp3⟩ := HP.out
        rw [HYN.out, HYF.out] at hp3
        exact ⟨rfl, cp, HC.out.trans (HA1.out.trans (HB1.out.trans (fun b hb => hp1 b (by simp; omega)) HB2.out.size) HA2.out.size) HK.out.size, HK.out.trans (HA2.out.trans (HB2.out.trans (((Kp.refl _ _ _).alloc _).trans hp2 (Cx.refl _ _)) HB1.out) HA1.out) HC.out, hp3⟩
end Go.Proofs.Ytepphepcaphlkaa
/- The document's disk: Sync. -/
namespace Go.Proofs.Ytepphepcaphlkaa
open Go Go.RowKit Go.MapKept Go.Maps
open Dk
variable {c c' : Col} {S : Nat × Nat → Prop} {w w' : World} {q : Nat × Nat}
theorem below_drewN {w1 w2 : World} {n : Nat} (h : Below (w1.drewN n).heap.size (w1.drewN n) w2) : Below w1.heap.size w1 w2 := ⟨h.os, h.tape, h.output, h.size, h.block⟩
theorem sync_end {k r i g kf a2 : Nat} {a : Option Addr} {m : ADisk} {vk vf vu : Value} {F : List RFl} {w2 w3 : World} {x : RFl} (D : RD' w c k r m vk vf vu (.slice (some ⟨g, 0, none⟩) F.length kf) F) (hx : F[i]? = some x)
    (h2 : Below w.heap.size w w2) (ho : w2.ownsRow w.heap.size 5 1 (.slice a x.f.now.length a2) x.f.now.length (x.f.now.map bv))
    (h3 : w3 = (w2.setCell ⟨g, i * 3 + 1, none⟩ (.slice a x.f.now.length a2)).setCell ⟨g, i * 3 + 2, none⟩ (.slice none 0 0)) :
    RPost k r (0, { m with files := Dk.upd m.files x.n ⟨x.f.now, [], x.f.now⟩ }) c w (.returned (.int .i64 0)) w3 := by
  have hfok := D.fok (List.mem_of_getElem? hx)
  have hgc : c g = (k, 1) := D.files.col g rfl
  have hgl : g < w.heap.size := ownBlock_lt D.files.own g rfl
  have hvg : (Value.slice a x.f.now.length a2).ownBlock ≠ some g := fun e => by have := own_base ho g e; omega
  have hK : Kp c (fun q => q = (k, 1) ∨ ∃ g, x.vc.ownBlock = some g ∧ q = (k, g + 2)) w w3 := by
    rw [h3]
    exact ((Kp.of_below h2).setCell (fun _ => .inl hgc) _).setCell (fun _ => .inl hgc) _
  obtain ⟨c', hc'⟩ : ∃ c' : Col, c' = fun b => if b < w.heap.size then c b else (0, 0) := ⟨_, rfl⟩
  have hcx : Cx w c c' := by intro b hb; rw [hc']; exact if_pos hb
  obtain ⟨x', hx'⟩ : ∃ x' : RFl, x' = ⟨x.n, ⟨x.f.now, [], x.f.now⟩, .slice a x.f.now.length a2, .slice none 0 0, []⟩ := ⟨_, rfl⟩
  have hFo : w2.ownsRow 0 92 3 (.slice (some ⟨g, 0, none⟩) F.length kf) F.length (F.flatMap rfc) :=
    ownsRow_kp (c := c) (q := (k, 1)) (S := S2F) D.files.own (fun g' hg' => D.files.col g' hg') (Kp.of_below h2) (fun h => h)
  refine ⟨rfl, c', hcx, hK.mono ?_, vk, vf, vu, .slice (some ⟨g, 0, none⟩) F.length kf, F.set i x', ?_⟩
  · rintro q (rfl | ⟨g', _, rfl⟩) <;> rfl
  have e3 : ({ m with files := Dk.upd m.files x.n ⟨x.f.now, [], x.f.now⟩ } : ADisk) = { m with files := Dk.upd m.files x.n x'.f } := by rw [hx']
  show RD' w3 c' k r { m with files := Dk.upd m.files x.n ⟨x.f.now, [], x.f.now⟩ } vk vf vu _ _
  rw [e3]
  refine D.file1 hx hK hcx ?_ ?_ ?_ (by rw [hx']) ?_
  · have := RFs.set2 hFo hx (x' := x') (by rw [hx'])
    rw [hx'] at this ⊢
    rw [h3]; exact this
  · rw [hx']
    refine ⟨Sc.of_owns (base := w.heap.size) (e := 5) (n := x.f.now.length) ?_ (fun g' hg' => ?_), rfl, ⟨World.ownsRow_nil _ _ _ _, (fun p hp => by cases hp), (fun g hg => by cases hg)⟩, rfl⟩
    · rw [h3]; exact ownsRow_setCell_other (ownsRow_setCell_other ho hvg _) hvg _
    · rw [hc']; exact if_neg (Nat.not_lt.2 (own_base ho g' hg'))
  · intro g' hg'
    rw [hx'] at hg'; cases hg'
  · rw [hx']
    exact ⟨hfok.now, hfok.now, (fun y hy => by cases hy), Nat.zero_le _⟩
set_option maxRecDepth 20000 in
set_option maxHeartbeats 4000000 in
theorem rsync_good (k r : Nat) (m : ADisk) (n : Nm) (w : World) (DD : RD w c k r m) (hk0 : k ≠ 0) (hops : m.ops < 900000) (f : AFile) (h : (begin_ m).1 = 0) (hg : get m.files n = some f) :
    Calls Try.prog 49 #[ptr r, .string ⟨n.toArray⟩] w (RPost k r (Dk.sync m n) c w) := by
  have e : Dk.sync m n = (0, { ({ m with ops := m.ops + 1 } : ADisk) with files := Dk.upd ({ m with ops := m.ops + 1 } : ADisk).files n ⟨f.now, [], f.now⟩ }) := good_of h hg (fun f d => (0, { d with files := Dk.upd d.files n ⟨f.now, [], f.now⟩ }))
  rw [e]
  clear e
  have hok : m.ok := by obtain ⟨_, _, _, _, _, D⟩ := DD; exact D.ok
  have HMANY := rmany hok hg
  have HB := rbegin_ok k r m w DD hk0 hops h
  have HO : ({ m with ops := m.ops + 1 } : ADisk).ops ≤ 1000000 := by show m.ops + 1 ≤ _; omega
  have HK0 := Lib.hid hk0
  have HG : get ({ m with ops := m.ops + 1 } : ADisk).files n = some f := hg
  clear DD hk0 hops h hg hok
  generalize ({ m with ops := m.ops + 1 } : ADisk) = m1 at HMANY HB HO HG ⊢
  have HB := Lib.hid HB
  have HO := Lib.hid HO
  have HG := Lib.hid HG
  have HMANY := Lib.hid HMANY
  unfold ptr at *
  go_enter Try.func49, Try.ntmps49
  go_wp2_with (go_at_call 66; refine HB.out.mono ?_; rintro e w1 ⟨rfl, c1, hc1, hk1, D1⟩)
  obtain ⟨vk, vf, vu, vF, F, D⟩ := D1
  obtain ⟨i, x, hix, hxn, hxf, hfy⟩ := find_yes D n HG.out
  have HFY := Lib.hid (hfy D)
  have hi0 : (0 : Int) ≤ (i : Int) := Int.natCast_nonneg _
  have hilt : i < F.length := (List.getElem?_eq_some_iff.1 hix).1
  have hlen := D.len
  have hlen' : (F.length : Int) ≤ 4096 := by omega
  have hilt' : (i : Int) < (F.length : Int) := by omega
  have HC := Lib.hid hc1
  have HK := Lib.hid hk1
  have HD := Lib.hid D
  have HIX := Lib.hid hix
  have HXN := Lib.hid hxn
  have HXF := Lib.hid hxf
  obtain ⟨g, kf, e2, hlc, hcm, -, f0, f1, f2, -⟩ := D.files.cells hix
  have hr5 := D.c5
  rw [e2] at hr5
  have hrl : r < w1.heap.size := D.lt
  have hgl : g < w1.heap.size := World.block_lt_of_cell? _ _ f1
  have HE2 := Lib.hid e2
  have hRF := D.files.each x (List.mem_of_getElem? hix)
  obtain ⟨asx, ksx, evs, -⟩ := id hRF.safe
  obtain ⟨avc, kvc, evc⟩ := own_shape hRF.chs.own
  rw [List.length_map] at evs
  have hnow := (D.fok (List.mem_of_getElem? hix)).now
  have hnow' : (x.f.now.length : Int) ≤ 268435456 := by unfold maxFile at hnow; omega
  have hdc := fun W hW => data_c (c := c1) k x W hW (D.fok (List.mem_of_getElem? hix)) (by have := HO.out; omega) (D.nok (List.mem_of_getElem? hix))
  rw [evs] at f1 hdc
  rw [evc] at f2 hdc
  unfold str at f0
  have HDC := Lib.hid hdc
  have HRF := Lib.hid hRF
  clear hc1 hk1 D hix hxn hxf hfy e2 hlc hcm hRF evs evc hnow hdc hlen hilt
  go_wp2_with (first | (go_at_call 53; refine HFY.out.mono ?_; rintro e w2 ⟨rfl, rfl⟩))
  have hS0 := Lib.hid (show (fun X : World => X.cell? ⟨r, 5, none⟩ = some (.slice (some ⟨g, 0, none⟩) F.length kf) ∧ X.cell? ⟨g, i * 3, none⟩ = some (.string ⟨x.n.toArray⟩) ∧ X.cell? ⟨g, i * 3 + 1, none⟩ = some (.slice asx x.f.safe.length ksx) ∧ X.cell? ⟨g, i * 3 + 2, none⟩ = some (.slice avc x.L.length kvc)) w1.drew from ⟨hr5, f0, f1, f2⟩)
  have hD2 := HD.out
  rw [HE2.out] at hD2
  have HD2 := Lib.hid hD2
  have HFZ := Lib.hid (show ∀ j, w1.frozen? ⟨g, j, none⟩ = false from (by obtain ⟨g2, cap2, e2, -, -, -, -, -, -, f3⟩ := HD.out.files.cells HIX.out; rw [HE2.out] at e2; injection e2 with e3 _ _; injection e3 with e3; injection e3 with e3 _; subst e3; exact f3))
  clear hr5 f0 f1 f2 hD2
  refine wp_region_G (fun X : World => X.cell? ⟨r, 5, none⟩ = some (.slice (some ⟨g, 0, none⟩) F.length kf) ∧ X.cell? ⟨g, i * 3, none⟩ = some (.string ⟨x.n.toArray⟩) ∧ X.cell? ⟨g, i * 3 + 1, none⟩ = some (.slice asx x.f.safe.length ksx) ∧ X.cell? ⟨g, i * 3 + 2, none⟩ = some (.slice avc x.L.length kvc)) 20 rfl ?_
  refine wpAnyG_takeX [9] (i := 0) (oi := _) (v := .pointer (some ⟨r, 0, none⟩)) rfl (by kernel_rfl) (by kernel_rfl) (by kernel_rfl) (by kernel_rfl) (by kernel_rfl) (by kernel_rfl) (fun _ _ _ h => h) (Or.inl ⟨by rfl, fun X hX => ?_⟩) hS0.out ?_
  · obtain ⟨x1, x2, x3, x4⟩ := hX
    go_simp
  simp only [Act.put, List.setIfInBounds_toArray]
  refine wpAnyG_takeX [9] (i := 1) (oi := _) (v := .pointer (some ⟨r, 0, none⟩)) rfl (by kernel_rfl) (by kernel_rfl) (by kernel_rfl) (by kernel_rfl) (by kernel_rfl) (by kernel_rfl) (fun _ _ _ h => h) (Or.inl ⟨by rfl, fun X hX => ?_⟩) hS0.out ?_
  · obtain ⟨x1, x2, x3, x4⟩ := hX
    go_simp
  simp only [Act.put]
  refine wpAnyG_takeX [9] (i := 2) (oi := _) (v := .pointer (some ⟨r, 5, none⟩)) rfl (by kernel_rfl) (by kernel_rfl) (by kernel_rfl) (by kernel_rfl) (by kernel_rfl) (by kernel_rfl) (fun _ _ _ h => h) (Or.inl ⟨by rfl, fun X hX => ?_⟩) hS0.out ?_
  · obtain ⟨x1, x2, x3, x4⟩ := hX
    go_simp
  simp only [Act.put]
  refine wpAnyG_takeX [9] (i := 3) (oi := _) (v := .slice (some ⟨g, 0, none⟩) F.length kf) rfl (by kernel_rfl) (by kernel_rfl) (by kernel_rfl) (by kernel_rfl) (by kernel_rfl) (by kernel_rfl) (fun _ _ _ h => h) (Or.inl ⟨by rfl, fun X hX => ?_⟩) hS0.out ?_
  · obtain ⟨x1, x2, x3, x4⟩ := hX
    go_simp
  simp only [Act.put]
  refine wpAnyG_takeX [9] (i := 4) (oi := _) (v := .int .i64 (i : Int)) rfl (by kernel_rfl) (by kernel_rfl) (by kernel_rfl) (by kernel_rfl) (by kernel_rfl) (by kernel_rfl) (fun _ _ _ h => h) (Or.inl ⟨by rfl, fun X hX => ?_⟩) hS0.out ?_
  · obtain ⟨x1, x2, x3, x4⟩ := hX
    go_simp
  simp only [Act.put]
  refine wpAnyG_takeX [9] (i := 5) (oi := _) (v := .pointer (some ⟨r, 0, none⟩)) rfl (by kernel_rfl) (by kernel_rfl) (by kernel_rfl) (by kernel_rfl) (by kernel_rfl) (by kernel_rfl) (fun _ _ _ h => h) (Or.inl ⟨by rfl, fun X hX => ?_⟩) hS0.out ?_
  · obtain ⟨x1, x2, x3, x4⟩ := hX
    go_simp
  simp only [Act.put]
  refine wpAnyG_takeX [9] (i := 6) (oi := _) (v := .pointer (some ⟨r, 0, none⟩)) rfl (by kernel_rfl) (by kernel_rfl) (by kernel_rfl) (by kernel_rfl) (by kernel_rfl) (by kernel_rfl) (fun _ _ _ h => h) (Or.inl ⟨by rfl, fun X hX => ?_⟩) hS0.out ?_
  · obtain ⟨x1, x2, x3, x4⟩ := hX
    go_simp
  simp only [Act.put]
  refine wpAnyG_takeX [9] (i := 7) (oi := _) (v := .pointer (some ⟨r, 5, none⟩)) rfl (by kernel_rfl) (by kernel_rfl) (by kernel_rfl) (by kernel_rfl) (by kernel_rfl) (by kernel_rfl) (fun _ _ _ h => h) (Or.inl ⟨by rfl, fun X hX => ?_⟩) hS0.out ?_
  · obtain ⟨x1, x2, x3, x4⟩ := hX
    go_simp
  simp only [Act.put]
  refine wpAnyG_takeX [9] (i := 8) (oi := _) (v := .slice (some ⟨g, 0, none⟩) F.length kf) rfl (by kernel_rfl) (by kernel_rfl) (by kernel_rfl) (by kernel_rfl) (by kernel_rfl) (by kernel_rfl) (fun _ _ _ h => h) (Or.inl ⟨by rfl, fun X hX => ?_⟩) hS0.out ?_
  · obtain ⟨x1, x2, x3, x4⟩ := hX
    go_simp
  simp only [Act.put]
  refine wpAnyG_takeY (i := 9) (oi := _) (v := .int .i64 (i : Int)) rfl (by kernel_rfl) (by kernel_rfl) (by kernel_rfl) (by kernel_rfl) (fun _ _ _ h => h) (Or.inl ⟨by rfl, fun X _ => ?_⟩) (fun _ => hS0.out) ?_
  · go_simp
  simp only [Act.put]
  refine wpAnyG_takeX [9] (i := 10) (oi := _) (v := .pointer (some ⟨r, 0, none⟩)) rfl (by kernel_rfl) (by kernel_rfl) (by kernel_rfl) (by kernel_rfl) (by kernel_rfl) (by kernel_rfl) (fun _ _ _ h => h) (Or.inl ⟨by rfl, fun X hX => ?_⟩) hS0.out ?_
  · obtain ⟨x1, x2, x3, x4⟩ := hX
    go_simp
  simp only [Act.put]
  refine wpAnyG_takeX [9] (i := 11) (oi := _) (v := .pointer (some ⟨r, 0, none⟩)) rfl (by kernel_rfl) (by kernel_rfl) (by kernel_rfl) (by kernel_rfl) (by kernel_rfl) (by kernel_rfl) (fun _ _ _ h => h) (Or.inl ⟨by rfl, fun X hX => ?_⟩) hS0.out ?_
  · obtain ⟨x1, x2, x3, x4⟩ := hX
    go_simp
  simp only [Act.put]
  refine wpAnyG_takeX [9] (i := 12) (oi := _) (v := .pointer (some ⟨r, 5, none⟩)) rfl (by kernel_rfl) (by kernel_rfl) (by kernel_rfl) (by kernel_rfl) (by kernel_rfl) (by kernel_rfl) (fun _ _ _ h => h) (Or.inl ⟨by rfl, fun X hX => ?_⟩) hS0.out ?_
  · obtain ⟨x1, x2, x3, x4⟩ := hX
    go_simp
  simp only [Act.put]
  refine wpAnyG_takeX [9] (i := 13) (oi := _) (v := .slice (some ⟨g, 0, none⟩) F.length kf) rfl (by kernel_rfl) (by kernel_rfl) (by kernel_rfl) (by kernel_rfl) (by kernel_rfl) (by kernel_rfl) (fun _ _ _ h => h) (Or.inl ⟨by rfl, fun X hX => ?_⟩) hS0.out ?_
  · obtain ⟨x1, x2, x3, x4⟩ := hX
    go_simp
  simp only [Act.put]
  refine wpAnyG_takeX [9] (i := 14) (oi := _) (v := .int .i64 (i : Int)) rfl (by kernel_rfl) (by kernel_rfl) (by kernel_rfl) (by kernel_rfl) (by kernel_rfl) (by kernel_rfl) (fun _ _ _ h => h) (Or.inl ⟨by rfl, fun X hX => ?_⟩) hS0.out ?_
  · obtain ⟨x1, x2, x3, x4⟩ := hX
    go_simp
  simp only [Act.put]
  refine wpAnyG_takeX [9] (i := 15) (oi := _) (v := .pointer (some ⟨g, i * 3, none⟩)) rfl (by kernel_rfl) (by kernel_rfl) (by kernel_rfl) (by kernel_rfl) (by kernel_rfl) (by kernel_rfl) (fun _ _ _ h => h) (Or.inl ⟨by rfl, fun X hX => ?_⟩) hS0.out ?_
  · obtain ⟨x1, x2, x3, x4⟩ := hX
    go_simp
  simp only [Act.put]
  refine wpAnyG_takeX [9] (i := 16) (oi := _) (v := .agg #[.string ⟨x.n.toArray⟩, .slice asx x.f.safe.length ksx, .slice avc x.L.length kvc]) rfl (by kernel_rfl) (by kernel_rfl) (by kernel_rfl) (by kernel_rfl) (by kernel_rfl) (by kernel_rfl) (fun _ _ _ h => h) (Or.inl ⟨by rfl, fun X hX => ?_⟩) hS0.out ?_
  · obtain ⟨x1, x2, x3, x4⟩ := hX
    go_simp
  simp only [Act.put]
  refine wpAnyG_one (i := 17) (by kernel_rfl) rfl (fun K' hK' => ?_)
  go_simp
  refine (HDC.out _ (HRF.out.kp (S := S2F) ((Kp.refl _ _ _).drewN 1) (fun h => h) (fun _ _ h => h) (Cx.refl _ _))).mono ?_
  rintro e w2 ⟨v2, rfl, hown2, hb2⟩
  obtain ⟨a2, cap2, rfl⟩ := own_shape hown2
  have HOW := Lib.hid hown2
  have hb2 := below_drewN hb2
  have HB2 := Lib.hid hb2
  have HS1 := Lib.hid (show (fun X : World => X.cell? ⟨r, 5, none⟩ = some (.slice (some ⟨g, 0, none⟩) F.length kf) ∧ X.cell? ⟨g, i * 3, none⟩ = some (.string ⟨x.n.toArray⟩) ∧ X.cell? ⟨g, i * 3 + 1, none⟩ = some (.slice asx x.f.safe.length ksx) ∧ X.cell? ⟨g, i * 3 + 2, none⟩ = some (.slice avc x.L.length kvc)) w2 from ⟨(hb2.cell (p := ⟨r, 5, none⟩) hrl).trans hS0.out.1, (hb2.cell (p := ⟨g, i * 3, none⟩) hgl).trans hS0.out.2.1, (hb2.cell (p := ⟨g, i * 3 + 1, none⟩) hgl).trans hS0.out.2.2.1, (hb2.cell (p := ⟨g, i * 3 + 2, none⟩) hgl).trans hS0.out.2.2.2⟩)
  have hz : ∀ j, w2.frozen? ⟨g, j, none⟩ = false := fun j => (hb2.frozen (p := ⟨g, j, none⟩) hgl).trans (HFZ.out j)
  have HZ := Lib.hid hz
  clear hown2 hb2 hz
  refine hK'.out _ _ (fun _ => HS1.out) ?_
  have hS0 := HS1
  refine wpAnyG_takeX [9] (i := 18) (oi := _) (v := .pointer (some ⟨g, i * 3, none⟩)) rfl (by kernel_rfl) (by kernel_rfl) (by kernel_rfl) (by kernel_rfl) (by kernel_rfl) (by kernel_rfl) (fun _ _ _ h => h) (Or.inl ⟨by rfl, fun X hX => ?_⟩) hS0.out ?_
  · obtain ⟨x1, x2, x3, x4⟩ := hX
    go_simp
  simp only [Act.put]
  refine wpAnyG_takeX [9] (i := 19) (oi := _) (v := .pointer (some ⟨g, i * 3 + 1, none⟩)) rfl (by kernel_rfl) (by kernel_rfl) (by kernel_rfl) (by kernel_rfl) (by kernel_rfl) (by kernel_rfl) (fun _ _ _ h => h) (Or.inl ⟨by rfl, fun X hX => ?_⟩) hS0.out ?_
  · obtain ⟨x1, x2, x3, x4⟩ := hX
    go_simp
  simp only [Act.put]
  refine wpAnyG_one (i := 20) (by kernel_rfl) rfl (fun K' hK' => ?_)
  have hc1 := HS1.out.2.2.1
  have hc2 := HS1.out.2.2.2
  have hz := HZ.out
  go_simp
  refine hK'.out _ _ (fun h => absurd h (by decide)) ?_
  refine wpAnyG_takeY (i := 21) (oi := _) (v := .pointer (some ⟨g, i * 3, none⟩)) rfl (by kernel_rfl) (by kernel_rfl) (by kernel_rfl) (by kernel_rfl) (fun _ _ _ h => h) (Or.inl ⟨by rfl, fun X _ => ?_⟩) (fun h => absurd h (by decide)) ?_
  · go_simp
  simp only [Act.put]
  refine wpAnyG_takeY (i := 22) (oi := _) (v := .pointer (some ⟨g, i * 3 + 2, none⟩)) rfl (by kernel_rfl) (by kernel_rfl) (by kernel_rfl) (by kernel_rfl) (fun _ _ _ h => h) (Or.inl ⟨by rfl, fun X _ => ?_⟩) (fun h => absurd h (by decide)) ?_
  · go_simp
  simp only [Act.put]
  refine wpAnyG_one (i := 23) (by kernel_rfl) rfl (fun K' hK' => ?_)
  go_simp
  refine hK'.out _ _ (fun h => absurd h (by decide)) ?_
  refine wpAnyG_done (by kernel_rfl) ?_
  go_wp2
  go_ret
  have hp := sync_end HD2.out HIX.out HB2.out HOW.out rfl
  rw [HXN.out, HXF.out] at hp ⊢
  exact RPost.of HC.out HK.out hp
end Go.Proofs.Ytepphepcaphlkaa
/- The document's disk: Read. -/
namespace Go.Proofs.Ytepphepcaphlkaa
open Go Go.RowKit Go.MapKept Go.Maps
open Dk
variable {c c' : Col} {S : Nat × Nat → Prop} {w w' : World} {q : Nat × Nat}
set_option maxRecDepth 20000 in
set_option maxHeartbeats 4000000 in
theorem rread_c (k r : Nat) (m : ADisk) (n : Nm) (i j : Int) (w : World) (DD : RD w c k r m) (hops : m.ops ≤ 1000000) (hi : -9223372036854775808 ≤ i ∧ i ≤ 9223372036854775807) (hj : -9223372036854775808 ≤ j ∧ j ≤ 9223372036854775807) :
    Calls Try.prog 24 #[ptr r, .string ⟨n.toArray⟩, .int .i64 i, .int .i64 j] w (ReadPost m n i j c w) := by
  obtain ⟨vk, vf, vu, vF, F, D⟩ := DD
  have hc7 := D.c7
  rcases get_or m.files n with hg | ⟨f, hg⟩
  · have hf := find_no D n hg
    unfold ptr at hf
    have HF := Lib.hid hf
    cases hd : m.dead with
    | true =>
      have e : read m n i j = ([], 10) := by unfold Dk.read; rw [if_pos hd]
      have HE := Lib.hid e
      rw [hd] at hc7
      clear e D hf hd hi hj hg hops
      unfold ptr
      go_enter Try.func24, Try.ntmps24
      go_wp2_with (go_at_call 53; (with_reducible refine HF.out.mono ?_); rintro e w2 ⟨rfl, rfl⟩)
      go_ret2
      exact ⟨_, c, by rw [HE.out]; rfl, Cx.refl _ _, fun S => Kp.refl _ _ _, by rw [HE.out]; exact Sc.nil _ _ _⟩
    | false =>
      have e : read m n i j = ([], 13) := by unfold Dk.read; rw [if_neg (by rw [hd]; simp), hg]
      have HE := Lib.hid e
      rw [hd] at hc7
      clear e D hf hd hi hj hg hops
      unfold ptr
      go_enter Try.func24, Try.ntmps24
      go_wp2_with (go_at_call 53; (with_reducible refine HF.out.mono ?_); rintro e w2 ⟨rfl, rfl⟩)
      go_ret2
      exact ⟨_, c, by rw [HE.out]; rfl, Cx.refl _ _, fun S => Kp.refl _ _ _, by rw [HE.out]; exact Sc.nil _ _ _⟩
  · obtain ⟨t, x, htx, hxn, hxf, hfy⟩ := find_yes D n hg
    have hf := hfy D
    unfold ptr at hf
    have HF := Lib.hid hf
    have ht0 : (0 : Int) ≤ (t : Int) := Int.natCast_nonneg _
    cases hd : m.dead with
    | true =>
      have e : read m n i j = ([], 10) := by unfold Dk.read; rw [if_pos hd]
      have HE := Lib.hid e
      rw [hd] at hc7
      clear e D hf hd hi hj hg hops htx hxn hxf hfy
      unfold ptr
      go_enter Try.func24, Try.ntmps24
      go_wp2_with (go_at_call 53; (with_reducible refine HF.out.mono ?_); rintro e w2 ⟨rfl, rfl⟩)
      go_ret2
      exact ⟨_, c, by rw [HE.out]; rfl, Cx.refl _ _, fun S => Kp.refl _ _ _, by rw [HE.out]; exact Sc.nil _ _ _⟩
    | false =>
      rw [hd] at hc7
      obtain ⟨g, kf, e2, hlc, hcm, -, f0, f1, f2, -⟩ := D.files.cells htx
      have hr5 := D.c5
      rw [e2] at hr5
      have hlt : t < F.length := (List.getElem?_eq_some_iff.1 htx).1
      have hlen := D.len
      have hlen' : (F.length : Int) ≤ 4096 := by omega
      have hlt' : (t : Int) < (F.length : Int) := by omega
      have hRF := D.files.each x (List.mem_of_getElem? htx)
      obtain ⟨asx, ksx, evs, -⟩ := id hRF.safe
      obtain ⟨avc, kvc, evc⟩ := own_shape hRF.chs.own
      rw [List.length_map] at evs
      have hnow := (D.fok (List.mem_of_getElem? htx)).now
      have hnow' : (x.f.now.length : Int) ≤ 268435456 := by unfold maxFile at hnow; omega
      have hdc := fun W hW => data_c (c := c) k x W hW (D.fok (List.mem_of_getElem? htx)) (by omega) (D.nok (List.mem_of_getElem? htx))
      rw [evs] at f1 hdc
      rw [evc] at f2 hdc
      unfold str at f0
      have HDC := Lib.hid hdc
      have HRF := Lib.hid hRF
      have HXF := Lib.hid hxf
      have e0 : ∀ a, (if i < 0 ∨ j < 0 ∨ (x.f.now.length : Int) < i ∨ (x.f.now.length : Int) < i + j then ([], 1) else ((x.f.now.drop i.toNat).take j.toNat, (0 : Int))) = a → read m n i j = a := by
        intro a ha
        unfold Dk.read
        rw [if_neg (by rw [hd]; simp), hg]
        rw [hxf] at ha
        exact ha
      have HE0 := Lib.hid e0
      clear e0 hdc hRF hxf evs evc hnow e2 hlc hcm hlen hlt D hf hd hg hops htx hxn hfy
      unfold ptr
      by_cases h1 : i < 0
      · have HE := Lib.hid (HE0.out _ (if_pos (.inl h1)))
        clear hi hj
        go_enter Try.func24, Try.ntmps24
        go_wp2_with (first | (go_at_call 53; (with_reducible refine HF.out.mono ?_); rintro e w2 ⟨rfl, rfl⟩) | (go_at_call 54; refine (HDC.out _ HRF.out).mono ?_; rintro e w2 ⟨v2, rfl, hown2, hb2⟩; have HB2 := Lib.hid hb2; obtain ⟨a2, cap2, rfl⟩ := own_shape hown2; have HOW := Lib.hid hown2; clear hown2 hb2))
        go_ret2
        exact ⟨_, c, by rw [HE.out]; rfl, Cx.refl _ _, fun S => Kp.of_below HB2.out, by rw [HE.out]; exact Sc.nil _ _ _⟩
      · by_cases h2 : j < 0
        · have HE := Lib.hid (HE0.out _ (if_pos (.inr (.inl h2))))
          clear hi hj
          go_enter Try.func24, Try.ntmps24
          go_wp2_with (first | (go_at_call 53; (with_reducible refine HF.out.mono ?_); rintro e w2 ⟨rfl, rfl⟩) | (go_at_call 54; refine (HDC.out _ HRF.out).mono ?_; rintro e w2 ⟨v2, rfl, hown2, hb2⟩; have HB2 := Lib.hid hb2; obtain ⟨a2, cap2, rfl⟩ := own_shape hown2; have HOW := Lib.hid hown2; clear hown2 hb2))
          go_ret2
          exact ⟨_, c, by rw [HE.out]; rfl, Cx.refl _ _, fun S => Kp.of_below HB2.out, by rw [HE.out]; exact Sc.nil _ _ _⟩
        · by_cases h3 : (x.f.now.length : Int) < i
          · have HE := Lib.hid (HE0.out _ (if_pos (.inr (.inr (.inl h3)))))
            clear hi hj
            go_enter Try.func24, Try.ntmps24
            go_wp2_with (first | (go_at_call 53; (with_reducible refine HF.out.mono ?_); rintro e w2 ⟨rfl, rfl⟩) | (go_at_call 54; refine (HDC.out _ HRF.out).mono ?_; rintro e w2 ⟨v2, rfl, hown2, hb2⟩; have HB2 := Lib.hid hb2; obtain ⟨a2, cap2, rfl⟩ := own_shape hown2; have HOW := Lib.hid hown2; clear hown2 hb2))
            go_ret2
            exact ⟨_, c, by rw [HE.out]; rfl, Cx.refl _ _, fun S => Kp.of_below HB2.out, by rw [HE.out]; exact Sc.nil _ _ _⟩
          · by_cases h4 : (x.f.now.length : Int) - i < j
            · have HE := Lib.hid (HE0.out _ (if_pos (.inr (.inr (.inr (by omega))))))
              clear hi hj
              go_enter Try.func24, Try.ntmps24
              go_wp2_with (first | (go_at_call 53; (with_reducible refine HF.out.mono ?_); rintro e w2 ⟨rfl, rfl⟩) | (go_at_call 54; refine (HDC.out _ HRF.out).mono ?_; rintro e w2 ⟨v2, rfl, hown2, hb2⟩; have HB2 := Lib.hid hb2; obtain ⟨a2, cap2, rfl⟩ := own_shape hown2; have HOW := Lib.hid hown2; clear hown2 hb2))
              go_ret2
              exact ⟨_, c, by rw [HE.out]; rfl, Cx.refl _ _, fun S => Kp.of_below HB2.out, by rw [HE.out]; exact Sc.nil _ _ _⟩
            · have HE := Lib.hid (HE0.out _ (if_neg (by omega)))
              obtain ⟨ni, hni⟩ : ∃ ni : Nat, i = ni := ⟨i.toNat, by omega⟩
              obtain ⟨nj, hnj⟩ : ∃ nj : Nat, j = nj := ⟨j.toNat, by omega⟩
              subst hni hnj
              have hij : (ni : Int) + (nj : Int) ≤ (x.f.now.length : Int) := by omega
              clear hi hj h1 h2 h3
              go_enter Try.func24, Try.ntmps24
              go_wp2_with (first | (go_at_call 53; (with_reducible refine HF.out.mono ?_); rintro e w2 ⟨rfl, rfl⟩) | (go_at_call 54; refine (HDC.out _ HRF.out).mono ?_; rintro e w2 ⟨v2, rfl, hown2, hb2⟩; have HB2 := Lib.hid hb2; obtain ⟨a2, cap2, rfl⟩ := own_shape hown2; have HOW := Lib.hid hown2; have hic : (x.f.now.length : Int) ≤ (cap2 : Int) := (by obtain ⟨_, _, e, h2, _⟩ := Sc.of_owns (c := fun _ => (0, 0)) (q := (0, 0)) hown2 (fun _ _ => rfl); injection e with _ _ e3; subst e3; rw [List.length_map] at h2; omega); have HS := Lib.hid (Sc.of_owns (c := fun _ => (0, 0)) (q := (0, 0)) hown2 (fun _ _ => rfl)); clear hown2 hb2) | (go_at_call 55; refine (rtwinb _ (((x.f.now.map bv).drop ni).take nj) (Sc.sw (Sc.cut (by rw [List.length_map]; exact HS.out) ni nj (by rw [List.length_map]; omega) rfl)) (fun u hu => one_bv x.f.now u (List.mem_of_mem_drop (List.mem_of_mem_take hu))) (by simp only [List.length_take, List.length_drop, List.length_map]; unfold lim; omega)).mono ?_; rintro e w3 ⟨v3, rfl, hown3, hb3⟩; have HB3 := Lib.hid hb3; have HOW3 := Lib.hid hown3; clear hb3 hown3))
              all_goals
                go_ret2
                obtain ⟨c3, hc3, hs3, hk3⟩ := fresh_c3 (c1 := c) HB3.out HOW3.out
                refine ⟨_, c3, by rw [HE.out]; rfl, fun b hb => hc3 b (Nat.lt_of_lt_of_le hb HB2.out.size), fun S => (Kp.of_below HB2.out).trans (hk3 S) (Cx.refl _ _), ?_⟩
                rw [HE.out]
                rw [← List.map_drop, ← List.map_take] at hs3
                exact hs3
end Go.Proofs.Ytepphepcaphlkaa
