/- DiskSynced: what was synced is there behind any death. -/
import Derived.Test.YtepphepcaphlkaaWw
import Derived.Test.YtepphepcaphlkaaRt
import Derived.Test.YtepphepcaphlkaaIv
namespace Go.Proofs.Ytepphepcaphlkaa
open Go Go.RowKit Go.MapKept Go.Maps
open Dk
variable {c c' : Col} {w w' : World}
structure DSInv (w : World) (c : Col) (k d : Nat) (i : Nat) (wr : World) : Prop where
  ex : ∃ ci mi, Cx w c ci ∧ Kp c (fun q => q.1 = k) w wr ∧ DiskAt wr ci k d mi ∧ OpsInv mi i
theorem DSInv.end {k d : Nat} {i : Nat} {wr : World} (h : DSInv w c k d i wr) (hkf : ∀ b, b < w.heap.size → (c b).1 ≠ k) (S : Nat × Nat → Prop) : Kp c S w wr := by
  obtain ⟨ci, mi, hc, hk, D, _⟩ := h.ex
  exact ⟨hk.os, hk.tape, hk.output, hk.size, fun b hb _ => hk.block b hb (hkf b hb)⟩
theorem DSInv.skip {k d : Nat} {i : Nat} {wr : World} (h : DSInv w c k d i wr) (o : Obj) : DSInv w c k d (i + 1) (wr.alloc o) := by
  obtain ⟨ci, mi, hc, hk, D, R⟩ := h.ex
  exact ⟨ci, mi, hc, hk.alloc _, D.kp ((Kp.refl ci (fun _ => False) wr).alloc _) (fun _ h => h.elim) (Cx.refl _ _), R.dry, R.ops0, by have := R.ops; omega⟩
theorem DSInv.ww {k d : Nat} {i : Nat} {wr : World} (h : DSInv w c k d i wr) : ∃ mi, WW w c k d mi [] wr ∧ OpsInv mi i := by
  obtain ⟨ci, mi, hc, hk, D, R⟩ := h.ex
  exact ⟨mi, ⟨ci, hc, hk, D, (fun x hx => by cases hx)⟩, R⟩
def PW (w : World) (c : Col) (p : APlan) (b1 b2 b3 : Option Addr) (l1 l2 l3 : Nat) (wi : World) : Prop :=
  ∃ ci, Cx w c ci ∧ (∀ S, Kp c S w wi) ∧ PlanAt wi ci (.slice b1 p.keep.length l1) (.slice b2 p.fail.length l2) (.slice b3 p.full.length l3) p
theorem ds_twin {p : APlan} {ak af au : Option Addr} {nk nf nu : Nat} {w0 : World} (h0 : ∀ S, Kp c S w w0) (hp : PlanW w c (.slice ak p.keep.length nk) (.slice af p.fail.length nf) (.slice au p.full.length nu) p) (lk : p.keep.length ≤ lim) (lf : p.fail.length ≤ lim) (lu : p.full.length ≤ lim) :
    Calls Try.prog 18 #[.agg #[.int .i64 p.crash, .slice ak p.keep.length nk, .slice af p.fail.length nf, .slice au p.full.length nu, .int .i64 p.room]] w0 fun e w' => ∃ b1 b2 b3 l1 l2 l3, e = .returned (.agg #[.int .i64 p.crash, .slice b1 p.keep.length l1, .slice b2 p.fail.length l2, .slice b3 p.full.length l3, .int .i64 p.room]) ∧ PW w c p b1 b2 b3 l1 l2 l3 w' := by
  refine (rtwin_c p _ _ _ _ (hp.kp (h0 (fun _ => False)) (fun h => h) (Cx.refl _ _)) lk lf lu).mono fun e w' h => ?_
  obtain ⟨vk, vf, vu, ci, he, hc, hk, hpl⟩ := h
  obtain ⟨b1, l1, rfl, -⟩ := id hpl.keep
  obtain ⟨b2, l2, rfl, -⟩ := id hpl.fail
  obtain ⟨b3, l3, rfl, -⟩ := id hpl.full
  simp only [List.length_map] at hpl he
  exact ⟨b1, b2, b3, l1, l2, l3, he, ci, (Cx.refl w c).trans hc (h0 (fun _ => False)).size, fun S => (h0 S).trans (hk S) (Cx.refl _ _), hpl⟩
theorem dsN {p : APlan} {b1 b2 b3 : Option Addr} {l1 l2 l3 : Nat} {w0 : World} (k : Nat) (hk0 : k ≠ 0) (h : PW w c p b1 b2 b3 l1 l2 l3 w0) (lk : p.keep.length ≤ lim) (lf : p.fail.length ≤ lim) (lu : p.full.length ≤ lim) :
    Calls Try.prog 11 #[.agg #[.int .i64 p.crash, .slice b1 p.keep.length l1, .slice b2 p.fail.length l2, .slice b3 p.full.length l3, .int .i64 p.room]] w0 fun e w' => ∃ d, e = .returned (.pointer (some ⟨d, 0, none⟩)) ∧ DSInv w c k d 0 w' := by
  obtain ⟨ci, hc, h0, hp⟩ := h
  refine (new_c k p _ _ _ w0 hp.keep hp.fail hp.full lk lf lu hk0).mono fun e w' h => ?_
  obtain ⟨d, c1, he, hcx, hkp, hdd, _⟩ := h
  have hs := (h0 (fun _ => False)).size
  exact ⟨d, he, c1, new_ p, hc.trans hcx hs, (h0 _).trans (hkp _) hc, hdd, (fun e => by cases e), by simp [new_], by simp [new_]⟩
/-- A disk, with bytes that it told beside it. -/
def BW (w : World) (c : Col) (k d : Nat) (m : ADisk) (L : List (Value × List UInt8)) (wi : World) : Prop :=
  ∃ ci, Cx w c ci ∧ Kp c (fun q => q.1 = k) w wi ∧ DiskAt wi ci k d m ∧ ∀ x ∈ L, Sc wi ci (0, 0) x.1 (x.2.map bv)
theorem WW.bw {k d : Nat} {m : ADisk} {L : List (Value × List (Nm × List UInt8))} {wi : World} (h : WW w c k d m L wi) : BW w c k d m [] wi := by
  obtain ⟨ci, hc, hk, D, _⟩ := h
  exact ⟨ci, hc, hk, D, (fun x hx => by cases hx)⟩
theorem BW.end {k d : Nat} {m : ADisk} {L : List (Value × List UInt8)} {wi : World} (h : BW w c k d m L wi) (hkf : ∀ b, b < w.heap.size → (c b).1 ≠ k) (S : Nat × Nat → Prop) : Kp c S w wi := by
  obtain ⟨ci, hc, hk, D, _⟩ := h
  exact ⟨hk.os, hk.tape, hk.output, hk.size, fun b hb _ => hk.block b hb (hkf b hb)⟩
theorem BW.more {k d : Nat} {m' : ADisk} {L L' : List (Value × List UInt8)} {wi : World} {ci ci' : Col} (hc : Cx w c ci) (hk : Kp c (fun q => q.1 = k) w wi) (hF : ∀ x ∈ L, Sc wi ci (0, 0) x.1 (x.2.map bv)) (hk0 : k ≠ 0)
    (hc' : Cx wi ci ci') (hk' : Kp ci (fun q => q.1 = k) wi w') (D : DiskAt w' ci' k d m') (hL : ∀ x ∈ L', x ∈ L ∨ Sc w' ci' (0, 0) x.1 (x.2.map bv)) : BW w c k d m' L' w' :=
  ⟨ci', hc.trans hc' hk.size, hk.trans hk' hc, D, fun x hx => by
    rcases hL x hx with h | h
    · exact (hF x h).kp hk' (by simp; exact fun h => hk0 h.symm) hc'
    · exact h⟩
theorem bw_size {k d : Nat} {m : ADisk} {L : List (Value × List UInt8)} {wi : World} (h : BW w c k d m L wi) (n : Nm) (hn : n.length ≤ maxLen) :
    Calls Try.prog 19 #[ptr d, str n] wi fun e w' => e = .returned (.tuple #[.int .i64 (Dk.size m n).1, .int .i64 (Dk.size m n).2]) ∧ wi = w' := by
  obtain ⟨ci, hc, hk, D, hF⟩ := h
  exact size_c k d m n wi D hn
theorem bw_sync {k d : Nat} {m : ADisk} {L : List (Value × List UInt8)} {wi : World} (h : BW w c k d m L wi) (hk0 : k ≠ 0) (n : Nm) (hn : n.length ≤ maxLen) (hops : m.ops < 900000) :
    Calls Try.prog 20 #[ptr d, str n] wi fun e w' => e = .returned (.int .i64 (Dk.sync m n).1) ∧ BW w c k d (Dk.sync m n).2 L w' := by
  obtain ⟨ci, hc, hk, D, hF⟩ := h
  refine (sync_c k d m n wi D hk0 hops hn).mono fun e w' h => ?_
  obtain ⟨he, c2, hx, hkp, D2⟩ := h
  exact ⟨he, BW.more hc hk hF hk0 hx hkp D2 fun x hx => .inl hx⟩
theorem bw_start {k d : Nat} {m : ADisk} {L : List (Value × List UInt8)} {wi : World} (h : BW w c k d m L wi) (hk0 : k ≠ 0) (hops : m.ops < 900000) (hdry : m.dead = true → ∀ x ∈ m.files, x.2.chs = []) :
    Calls Try.prog 15 #[ptr d, .agg #[.int .i64 0, .slice none 0 0, .slice none 0 0, .slice none 0 0, .int .i64 0]] wi fun e w' => e = .returned (.int .i64 0) ∧ BW w c k d (Dk.start m P1) L w' := by
  obtain ⟨ci, hc, hk, D, hF⟩ := h
  refine (start_c k d m wi D P1 (.slice none 0 0) (.slice none 0 0) (.slice none 0 0) (q := (0, 0)) (Sc.nil _ _ _) (Sc.nil _ _ _) (Sc.nil _ _ _) (by decide) (by decide) (by decide) hk0 (fun h => hk0 h.symm) hops hdry).mono fun e w' h => ?_
  obtain ⟨he, c2, hx, hkp, D2⟩ := h
  exact ⟨he, BW.more hc hk hF hk0 hx hkp D2 fun x hx => .inl hx⟩
theorem bw_read {k d : Nat} {m : ADisk} {L : List (Value × List UInt8)} {wi : World} (h : BW w c k d m L wi) (hk0 : k ≠ 0) (n : Nm) (hn : n.length ≤ maxLen) {f : AFile} {l : List UInt8} (hl0 : f.now = l) (hd : m.dead = false) (hg : Dk.get m.files n = some f) :
    Calls Try.prog 21 #[ptr d, str n, .int .i64 0, .int .i64 l.length] wi fun e w' => ∃ a cap, e = .returned (.tuple #[.slice a l.length cap, .int .i64 0]) ∧ BW w c k d m ((.slice a l.length cap, l) :: L) w' := by
  subst hl0
  obtain ⟨ci, hc, hk, D, hF⟩ := h
  have hl : f.now.length ≤ maxFile := ((ok_of D).files _ (get_mem hg)).now
  have hl' : (f.now.length : Int) ≤ 268435456 := by unfold maxFile at hl; omega
  have e0 : Dk.read m n 0 f.now.length = (f.now, 0) := by
    unfold Dk.read
    rw [if_neg (by rw [hd]; simp), hg]
    simp only
    rw [if_neg (by omega)]
    simp
  refine (read_c k d m n 0 f.now.length wi D hn (by omega) (by omega)).mono fun e w' h => ?_
  obtain ⟨v, c2, he, hx, hkp, hs⟩ := h
  rw [e0] at he hs
  obtain ⟨a, cap, rfl, -⟩ := id hs
  rw [List.length_map] at he hs
  refine ⟨a, cap, he, BW.more hc hk hF hk0 hx (hkp _) (D.kp (hkp (fun _ => False)) (fun _ h => h.elim) hx) fun x hx => ?_⟩
  rcases List.mem_cons.1 hx with rfl | h
  · exact .inr hs
  · exact .inl h
theorem bw_conv {k d : Nat} {m : ADisk} {L : List (Value × List UInt8)} {wi : World} (h : BW w c k d m L wi) {v : Value} {l : List UInt8} (hx : (v, l) ∈ L) (n : Nat) : (convert 30 9 v).run Try.prog (wi.drewN n) = .ok (.string ⟨l.toArray⟩) (wi.drewN n) := by
  obtain ⟨ci, hc, hk, D, hF⟩ := h
  exact conv_sc ((hF _ hx).kp ((Kp.refl ci (fun _ => False) wi).drewN n) (fun h => h) (Cx.refl _ _))
theorem bw_conv0 {k d : Nat} {m : ADisk} {L : List (Value × List UInt8)} {wi : World} (h : BW w c k d m L wi) {v : Value} {l : List UInt8} (hx : (v, l) ∈ L) : (convert 30 9 v).run Try.prog wi = .ok (.string ⟨l.toArray⟩) wi := by
  obtain ⟨ci, hc, hk, D, hF⟩ := h
  exact conv_sc (hF _ hx)
theorem size_zero {m : ADisk} {n : Nm} (h : (Dk.size m n).2 = 0) : m.dead = false ∧ ∃ f, Dk.get m.files n = some f ∧ (Dk.size m n).1 = f.now.length := by
  unfold Dk.size at *
  cases hd : m.dead with
  | true => rw [hd] at h; simp at h
  | false =>
    refine ⟨rfl, ?_⟩
    rw [hd] at h
    cases hg : Dk.get m.files n with
    | none => rw [hg] at h; simp at h
    | some f => exact ⟨f, rfl, by simp⟩
theorem size_get {m : ADisk} {n : Nm} {f : AFile} (hd : m.dead = false) (hg : Dk.get m.files n = some f) : Dk.size m n = ((f.now.length : Int), 0) := by
  unfold Dk.size
  rw [if_neg (by rw [hd]; simp), hg]
theorem bw_size0 {k d : Nat} {m : ADisk} {L : List (Value × List UInt8)} {wi : World} (h : BW w c k d m L wi) (n : Nm) (hn : n.length ≤ maxLen) {f : AFile} {l : List UInt8} (hl0 : f.now = l) (hd : m.dead = false) (hg : Dk.get m.files n = some f) :
    Calls Try.prog 19 #[ptr d, str n] wi fun e w' => e = .returned (.tuple #[.int .i64 l.length, .int .i64 0]) ∧ wi = w' := by
  have h1 := bw_size h n hn
  rw [size_get hd hg, hl0] at h1
  exact h1
theorem bw_sync0 {k d : Nat} {m : ADisk} {L : List (Value × List UInt8)} {wi : World} (h : BW w c k d m L wi) (hk0 : k ≠ 0) (n : Nm) (hn : n.length ≤ maxLen) (hops : m.ops < 900000) {s : Int} (hs : s = (Dk.sync m n).1) :
    Calls Try.prog 20 #[ptr d, str n] wi fun e w' => e = .returned (.int .i64 s) ∧ BW w c k d (Dk.sync m n).2 L w' := by
  rw [hs]
  exact bw_sync h hk0 n hn hops
set_option maxRecDepth 20000 in
set_option maxHeartbeats 8000000 in
theorem diskSynced_c (p : APlan) (vk vf vu : Value) (v : Value) (l : List AOp) (nm : Nm) (w : World) (h : OpsAt w c v l) (hp : PlanW w c vk vf vu p) (hnm : nm.length ≤ maxLen) (lk : p.keep.length ≤ lim) (lf : p.fail.length ≤ lim) (lu : p.full.length ≤ lim) :
    Calls Try.prog 5 #[planV p vk vf vu, v, str nm] w fun e w' => e = .returned (.bool true) ∧ ∀ S, Kp c S w w' := by
  obtain ⟨k, hk0, -, hkf⟩ := fresh_col c w.heap.size 0
  have HK0 := Lib.hid hk0; clear hk0
  have HKF := Lib.hid hkf; clear hkf
  have HOP := Lib.hid h
  obtain ⟨ak, capk, rfl, -⟩ := id hp.keep
  obtain ⟨af, capf, rfl, -⟩ := id hp.fail
  obtain ⟨au, capu, rfl, -⟩ := id hp.full
  obtain ⟨a, cap, rfl, hm, hn, hop⟩ := h
  have hlen : (l.length : Int) ≤ 9223372036854775807 := by unfold maxLen at hm; omega
  clear hm hn hop
  have HPW := Lib.hid hp; clear hp
  have HNM := Lib.hid hnm; clear hnm
  have LK := Lib.hid lk; clear lk
  have LF := Lib.hid lf; clear lf
  have LU := Lib.hid lu; clear lu
  simp only [List.length_map] at HPW ⊢
  unfold planV str
  go_enter Try.func5, Try.ntmps5
  go_wp2_with (first
    | (go_at_call 9; refine (awake_c (c := c) _).mono ?_; rintro e w1 ⟨rfl, ha⟩; have HA : Hid (∀ S, Kp c S w w1) := (fun S => ((Kp.refl c S w).alloc _).trans (ha S) (Cx.refl _ _)); have HQ1 := Lib.hid ((ha S2F).heap (heap_alloc_new w _) (fun h => h)); clear ha)
    | (go_at_call 10; refine (few_c (c := c) _ _ _ (HOP.out.kp (HA.out S2F) (fun h => h) (Cx.refl _ _))).mono ?_; rintro e w2 ⟨b, rfl, hb, hf⟩; have HB : Hid (∀ S, Kp c S w w2) := (fun S => (HA.out S).trans (hb S) (Cx.refl _ _)); have HQ2 := Lib.hid ((hb S2F).heap HQ1.out (fun h => h)); have HF := Lib.hid hf; clear hb hf; have q0 : w2.cell? ⟨w.heap.size, 0, none⟩ = some (.int .i64 p.crash) := cell_of_heap HQ2.out 0; have q1 : w2.cell? ⟨w.heap.size, 1, none⟩ = some (.slice ak p.keep.length capk) := cell_of_heap HQ2.out 1; have q2 : w2.cell? ⟨w.heap.size, 2, none⟩ = some (.slice af p.fail.length capf) := cell_of_heap HQ2.out 2; have q3 : w2.cell? ⟨w.heap.size, 3, none⟩ = some (.slice au p.full.length capu) := cell_of_heap HQ2.out 3; have q4 : w2.cell? ⟨w.heap.size, 4, none⟩ = some (.int .i64 p.room) := cell_of_heap HQ2.out 4)
    | (go_at_call 18; refine (ds_twin HB.out HPW.out LK.out LF.out LU.out).mono ?_; rintro e w3 ⟨b1, b2, b3, l1, l2, l3, rfl, hp3⟩; clear q0 q1 q2 q3 q4; have HP3 := Lib.hid hp3; clear hp3)
    | (go_at_call 11; refine (dsN k HK0.out HP3.out LK.out LF.out LU.out).mono ?_; rintro e w4 ⟨d, rfl, hd⟩; have HD := Lib.hid hd; clear hd))
  · go_ret
    exact ⟨rfl, HB.out⟩
  · have hbt : (!b) = false := by assumption
    have hbt : b = true := by simpa using hbt
    obtain ⟨hl60, hsm⟩ := HF.out hbt
    have HSM := Lib.hid hsm; clear hsm hbt
    have HL := Lib.hid hl60; clear hl60
    go_loopw [28] (fun s wr => ∃ i : Nat, i ≤ l.length ∧ s = .int .i64 i ∧ DSInv w c k d i wr) (fun s _ => l.length - (intOf s).toNat)
    case atStart =>
      exact ⟨0, Nat.zero_le _, rfl, HD.out⟩
    case round =>
      obtain ⟨i, hi, rfl, I⟩ := hrel
      have HI := Lib.hid I
      by_cases hlt : i < l.length
      · obtain ⟨ci, mi, hc, hk, D, R⟩ := I.ex
        clear I
        obtain ⟨o, ho⟩ : ∃ o, l[i]? = some o := ⟨l[i], List.getElem?_eq_getElem hlt⟩
        obtain ⟨a', cap', he, hm, hn, hop⟩ := HOP.out.kp hk (fun h => HK0.out h.symm) hc
        injection he with he1 he2 he3
        subst he1
        subst he3
        clear he2
        cases a with
        | none => rw [hn rfl] at hlt; cases hlt
        | some ad =>
          obtain ⟨b, off, sp⟩ := ad
          have hop := hop _ rfl
          obtain ⟨hsp, vd, vk, vf, vu, O⟩ := hop i o ho
          cases hsp
          obtain ⟨ad, kd, rfl, -⟩ := O.data
          obtain ⟨ak, kk, rfl, -⟩ := O.plan.keep
          obtain ⟨af, kf, rfl, -⟩ := O.plan.fail
          obtain ⟨au, ku, rfl, -⟩ := O.plan.full
          simp only [List.length_map] at O
          have g0 : wr.cell? ⟨b, off + i * 11, none⟩ = some (.int .i64 o.kind) := O.cells 0 _ rfl
          have g1 : wr.cell? ⟨b, off + i * 11 + 1, none⟩ = some (.string ⟨o.name.toArray⟩) := O.cells 1 _ rfl
          have g2 : wr.cell? ⟨b, off + i * 11 + 2, none⟩ = some (.string ⟨o.to.toArray⟩) := O.cells 2 _ rfl
          have g3 : wr.cell? ⟨b, off + i * 11 + 3, none⟩ = some (.int .i64 o.at_) := O.cells 3 _ rfl
          have g4 : wr.cell? ⟨b, off + i * 11 + 4, none⟩ = some (.int .i64 o.long) := O.cells 4 _ rfl
          have g5 : wr.cell? ⟨b, off + i * 11 + 5, none⟩ = some (.slice ad o.data.length kd) := O.cells 5 _ rfl
          have g6 : wr.cell? ⟨b, off + i * 11 + 6, none⟩ = some (.int .i64 o.plan.crash) := O.cells 6 _ rfl
          have g7 : wr.cell? ⟨b, off + i * 11 + 7, none⟩ = some (.slice ak o.plan.keep.length kk) := O.cells 7 _ rfl
          have g8 : wr.cell? ⟨b, off + i * 11 + 8, none⟩ = some (.slice af o.plan.fail.length kf) := O.cells 8 _ rfl
          have g9 : wr.cell? ⟨b, off + i * 11 + 9, none⟩ = some (.slice au o.plan.full.length ku) := O.cells 9 _ rfl
          have g10 : wr.cell? ⟨b, off + i * 11 + 10, none⟩ = some (.int .i64 o.plan.room) := O.cells 10 _ rfl
          have HO := Lib.hid O; clear O hop hn hm
          have HCI := Lib.hid hc; clear hc
          have HKI := Lib.hid hk; clear hk
          have HDI := Lib.hid D; clear D
          have HRI := Lib.hid R; clear R
          by_cases h7 : o.kind = 7
          · rw [h7] at g0
            go_wp2
            go_roundw
            case rel => exact ⟨i + 1, by omega, by go_num, HI.out.skip _⟩
            case measure => simp [intOf]; omega
          · have H7 := Lib.hid h7
            go_wp2_with (go_at_call 12; refine (do_any7 k d mi o _ _ _ _ _ (HDI.out.kp ((Kp.refl ci (fun _ => False) wr).alloc _) (fun _ h => h.elim) (Cx.refl _ _)) HK0.out (by have := HRI.out.ops; have := HL.out; omega) (HO.out.kp ((Kp.refl ci (fun _ => False) wr).alloc _) (fun h => h) (Cx.refl _ _)) H7.out).mono ?_; rintro e w4 ⟨rfl, c4, hc4, hk4, D4⟩; have HC4 := Lib.hid hc4; have HK4 := Lib.hid hk4; have HD4 := Lib.hid D4; clear hc4 hk4 D4)
            clear g0 g1 g2 g3 g4 g5 g6 g7 g8 g9 g10 h7
            have hcc : Cx w c c4 := HCI.out.trans HC4.out (by have := HKI.out.size; simp; omega)
            have hD : DSInv w c k d (i + 1) w4 := ⟨c4, (doOp mi o).2, hcc, (HKI.out.alloc _).trans HK4.out HCI.out, HD4.out, doOp_inv HRI.out o⟩
            go_roundw
            case rel => exact ⟨i + 1, by omega, by go_num, hD⟩
            case measure => simp [intOf]; omega
      · obtain rfl : i = l.length := by omega
        obtain ⟨mi, h0, R⟩ := I.ww
        clear I hlt
        have HW0 := Lib.hid h0.bw
        have HRI := Lib.hid R; clear R
        by_cases hz : (Dk.size mi nm).2 = 0
        · obtain ⟨hd, f, hg, hf1⟩ := size_zero hz
          obtain ⟨l0, hl0⟩ : ∃ l0, f.now = l0 := ⟨_, rfl⟩
          have HL0 := Lib.hid hl0
          have hln : (l0.length : Int) ≤ 268435456 := by
            have h1 := ((ww_ok h0).files _ (get_mem hg)).now
            rw [hl0] at h1; unfold maxFile at h1; omega
          have HD0 := Lib.hid hd
          have HG0 := Lib.hid hg
          clear hz hf1
          have HOPS : Hid (mi.ops < 900000) := by have := HRI.out.ops; have := HL.out; show mi.ops < 900000; omega
          clear h0
          obtain ⟨s, hs⟩ : ∃ s, s = (Dk.sync mi nm).1 := ⟨_, rfl⟩
          have HS := Lib.hid hs
          by_cases h0 : s = 0
          · subst h0
            obtain ⟨g1, g2, g3, g4⟩ := synced hd hg hs.symm P1
            have HI2 := Lib.hid (doOp_inv HRI.out (⟨4, nm, [], 0, 0, [], P1⟩ : AOp))
            have HG1 := Lib.hid g1
            have HG2 := Lib.hid g2
            have HG3 := Lib.hid g3
            have HG4 := Lib.hid g4
            rw [hl0] at HG2 HG4
            clear g1 g2 g3 g4 hs hd hg hl0
            go_wp2_with (first
              | (go_at_call 19; refine (bw_size0 HW0.out nm HNM.out HL0.out HD0.out HG0.out).mono ?_; rintro e w' ⟨rfl, rfl⟩; clear HD0)
              | (go_at_call 20; refine (bw_sync0 HW0.out HK0.out nm HNM.out HOPS.out HS.out).mono ?_; rintro e w5 ⟨rfl, h⟩; clear HW0; have HW1 := Lib.hid h; clear h)
              | (go_at_call 21; refine (bw_read (l := l0) (f := ⟨l0, [], l0⟩) HW1.out HK0.out nm HNM.out rfl HG1.out HG2.out).mono ?_; rintro e w6 ⟨a6, cap6, rfl, h⟩; clear HW1; have HW2 := Lib.hid h; clear h)
              | (go_at_call 15; refine (bw_start HW2.out HK0.out (by have h1 : (Dk.sync mi nm).2.ops ≤ _ := HI2.out.ops; have := HL.out; omega) (fun e => by rw [HG1.out] at e; cases e)).mono ?_; rintro e w7 ⟨rfl, h⟩; clear HW2; have HW3 := Lib.hid h; clear h)
              | (go_at_call 19; refine (bw_size0 (l := l0) (f := ⟨l0, [], l0⟩) HW3.out nm HNM.out rfl HG3.out HG4.out).mono ?_; rintro e w' ⟨rfl, rfl⟩)
              | (go_at_call 21; refine (bw_read (l := l0) (f := ⟨l0, [], l0⟩) HW3.out HK0.out nm HNM.out rfl HG3.out HG4.out).mono ?_; rintro e w8 ⟨a8, cap8, rfl, h⟩; clear HW3; have HW4 := Lib.hid h; clear h; have k1 := bw_conv0 HW4.out (.head _); have k2 := bw_conv0 HW4.out (.tail _ (.head _))))
            go_ret
            exact ⟨rfl, fun S => HW4.out.end HKF.out S⟩
          · clear hl0 hs hd hg
            go_wp2_with (first
              | (go_at_call 19; refine (bw_size0 HW0.out nm HNM.out HL0.out HD0.out HG0.out).mono ?_; rintro e w' ⟨rfl, rfl⟩; clear HD0)
              | (go_at_call 20; refine (bw_sync0 HW0.out HK0.out nm HNM.out HOPS.out HS.out).mono ?_; rintro e w5 ⟨rfl, h⟩; clear HW0; have HW1 := Lib.hid h; clear h))
            go_ret
            exact ⟨rfl, fun S => HW1.out.end HKF.out S⟩
        · clear h0
          go_wp2_with (go_at_call 19; refine (bw_size HW0.out nm HNM.out).mono ?_; rintro e w' ⟨rfl, rfl⟩)
          go_ret
          exact ⟨rfl, fun S => HW0.out.end HKF.out S⟩
end Go.Proofs.Ytepphepcaphlkaa
