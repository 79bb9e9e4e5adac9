import Derived.Test.YtepphepcaphlkaaAw0
import Derived.Lib.SlBytesConst
import Derived.Laws.IdiomStrings
namespace Go.Proofs.Ytepphepcaphlkaa
open Go Go.RowKit Go.MapKept Go.Maps
open Dk
variable {c c' : Col} {w w' : World}
theorem Sc.nilV (w : World) (c : Col) (q : Nat × Nat) (xs : List Value) (h : xs = []) : Sc w c q (.slice none 0 0) xs := by subst h; exact Sc.nil w c q
theorem sc_new (w : World) (c : Col) (x : Value) (t : TypeId) : Sc (w.alloc (.cells #[x] t)) c (c w.heap.size) (.slice (some ⟨w.heap.size, 0, none⟩) 1 1) [x] :=
  ⟨_, 1, rfl, Nat.le_refl _, by simp [maxLen], (fun h => by cases h), fun ad had => by
    cases had
    refine ⟨rfl, fun j u hj => ⟨rfl, ?_⟩⟩
    match j, hj with
    | 0, hj => simp at hj; subst hj; simp⟩
def AW (w : World) (c : Col) (k d : Nat) (m : ADisk) (wi : World) : Prop := ∃ ci, Cx w c ci ∧ Kp c (fun q => q.1 = k) w wi ∧ DiskAt wi ci k d m
theorem AW.step {k d : Nat} {p : Int × ADisk} {wi w' : World} {ci : Col} {e : Ending} (hc : Cx w c ci) (hk : Kp c (fun q => q.1 = k) w wi) (h : OpPost k d p ci wi e w') : e = .returned (.int .i64 p.1) ∧ AW w c k d p.2 w' := by
  obtain ⟨he, c2, hc2, hk2, D⟩ := h
  exact ⟨he, c2, hc.trans hc2 hk.size, hk.trans hk2 hc, D⟩
theorem aw1 {k d : Nat} {wi : World} (h : AW w c k d M0 wi) (hk0 : k ≠ 0) : Calls Try.prog 29 #[.pointer (some ⟨d, 0, none⟩), .string ⟨#[97]⟩] wi fun e w' => e = .returned (.int .i64 0) ∧ AW w c k d M1 w' := by
  obtain ⟨ci, hc, hk, D⟩ := h
  exact (create_c k d M0 [97] wi D hk0 (by decide) (by simp [maxLen])).mono fun e w' h => AW.step (p := (0, M1)) hc hk (by rw [m1] at h; exact h)
theorem aw3 {k d : Nat} {wi : World} (h : AW w c k d M2 wi) (hk0 : k ≠ 0) : Calls Try.prog 20 #[.pointer (some ⟨d, 0, none⟩), .string ⟨#[98]⟩] wi fun e w' => e = .returned (.int .i64 13) ∧ AW w c k d M3 w' := by
  obtain ⟨ci, hc, hk, D⟩ := h
  exact (sync_c k d M2 [98] wi D hk0 (by decide) (by simp [maxLen])).mono fun e w' h => AW.step (p := (13, M3)) hc hk (by rw [m3] at h; exact h)
theorem sc_bytes (wi : World) (ci : Col) (e : TypeId) (fr : Nat × Nat) (l : List UInt8) (hl : l.length ≤ maxLen) : Sc (wi.alloc (.cells (l.map bv).toArray e fr)) (fun b => if b < wi.heap.size then ci b else (0, 0)) (0, 0) (.slice (some ⟨wi.heap.size, 0, none⟩) l.length l.length) (l.map bv) := by
  refine ⟨_, _, by rw [List.length_map], by rw [List.length_map]; exact Nat.le_refl _, hl, (fun h => by cases h), fun ad had => ?_⟩
  cases had
  refine ⟨rfl, fun j u hj => ⟨if_neg (Nat.lt_irrefl _), ?_⟩⟩
  rw [Nat.zero_add, cell_of_heap (heap_alloc_new _ _)]
  simpa using hj
theorem aw_bytes {k d : Nat} {m : ADisk} {wi : World} (h : AW w c k d m wi) (fr : Nat × Nat) (l : List UInt8) (hl : l.length ≤ maxLen) :
    ∃ c', Cx w c c' ∧ Kp c (fun q => q.1 = k) w (wi.alloc (.cells (l.map bv).toArray 5 fr)) ∧ DiskAt (wi.alloc (.cells (l.map bv).toArray 5 fr)) c' k d m ∧ Sc (wi.alloc (.cells (l.map bv).toArray 5 fr)) c' (0, 0) (.slice (some ⟨wi.heap.size, 0, none⟩) l.length l.length) (l.map bv) := by
  obtain ⟨ci, hc, hk, D⟩ := h
  have hx : Cx wi ci (fun b => if b < wi.heap.size then ci b else (0, 0)) := fun b hb => if_pos hb
  exact ⟨_, hc.trans hx hk.size, hk.alloc _, D.kp ((Kp.refl ci (fun _ => False) wi).alloc _) (fun _ h => h.elim) hx, sc_bytes wi ci _ fr l hl⟩
theorem aw2 {k d : Nat} {wi : World} (h : AW w c k d M1 wi) (hk0 : k ≠ 0) : Calls Try.prog 30 #[.pointer (some ⟨d, 0, none⟩), .string ⟨#[97]⟩, .slice (some ⟨wi.heap.size, 0, none⟩) 3 3] (wi.alloc (.cells #[.int .u8 97, .int .u8 98, .int .u8 99] 5 (3, 4))) fun e w' => e = .returned (.int .i64 0) ∧ AW w c k d M2 w' := by
  obtain ⟨ci, hc, hk, D, hs⟩ := aw_bytes h (3, 4) [97, 98, 99] (by simp [maxLen])
  exact (append_c k d M1 [97] _ [97, 98, 99] _ D hk0 (by decide) (by simp [maxLen]) hs (fun h => hk0 h.symm) (by simp [lim])).mono fun e w' h => AW.step (p := (0, M2)) hc hk (by rw [m2] at h; exact h)
theorem aw4 {k d : Nat} {wi : World} (h : AW w c k d M3 wi) (hk0 : k ≠ 0) : Calls Try.prog 30 #[.pointer (some ⟨d, 0, none⟩), .string ⟨#[97]⟩, .slice (some ⟨wi.heap.size, 0, none⟩) 2 2] (wi.alloc (.cells #[.int .u8 100, .int .u8 101] 5 (2, 3))) fun e w' => e = .returned (.int .i64 10) ∧ AW w c k d M4 w' := by
  obtain ⟨ci, hc, hk, D, hs⟩ := aw_bytes h (2, 3) [100, 101] (by simp [maxLen])
  exact (append_c k d M3 [97] _ [100, 101] _ D hk0 (by decide) (by simp [maxLen]) hs (fun h => hk0 h.symm) (by simp [lim])).mono fun e w' h => AW.step (p := (10, M4)) hc hk (by rw [m4] at h; exact h)
theorem awD {k d : Nat} {wi : World} (h : AW w c k d M4 wi) : Calls Try.prog 27 #[.pointer (some ⟨d, 0, none⟩)] wi fun e w' => e = .returned (.bool true) ∧ wi = w' := by
  obtain ⟨ci, hc, hk, D⟩ := h
  exact dead_c k d M4 wi D
theorem awO {k d : Nat} {wi : World} (h : AW w c k d M4 wi) : Calls Try.prog 17 #[.pointer (some ⟨d, 0, none⟩)] wi fun e w' => e = .returned (.int .i64 4) ∧ wi = w' := by
  obtain ⟨ci, hc, hk, D⟩ := h
  exact ops_c k d M4 wi D
theorem awS {k d : Nat} {wi : World} (h : AW w c k d M4 wi) (hk0 : k ≠ 0) : Calls Try.prog 15 #[.pointer (some ⟨d, 0, none⟩), .agg #[.int .i64 0, .slice none 0 0, .slice none 0 0, .slice none 0 0, .int .i64 0]] wi fun e w' => e = .returned (.int .i64 0) ∧ AW w c k d M5 w' := by
  obtain ⟨ci, hc, hk, D⟩ := h
  refine (start_c k d M4 wi D P1 (.slice none 0 0) (.slice none 0 0) (.slice none 0 0) (q := (0, 0)) (Sc.nil _ _ _) (Sc.nil _ _ _) (Sc.nil _ _ _) (by decide) (by decide) (by decide) hk0 (fun h => hk0 h.symm) (by decide) (fun _ x hx => ?_)).mono fun e w' h => AW.step (p := (0, M5)) hc hk (by rw [m5] at h; exact h)
  simp [M4] at hx; subst hx; rfl
theorem awR {k d : Nat} {wi : World} (h : AW w c k d M5 wi) : Calls Try.prog 21 #[.pointer (some ⟨d, 0, none⟩), .string ⟨#[97]⟩, .int .i64 0, .int .i64 2] wi fun e w' => ∃ a cap, e = .returned (.tuple #[.slice (some a) 2 cap, .int .i64 0]) ∧ AW w c k d M5 w' ∧ (convert 30 9 (.slice (some a) 2 cap)).run Try.prog w' = .ok (.string ⟨#[97, 98]⟩) w' := by
  obtain ⟨ci, hc, hk, D⟩ := h
  refine (read_c k d M5 [97] 0 2 wi D (by simp [maxLen]) (by decide) (by decide)).mono fun e w' h => ?_
  obtain ⟨v, c', he, hx, hkp, hs⟩ := h
  rw [m6] at he hs
  obtain ⟨a, cap, rfl, hcap, _, h0, h1⟩ := hs
  cases a with
  | none => have := h0 rfl; subst this; simp at hcap
  | some ad =>
    refine ⟨ad, cap, he, ⟨c', hc.trans hx hk.size, hk.trans (hkp _) hc, D.kp (hkp (fun _ => False)) (fun _ h => h.elim) hx⟩, ?_⟩
    refine run_convert_bytes_back w' 30 9 5 ad cap [97, 98] Try.underlying30 Try.underlying5 Try.underlying9 (fun j hj => ?_)
    obtain ⟨h2, h3⟩ := h1 ad rfl
    rw [add_eq h2]
    have := (h3 j (bv ([97, 98][j])) (by rw [List.getElem?_map, List.getElem?_eq_getElem hj]; rfl)).2
    exact this
theorem awF {k d : Nat} {wi : World} (h : AW w c k d M5 wi) : Calls Try.prog 13 #[.pointer (some ⟨d, 0, none⟩)] wi fun e w' => ∃ a cap, e = .returned (.slice a 1 cap) ∧ AW w c k d M5 w' := by
  obtain ⟨ci, hc, hk, D⟩ := h
  refine (files_c k d M5 wi D).mono fun e w' h => ?_
  obtain ⟨v, c', he, hx, hkp, xs, hown, _⟩ := h
  rw [m7] at hown
  obtain ⟨g, cap, rfl⟩ := own_succ (k := 0) hown
  exact ⟨_, cap, he, c', hc.trans hx hk.size, hk.trans (hkp _) hc, D.kp (hkp (fun _ => False)) (fun _ h => h.elim) hx⟩
theorem awN (k : Nat) (hk0 : k ≠ 0) : Calls Try.prog 11 #[.agg #[.int .i64 4, .slice (some ⟨w.heap.size, 0, none⟩) 1 1, .slice none 0 0, .slice none 0 0, .int .i64 0]] (w.alloc (.cells #[.int .i64 2] 3)) fun e w' => ∃ d, e = .returned (.pointer (some ⟨d, 0, none⟩)) ∧ AW w c k d M0 w' := by
  have HS : Sc (w.alloc (.cells #[.int .i64 2] 3)) c (c w.heap.size) (.slice (some ⟨w.heap.size, 0, none⟩) 1 1) (P0.keep.map iv) := sc_new _ _ _ _
  refine (new_c k P0 (.slice (some ⟨w.heap.size, 0, none⟩) 1 1) (.slice none 0 0) (.slice none 0 0) _ HS (Sc.nil _ _ _) (Sc.nil _ _ _) (by decide) (by decide) (by decide) hk0).mono fun e w' h => ?_
  obtain ⟨d, c1, he, hcx, hkp, hdd, _⟩ := h
  exact ⟨d, he, c1, fun b hb => hcx b (by simp; omega), ((Kp.refl c _ w).alloc _).trans (hkp _) (Cx.refl _ _), hdd⟩
theorem AW.end {k d : Nat} {m : ADisk} {wi : World} (h : AW w c k d m wi) (hkf : ∀ b, b < w.heap.size → (c b).1 ≠ k) (S : Nat × Nat → Prop) : Kp c S w wi := by
  obtain ⟨ci, hc, hk, D⟩ := h
  exact ⟨hk.os, hk.tape, hk.output, hk.size, fun b hb _ => hk.block b hb (hkf b hb)⟩
theorem awake_c (w : World) : Calls Try.prog 9 #[] w fun e w' => e = .returned (.bool true) ∧ ∀ S, Kp c S w w' := by
  obtain ⟨k, hk0, -, hkf⟩ := fresh_col c w.heap.size 0
  have HK0 := Lib.hid hk0; clear hk0
  have HKF := Lib.hid hkf; clear hkf
  have kc := fun (w : World) (C : Array Value) (n c : Nat) => Lib.run_convert_bytes_const (P := Try.prog) w 30 5 C n c Try.underlying30 Try.underlying5
  go_enter Try.func9, Try.ntmps9
  go_wp2_with (first
    | (go_at_call 11; refine (awN (c := c) k HK0.out).mono ?_; rintro e w1 ⟨d, rfl, ha⟩; have HA0 := Lib.hid ha; clear ha)
    | (go_at_call 29; refine (aw1 HA0.out HK0.out).mono ?_; rintro e w2 ⟨rfl, ha⟩; clear HA0; have HA1 := Lib.hid ha; clear ha)
    | (go_at_call 30; refine (aw2 HA1.out HK0.out).mono ?_; rintro e w3 ⟨rfl, ha⟩; clear HA1; have HA2 := Lib.hid ha; clear ha)
    | (go_at_call 20; refine (aw3 HA2.out HK0.out).mono ?_; rintro e w4 ⟨rfl, ha⟩; clear HA2; have HA3 := Lib.hid ha; clear ha)
    | (go_at_call 30; refine (aw4 HA3.out HK0.out).mono ?_; rintro e w5 ⟨rfl, ha⟩; clear HA3; have HA4 := Lib.hid ha; clear ha)
    | (go_at_call 27; refine (awD HA4.out).mono ?_; rintro e w' ⟨rfl, rfl⟩)
    | (go_at_call 17; refine (awO HA4.out).mono ?_; rintro e w' ⟨rfl, rfl⟩)
    | (go_at_call 15; refine (awS HA4.out HK0.out).mono ?_; rintro e w6 ⟨rfl, ha⟩; clear HA4; have HA5 := Lib.hid ha; clear ha)
    | (go_at_call 21; refine (awR HA5.out).mono ?_; rintro e w7 ⟨a7, cap7, rfl, ha, hcv7⟩; clear HA5; have HA6 := Lib.hid ha; clear ha)
    | (go_at_call 13; refine (awF HA6.out).mono ?_; rintro e w8 ⟨a8, cap8, rfl, ha⟩; clear HA6; have HA7 := Lib.hid ha; clear ha))
  go_ret
  exact ⟨rfl, fun S => HA7.out.end HKF.out S⟩
end Go.Proofs.Ytepphepcaphlkaa
