/- A disk beside lists of files that it told: what its functions leave. -/
import Derived.Test.YtepphepcaphlkaaDr
import Derived.Test.YtepphepcaphlkaaSm
namespace Go.Proofs.Ytepphepcaphlkaa
open Go Go.RowKit Go.MapKept Go.Maps
open Dk
variable {c c' : Col} {w w' : World}
theorem FilesAt.kp {v : Value} {fs : List (Nm × List UInt8)} {S : Nat × Nat → Prop} (h : FilesAt w c v fs) (hk : Kp c S w w') (hS : ¬ S (0, 0)) (hc : Cx w c c') : FilesAt w' c' v fs := by
  obtain ⟨xs, hown, hcol, hd⟩ := h
  refine ⟨xs, ⟨hown.1, ?_⟩, ?_, fun i x hx => ?_⟩
  · rcases hown.2 with h | ⟨g, cap, cur, e, hb, hh, hr⟩
    · exact .inl h
    · exact .inr ⟨g, cap, cur, e, hb, hk.heap hh (by rw [hcol g (by rw [e]; rfl)]; exact hS), hr⟩
  · intro g hg
    rcases hown.2 with ⟨e, _⟩ | ⟨g', cap, cur, e, hb, hh, hr⟩
    · rw [e] at hg; cases hg
    · have : g' = g := by rw [e] at hg; injection hg
      subst this
      rw [hc g' (lt_of_heap hh)]; exact hcol g' hg
  · obtain ⟨vd, h1, h2, h3⟩ := hd i x hx
    exact ⟨vd, h1, h2, h3.kp hk hS hc⟩
/-- A disk, and lists of files that were told. -/
def WW (w : World) (c : Col) (k d : Nat) (m : ADisk) (L : List (Value × List (Nm × List UInt8))) (wi : World) : Prop :=
  ∃ ci, Cx w c ci ∧ Kp c (fun q => q.1 = k) w wi ∧ DiskAt wi ci k d m ∧ ∀ x ∈ L, FilesAt wi ci x.1 x.2
theorem WW.end {k d : Nat} {m : ADisk} {L : List (Value × List (Nm × List UInt8))} {wi : World} (h : WW w c k d m L wi) (hkf : ∀ b, b < w.heap.size → (c b).1 ≠ k) (S : Nat × Nat → Prop) : Kp c S w wi := by
  obtain ⟨ci, hc, hk, D, _⟩ := h
  exact ⟨hk.os, hk.tape, hk.output, hk.size, fun b hb _ => hk.block b hb (hkf b hb)⟩
theorem WW.more {k d : Nat} {m' : ADisk} {L L' : List (Value × List (Nm × List UInt8))} {wi : World} {ci ci' : Col} (hc : Cx w c ci) (hk : Kp c (fun q => q.1 = k) w wi) (hF : ∀ x ∈ L, FilesAt wi ci x.1 x.2) (hk0 : k ≠ 0)
    (hc' : Cx wi ci ci') (hk' : Kp ci (fun q => q.1 = k) wi w') (D : DiskAt w' ci' k d m') (hL : ∀ x ∈ L', x ∈ L ∨ FilesAt w' ci' x.1 x.2) : WW w c k d m' L' w' :=
  ⟨ci', hc.trans hc' hk.size, hk.trans hk' hc, D, fun x hx => by
    rcases hL x hx with h | h
    · exact (hF x h).kp hk' (by simp; exact fun h => hk0 h.symm) hc'
    · exact h⟩
theorem ww_files {k d : Nat} {m : ADisk} {L : List (Value × List (Nm × List UInt8))} {wi : World} (h : WW w c k d m L wi) (hk0 : k ≠ 0) :
    Calls Try.prog 13 #[ptr d] wi fun e w' => ∃ a cap, e = .returned (.slice a (files m).length cap) ∧ WW w c k d m ((.slice a (files m).length cap, files m) :: L) w' := by
  obtain ⟨ci, hc, hk, D, hF⟩ := h
  refine (files_c k d m wi D).mono fun e w' h => ?_
  obtain ⟨v, c2, he, hx, hkp, hf⟩ := h
  obtain ⟨a, cap, rfl⟩ := files_shape hf
  refine ⟨a, cap, he, WW.more hc hk hF hk0 hx (hkp _) (D.kp (hkp (fun _ => False)) (fun _ h => h.elim) hx) fun x hx => ?_⟩
  rcases List.mem_cons.1 hx with rfl | h
  · exact .inr hf
  · exact .inl h
theorem ww_safe {k d : Nat} {m : ADisk} {L : List (Value × List (Nm × List UInt8))} {wi : World} (h : WW w c k d m L wi) (hk0 : k ≠ 0) :
    Calls Try.prog 14 #[ptr d] wi fun e w' => ∃ a cap, e = .returned (.slice a (safe m).length cap) ∧ WW w c k d m ((.slice a (safe m).length cap, safe m) :: L) w' := by
  obtain ⟨ci, hc, hk, D, hF⟩ := h
  refine (safe_c k d m wi D).mono fun e w' h => ?_
  obtain ⟨v, c2, he, hx, hkp, hf⟩ := h
  obtain ⟨a, cap, rfl⟩ := files_shape hf
  refine ⟨a, cap, he, WW.more hc hk hF hk0 hx (hkp _) (D.kp (hkp (fun _ => False)) (fun _ h => h.elim) hx) fun x hx => ?_⟩
  rcases List.mem_cons.1 hx with rfl | h
  · exact .inr hf
  · exact .inl h
theorem ww_start0 {k d : Nat} {m : ADisk} {L : List (Value × List (Nm × List UInt8))} {wi : World} (h : WW w c k d m L wi) (hk0 : k ≠ 0) (hops : m.ops < 900000) (hdry : m.dead = true → ∀ x ∈ m.files, x.2.chs = []) :
    Calls Try.prog 15 #[ptr d, .agg #[.int .i64 0, .slice none 0 0, .slice none 0 0, .slice none 0 0, .int .i64 0]] wi fun e w' => e = .returned (.int .i64 0) ∧ WW w c k d (Dk.start m P1) L w' := by
  obtain ⟨ci, hc, hk, D, hF⟩ := h
  refine (start_c k d m wi D P1 (.slice none 0 0) (.slice none 0 0) (.slice none 0 0) (q := (0, 0)) (Sc.nil _ _ _) (Sc.nil _ _ _) (Sc.nil _ _ _) (by decide) (by decide) (by decide) hk0 (fun h => hk0 h.symm) hops hdry).mono fun e w' h => ?_
  obtain ⟨he, c2, hx, hkp, D2⟩ := h
  exact ⟨he, WW.more hc hk hF hk0 hx hkp D2 fun x hx => .inl hx⟩
theorem ww_same {k d : Nat} {m : ADisk} {L : List (Value × List (Nm × List UInt8))} {wi : World} (h : WW w c k d m L wi) (hk0 : k ≠ 0) {v1 v2 : Value} {f1 f2 : List (Nm × List UInt8)} (h1 : (v1, f1) ∈ L) (h2 : (v2, f2) ∈ L) (l1 : f1.length ≤ 4096) {b : Bool} (hb : decide (f1 = f2) = b) :
    Calls Try.prog 16 #[v1, v2] wi fun e w' => e = .returned (.bool b) ∧ WW w c k d m L w' := by
  obtain ⟨ci, hc, hk, D, hF⟩ := h
  refine (same_c v1 v2 f1 f2 wi (hF _ h1) (hF _ h2) (by omega)).mono fun e w' h => ?_
  obtain ⟨he, hkp⟩ := h
  exact ⟨by rw [he, hb], WW.more hc hk hF hk0 (Cx.refl _ _) (hkp _) (D.kp (hkp (fun _ => False)) (fun _ h => h.elim) (Cx.refl _ _)) fun x hx => .inl hx⟩
theorem ww_ops {k d : Nat} {m : ADisk} {L : List (Value × List (Nm × List UInt8))} {wi : World} (h : WW w c k d m L wi) : Calls Try.prog 17 #[ptr d] wi fun e w' => e = .returned (.int .i64 m.ops) ∧ wi = w' := by
  obtain ⟨ci, hc, hk, D, hF⟩ := h
  exact ops_c k d m wi D
theorem ww_ok {k d : Nat} {m : ADisk} {L : List (Value × List (Nm × List UInt8))} {wi : World} (h : WW w c k d m L wi) : m.ok := by
  obtain ⟨ci, hc, hk, D, hF⟩ := h
  exact ok_of D
theorem files_len {m : ADisk} (h : m.ok) : (files m).length ≤ 4096 := by
  have := h.many
  unfold files
  split
  · simp
  · rw [List.length_map]; exact this
theorem safe_len {m : ADisk} (h : m.ok) : (safe m).length ≤ 4096 := by
  have := h.many
  unfold safe
  rw [List.length_map]; exact this
end Go.Proofs.Ytepphepcaphlkaa
