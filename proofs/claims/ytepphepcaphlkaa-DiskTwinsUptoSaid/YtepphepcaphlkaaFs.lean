import Derived.Test.YtepphepcaphlkaaV
namespace Go.Proofs.Ytepphepcaphlkaa
open Go Go.RowKit Go.MapKept Go.Maps
open Dk
variable {c c' : Col} {w w' : World}
theorem FilesAt.nil (w : World) (c : Col) : FilesAt w c (.slice none 0 0) [] := by
  refine ⟨[], World.ownsRow_nil _ _ _ _, ?_, ?_⟩
  · intro g hg; cases hg
  · intro i x h; simp at h
theorem files_c (k d : Nat) (m : ADisk) (w : World) (DD : DiskAt w c k d m) :
    Calls Try.prog 13 #[ptr d] w fun e w' => ∃ v c', e = .returned v ∧ Cx w c c' ∧ (∀ S, Kp c S w w') ∧ FilesAt w' c' v (files m) := by
  obtain ⟨vk, vf, vu, mb, es, ck, fb, D⟩ := DD
  have hc0 := D.c0
  have hc7 := D.c7
  have HD := Lib.hid D
  clear D
  unfold ptr
  cases hd : m.dead with
  | true =>
    rw [hd] at hc7
    have e : files m = [] := by unfold files; rw [hd]; rfl
    rw [e]
    clear hd e
    go_enter Try.func13, Try.ntmps13
    go_wp2_with (go_at_call 37; refine (is_one _ _ hc0).mono ?_; rintro e w' ⟨rfl, rfl⟩)
    go_ret
    exact ⟨_, c, rfl, Cx.refl _ _, fun S => Kp.refl _ _ _, FilesAt.nil _ _⟩
  | false =>
    rw [hd] at hc7
    have e : files m = m.files.map fun x => (x.1, x.2.now) := by unfold files; rw [hd]; rfl
    have HE := Lib.hid e
    clear hd e
    go_enter Try.func13, Try.ntmps13
    go_wp2_with (first
      | (go_at_call 37; refine (is_one _ _ hc0).mono ?_; rintro e w' ⟨rfl, rfl⟩)
      | (go_at_call 38; refine (told_Files k d m w vk vf vu mb es ck fb HD.out (files m) HE.out).mono ?_; rintro e w' ⟨v, c', rfl, h⟩; have HH := Lib.hid h; clear h))
    go_ret
    exact ⟨v, c', rfl, HH.out⟩
theorem safe_c (k d : Nat) (m : ADisk) (w : World) (DD : DiskAt w c k d m) :
    Calls Try.prog 14 #[ptr d] w fun e w' => ∃ v c', e = .returned v ∧ Cx w c c' ∧ (∀ S, Kp c S w w') ∧ FilesAt w' c' v (safe m) := by
  obtain ⟨vk, vf, vu, mb, es, ck, fb, D⟩ := DD
  have hc0 := D.c0
  have HD := Lib.hid D
  clear D
  unfold ptr
  go_enter Try.func14, Try.ntmps14
  go_wp2_with (first
    | (go_at_call 37; refine (is_one _ _ hc0).mono ?_; rintro e w' ⟨rfl, rfl⟩)
    | (go_at_call 38; refine (told_Safe k d m w vk vf vu mb es ck fb HD.out (safe m) rfl).mono ?_; rintro e w' ⟨v, c', rfl, h⟩; have HH := Lib.hid h; clear h))
  go_ret
  exact ⟨v, c', rfl, HH.out⟩
end Go.Proofs.Ytepphepcaphlkaa
