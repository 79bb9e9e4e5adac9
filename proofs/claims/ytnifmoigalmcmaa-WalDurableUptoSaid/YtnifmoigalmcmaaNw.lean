import Derived.Test.YtnifmoigalmcmaaLt
import Derived.Test.YtnifmoigalmcmaaTw
namespace Go.Proofs.Ytnifmoigalmcmaa
open Go Go.RowKit Go.MapKept Go.Maps
open Dk
variable {c c' : Col} {w w' : World}
theorem new_c (k : Nat) (p : APlan) (vk vf vu : Value) (w : World) {q : Nat × Nat} (hk : Sc w c q vk (p.keep.map iv)) (hf : Sc w c q vf (p.fail.map iv)) (hu : Sc w c q vu (p.full.map iv)) (lk : p.keep.length ≤ lim) (lf : p.fail.length ≤ lim) (lu : p.full.length ≤ lim) (hk0 : k ≠ 0) :
    Calls Try.prog 16 #[planV p vk vf vu] w fun e w' => ∃ d c', e = .returned (ptr d) ∧ Cx w c c' ∧ (∀ S, Kp c S w w') ∧ DiskAt w' c' k d (new_ p) ∧ w.heap.size ≤ d := by
  have HK := Lib.hid hk; clear hk
  have HF := Lib.hid hf; clear hf
  have HU := Lib.hid hu; clear hu
  have LK := Lib.hid lk; clear lk
  have LF := Lib.hid lf; clear lf
  have LU := Lib.hid lu; clear lu
  have HK0 := Lib.hid hk0; clear hk0
  have hmm := @run_makeMap Try.prog
  unfold planV
  go_enter Try.func16, Try.ntmps16
  go_wp2_with (go_at_call 34; refine (twin_c p vk vf vu _ (HK.out.alloc _) (HF.out.alloc _) (HU.out.alloc _) LK.out LF.out LU.out).mono ?_; rintro e w1 ⟨vk', vf', vu', c1, rfl, hcx, hkp, hpl⟩; unfold planV; obtain ⟨a1, k1, rfl, -⟩ := hpl.keep; obtain ⟨a2, k2, rfl, -⟩ := hpl.fail; obtain ⟨a3, k3, rfl, -⟩ := hpl.full; have HX := Lib.hid hcx; clear hcx; have HP := Lib.hid hkp; clear hkp; have HL := Lib.hid hpl; clear hpl)
  go_ret
  obtain ⟨c2, hc2⟩ : ∃ c2 : Col, c2 = fun b => if b < w1.heap.size then c1 b else (k, 0) := ⟨_, rfl⟩
  have h1 : Cx w1 c1 c2 := by intro b hb; rw [hc2]; exact if_pos hb
  have hz1 := (HP.out S2F).size
  have hz : w.heap.size ≤ w1.heap.size := by have : (w.alloc (.cells #[.int .i64 p.crash, vk, vf, vu, .int .i64 p.room] 28)).heap.size ≤ w1.heap.size := hz1; simp at this; omega
  have hx : Cx w c c1 := fun b hb => HX.out b (by simp; omega)
  have n0 : ∀ q, (q = ((k, 0) : Nat × Nat)) → q ≠ (0, 0) := fun q hq => by rw [hq]; simp; exact HK0.out
  refine ⟨w1.heap.size + 1, c2, rfl, hx.trans h1 hz, fun S => ((((Kp.refl c S w).alloc _).trans (HP.out S) (Cx.refl _ _)).alloc _).alloc _, ⟨.slice a1 p.keep.length k1, .slice a2 p.fail.length k2, .slice a3 p.full.length k3, w1.heap.size, #[], 0, fun _ => 0, ⟨by simp [new_], by simp [new_], by simp [new_], by simp [new_], by simp [new_]⟩, ?_, ?_, ?_, ?_⟩, by omega⟩
  · have := heap_alloc_new (w1.alloc (.map #[] 0)) (.cells #[.int .i64 1, .int .i64 p.crash, .slice a1 p.keep.length k1, .slice a2 p.fail.length k2, .slice a3 p.full.length k3, .int .i64 p.room, .int .i64 0, .bool false, .map (some w1.heap.size)] 76)
    rw [show (w1.alloc (.map #[] 0)).heap.size = w1.heap.size + 1 from by simp] at this
    exact this
  · rw [hc2]; exact if_neg (by omega)
  · have HL' := HL.out
    simp only [List.length_map] at HL'
    exact HL'.kp (S := fun _ => False) (((Kp.refl _ _ _).alloc _).alloc _) (fun h => h) h1
  · exact ⟨heap_alloc_old _ (heap_alloc_new _ _), by rw [hc2]; exact if_neg (by omega), ⟨by simp, ⟨fun _ h => by simp at h, by simp, by simp⟩, fun _ h => by simp at h⟩, by simp [new_], by simp [new_], by simp [new_]⟩
end Go.Proofs.Ytnifmoigalmcmaa
