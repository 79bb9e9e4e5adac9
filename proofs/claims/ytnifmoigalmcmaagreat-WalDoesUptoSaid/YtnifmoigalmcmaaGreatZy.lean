/- cairnref03: its permutation is digest's. -/
import Derived.Test.YtnifmoigalmcmaaGreatZx
namespace Go.Proofs.YtnifmoigalmcmaaGreat
open Go Go.RowKit
theorem xo_bv (a b : Int) : xo a b = ((BitVec.ofInt 64 a ^^^ BitVec.ofInt 64 b).toNat : Int) := by
  show IntKind.u64.wrap ((BitVec.ofInt 64 a ^^^ BitVec.ofInt 64 b).toNat : Int) = _
  have := (BitVec.ofInt 64 a ^^^ BitVec.ofInt 64 b).isLt
  rw [IntKind.wrap_u64]
  omega
theorem bv_xo (a b : Int) : BitVec.ofInt 64 (xo a b) = BitVec.ofInt 64 a ^^^ BitVec.ofInt 64 b := by
  rw [xo_bv, BitVec.ofInt_natCast, BitVec.ofNat_toNat, BitVec.setWidth_eq]
theorem xo_assoc (a b c : Int) : xo (xo a b) c = xo a (xo b c) := by
  rw [xo_bv (xo a b), xo_bv a (xo b c), bv_xo, bv_xo, BitVec.xor_assoc]
def sbY (T : Array Nat) (a C b : Array Int) (x : Nat) : Nat → Array Int
  | 0 => b
  | y + 1 => (sbY T a C b x y).setIfInBounds (y + 5 * ((2 * x + 3 * y) % 5)) (rol (xo (gt a (x + 5 * y)) (xo (gt C ((x + 4) % 5)) (rol (gt C ((x + 1) % 5)) 1))) (T[x + 5 * y]?.getD 0))
def sbB (T : Array Nat) (a C b : Array Int) : Nat → Array Int
  | 0 => b
  | x + 1 => sbY T a C (sbB T a C b x) x 5
theorem sbY_eq (T : Array Nat) (a C b : Array Int) (x : Nat) : ∀ y, rbY T a C b x y = sbY T a C b x y
  | 0 => rfl
  | y + 1 => by rw [rbY, sbY, sbY_eq T a C b x y, xo_assoc]
theorem sbB_eq (T : Array Nat) (a C b : Array Int) : ∀ x, rbB T a C b x = sbB T a C b x
  | 0 => rfl
  | x + 1 => by rw [rbB, sbB, sbB_eq T a C b x, sbY_eq]
theorem lit5 {a : Array Int} (h : a.size = 5) : ∃ x0 x1 x2 x3 x4, a = #[x0, x1, x2, x3, x4] := by
  obtain ⟨l⟩ := a
  have h : l.length = 5 := h
  match l, h with
  | [x0, x1, x2, x3, x4], _ => exact ⟨x0, x1, x2, x3, x4, rfl⟩
theorem lit25 {a : Array Int} (h : a.size = 25) : ∃ x0 x1 x2 x3 x4 x5 x6 x7 x8 x9 x10 x11 x12 x13 x14 x15 x16 x17 x18 x19 x20 x21 x22 x23 x24, a = #[x0, x1, x2, x3, x4, x5, x6, x7, x8, x9, x10, x11, x12, x13, x14, x15, x16, x17, x18, x19, x20, x21, x22, x23, x24] := by
  obtain ⟨l⟩ := a
  have h : l.length = 25 := h
  match l, h with
  | [x0, x1, x2, x3, x4, x5, x6, x7, x8, x9, x10, x11, x12, x13, x14, x15, x16, x17, x18, x19, x20, x21, x22, x23, x24], _ => exact ⟨x0, x1, x2, x3, x4, x5, x6, x7, x8, x9, x10, x11, x12, x13, x14, x15, x16, x17, x18, x19, x20, x21, x22, x23, x24, rfl⟩
theorem pC {a C : Array Int} (ha : a.size = 25) (hC : C.size = 5) : thC a C 5 = thC a z5 5 := by
  obtain ⟨a0, a1, a2, a3, a4, a5, a6, a7, a8, a9, a10, a11, a12, a13, a14, a15, a16, a17, a18, a19, a20, a21, a22, a23, a24, rfl⟩ := lit25 ha
  obtain ⟨c0, c1, c2, c3, c4, rfl⟩ := lit5 hC
  kernel_rfl
set_option maxRecDepth 20000 in
theorem pB {a C b : Array Int} (ha : a.size = 25) (hC : C.size = 5) (hb : b.size = 25) : sbB (rhoTab 24) a C z25 5 = rhB (rhoTab 24) (thA C a 5) b 5 := by
  obtain ⟨a0, a1, a2, a3, a4, a5, a6, a7, a8, a9, a10, a11, a12, a13, a14, a15, a16, a17, a18, a19, a20, a21, a22, a23, a24, rfl⟩ := lit25 ha
  obtain ⟨c0, c1, c2, c3, c4, rfl⟩ := lit5 hC
  obtain ⟨b0, b1, b2, b3, b4, b5, b6, b7, b8, b9, b10, b11, b12, b13, b14, b15, b16, b17, b18, b19, b20, b21, b22, b23, b24, rfl⟩ := lit25 hb
  kernel_rfl
set_option maxRecDepth 20000 in
theorem pZ {a b c : Array Int} (ha : a.size = 25) (hb : b.size = 25) (hc : c.size = 25) : rcA b a 5 = chA b c 5 := by
  obtain ⟨a0, a1, a2, a3, a4, a5, a6, a7, a8, a9, a10, a11, a12, a13, a14, a15, a16, a17, a18, a19, a20, a21, a22, a23, a24, rfl⟩ := lit25 ha
  obtain ⟨b0, b1, b2, b3, b4, b5, b6, b7, b8, b9, b10, b11, b12, b13, b14, b15, b16, b17, b18, b19, b20, b21, b22, b23, b24, rfl⟩ := lit25 hb
  obtain ⟨c0, c1, c2, c3, c4, c5, c6, c7, c8, c9, c10, c11, c12, c13, c14, c15, c16, c17, c18, c19, c20, c21, c22, c23, c24, rfl⟩ := lit25 hc
  kernel_rfl
theorem perm3_sizes {T : Array Nat} {R A : Array Int} (hA : A.size = 25) : ∀ i, (perm3 T R A i).1.size = 25 ∧ (perm3 T R A i).2.1.size = 25 ∧ (perm3 T R A i).2.2.size = 5
  | 0 => ⟨hA, by simp [perm3], by simp [perm3]⟩
  | i + 1 => by
    obtain ⟨h1, h2, h3⟩ := perm3_sizes (T := T) (R := R) hA i
    refine ⟨?_, ?_, ?_⟩
    · rw [perm3, roI, Array.size_setIfInBounds, roZ, chA_size, roA, thA_size]; exact h1
    · rw [perm3, roB, rhB_size]; exact h2
    · rw [perm3, roC, thC_size]; exact h3
theorem pBT {T : Array Nat} (hT : T = rhoTab 24) {a C b : Array Int} (ha : a.size = 25) (hC : C.size = 5) (hb : b.size = 25) : sbB T a C z25 5 = rhB T (thA C a 5) b 5 := by rw [hT]; exact pB ha hC hb
set_option maxRecDepth 20000 in
theorem rP_eq {T : Array Nat} (hT : T = rhoTab 24) {R A : Array Int} (hA : A.size = 25) : ∀ i, rP T R A i = (perm3 T R A i).1
  | 0 => rfl
  | i + 1 => by
    obtain ⟨h1, h2, h3⟩ := perm3_sizes (T := T) (R := R) hA i
    rw [rP, rP_eq hT hA i, perm3]
    obtain ⟨p, hp⟩ : ∃ p, p = perm3 T R A i := ⟨_, rfl⟩
    rw [← hp] at h1 h2 h3 ⊢
    have e : rZ T p.1 = roZ T p := by
      obtain ⟨C, hC⟩ : ∃ C, C = thC p.1 p.2.2 5 := ⟨_, rfl⟩
      have hCz : C.size = 5 := by rw [hC, thC_size]; exact h3
      have e1 : thC p.1 z5 5 = C := by rw [hC]; exact (pC h1 h3).symm
      have e2 := pBT hT (a := p.1) (C := C) (b := p.2.1) h1 hCz h2
      obtain ⟨b, hb⟩ : ∃ b, b = rhB T (thA C p.1 5) p.2.1 5 := ⟨_, rfl⟩
      have hbz : b.size = 25 := by rw [hb, rhB_size]; exact h2
      obtain ⟨d, hd⟩ : ∃ d, d = thA C p.1 5 := ⟨_, rfl⟩
      have hdz : d.size = 25 := by rw [hd, thA_size]; exact h1
      have e3 := pZ (a := p.1) (b := b) (c := d) h1 hbz hdz
      rw [← hb] at e2
      unfold rZ roZ roB roA roC
      rw [e1, sbB_eq, e2, ← hC, ← hd, e3, hb, hd]
    dsimp only
    rw [e]
theorem rpermute_c (c : Col) (w : World) (A : Array Int) (hA : A.size = 25) : Calls Tryz.prog 168 #[.agg (u64s A)] w fun e w' => e = .returned (.agg (u64s (perm3 (rhoTab 24) (iotaTab 168) A 24).1)) ∧ ∀ S, Kp c S w w' := by
  have h := rpermute_w c w A hA (rhoTab 24) (iotaTab 168) rfl rfl
  rw [rP_eq rfl hA] at h
  exact h
end Go.Proofs.YtnifmoigalmcmaaGreat
