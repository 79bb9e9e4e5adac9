import Derived.Test.YtepphepcaphlkaaB
namespace Go.Proofs.Ytepphepcaphlkaa
open Go Go.RowKit Go.MapKept Go.Maps
open Dk
variable {c : Col} {w : World} {q : Nat × Nat}
theorem is_nil (w : World) : Calls Try.prog 37 #[.pointer none] w fun e w' => e = .returned (.bool false) ∧ w = w' := by
  go_enter Try.func37, Try.ntmps37
  go_wp2
  go_ret
  exact ⟨rfl, rfl⟩
theorem is_one (w : World) (b : Nat) (h : w.cell? ⟨b, 0, none⟩ = some (.int .i64 1)) : Calls Try.prog 37 #[.pointer (some ⟨b, 0, none⟩)] w fun e w' => e = .returned (.bool true) ∧ w = w' := by
  go_enter Try.func37, Try.ntmps37
  go_wp2
  go_ret
  exact ⟨rfl, rfl⟩
theorem is_zero (w : World) (b : Nat) (h : w.cell? ⟨b, 0, none⟩ = some (.int .i64 0)) : Calls Try.prog 37 #[.pointer (some ⟨b, 0, none⟩)] w fun e w' => e = .returned (.bool false) ∧ w = w' := by
  go_enter Try.func37, Try.ntmps37
  go_wp2
  go_ret
  exact ⟨rfl, rfl⟩
def badB (c : UInt8) : Bool := c < 33 || c > 126 || c == 47
theorem badB_iff (c : UInt8) : badB c = true ↔ (c.toNat : Int) < 33 ∨ 126 < (c.toNat : Int) ∨ (c.toNat : Int) = 47 := by
  unfold badB
  have h3 : (c == 47) = true ↔ (c.toNat : Int) = 47 := by
    rw [beq_iff_eq]
    constructor
    · intro h; subst h; rfl
    · intro h; exact UInt8.toNat_inj.1 (by have : (47 : UInt8).toNat = 47 := rfl; omega)
  simp only [Bool.or_eq_true, decide_eq_true_eq, h3, UInt8.lt_iff_toNat_lt, gt_iff_lt]
  have e1 : (33 : UInt8).toNat = 33 := rfl
  have e2 : (126 : UInt8).toNat = 126 := rfl
  rw [e1, e2]; omega
theorem named_eq (l : Nm) : named l = ((l.all fun c => !badB c) && (decide (1 ≤ l.length) && decide (l.length ≤ 32))) := rfl
theorem named_any (s : ByteArray) (w : World) (hs : s.size ≤ maxLen) :
    Calls Try.prog 61 #[.string s] w fun e w' => e = .returned (.bool (named s.data.toList)) ∧ w = w' := by
  unfold maxLen at hs
  have hsz : s.data.toList.length = s.size := Array.length_toList
  have HZ := Lib.hid hsz; clear hsz
  go_enter Try.func61, Try.ntmps61
  go_wp2
  go_loop [6] (fun i => ∃ k : Nat, k ≤ s.size ∧ i = .int .i64 k ∧ (s.data.toList.take k).all (fun c => !badB c) = true) (fun i => s.size - (intOf i).toNat)
  case atStart => exact ⟨0, Nat.zero_le _, rfl, by simp⟩
  case round =>
    obtain ⟨k, hk, rfl, hall⟩ := hrel
    have HA := Lib.hid hall; clear hall
    by_cases hlt : k < s.size
    · have hg : s.data.toList[k]? = some s[k] := by simp [ByteArray.getElem_eq_getElem_data]
      have HG := Lib.hid hg; clear hg
      have hbad := badB_iff s[k]
      have HB := Lib.hid hbad; clear hbad
      by_cases h1 : (s[k].toNat : Int) < 33
      · go_wp2
        go_ret
        refine ⟨ret_bool ?_, rfl⟩
        rw [named_eq]
        have : (s.data.toList.all fun c => !badB c) = false := by
          rw [List.all_eq_false]; exact ⟨_, List.mem_of_getElem? HG.out, by simp [HB.out.2 (.inl h1)]⟩
        rw [this]; rfl
      · by_cases h2 : 126 < (s[k].toNat : Int)
        · go_wp2
          go_ret
          refine ⟨ret_bool ?_, rfl⟩
          rw [named_eq]
          have : (s.data.toList.all fun c => !badB c) = false := by
            rw [List.all_eq_false]; exact ⟨_, List.mem_of_getElem? HG.out, by simp [HB.out.2 (.inr (.inl h2))]⟩
          rw [this]; rfl
        · by_cases h3 : (s[k].toNat : Int) = 47
          · have ht : ((s[k].toNat : Int) == 47) = true := by simpa using h3
            have H3 := Lib.hid h3; clear h3
            go_wp2
            go_ret
            refine ⟨ret_bool ?_, rfl⟩
            rw [named_eq]
            have : (s.data.toList.all fun c => !badB c) = false := by
              rw [List.all_eq_false]; exact ⟨_, List.mem_of_getElem? HG.out, by simp [HB.out.2 (.inr (.inr H3.out))]⟩
            rw [this]; rfl
          · have ht : ((s[k].toNat : Int) == 47) = false := by simpa using h3
            have H3 := Lib.hid h3; clear h3
            go_wp2
            go_round
            case rel =>
              refine ⟨k + 1, by omega, by go_num, ?_⟩
              rw [List.take_add_one, HG.out]
              have hb : badB s[k] = false := by
                cases hb : badB s[k] with
                | false => rfl
                | true => have := HB.out.1 hb; have := H3.out; omega
              simp [HA.out, hb]
            case measure => simp [intOf]; omega
    · have e1 : (s.data.toList.all fun c => !badB c) = true := by
        have := HA.out
        rwa [List.take_of_length_le (by rw [HZ.out]; omega)] at this
      have E1 := Lib.hid e1; clear e1
      by_cases h4 : (1 : Int) ≤ (s.size : Int)
      · go_wp2
        go_ret
        refine ⟨ret_bool ?_, rfl⟩
        rw [named_eq, E1.out, HZ.out]
        have : 1 ≤ s.size := by omega
        simp [this]; try omega
      · go_wp2
        go_ret
        refine ⟨ret_bool ?_, rfl⟩
        rw [named_eq, E1.out, HZ.out]
        have : ¬ 1 ≤ s.size := by omega
        simp [this]
end Go.Proofs.Ytepphepcaphlkaa
