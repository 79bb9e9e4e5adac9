import Derived.Test.YtepphepcaphlkaaDo
namespace Go.Proofs.Ytepphepcaphlkaa
open Go Go.RowKit Go.MapKept Go.Maps
open Dk
variable {c c' : Col} {S : Nat × Nat → Prop} {w w' : World}
structure PlanW (w : World) (c : Col) (vk vf vu : Value) (p : APlan) : Prop where
  keep : Sw w c (0, 0) vk (p.keep.map iv)
  fail : Sw w c (0, 0) vf (p.fail.map iv)
  full : Sw w c (0, 0) vu (p.full.map iv)
theorem PlanW.kp {vk vf vu : Value} {p : APlan} (h : PlanW w c vk vf vu p) (hk : Kp c S w w') (h0 : ¬ S (0, 0)) (hc : Cx w c c') : PlanW w' c' vk vf vu p :=
  ⟨h.keep.kp hk h0 hc, h.fail.kp hk h0 hc, h.full.kp hk h0 hc⟩
/-- An operation's cells. -/
def opCells (o : AOp) (vd vk vf vu : Value) : List Value := [.int .i64 o.kind, str o.name, str o.to, .int .i64 o.at_, .int .i64 o.long, vd, .int .i64 o.plan.crash, vk, vf, vu, .int .i64 o.plan.room]
structure OpAt (w : World) (c : Col) (b off : Nat) (o : AOp) (vd vk vf vu : Value) : Prop where
  col : c b = (0, 0)
  cells : ∀ (j : Nat) u, (opCells o vd vk vf vu)[j]? = some u → w.cell? ⟨b, off + j, none⟩ = some u
  data : Sw w c (0, 0) vd (o.data.map bv)
  plan : PlanW w c vk vf vu o.plan
  name : o.name.length ≤ maxLen
  to : o.to.length ≤ maxLen
  kind : -9223372036854775808 ≤ o.kind ∧ o.kind ≤ 9223372036854775807
  at_ : -9223372036854775808 ≤ o.at_ ∧ o.at_ ≤ 9223372036854775807
  long : -9223372036854775808 ≤ o.long ∧ o.long ≤ 9223372036854775807
  fits : o.data.length ≤ lim ∧ o.plan.keep.length ≤ lim ∧ o.plan.fail.length ≤ lim ∧ o.plan.full.length ≤ lim
def OpsAt (w : World) (c : Col) (v : Value) (l : List AOp) : Prop :=
  ∃ a cap, v = .slice a l.length cap ∧ l.length ≤ maxLen ∧ (a = none → l = []) ∧ ∀ ad, a = some ad → ∀ (i : Nat) o, l[i]? = some o → ad.spot = none ∧ ∃ vd vk vf vu, OpAt w c ad.block (ad.off + i * 11) o vd vk vf vu
theorem OpAt.kp {b off : Nat} {o : AOp} {vd vk vf vu : Value} (h : OpAt w c b off o vd vk vf vu) (hk : Kp c S w w') (h0 : ¬ S (0, 0)) (hc : Cx w c c') : OpAt w' c' b off o vd vk vf vu := by
  have hlt : b < w.heap.size := World.block_lt_of_cell? w ⟨b, off + 0, none⟩ (h.cells 0 _ rfl)
  exact ⟨(hc _ hlt).trans h.col, fun j u hj => hk.cell (h.cells j u hj) (by show ¬ S (c b); rw [h.col]; exact h0), h.data.kp hk h0 hc, h.plan.kp hk h0 hc, h.name, h.to, h.kind, h.at_, h.long, h.fits⟩
theorem OpsAt.kp {v : Value} {l : List AOp} (h : OpsAt w c v l) (hk : Kp c S w w') (h0 : ¬ S (0, 0)) (hc : Cx w c c') : OpsAt w' c' v l := by
  obtain ⟨a, cap, h1, hm, h2, h3⟩ := h
  refine ⟨a, cap, h1, hm, h2, fun ad had i o hi => ?_⟩
  obtain ⟨h5, vd, vk, vf, vu, h4⟩ := h3 ad had i o hi
  exact ⟨h5, vd, vk, vf, vu, h4.kp hk h0 hc⟩
structure FInv (w : World) (c : Col) (l : List AOp) (i n : Nat) (wr : World) : Prop where
  kp : ∀ S, Kp c S w wr
  le : n ≤ 20000
  small : ∀ o ∈ l.take i, o.data.length ≤ 20000 ∧ o.plan.keep.length ≤ 20000 ∧ o.plan.fail.length ≤ 20000 ∧ o.plan.full.length ≤ 20000
def FewPost (c : Col) (l : List AOp) (w : World) (e : Ending) (w' : World) : Prop :=
  ∃ b, e = .returned (.bool b) ∧ (∀ S, Kp c S w w') ∧ (b = true → l.length ≤ 60 ∧ ∀ o ∈ l, o.data.length ≤ 20000 ∧ o.plan.keep.length ≤ 20000 ∧ o.plan.fail.length ≤ 20000 ∧ o.plan.full.length ≤ 20000)
theorem few_in {x : Int} (h1 : -9223372036854775808 ≤ x) (h2 : x ≤ 9223372036854775807) : wrap64 x = x := by unfold wrap64; omega
theorem few_nat {x : Int} (h : 0 ≤ x) : Value.int .i64 x = .int .i64 (x.toNat : Nat) := by rw [Int.toNat_of_nonneg h]
theorem few_small {l : List AOp} {i : Nat} {o : AOp} (h : ∀ o ∈ l.take i, o.data.length ≤ 20000 ∧ o.plan.keep.length ≤ 20000 ∧ o.plan.fail.length ≤ 20000 ∧ o.plan.full.length ≤ 20000) (ho : l[i]? = some o)
    (h' : o.data.length ≤ 20000 ∧ o.plan.keep.length ≤ 20000 ∧ o.plan.fail.length ≤ 20000 ∧ o.plan.full.length ≤ 20000) : ∀ o ∈ l.take (i + 1), o.data.length ≤ 20000 ∧ o.plan.keep.length ≤ 20000 ∧ o.plan.fail.length ≤ 20000 ∧ o.plan.full.length ≤ 20000 := by
  intro x hx
  rw [List.take_add_one, ho] at hx
  rcases List.mem_append.1 hx with hx | hx
  · exact h x hx
  · simp at hx; subst hx; exact h'
set_option maxHeartbeats 8000000 in
theorem few_c (v : Value) (l : List AOp) (w : World) (h : OpsAt w c v l) :
    Calls Try.prog 10 #[v] w (FewPost c l w) := by
  obtain ⟨a, cap, rfl, hm, hn, hop⟩ := h
  have HM := Lib.hid hm
  have HN := Lib.hid hn; clear hn
  have HOP := Lib.hid hop; clear hop
  have hlen : (l.length : Int) ≤ 9223372036854775807 := by unfold maxLen at hm; omega
  clear hm
  go_enter Try.func10, Try.ntmps10
  go_wp2
  go_loopw [3, 8] (fun vn s wr => ∃ i n : Nat, i ≤ l.length ∧ s = .int .i64 i ∧ vn = .int .i64 n ∧ FInv w c l i n wr) (fun _ s _ => l.length - (intOf s).toNat)
  case atStart =>
    exact ⟨0, 0, Nat.zero_le _, rfl, rfl, fun S => Kp.refl _ _ _, by omega, by simp⟩
  case round =>
    obtain ⟨i, n, hi, rfl, rfl, I⟩ := hrel
    have HI := Lib.hid I
    have hle := I.le
    clear I
    by_cases hlt : i < l.length
    · obtain ⟨o, ho⟩ : ∃ o, l[i]? = some o := ⟨l[i], List.getElem?_eq_getElem hlt⟩
      cases a with
      | none => rw [HN.out rfl] at hlt; cases hlt
      | some ad =>
        obtain ⟨b, off, sp⟩ := ad
        have hop := HOP.out _ rfl
        obtain ⟨hsp, vd, vk, vf, vu, O⟩ := hop i o ho
        cases hsp
        obtain ⟨ad, kd, rfl, hd1, hd2, -⟩ := O.data
        obtain ⟨ak, kk, rfl, hk1, hk2, -⟩ := O.plan.keep
        obtain ⟨af, kf, rfl, hf1, hf2, -⟩ := O.plan.fail
        obtain ⟨au, ku, rfl, hu1, hu2, -⟩ := O.plan.full
        simp only [List.length_map] at O hd1 hk1 hf1 hu1
        have g0 : wr.cell? ⟨b, off + i * 11, none⟩ = some (.int .i64 o.kind) := (HI.out.kp S2F).cell (O.cells 0 _ rfl) (fun h => h)
        have g1 : wr.cell? ⟨b, off + i * 11 + 1, none⟩ = some (.string ⟨o.name.toArray⟩) := (HI.out.kp S2F).cell (O.cells 1 _ rfl) (fun h => h)
        have g2 : wr.cell? ⟨b, off + i * 11 + 2, none⟩ = some (.string ⟨o.to.toArray⟩) := (HI.out.kp S2F).cell (O.cells 2 _ rfl) (fun h => h)
        have g3 : wr.cell? ⟨b, off + i * 11 + 3, none⟩ = some (.int .i64 o.at_) := (HI.out.kp S2F).cell (O.cells 3 _ rfl) (fun h => h)
        have g4 : wr.cell? ⟨b, off + i * 11 + 4, none⟩ = some (.int .i64 o.long) := (HI.out.kp S2F).cell (O.cells 4 _ rfl) (fun h => h)
        have g5 : wr.cell? ⟨b, off + i * 11 + 5, none⟩ = some (.slice ad o.data.length kd) := (HI.out.kp S2F).cell (O.cells 5 _ rfl) (fun h => h)
        have g6 : wr.cell? ⟨b, off + i * 11 + 6, none⟩ = some (.int .i64 o.plan.crash) := (HI.out.kp S2F).cell (O.cells 6 _ rfl) (fun h => h)
        have g7 : wr.cell? ⟨b, off + i * 11 + 7, none⟩ = some (.slice ak o.plan.keep.length kk) := (HI.out.kp S2F).cell (O.cells 7 _ rfl) (fun h => h)
        have g8 : wr.cell? ⟨b, off + i * 11 + 8, none⟩ = some (.slice af o.plan.fail.length kf) := (HI.out.kp S2F).cell (O.cells 8 _ rfl) (fun h => h)
        have g9 : wr.cell? ⟨b, off + i * 11 + 9, none⟩ = some (.slice au o.plan.full.length ku) := (HI.out.kp S2F).cell (O.cells 9 _ rfl) (fun h => h)
        have g10 : wr.cell? ⟨b, off + i * 11 + 10, none⟩ = some (.int .i64 o.plan.room) := (HI.out.kp S2F).cell (O.cells 10 _ rfl) (fun h => h)
        have HO := Lib.hid O; clear O hop
        go_wp2
        all_goals
          have hfit := HO.out.fits
          unfold lim at hfit
          obtain ⟨hd3, hk3, hf3, hu3⟩ := hfit
          first
          | (refine ⟨⟨i + 1, ?_⟩, ?_⟩
             · simp (disch := omega) only [few_in] at *
               rename_i hcmp
               refine ⟨_, by omega, by go_num, few_nat ?_, fun S => (HI.out.kp S).alloc _, ?_, few_small HI.out.small ho ?_⟩
               all_goals omega
             · simp [intOf]; omega)
          | (go_ret; exact ⟨false, rfl, fun S => (HI.out.kp S).alloc _, fun h => by cases h⟩)
    · obtain rfl : i = l.length := by omega
      go_wp2
      go_ret
      refine ⟨decide ((l.length : Int) ≤ 60), rfl, HI.out.kp, fun h => ⟨by have := of_decide_eq_true h; omega, fun o ho => HI.out.small o (by rw [List.take_of_length_le (Nat.le_refl _)]; exact ho)⟩⟩
end Go.Proofs.Ytepphepcaphlkaa
