import Derived.Test.YtepphepcaphlkaaG
namespace Go.Proofs.Ytepphepcaphlkaa
open Go Go.RowKit Go.MapKept Go.Maps
open Dk
variable {c : Col} {w : World}
/-- The tape is never turned. -/
def TapeKept {α : Type} (s : Sem α) : Prop := ∀ (P : Program) (w : World) (a : α) (w' : World), s.run P w = .ok a w' → w'.tape = w.tape
theorem tk_pure {α : Type} (x : α) : TapeKept (pure x : Sem α) := by
  intro P w a w' h
  have h : Result.ok x w = .ok a w' := h
  injection h with _ h
  rw [h]
theorem tk_bind {α β : Type} {s : Sem α} {f : α → Sem β} (hs : TapeKept s) (hf : ∀ a, TapeKept (f a)) : TapeKept (s >>= f) := by
  intro P w a w' h
  rw [Sem.run_bind] at h
  cases hr : s.run P w with
  | ok x w1 =>
    rw [hr] at h
    exact (hf x P w1 a w' h).trans (hs P w x w1 hr)
  | halt x w1 => rw [hr] at h; cases h
theorem tk_halt {α : Type} (x : Halt) : TapeKept (Sem.halt x : Sem α) := by
  intro P w a w' h
  cases h
theorem tk_bind_halt {α β : Type} (x : Halt) (f : α → Sem β) : TapeKept (Sem.halt x >>= f) := by
  intro P w a w' h
  rw [Sem.run_bind] at h
  cases h
theorem tk_get (r : Nat) : TapeKept (getObj r) := by
  intro P w a w' h
  unfold getObj at h
  simp only [Sem.run] at h
  split at h <;> first | (cases h; rfl) | cases h
theorem tk_set (r : Nat) (o : Obj) : TapeKept (setObj r o) := by
  intro P w a w' h
  unfold setObj at h
  simp only [Sem.run] at h
  split at h <;> first | (cases h; rfl) | cases h
theorem tk_choose (q : Question) : TapeKept (choose q) := by
  intro P w a w' h
  unfold choose at h
  simp only [Sem.run] at h
  split at h <;> first | (cases h; rfl) | cases h
theorem tk_next (v : Value) (ty : TypeId) : TapeKept (Instr.next v false ty) := by
  unfold Instr.next
  split
  · refine tk_bind (tk_get _) fun o => ?_
    split
    · split
      · exact tk_bind (tk_set _ _) fun _ => tk_pure _
      · exact tk_pure _
    · exact tk_pure _
    · refine tk_bind (tk_get _) fun o => ?_
      split
      · split
        · exact tk_bind_halt _ _
        · refine tk_bind (tk_choose _) fun o => ?_
          split
          · exact tk_bind (tk_set _ _) fun _ => tk_pure _
          · exact tk_pure _
          · exact tk_halt _
      · exact tk_halt _
    · exact tk_halt _
  · exact tk_halt _
/-- how many bytes the file has that an entry names. -/
def entLen (fs : List (Nm × AFile)) (k : Value) : Nat := match k with | .string s => (match get fs s.data.toList with | some f => f.now.length | none => 0) | _ => 0
def leftSum (fs : List (Nm × AFile)) (es : Array MapEntry) (seen : Array Nat) : Nat := ((leftOf es seen).toList.map fun e => entLen fs e.key).sum
theorem entLen_str {fs : List (Nm × AFile)} (hr : Rising fs) {x : Nm × AFile} (hx : x ∈ fs) : entLen fs (str x.1) = x.2.now.length := by
  simp only [entLen, str]
  rw [get_of_mem hr hx]
theorem leftSum_all {k mb ck : Nat} {es : Array MapEntry} {fb : Nm → Nat} {fs : List (Nm × AFile)} (M : MapAt w c k mb es ck fb fs) (hr : Rising fs) : leftSum fs es #[] = (fs.map fun x => x.2.now.length).sum := by
  have h1 : leftOf es #[] = es := by unfold leftOf; rw [Array.filter_eq_self.2]; intro a _; simp
  unfold leftSum
  rw [h1]
  have h2 : (es.toList.map fun e => entLen fs e.key) = (es.toList.map fun e => (e.key, e.val)).map fun p => entLen fs p.1 := by rw [List.map_map]; rfl
  rw [h2, (M.perm.map fun p => entLen fs p.1).sum_nat, List.map_map]
  congr 1
  exact List.map_congr_left fun x hx => entLen_str hr hx
theorem leftOf_push (es : Array MapEntry) (seen : Array Nat) (b : Nat) : leftOf es (seen.push b) = (leftOf es seen).filter fun e => !(e.born == b) := by
  unfold leftOf
  rw [Array.filter_filter]
  congr 1
  funext e
  rw [Array.contains_push]
  cases seen.contains e.born <;> cases e.born == b <;> rfl
theorem sum_filter_one (g : MapEntry → Nat) (e : MapEntry) : ∀ l : List MapEntry, (l.map (·.born)).Nodup → e ∈ l → ((l.filter fun x => !(x.born == e.born)).map g).sum + g e = (l.map g).sum
  | [], _, h => by cases h
  | x :: r, hn, h => by
    rw [List.map_cons, List.nodup_cons] at hn
    rcases List.mem_cons.1 h with rfl | h
    · have : r.filter (fun x => !(x.born == e.born)) = r := List.filter_eq_self.2 fun y hy => by
        have : y.born ≠ e.born := fun he => hn.1 (he ▸ List.mem_map.2 ⟨y, hy, rfl⟩)
        simp [this]
      rw [List.filter_cons_of_neg (by simp), this]
      simp; omega
    · have hne : x.born ≠ e.born := fun he => hn.1 (he ▸ List.mem_map.2 ⟨e, h, rfl⟩)
      rw [List.filter_cons_of_pos (by simp [hne])]
      have := sum_filter_one g e r hn.2 h
      simp only [List.map_cons, List.sum_cons] at *
      omega
theorem leftSum_push {fs : List (Nm × AFile)} {es : Array MapEntry} {seen : Array Nat} {e : MapEntry} (hn : (es.toList.map (·.born)).Nodup) (he : e ∈ (leftOf es seen).toList) : leftSum fs es (seen.push e.born) + entLen fs e.key = leftSum fs es seen := by
  unfold leftSum
  rw [leftOf_push]
  have h1 : (leftOf es seen).toList.Sublist es.toList := by unfold leftOf; simp only [Array.toList_filter]; exact List.filter_sublist
  have := sum_filter_one (fun e => entLen fs e.key) e (leftOf es seen).toList (hn.sublist (h1.map _)) he
  rw [Array.toList_filter]
  exact this
theorem total_le {fs : List (Nm × AFile)} {k : Nat} (h : ∀ x ∈ fs, x.2.ok k) : (fs.map fun x => x.2.now.length).sum ≤ fs.length * 268435456 := by
  induction fs with
  | nil => simp
  | cons x r ih =>
    have h1 := (h x (List.mem_cons_self ..)).now
    have h2 := ih fun y hy => h y (List.mem_cons_of_mem _ hy)
    unfold maxFile at h1
    simp only [List.map_cons, List.sum_cons, List.length_cons, Nat.add_mul]
    omega
theorem room_c (k d : Nat) (m : ADisk) (vk vf vu : Value) (mb : Nat) (es : Array MapEntry) (ck : Nat) (fb : Nm → Nat) (w : World) (D : DiskAt' w c k d m vk vf vu mb es ck fb) (had has : Int) (h1 : 0 ≤ had) (h2 : had ≤ 1073741824) (h3 : 0 ≤ has) (h4 : has ≤ 1073741824) :
    Calls Try.prog 62 #[ptr d, .int .i64 had, .int .i64 has] w fun e w' => e = .returned (.int .i64 (room_ m had has)) ∧ ∀ (c : Col) S, Kp c S w w' := by
  have hc2 := D.c4
  have hc5 := D.c5
  have hc6 := D.c6
  have hc8 := D.c8
  have HD := Lib.hid D
  have HFU := Lib.hid D.plan.full
  clear D
  unfold ptr
  by_cases hin : m.ops ∈ m.plan.full
  · have hd : decide (m.ops ∈ m.plan.full) = true := by simpa using hin
    have HI := Lib.hid hin; clear hin
    go_enter Try.func62, Try.ntmps62
    go_wp2
    go_quiet ((go_at_call 77; exact Calls.quiet_of_same ((containsI _ _ _ (HFU.out.drewN _)).mono fun e w' h => ⟨h.1, h.2.symm⟩)))
    go_wp2
    go_ret
    refine ⟨ret_int ?_, fun c S => (Kp.refl c S _).drewN _⟩
    unfold room_; rw [if_pos HI.out]
  · have hd : decide (m.ops ∈ m.plan.full) = false := by simpa using hin
    have HI := Lib.hid hin; clear hin
    have hq := fun (n : Nat) => (containsI (w := w.drewN n) _ _ m.ops (HFU.out.drewN n)).mono (R' := fun e w' => e = .returned (.bool (decide (m.ops ∈ m.plan.full))) ∧ w' = w.drewN n) fun e w' h => ⟨h.1, h.2.symm⟩
    have HQ := Lib.hid hq; clear hq
    by_cases hA : m.plan.room ≤ 0
    · go_enter Try.func62, Try.ntmps62
      go_wp2
      go_quiet ((go_at_call 77; exact Calls.quiet_of_same (HQ.out _)))
      go_wp2
      go_ret
      refine ⟨ret_int ?_, fun c S => (Kp.refl c S _).drewN _⟩
      unfold room_; rw [if_neg HI.out, if_pos (.inl hA)]
    · by_cases hB : has ≤ had
      · go_enter Try.func62, Try.ntmps62
        go_wp2
        go_quiet ((go_at_call 77; exact Calls.quiet_of_same (HQ.out _)))
        go_wp2
        go_ret
        refine ⟨ret_int ?_, fun c S => (Kp.refl c S _).drewN _⟩
        unfold room_; rw [if_neg HI.out, if_pos (.inr hB)]
      · have M := HD.out.map
        have hr := HD.out.ok.rising
        have htot := total_le HD.out.ok.files
        have htot : total m ≤ m.files.length * 268435456 := htot
        have hmany := HD.out.ok.many
        have htot2 : (total m : Int) ≤ 1099511627776 := by omega
        have hall := leftSum_all M hr
        have hall : leftSum m.files es #[] = total m := hall
        have hrg : ∀ n, (Instr.range 63 (.map (some mb))).run Try.prog (w.drewN n) = .ok (.pointer (some ⟨w.heap.size, 0, none⟩)) ((w.drewN n).alloc (.mapIter (some mb) ck #[] ck)) := fun n => run_range_map (P := Try.prog) (w.drewN n) _ _ _ mb es ck Try.underlying63 M.heap
        have HM := Lib.hid M; clear M
        have HR := Lib.hid hr; clear hr
        have HT := Lib.hid htot; clear htot hmany
        have HAL := Lib.hid hall; clear hall
        go_enter Try.func62, Try.ntmps62
        go_wp2
        go_quiet ((go_at_call 77; exact Calls.quiet_of_same (HQ.out _)))
        go_wp2
        clear hrg
        go_loopw [7] (fun s w' => ∃ (w1 : World) (seen : Array Nat), w1.Alike w ∧ w1.tape = w.tape ∧ w' = w1.alloc (.mapIter (some mb) ck seen ck) ∧ ∃ a : Nat, a + leftSum m.files es seen = total m ∧ s = .int .i64 (has - had + (a : Int))) (fun _ w' => (leftOf es (w'.iterSeen w.heap.size)).size)
        case atStart => exact ⟨w.drewN nq, #[], ⟨rfl, rfl, rfl⟩, rfl, rfl, 0, by rw [HAL.out]; exact Nat.zero_add _, by simp⟩
        case round =>
          obtain ⟨w1, seen, hal, htp, rfl, a, hle, rfl⟩ := hrel
          have HTP := Lib.hid htp; clear htp
          have ha2 : (a : Int) ≤ 1099511627776 := by omega
          have hsz : w1.heap.size = w.heap.size := by rw [hal.1]
          have hb1 : w1.heap[mb]? = some (.map es ck) := by rw [hal.1]; exact HM.out.heap
          have law := run_next_map (P := Try.prog) w1 0 mb ck ck seen es ck hb1 HM.out.fit.stamped.1 (Nat.le_refl _)
          rw [hsz] at law
          have hd5 : w1.cell? ⟨d, 5, none⟩ = some (.int .i64 m.plan.room) := (World.cell?_of_block (w := w) (by rw [hal.1])).trans hc5
          have hds : d < w1.heap.size := by rw [hsz]; exact HD.out.lt
          have hd6 := (World.cell?_alloc_lt w1 (.mapIter (some mb) ck seen ck) ⟨d, 5, none⟩ hds).trans hd5
          have HZ := Lib.hid hsz; clear hsz
          rcases law with ⟨h0, hrun⟩ | ⟨e, he, w2, hal2, hrun⟩
          · have hnx : ∀ ty, (Instr.next (.pointer (some ⟨w.heap.size, 0, none⟩)) false ty).run Try.prog (w1.alloc (.mapIter (some mb) ck seen ck)) = _ := fun _ => hrun
            clear hrun hd5 hds
            have hl0 : leftSum m.files es seen = 0 := by
              unfold leftSum
              have : (leftOf es seen).toList = [] := List.eq_nil_of_length_eq_zero (by simpa using h0)
              rw [this]; rfl
            have hat : a = total m := by omega
            subst hat
            clear hl0 hle
            have hKK : ∀ (c : Col) S, Kp c S w w1 := fun c S => ⟨hal.2.1, HTP.out, hal.2.2, by rw [hal.1]; exact Nat.le_refl _, fun b _ _ => by rw [hal.1]⟩
            have HKK := Lib.hid hKK; clear hKK
            by_cases hfin : m.plan.room < has - had + (total m : Int)
            all_goals
              go_wp2
              go_ret
              refine ⟨ret_int ?_, fun c S => (HKK.out c S).alloc _⟩
              unfold room_
              rw [if_neg HI.out, if_neg (by omega)]
              first | rw [if_pos (by omega)] | rw [if_neg (by omega)]
          · obtain ⟨hes, hns⟩ := mem_left he
            have hk : (e.key, e.val) ∈ m.files.map fun x => (str x.1, ptr (fb x.1)) := HM.out.perm.mem_iff.1 (List.mem_map.2 ⟨e, hes, rfl⟩)
            obtain ⟨x, hx, heq⟩ := List.mem_map.1 hk
            simp only [Prod.mk.injEq] at heq
            obtain ⟨hkey, hval⟩ := heq
            have hel : entLen m.files e.key = x.2.now.length := by rw [← hkey]; exact entLen_str HR.out hx
            have HT2 := Lib.hid ((tk_next _ _ _ _ _ _ hrun).trans HTP.out)
            have hpush := leftSum_push (fs := m.files) HM.out.fit.stamped.2.1 he
            rw [hel] at hpush
            rw [← hval] at hrun
            have hnx : ∀ ty, (Instr.next (.pointer (some ⟨w.heap.size, 0, none⟩)) false ty).run Try.prog (w1.alloc (.mapIter (some mb) ck seen ck)) = _ := fun _ => hrun
            have hsz2 : w2.heap.size = w.heap.size := by rw [hal2.1, hal.1]
            clear hd6 hd5 hds
            have hb2 : w2.heap[mb]? = some (.map es ck) := by rw [hal2.1]; exact hb1
            have hen := run_entry_map (P := Try.prog) w2 mb ck seen es ck e hb2 hes HM.out.fit.stamped.2.1
            rw [hsz2, ← hval] at hen
            obtain ⟨vs, vc, vn, hh, _, _, _, hnow⟩ := HM.out.files x hx
            have hfl : fb x.1 < w2.heap.size := by rw [hsz2]; exact lt_of_heap hh
            obtain ⟨an, capn, rfl, _⟩ := hnow
            have hcn : w2.cell? ⟨fb x.1, 2, none⟩ = some (.slice an x.2.now.length capn) := by
              have h6 := cell_of_heap (w := w2) (b := fb x.1) (by rw [hal2.1, hal.1]; exact hh) 2
              rw [List.length_map] at h6
              exact h6
            have hcn2 := (World.cell?_alloc_lt w2 (.mapIter (some mb) ck (seen.push e.born) ck) ⟨fb x.1, 2, none⟩ hfl).trans hcn
            have HZ2 := Lib.hid hsz2
            have hbd : (a : Int) + (x.2.now.length : Int) ≤ 1099511627776 := by omega
            unfold ptr at hnx hen
            clear hrun hh hb1 hb2 hkey hval hel hk hsz2 hcn hfl
            have HP := Lib.hid hpush; clear hpush
            have HLE := Lib.hid hle; clear hle
            rename_i hz; clear hz
            go_wp2
            go_roundw
            case rel => exact ⟨w2, seen.push e.born, ⟨hal2.1.trans hal.1, hal2.2.1.trans hal.2.1, hal2.2.2.trans hal.2.2⟩, HT2.out, rfl, a + x.2.now.length, by have := HP.out; have := HLE.out; omega, by rw [Int.natCast_add, ← Int.add_assoc]⟩
            case measure =>
              have h6 := HZ2.out
              have h7 := HZ.out
              rw [← h6, World.iterSeen_alloc, h6, ← h7, World.iterSeen_alloc]
              exact left_shrinks es seen e he
end Go.Proofs.Ytepphepcaphlkaa
