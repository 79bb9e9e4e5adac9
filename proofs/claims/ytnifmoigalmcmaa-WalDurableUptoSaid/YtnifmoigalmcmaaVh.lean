/- WalDurable: Append that goes well, or ill; what is read behind a death. -/
import Derived.Test.YtnifmoigalmcmaaVa
import Derived.Test.YtnifmoigalmcmaaVe
import Derived.Test.YtnifmoigalmcmaaVg
import Derived.Test.YtnifmoigalmcmaaSt
namespace Go.Proofs.Ytnifmoigalmcmaa
open Go Go.RowKit Dk
open Wl
variable {c c' : Col} {w w' : World} {S : Nat × Nat → Prop} {q : Nat × Nat}
variable {kl lb d : Nat} {nm : Nm} {vl vb : Value} {ls : List (List Bs)} {size : Nat} {p : APlan} {o : Int} {E : Bs} {batch : List Bs}
theorem append_yes (w : World) (L : LogAt w c 2 lb d nm vl ls size false) (DD : DiskAt w c 1 d (logDisk p o nm E)) (hops : o < 899990) (hn : nm.length ≤ maxLen) (hsz : size ≤ 1000000000) (hls : ls.length ≤ 1000000)
    (HBT : Bat w c (0, 0) (0, 0) vb batch) (hl : batch.length ≤ 1000000000) (hb : ∀ r ∈ batch, r.length ≤ 1000000000) (hg : good batch = true) (B : Bs) (hB : B = enc kec ls.length batch)
    (hok : (append (logDisk p o nm E) nm B).1 = 0 ∧ (sync (append (logDisk p o nm E) nm B).2 nm).1 = 0) :
    Calls Try.prog 19 #[ptr lb, vb] w fun e w' => e = .returned (.int .i64 0) ∧ ∃ c', Cx w c c' ∧ Kp c (fun q => q.1 = 1 ∨ q.1 = 2) w w' ∧ DiskAt w' c' 1 d (logDisk p (o + 2) nm (E ++ B)) ∧
      ∃ vl', LogAt w' c' 2 lb d nm vl' (ls ++ [batch]) (size + B.length) false := by
  subst hB
  have h := append_clean 1 (logDisk p o nm E) w vb batch L DD (by decide) (by decide) (by decide) hops hn hsz hls HBT hl hb hg hok.1 hok.2
  have hd : (sync (append (logDisk p o nm E) nm (enc kec ls.length batch)).2 nm).2 = logDisk p (o + 2) nm (E ++ enc kec ls.length batch) := by
    rcases append_log (p := p) (o := o) (nm := nm) (E := E) (b := enc kec ls.length batch) with ⟨_, h1⟩ | ⟨h1, _⟩
    · have h2 := hok.2
      rw [h1] at h2 ⊢
      rcases sync_log (p := p) (o := o + 1) (nm := nm) (E := E) (b := enc kec ls.length batch) with ⟨_, h3⟩ | ⟨h3, _⟩
      · rw [h3, Int.add_assoc]; rfl
      · exact absurd h2 h3
    · exact absurd hok.1 h1
  rw [hd] at h
  exact h
theorem append_nok (w : World) (L : LogAt w c 2 lb d nm vl ls size false) (DD : DiskAt w c 1 d (logDisk p o nm E)) (hops : o < 899990) (hn : nm.length ≤ maxLen) (hsz : size ≤ 1000000000) (hls : ls.length ≤ 1000000)
    (HBT : Bat w c (0, 0) (0, 0) vb batch) (hl : batch.length ≤ 1000000000) (hb : ∀ r ∈ batch, r.length ≤ 1000000000) (hg : good batch = true) (B : Bs) (hB : B = enc kec ls.length batch)
    (hno : ¬ ((append (logDisk p o nm E) nm B).1 = 0 ∧ (sync (append (logDisk p o nm E) nm B).2 nm).1 = 0)) :
    Calls Try.prog 19 #[ptr lb, vb] w fun e w' => ∃ (er : Int) (m5 : ADisk) (c' : Col) (j : Nat), e = .returned (.int .i64 er) ∧ (er == 0) = false ∧ Cx w c c' ∧ Kp c (fun q => q.1 = 1 ∨ q.1 = 2) w w' ∧ DiskAt w' c' 1 d m5 ∧ Dry m5 ∧ m5.ops ≤ o + 2 ∧ j ≤ B.length ∧
      Dk.start m5 plan0 = logDisk plan0 0 nm (E ++ B.take j) := by
  subst hB
  obtain ⟨B, hB⟩ : ∃ B, B = enc kec ls.length batch := ⟨_, rfl⟩
  rw [← hB] at hno ⊢
  have hao := append_ops (logDisk p o nm E) nm B
  have hao : (append (logDisk p o nm E) nm B).2.ops ≤ o + 1 := hao
  rcases append_log (p := p) (o := o) (nm := nm) (E := E) (b := B) with ⟨h0, h1⟩ | ⟨h1, h2, h3⟩
  · obtain ⟨M, hM⟩ : ∃ M, M = (append (logDisk p o nm E) nm B).2 := ⟨_, rfl⟩
    have hA : append (logDisk p o nm E) nm (enc kec ls.length batch) = (0, M) := by rw [← hB, ← h0, hM]
    rw [← hM] at h1 hao hno
    have hso := sync_ops M nm
    have hsl := sync_log (p := p) (o := o + 1) (nm := nm) (E := E) (b := B)
    rw [← h1] at hsl
    have h2 : ¬ (sync M nm).1 = 0 := fun h => hno ⟨h0, h⟩
    obtain ⟨er, m5, hs⟩ : ∃ er m5, sync M nm = (er, m5) := ⟨_, _, rfl⟩
    rw [hs] at hsl hso h2
    rcases hsl with ⟨h3, _⟩ | ⟨h3, h4, j, hj, h5⟩
    · exact absurd h3 h2
    · refine (append_ill2 1 (logDisk p o nm E) w vb batch L DD (by decide) (by decide) (by decide) hops hn hsz hls HBT hl hb hg er M m5 hA hs h2).mono ?_
      rintro e w' ⟨he, c', hc, hk, hd, hl'⟩
      have hso : m5.ops ≤ M.ops + 1 := hso
      exact ⟨er, m5, c', j, he, by simpa using h2, hc, hk, hd, h4, by omega, hj, h5 plan0⟩
  · refine (append_ill1 1 (logDisk p o nm E) w vb batch L DD (by decide) (by decide) (by decide) hops hn hsz hls HBT hl hb hg (append (logDisk p o nm E) nm B).1 (append (logDisk p o nm E) nm B).2 (by rw [← hB]) h1).mono ?_
    rintro e w' ⟨he, c', hc, hk, hd, hl'⟩
    exact ⟨_, _, c', 0, he, by simpa using h1, hc, hk, hd, h2, by omega, Nat.zero_le _, by rw [h3]; simp⟩
/-- What is read behind a death. -/
theorem dur_read {K : Bs → Bs} (hk : ∀ b, (K b).length = 32) (G : List (List Bs)) (x : List Bs) (j : Nat) (hg : ∀ y ∈ G, good y = true) (hx : good x = true) (hl : G.length ≤ 1000000) (hj : j ≤ (enc K G.length x).length) :
    (read K (encs K 0 G ++ (enc K G.length x).take j)).1 = G ∨ (read K (encs K 0 G ++ (enc K G.length x).take j)).1 = G ++ [x] := by
  have e : encs K 0 (G ++ [x]) = encs K 0 G ++ enc K G.length x := by rw [encs_append]; simp [encs]
  have e2 : encs K 0 G ++ (enc K G.length x).take j = (encs K 0 (G ++ [x])).take ((encs K 0 G).length + j) := by rw [e, List.take_append, List.take_of_length_le (Nat.le_add_right _ _), Nat.add_sub_cancel_left]
  rw [e2]
  obtain ⟨i, hi, h1, h2⟩ := readF_cut hk (G ++ [x]) 0 (((encs K 0 (G ++ [x])).take ((encs K 0 G).length + j)).length + 1) ((encs K 0 G).length + j) (fun y hy => by
    rcases List.mem_append.1 hy with h | h
    · exact hg y h
    · rw [List.mem_singleton.1 h]; exact hx) (by rw [List.length_append, List.length_singleton]; omega) (by omega) (by rw [e, List.length_append]; omega)
  have h3 := (h2 G.length (by rw [List.length_append]; omega)).2 (by rw [List.take_left]; omega)
  rw [List.length_append, List.length_singleton] at hi
  have h4 : (read K ((encs K 0 (G ++ [x])).take ((encs K 0 G).length + j))).1 = (G ++ [x]).take i := h1
  rw [h4]
  by_cases hi2 : i = G.length
  · left; rw [hi2, List.take_left]
  · right; exact List.take_of_length_le (by rw [List.length_append, List.length_singleton]; omega)
theorem gl_prefix (l : List (List Bs)) (i : Nat) : gl ((l.take i).filter good).length l = (l.take i).filter good := by
  unfold gl
  have e : l.filter good = (l.take i).filter good ++ (l.drop i).filter good := by rw [← List.filter_append, List.take_append_drop]
  rw [e, List.take_left]
theorem LogW.single {b o k : Nat} {v : Value} {x : List Bs} (hk : 1 ≤ k) (hm : k ≤ maxLen) (h : w.cell? ⟨b, o, none⟩ = some v) (hx : BatW w c00 (0, 0) (0, 0) v x) : LogW w c00 (0, 0) (.slice (some ⟨b, o, none⟩) 1 k) [x] := by
  refine ⟨[v], ⟨some ⟨b, o, none⟩, k, rfl, hk, hm, (fun h => by cases h), fun ad had j u hj => ?_⟩, rfl, fun i u y hu hy => ?_⟩
  · cases had
    match j, hj with
    | 0, hj => simp at hj; subst hj; exact ⟨rfl, rfl, h⟩
  · match i, hu, hy with
    | 0, hu, hy => simp at hu hy; subst hu hy; exact hx
/-- All old blocks stand. -/
theorem all_trans {wr : World} {cr : Col} {T : Nat × Nat → Prop} (h : ∀ c S, Kp c S w wr) (hc : Cx w c00 cr) (hk : Kp cr T wr w') (hT : ¬ T (0, 0)) : ∀ c S, Kp c S w w' := fun c S => by
  have h0 := h c S
  exact ⟨hk.os.trans h0.os, hk.tape.trans h0.tape, hk.output.trans h0.output, Nat.le_trans h0.size hk.size, fun b hb hn => (hk.block b (Nat.lt_of_lt_of_le hb h0.size) (by rw [hc b hb]; exact hT)).trans (h0.block b hb hn)⟩
end Go.Proofs.Ytnifmoigalmcmaa
