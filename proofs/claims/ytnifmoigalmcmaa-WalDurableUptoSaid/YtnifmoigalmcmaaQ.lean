import Derived.Test.YtnifmoigalmcmaaO
namespace Go.Proofs.Ytnifmoigalmcmaa
open Go Go.RowKit Go.MapKept Go.Maps
open Go.WideElems (Fit rd rg pl)
open Dk
variable {c c' : Col} {w w' : World}
theorem now_le' {m : ADisk} {n : Nm} {f : AFile} (h : m.ok) (hg : get m.files n = some f) : (f.now.length : Int) ≤ 268435456 := by
  have h9 := (h.files _ (get_mem hg)).now
  have h9 : f.now.length ≤ maxFile := h9
  unfold maxFile at h9; omega
theorem erase_perm {α : Type} : ∀ (l : List α) (j : Nat) (x : α), l[j]? = some x → (x :: l.eraseIdx j).Perm l
  | [], j, x, h => by cases h
  | y :: r, 0, x, h => by simp at h; subst h; exact List.Perm.refl _
  | y :: r, j + 1, x, h => by
    have := erase_perm r j x (by simpa using h)
    rw [List.eraseIdx_cons_succ]
    exact (List.Perm.swap _ _ _).trans (this.cons y)
theorem del_perm {fs : List (Nm × AFile)} (hr : Rising fs) {n : Nm} {f : AFile} (hg : get fs n = some f) : ((n, f) :: del fs n).Perm fs := by
  induction fs with
  | nil => cases hg
  | cons x r ih =>
    obtain ⟨h1, h2⟩ := List.pairwise_cons.1 hr
    unfold del
    by_cases e : x.1 = n
    · have hx : x = (n, f) := rising_inj hr (List.mem_cons_self ..) (get_mem hg) e
      have hrest : r.filter (fun y => !(y.1 == n)) = r := List.filter_eq_self.2 fun y hy => by
        have : y.1 ≠ n := fun e2 => by have := h1 y hy; rw [e, e2] at this; exact List.lt_irrefl _ this
        simp [this]
      rw [List.filter_cons_of_neg (by simp [e]), hrest, hx]
    · rw [List.filter_cons_of_pos (by simp [e])]
      have hg' : Dk.get r n = some f := by
        unfold Dk.get at hg ⊢
        rw [List.find?_cons_of_neg (by simp [e])] at hg
        exact hg
      exact (List.Perm.swap _ _ _).trans ((ih h2 hg').cons x)
theorem del_get {fs : List (Nm × AFile)} {n : Nm} : get (del fs n) n = none := by
  cases h : get (del fs n) n with
  | none => rfl
  | some f =>
    have := get_mem h
    unfold del at this
    have := (List.mem_filter.1 this).2
    simp at this
theorem del_none {fs : List (Nm × AFile)} {n : Nm} (h : get fs n = none) : del fs n = fs := List.filter_eq_self.2 fun y hy => by
  have := get_none h y hy
  simp [this]
section
variable {k d : Nat} {m : ADisk} {vk vf vu : Value} {mb : Nat} {es : Array MapEntry} {ck : Nat} {fb : Nm → Nat} {n : Nm} {f : AFile}
theorem drop_all (M : MapAt w c k mb es ck fb m.files) (hr : Rising m.files) (hn : n.length ≤ maxLen) (hg : get m.files n = some f) :
    ∃ j e, es.toList[j]? = some e ∧ e.key = str n ∧ e.val = ptr (fb n) ∧
    ∀ ty, (Builtin.delete_ #[74, 9] ty #[.map (some mb), str n]).run Try.prog w = .ok (.tuple #[]) (putMap w mb (es.eraseIdxIfInBounds j) ck) := by
  rcases map_find M hr hn with ⟨h0, h1, _⟩ | ⟨f', j, e, h0, h1, h2, h3, h4⟩
  · rw [h0] at hg; cases hg
  · refine ⟨j, e, h2, h3, h4, fun ty => ?_⟩
    simp [Builtin.delete_, run_underlying Try.underlying74, MapKept.run_getObj_map M.heap, map_check hn, h1, MapKept.run_setObj_map _ M.heap, Result.andThen, putMap]
theorem erase_list {j : Nat} {e : MapEntry} (h : es.toList[j]? = some e) : (es.eraseIdxIfInBounds j).toList = es.toList.eraseIdx j := by
  have hj : j < es.size := by have := (List.getElem?_eq_some_iff.1 h).1; simpa using this
  unfold Array.eraseIdxIfInBounds
  rw [dif_pos hj]
  simp
theorem del_lt (h : m.ok) (hg : get m.files n = some f) : ({ m with files := del m.files n } : ADisk).files.length < 4096 := by
  have h1 := (del_perm h.rising hg).length_eq
  have h2 := h.many
  show (del m.files n).length < 4096
  rw [List.length_cons] at h1; omega
theorem del_apart (M : MapAt w c k mb es ck fb m.files) (hr : Rising m.files) (hg : get m.files n = some f) : ∀ x ∈ ({ m with files := del m.files n } : ADisk).files, fb x.1 ≠ fb n := by
  intro x hx e
  have hx : x ∈ del m.files n := hx
  have h1 := ((del_perm hr hg).map fun x => fb x.1).nodup_iff.2 M.apart
  rw [List.map_cons, List.nodup_cons] at h1
  exact h1.1 (List.mem_map.2 ⟨x, hx, e⟩)
theorem del_ok (h : m.ok) : ({ m with files := del m.files n } : ADisk).ok :=
  ⟨h.ops0, fun x hx => h.files x (List.mem_filter.1 hx).1, Nat.le_trans (List.length_filter_le _ _) h.many, fun x hx => h.names x (List.mem_filter.1 hx).1, del_rising n h.rising⟩
/-- A file taken out of the map. -/
theorem DiskAt'.drop (D : DiskAt' w c k d m vk vf vu mb es ck fb) (hk0 : k ≠ 0) {j : Nat} {e : MapEntry} (hg : get m.files n = some f) (h : es.toList[j]? = some e) (he : e.key = str n) (hv : e.val = ptr (fb n)) :
    DiskAt' (putMap w mb (es.eraseIdxIfInBounds j) ck) c k d { m with files := del m.files n } vk vf vu mb (es.eraseIdxIfInBounds j) ck fb := by
  have hl := erase_list h
  refine D.remap hk0 ⟨Nat.le_trans (MapFrom.size_erase es j) D.map.fit.size, stamped_erase D.map.fit.stamped j, fun x hx => ?_⟩ ?_ ?_ (fun x hx => D.map.files x (List.mem_filter.1 hx).1) (del_ok D.ok)
  · rw [hl] at hx
    exact D.map.fit.reads x ((List.eraseIdx_sublist _ _).subset hx)
  · rw [hl]
    have h1 := (erase_perm es.toList j e h).map fun e => (e.key, e.val)
    have h2 := (del_perm D.ok.rising hg).map fun x => (str x.1, ptr (fb x.1))
    rw [List.map_cons] at h1 h2
    rw [he, hv] at h1
    exact (h1.trans (D.map.perm.trans h2.symm)).cons_inv
  · exact D.map.apart.sublist (List.filter_sublist.map _)
end
theorem set_perm' {α : Type} (l : List α) (j : Nat) (x : α) (h : j < l.length) : (l.set j x).Perm (x :: l.eraseIdx j) := by
  have := erase_perm (l.set j x) j x (by simp [h])
  rw [List.eraseIdx_set_eq] at this
  exact this.symm
section
variable {k d : Nat} {m : ADisk} {vk vf vu : Value} {mb : Nat} {es : Array MapEntry} {ck : Nat} {fb : Nm → Nat} {n : Nm} {f : AFile} {b : Nat}
theorem add_files (D : DiskAt' w c k d m vk vf vu mb es ck fb) (hf : FileAt w c k b f) (hb : ∀ x ∈ m.files, fb x.1 ≠ b) :
    ((ins n f (del m.files n)).map fun x => if x.1 = n then b else fb x.1).Nodup ∧ (∀ x ∈ ins n f (del m.files n), FileAt w c k (if x.1 = n then b else fb x.1) x.2) ∧
    ((ins n f (del m.files n)).map fun x => (str x.1, ptr (if x.1 = n then b else fb x.1))).Perm ((str n, ptr b) :: (del m.files n).map fun x => (str x.1, ptr (fb x.1))) := by
  have hne : ∀ x ∈ del m.files n, x.1 ≠ n := get_none del_get
  have hsub : ∀ x ∈ del m.files n, x ∈ m.files := fun x hx => (List.mem_filter.1 hx).1
  refine ⟨?_, fun x hx => ?_, ?_⟩
  · refine ((ins_perm n f (del m.files n)).map _).nodup_iff.2 ?_
    rw [List.map_cons, List.nodup_cons]
    have e1 : ((del m.files n).map fun x => if x.1 = n then b else fb x.1) = (del m.files n).map fun x => fb x.1 := List.map_congr_left fun x hx => if_neg (hne x hx)
    rw [e1]
    simp only [if_pos]
    refine ⟨fun h => ?_, D.map.apart.sublist (List.filter_sublist.map _)⟩
    obtain ⟨x, hx, e⟩ := List.mem_map.1 h
    exact hb x (hsub x hx) e
  · rcases List.mem_cons.1 ((ins_perm n f (del m.files n)).mem_iff.1 hx) with rfl | hx
    · simp only [if_pos]; exact hf
    · rw [if_neg (hne x hx)]; exact D.map.files x (hsub x hx)
  · refine ((ins_perm n f (del m.files n)).map _).trans ?_
    rw [List.map_cons]
    have e1 : ((del m.files n).map fun x => (str x.1, ptr (if x.1 = n then b else fb x.1))) = (del m.files n).map fun x => (str x.1, ptr (fb x.1)) := List.map_congr_left fun x hx => by rw [if_neg (hne x hx)]
    rw [e1]
    simp only [if_pos]
    exact List.Perm.refl _
theorem add_ok (h : m.ok) (hn : n.length ≤ 32) (hl : m.files.length < 4096) (hf : f.ok m.ops.toNat) : ({ m with files := ins n f (del m.files n) } : ADisk).ok := by
  have h1 : ({ m with files := del m.files n } : ADisk).ok := del_ok h
  exact ins_ok (m := { m with files := del m.files n }) h1 hn del_get (Nat.lt_of_le_of_lt (List.length_filter_le _ _) hl) hf
/-- A file that lies in memory under a name of the map, new or not. -/
theorem DiskAt'.add (D : DiskAt' w c k d m vk vf vu mb es ck fb) (hk0 : k ≠ 0) (hn : n.length ≤ 32) (hl : m.files.length < 4096) (hf : FileAt w c k b f) (hok : f.ok m.ops.toNat) (hb : ∀ x ∈ m.files, fb x.1 ≠ b) :
    ∃ es' ck' fb', (Instr.mapUpdate 74 (.map (some mb)) (str n) (ptr b)).run Try.prog w = .ok () (putMap w mb es' ck') ∧ DiskAt' (putMap w mb es' ck') c k d { m with files := ins n f (del m.files n) } vk vf vu mb es' ck' fb' := by
  have hnm : n.length ≤ maxLen := by unfold maxLen; omega
  obtain ⟨h1, h2, h3⟩ := add_files (n := n) D hf hb
  cases hg : Dk.get m.files n with
  | none =>
    have hrun := store_new D.map D.ok.rising hnm hg (ptr b)
    refine ⟨_, _, fun x => if x = n then b else fb x, hrun, D.remap hk0 (fit_push D.map hnm hg (by rw [es_size D.map]; unfold maxLen; omega) _) ?_ h1 h2 (add_ok D.ok hn hl hok)⟩
    refine List.Perm.trans ?_ h3.symm
    rw [Array.toList_push, List.map_append, del_none hg]
    exact (List.perm_append_singleton _ _).trans (D.map.perm.cons _)
  | some g =>
    obtain ⟨j, e, hj, he, hv, hrun⟩ := store_old D.map D.ok.rising hnm hg (ptr b)
    have hjl : j < es.toList.length := (List.getElem?_eq_some_iff.1 hj).1
    have hlist : (es.modify j (fun e => { e with key := str n, val := ptr b })).toList = es.toList.set j { e with key := str n, val := ptr b } := by
      rw [Array.toList_modify]
      rw [List.modify_eq_set]
      rw [hj]; rfl
    refine ⟨_, _, fun x => if x = n then b else fb x, hrun, D.remap hk0 ⟨by simpa using D.map.fit.size, stamped_modify D.map.fit.stamped _ _ (fun _ _ => rfl) (fun e' _ he' => ?_), fun x hx => ?_⟩ ?_ h1 h2 (add_ok D.ok hn hl hok)⟩
    · have : e' = e := by
        rw [Array.getElem?_toList] at hj
        rw [hj] at he'; exact (Option.some.inj he').symm
      rw [this, he]
    · rw [hlist] at hx
      rcases List.mem_or_eq_of_mem_set hx with hx | rfl
      · exact D.map.fit.reads x hx
      · exact rd_new hnm _ _
    · refine List.Perm.trans ?_ h3.symm
      rw [hlist]
      refine ((set_perm' es.toList j _ hjl).map _).trans ?_
      rw [List.map_cons]
      refine List.Perm.cons _ ?_
      have h4 := (erase_perm es.toList j e hj).map fun e => (e.key, e.val)
      have h5 := (del_perm D.ok.rising hg).map fun x => (str x.1, ptr (fb x.1))
      rw [List.map_cons] at h4 h5
      rw [he, hv] at h4
      exact (h4.trans (D.map.perm.trans h5.symm)).cons_inv
end
end Go.Proofs.Ytnifmoigalmcmaa
