import Derived.Test.YtnifmoigalmcmaaGreatWl
import Derived.Test.YtnifmoigalmcmaaGreatIter
import Derived.CallsIn
namespace Go.Proofs.YtnifmoigalmcmaaGreat
open Go Go.RowKit Go.MapKept Go.Maps Go.Sort Go.Shelf
open Go.WideElems (Fit rd rg pl)
open Dk
variable {c : Col} {w : World}
section
variable {k d : Nat} {m : ADisk} {vk vf vu : Value} {mb : Nat} {es : Array MapEntry} {ck : Nat} {fb : Nm → Nat} (D : DiskAt' w c k d m vk vf vu mb es ck fb)
include D
theorem DiskAt'.c0 : w.cell? ⟨d, 0, none⟩ = some (.int .i64 1) := cell_of_heap D.heap 0
theorem DiskAt'.c1 : w.cell? ⟨d, 1, none⟩ = some (.int .i64 m.plan.crash) := cell_of_heap D.heap 1
theorem DiskAt'.c2 : w.cell? ⟨d, 2, none⟩ = some vk := cell_of_heap D.heap 2
theorem DiskAt'.c3 : w.cell? ⟨d, 3, none⟩ = some vf := cell_of_heap D.heap 3
theorem DiskAt'.c4 : w.cell? ⟨d, 4, none⟩ = some vu := cell_of_heap D.heap 4
theorem DiskAt'.c5 : w.cell? ⟨d, 5, none⟩ = some (.int .i64 m.plan.room) := cell_of_heap D.heap 5
theorem DiskAt'.c6 : w.cell? ⟨d, 6, none⟩ = some (.int .i64 m.ops) := cell_of_heap D.heap 6
theorem DiskAt'.c7 : w.cell? ⟨d, 7, none⟩ = some (.bool m.dead) := cell_of_heap D.heap 7
theorem DiskAt'.c8 : w.cell? ⟨d, 8, none⟩ = some (.map (some mb)) := cell_of_heap D.heap 8
theorem DiskAt'.fz (i : Nat) : w.frozen? ⟨d, i, none⟩ = false := unfrozen_of_heap D.heap i
theorem DiskAt'.lt : d < w.heap.size := lt_of_heap D.heap
end
theorem mapAt_owns {k mb ck : Nat} {es : Array MapEntry} {fb : Nm → Nat} {fs : List (Nm × AFile)} (M : MapAt w c k mb es ck fb fs) :
    w.ownsMap Tryz.prog 9 Rn mb fs.length (.map ((es.toList.map (rg Tryz.prog 9 Rn)).foldr DataW.insert [])) :=
  ⟨es, ck, M.heap, M.fit, by have := M.perm.length_eq; simp at this; omega, rfl⟩
theorem insert_perm {H : Type} (x : Lit × DataW H) : ∀ l : List (Lit × DataW H), (DataW.insert x l).Perm (x :: l)
  | [] => List.Perm.refl _
  | y :: r => by
    unfold DataW.insert
    split
    · exact List.Perm.refl _
    · exact ((insert_perm x r).cons y).trans (List.Perm.swap _ _ _)
theorem inserts_perm {H : Type} : ∀ l : List (Lit × DataW H), (l.foldr DataW.insert []).Perm l
  | [] => List.Perm.refl _
  | x :: r => (insert_perm x _).trans ((inserts_perm r).cons x)
theorem keys_perm {k mb ck : Nat} {es : Array MapEntry} {fb : Nm → Nat} {fs : List (Nm × AFile)} (M : MapAt w c k mb es ck fb fs) (hn : ∀ x ∈ fs, x.1.length ≤ maxLen) :
    (strKeys (.map ((es.toList.map (rg Tryz.prog 9 Rn)).foldr DataW.insert []))).Perm (fs.map (·.1)) := by
  have h1 : (strKeys (.map ((es.toList.map (rg Tryz.prog 9 Rn)).foldr DataW.insert []))).Perm ((es.toList.map (rg Tryz.prog 9 Rn)).map fun p => strOf p.1) := (inserts_perm _).map _
  refine h1.trans ?_
  have h2 : ∀ e ∈ es.toList, ∃ x ∈ fs, e.key = str x.1 := fun e he => by
    have : (e.key, e.val) ∈ fs.map fun x => (str x.1, ptr (fb x.1)) := M.perm.mem_iff.1 (List.mem_map.2 ⟨e, he, rfl⟩)
    obtain ⟨x, hx, heq⟩ := List.mem_map.1 this
    simp only [Prod.mk.injEq] at heq
    exact ⟨x, hx, heq.1.symm⟩
  let key : Value × Value → List UInt8 := fun p => match p.1 with | .string s => s.data.toList | _ => []
  have h3 : (es.toList.map (rg Tryz.prog 9 Rn)).map (fun p => strOf p.1) = (es.toList.map fun e => (e.key, e.val)).map key := by
    rw [List.map_map, List.map_map]
    refine List.map_congr_left fun e he => ?_
    obtain ⟨x, hx, hk⟩ := h2 e he
    have hko := keyStr (hn x hx)
    have e1 : rg Tryz.prog 9 Rn e = (.string x.1, .nil) := by
      unfold Go.WideElems.rg Go.WideElems.rd
      rw [hk, hko]; rfl
    simp only [Function.comp, e1, hk, strOf, key, str]
  have h4 : (fs.map fun x => (str x.1, ptr (fb x.1))).map key = fs.map (·.1) := by
    rw [List.map_map]
    refine List.map_congr_left fun x _ => ?_
    simp [key, str]
  rw [h3, ← h4]
  exact M.perm.map key
theorem sorted_names {fs : List (Nm × AFile)} (hr : Rising fs) {ss : List (List UInt8)} (h : ss.Perm (fs.map (·.1))) : ss.mergeSort (fun x y => decide (x ≤ y)) = fs.map (·.1) := by
  refine List.Perm.eq_of_pairwise (le := fun a b => decide (a ≤ b) = true) ?_ (List.pairwise_mergeSort ?_ ?_ _) ?_ ((List.mergeSort_perm _ _).trans h)
  · intro a b _ _ h1 h2
    exact List.le_antisymm (by simpa using h1) (by simpa using h2)
  · intro a b c h1 h2
    simp only [decide_eq_true_eq] at *
    exact List.le_trans h1 h2
  · intro a b
    simp only [Bool.or_eq_true, decide_eq_true_eq]
    exact List.le_total a b
  · rw [List.pairwise_map]
    exact hr.imp fun {a b} h => by simpa using List.le_of_lt h
theorem names_c (k d : Nat) (m : ADisk) (vk vf vu : Value) (mb : Nat) (es : Array MapEntry) (ck : Nat) (fb : Nm → Nat) (w : World) (D : DiskAt' w c k d m vk vf vu mb es ck fb) :
    Calls Tryz.prog 137 #[ptr d] w fun e w' => ∃ v, e = .returned v ∧ w'.ownsRow w.heap.size 9 1 v m.files.length ((m.files.map (·.1)).map str) ∧ Below w.heap.size w w' := by
  have hn : ∀ x ∈ m.files, x.1.length ≤ maxLen := fun x hx => by have := D.ok.names x hx; unfold maxLen; omega
  have hown := mapAt_owns D.map
  have hperm := keys_perm D.map hn
  have hsz : Maps.size (.map ((es.toList.map (rg Tryz.prog 9 Rn)).foldr DataW.insert [])) = m.files.length := by
    have := hperm.length_eq; simpa [strKeys, Maps.size] using this
  have hmany := D.ok.many
  have hc8 := D.c8
  have hr := D.ok.rising
  generalize hD0 : DataW.map ((es.toList.map (rg Tryz.prog 9 Rn)).foldr DataW.insert []) = D0 at *
  have h1 : Maps.size D0 ≤ maxLen := by rw [hsz]; unfold maxLen; omega
  have h2 : Maps.size D0 * 16 ≤ 140737488355328 := by rw [hsz]; omega
  have HP := Lib.hid hperm; clear hperm
  have HS := Lib.hid hsz; clear hsz
  have HR := Lib.hid hr; clear hr
  have HN := Lib.hid hn; clear hn
  have HB := Lib.hid hmany; clear hmany
  clear hD0
  have HO := Lib.hid hown; clear hown
  have HX := Lib.hid h1; clear h1
  have HY := Lib.hid h2; clear h2
  have HD := Lib.hid D; clear D
  unfold ptr
  refine (callsIn_wide (n := 6)).1 ?_
  have hfK : Fence.wide.fn 170 := trivial
  have hfS : Fence.wide.fn 169 := trivial
  refine callsIn_of_wp Tryz.func137 rfl trivial ?_ rfl
  simp only [Tryz.ntmps137, List.size_toArray, List.length_cons, List.length_nil, Nat.reduceAdd, Nat.reduceSub, Array.replicate_succ, Array.replicate_zero, List.push_toArray, List.append_toArray, List.nil_append, List.cons_append]
  gi_wp2_with (first
    | (gi_at_call 170; refine (Tryz.maps_Keys_170 _ _).mono ?_; rintro e w' ⟨rfl, rfl⟩)
    | (gi_at_call 169; refine (Tryz.slices_Sorted_keys_169_170 mb m.files.length D0 Rn w HO.out HX.out HY.out).mono ?_; rintro e w' ⟨v, ss, rfl, hS, hrow, hnil, hb⟩))
  go_ret
  have e1 := sorted_names HR.out (hS.trans HP.out)
  rw [e1, hS.length_eq, HP.out.length_eq, List.length_map] at hrow
  exact ⟨v, rfl, ownsRow_base_a hrow (by simp), ((Below.refl _ w).alloc (Nat.le_refl _) _).trans (hb.mono (by simp))⟩
end Go.Proofs.YtnifmoigalmcmaaGreat
