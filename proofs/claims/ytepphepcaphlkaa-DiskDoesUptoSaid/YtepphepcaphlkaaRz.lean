/- The document's answer to an operation: L1.Model. -/
import Derived.Test.YtepphepcaphlkaaRy
import Derived.Test.YtepphepcaphlkaaDn
namespace Go.Proofs.Ytepphepcaphlkaa
open Go Go.RowKit Go.MapKept Go.Maps
open Dk
variable {c c' : Col} {S : Nat × Nat → Prop} {w w' : World} {q : Nat × Nat}
theorem rappend_c (k r : Nat) (m : ADisk) (n : Nm) (v : Value) (b : List UInt8) (w : World) (DD : RD w c k r m) (hk0 : k ≠ 0) (hops : m.ops < 900000) (hv : Sw w c q v (b.map bv)) (hq : q.1 ≠ k) (hb : b.length ≤ lim) :
    Calls Try.prog 46 #[ptr r, .string ⟨n.toArray⟩, v] w (RPost k r (Dk.append m n b) c w) := by
  by_cases h : openErr m n = 0
  · obtain ⟨h1, f, h2⟩ := openErr_zero h
    exact rappend_good k r m n v b w DD hk0 hops hv hq hb f h1 h2
  · have e : Dk.append m n b = (openErr m n, (begin_ m).2) := bad_of h (fun f d => if maxFile < b.length + f.now.length then (2, d) else Dk.change d n f (.wr f.now.length b) (f.now.length + b.length))
    rw [e]
    exact rappend_bad k r m n v w DD hk0 hops h
theorem rwriteAt_c (k r : Nat) (m : ADisk) (n : Nm) (i : Int) (v : Value) (b : List UInt8) (w : World) (DD : RD w c k r m) (hk0 : k ≠ 0) (hops : m.ops < 900000) (hv : Sw w c q v (b.map bv)) (hq : q.1 ≠ k) (hb : b.length ≤ lim) :
    Calls Try.prog 47 #[ptr r, .string ⟨n.toArray⟩, .int .i64 i, v] w (RPost k r (Dk.writeAt m n i b) c w) := by
  by_cases h : openErr m n = 0
  · obtain ⟨h1, f, h2⟩ := openErr_zero h
    exact rwriteAt_good k r m n i v b w DD hk0 hops hv hq hb f h1 h2
  · have e : Dk.writeAt m n i b = (openErr m n, (begin_ m).2) := bad_of h (fun f d => if i < 0 then (1, d) else if (maxFile : Int) < i + b.length then (2, d) else Dk.change d n f (.wr i.toNat b) (max (f.now.length : Int) (i + b.length)))
    rw [e]
    exact rwriteAt_bad k r m n i v w DD hk0 hops h
theorem rtruncate_c (k r : Nat) (m : ADisk) (n : Nm) (i : Int) (w : World) (DD : RD w c k r m) (hk0 : k ≠ 0) (hops : m.ops < 900000)  :
    Calls Try.prog 48 #[ptr r, .string ⟨n.toArray⟩, .int .i64 i] w (RPost k r (Dk.truncate m n i) c w) := by
  by_cases h : openErr m n = 0
  · obtain ⟨h1, f, h2⟩ := openErr_zero h
    exact rtruncate_good k r m n i w DD hk0 hops f h1 h2
  · have e : Dk.truncate m n i = (openErr m n, (begin_ m).2) := bad_of h (fun f d => if i < 0 then (1, d) else if (maxFile : Int) < i then (2, d) else Dk.change d n f (.cut i.toNat) i)
    rw [e]
    exact rtruncate_bad k r m n i w DD hk0 hops h
theorem rsync_c (k r : Nat) (m : ADisk) (n : Nm)  (w : World) (DD : RD w c k r m) (hk0 : k ≠ 0) (hops : m.ops < 900000)  :
    Calls Try.prog 49 #[ptr r, .string ⟨n.toArray⟩] w (RPost k r (Dk.sync m n ) c w) := by
  by_cases h : openErr m n = 0
  · obtain ⟨h1, f, h2⟩ := openErr_zero h
    exact rsync_good k r m n w DD hk0 hops f h1 h2
  · have e : Dk.sync m n  = (openErr m n, (begin_ m).2) := bad_of h (fun f d => (0, { d with files := Dk.upd d.files n ⟨f.now, [], f.now⟩ }))
    rw [e]
    exact rsync_bad k r m n  w DD hk0 hops h
theorem rrename_c (k r : Nat) (m : ADisk) (n : Nm) (n2 : Nm) (w : World) (DD : RD w c k r m) (hk0 : k ≠ 0) (hops : m.ops < 900000) (hn2 : n2.length ≤ maxLen) :
    Calls Try.prog 50 #[ptr r, .string ⟨n.toArray⟩, .string ⟨n2.toArray⟩] w (RPost k r (Dk.rename m n n2) c w) := by
  by_cases h : openErr m n = 0
  · obtain ⟨h1, f, h2⟩ := openErr_zero h
    exact rrename_good k r m n n2 w DD hk0 hops hn2 f h1 h2
  · have e : Dk.rename m n n2 = (openErr m n, (begin_ m).2) := bad_of h (fun f d => if named n2 = false then (15, d) else (0, { d with files := Dk.ins n2 f (Dk.del (Dk.del d.files n) n2) }))
    rw [e]
    exact rrename_bad k r m n n2 w DD hk0 hops h
theorem rremove_c (k r : Nat) (m : ADisk) (n : Nm)  (w : World) (DD : RD w c k r m) (hk0 : k ≠ 0) (hops : m.ops < 900000)  :
    Calls Try.prog 51 #[ptr r, .string ⟨n.toArray⟩] w (RPost k r (Dk.remove m n ) c w) := by
  by_cases h : openErr m n = 0
  · obtain ⟨h1, f, h2⟩ := openErr_zero h
    exact rremove_good k r m n w DD hk0 hops f h1 h2
  · have e : Dk.remove m n  = (openErr m n, (begin_ m).2) := bad_of h (fun _ d => (0, { d with files := Dk.del d.files n }))
    rw [e]
    exact rremove_bad k r m n  w DD hk0 hops h
set_option maxRecDepth 20000 in
set_option maxHeartbeats 8000000 in
theorem model_create (k r : Nat) (m : ADisk) (o : AOp) (vd vk vf vu : Value) (w : World) (DD : RD w c k r m) (hk0 : k ≠ 0) (hops : m.ops < 900000) (hdry : m.dead = true → ∀ x ∈ m.files, x.2.chs = []) (hn : o.name.length ≤ maxLen) (hnt : o.to.length ≤ maxLen) (hv : Sw w c (0, 0) vd (o.data.map bv)) (hb : o.data.length ≤ lim)
    (hat : -9223372036854775808 ≤ o.at_ ∧ o.at_ ≤ 9223372036854775807) (hlo : -9223372036854775808 ≤ o.long ∧ o.long ≤ 9223372036854775807) (hpw : PlanW w c vk vf vu o.plan) (lk : o.plan.keep.length ≤ lim) (lf : o.plan.fail.length ≤ lim) (lu : o.plan.full.length ≤ lim) (hkind : o.kind = 0) :
    Calls Try.prog 23 #[ptr r, opV o vd vk vf vu] w (RPost k r (doOp m o) c w) := by
  have e0 : doOp m o = create m o.name := by unfold doOp; simp [hkind]
  rw [e0]
  clear e0
  obtain ⟨ad, capd, rfl, -⟩ := id hv
  obtain ⟨ak, capk, rfl, -⟩ := id hpw.keep
  obtain ⟨af, capf, rfl, -⟩ := id hpw.fail
  obtain ⟨au, capu, rfl, -⟩ := id hpw.full
  obtain ⟨W, hW⟩ : ∃ W, W = w.alloc (.cells #[.int .i64 0, .string ⟨o.name.toArray⟩, .string ⟨o.to.toArray⟩, .int .i64 o.at_, .int .i64 o.long, .slice ad o.data.length capd, .int .i64 o.plan.crash, .slice ak o.plan.keep.length capk, .slice af o.plan.fail.length capf, .slice au o.plan.full.length capu, .int .i64 o.plan.room] 32) := ⟨_, rfl⟩
  have KW : Hid (∀ S, Kp c S w W) := by intro S; rw [hW]; exact (Kp.refl c S w).alloc _
  have HV := Lib.hid (hv.kp (KW.out S2F) (fun h => h) (Cx.refl _ _)); clear hv
  have HPW := Lib.hid (hpw.kp' (KW.out S2F) (fun h => h) (Cx.refl _ _)); clear hpw
  have HD := Lib.hid (DD.kp (KW.out S2F) (fun _ h => h.elim) (Cx.refl _ _)); clear DD
  have HQ := Lib.hid (show ((0, 0) : Nat × Nat).1 ≠ k from fun h => hk0 h.symm)
  have HK0 := Lib.hid hk0; clear hk0
  have HO := Lib.hid hops
  have HO2 := Lib.hid (show m.ops ≤ 1000000 by omega); clear hops
  have HDRY := Lib.hid hdry; clear hdry
  have HN := Lib.hid hn; clear hn
  have HNT := Lib.hid hnt; clear hnt
  have HB := Lib.hid hb; clear hb
  have HAT := Lib.hid hat; clear hat
  have HLO := Lib.hid hlo; clear hlo
  have LK := Lib.hid lk; clear lk
  have LF := Lib.hid lf; clear lf
  have LU := Lib.hid lu; clear lu
  have HW := Lib.hid hW; clear hW
  unfold opV str ptr
  rw [hkind]; clear hkind
  simp only [List.length_map] at HV HPW ⊢
  go_enter Try.func23, Try.ntmps23
  go_wp2_with (go_at_call 45; rw [← HW.out]; refine (rcreate_c k r m o.name _ HD.out HK0.out HO.out HN.out).mono ?_; rintro e w2 hp; have HP := Lib.hid hp; obtain ⟨rfl, -⟩ := hp)
  go_ret
  exact RPost.of (Cx.refl _ _) (KW.out _) HP.out
set_option maxRecDepth 20000 in
set_option maxHeartbeats 8000000 in
theorem model_append (k r : Nat) (m : ADisk) (o : AOp) (vd vk vf vu : Value) (w : World) (DD : RD w c k r m) (hk0 : k ≠ 0) (hops : m.ops < 900000) (hdry : m.dead = true → ∀ x ∈ m.files, x.2.chs = []) (hn : o.name.length ≤ maxLen) (hnt : o.to.length ≤ maxLen) (hv : Sw w c (0, 0) vd (o.data.map bv)) (hb : o.data.length ≤ lim)
    (hat : -9223372036854775808 ≤ o.at_ ∧ o.at_ ≤ 9223372036854775807) (hlo : -9223372036854775808 ≤ o.long ∧ o.long ≤ 9223372036854775807) (hpw : PlanW w c vk vf vu o.plan) (lk : o.plan.keep.length ≤ lim) (lf : o.plan.fail.length ≤ lim) (lu : o.plan.full.length ≤ lim) (hkind : o.kind = 1) :
    Calls Try.prog 23 #[ptr r, opV o vd vk vf vu] w (RPost k r (doOp m o) c w) := by
  have e0 : doOp m o = Dk.append m o.name o.data := by unfold doOp; simp [hkind]
  rw [e0]
  clear e0
  obtain ⟨ad, capd, rfl, -⟩ := id hv
  obtain ⟨ak, capk, rfl, -⟩ := id hpw.keep
  obtain ⟨af, capf, rfl, -⟩ := id hpw.fail
  obtain ⟨au, capu, rfl, -⟩ := id hpw.full
  obtain ⟨W, hW⟩ : ∃ W, W = w.alloc (.cells #[.int .i64 1, .string ⟨o.name.toArray⟩, .string ⟨o.to.toArray⟩, .int .i64 o.at_, .int .i64 o.long, .slice ad o.data.length capd, .int .i64 o.plan.crash, .slice ak o.plan.keep.length capk, .slice af o.plan.fail.length capf, .slice au o.plan.full.length capu, .int .i64 o.plan.room] 32) := ⟨_, rfl⟩
  have KW : Hid (∀ S, Kp c S w W) := by intro S; rw [hW]; exact (Kp.refl c S w).alloc _
  have HV := Lib.hid (hv.kp (KW.out S2F) (fun h => h) (Cx.refl _ _)); clear hv
  have HPW := Lib.hid (hpw.kp' (KW.out S2F) (fun h => h) (Cx.refl _ _)); clear hpw
  have HD := Lib.hid (DD.kp (KW.out S2F) (fun _ h => h.elim) (Cx.refl _ _)); clear DD
  have HQ := Lib.hid (show ((0, 0) : Nat × Nat).1 ≠ k from fun h => hk0 h.symm)
  have HK0 := Lib.hid hk0; clear hk0
  have HO := Lib.hid hops
  have HO2 := Lib.hid (show m.ops ≤ 1000000 by omega); clear hops
  have HDRY := Lib.hid hdry; clear hdry
  have HN := Lib.hid hn; clear hn
  have HNT := Lib.hid hnt; clear hnt
  have HB := Lib.hid hb; clear hb
  have HAT := Lib.hid hat; clear hat
  have HLO := Lib.hid hlo; clear hlo
  have LK := Lib.hid lk; clear lk
  have LF := Lib.hid lf; clear lf
  have LU := Lib.hid lu; clear lu
  have HW := Lib.hid hW; clear hW
  unfold opV str ptr
  rw [hkind]; clear hkind
  simp only [List.length_map] at HV HPW ⊢
  go_enter Try.func23, Try.ntmps23
  go_wp2_with (go_at_call 46; rw [← HW.out]; refine (rappend_c k r m o.name (.slice ad o.data.length capd) o.data _ HD.out HK0.out HO.out (q := (0, 0)) HV.out HQ.out HB.out).mono ?_; rintro e w2 hp; have HP := Lib.hid hp; obtain ⟨rfl, -⟩ := hp)
  go_ret
  exact RPost.of (Cx.refl _ _) (KW.out _) HP.out
set_option maxRecDepth 20000 in
set_option maxHeartbeats 8000000 in
theorem model_writeAt (k r : Nat) (m : ADisk) (o : AOp) (vd vk vf vu : Value) (w : World) (DD : RD w c k r m) (hk0 : k ≠ 0) (hops : m.ops < 900000) (hdry : m.dead = true → ∀ x ∈ m.files, x.2.chs = []) (hn : o.name.length ≤ maxLen) (hnt : o.to.length ≤ maxLen) (hv : Sw w c (0, 0) vd (o.data.map bv)) (hb : o.data.length ≤ lim)
    (hat : -9223372036854775808 ≤ o.at_ ∧ o.at_ ≤ 9223372036854775807) (hlo : -9223372036854775808 ≤ o.long ∧ o.long ≤ 9223372036854775807) (hpw : PlanW w c vk vf vu o.plan) (lk : o.plan.keep.length ≤ lim) (lf : o.plan.fail.length ≤ lim) (lu : o.plan.full.length ≤ lim) (hkind : o.kind = 2) :
    Calls Try.prog 23 #[ptr r, opV o vd vk vf vu] w (RPost k r (doOp m o) c w) := by
  have e0 : doOp m o = Dk.writeAt m o.name o.at_ o.data := by unfold doOp; simp [hkind]
  rw [e0]
  clear e0
  obtain ⟨ad, capd, rfl, -⟩ := id hv
  obtain ⟨ak, capk, rfl, -⟩ := id hpw.keep
  obtain ⟨af, capf, rfl, -⟩ := id hpw.fail
  obtain ⟨au, capu, rfl, -⟩ := id hpw.full
  obtain ⟨W, hW⟩ : ∃ W, W = w.alloc (.cells #[.int .i64 2, .string ⟨o.name.toArray⟩, .string ⟨o.to.toArray⟩, .int .i64 o.at_, .int .i64 o.long, .slice ad o.data.length capd, .int .i64 o.plan.crash, .slice ak o.plan.keep.length capk, .slice af o.plan.fail.length capf, .slice au o.plan.full.length capu, .int .i64 o.plan.room] 32) := ⟨_, rfl⟩
  have KW : Hid (∀ S, Kp c S w W) := by intro S; rw [hW]; exact (Kp.refl c S w).alloc _
  have HV := Lib.hid (hv.kp (KW.out S2F) (fun h => h) (Cx.refl _ _)); clear hv
  have HPW := Lib.hid (hpw.kp' (KW.out S2F) (fun h => h) (Cx.refl _ _)); clear hpw
  have HD := Lib.hid (DD.kp (KW.out S2F) (fun _ h => h.elim) (Cx.refl _ _)); clear DD
  have HQ := Lib.hid (show ((0, 0) : Nat × Nat).1 ≠ k from fun h => hk0 h.symm)
  have HK0 := Lib.hid hk0; clear hk0
  have HO := Lib.hid hops
  have HO2 := Lib.hid (show m.ops ≤ 1000000 by omega); clear hops
  have HDRY := Lib.hid hdry; clear hdry
  have HN := Lib.hid hn; clear hn
  have HNT := Lib.hid hnt; clear hnt
  have HB := Lib.hid hb; clear hb
  have HAT := Lib.hid hat; clear hat
  have HLO := Lib.hid hlo; clear hlo
  have LK := Lib.hid lk; clear lk
  have LF := Lib.hid lf; clear lf
  have LU := Lib.hid lu; clear lu
  have HW := Lib.hid hW; clear hW
  unfold opV str ptr
  rw [hkind]; clear hkind
  simp only [List.length_map] at HV HPW ⊢
  go_enter Try.func23, Try.ntmps23
  go_wp2_with (go_at_call 47; rw [← HW.out]; refine (rwriteAt_c k r m o.name o.at_ (.slice ad o.data.length capd) o.data _ HD.out HK0.out HO.out (q := (0, 0)) HV.out HQ.out HB.out).mono ?_; rintro e w2 hp; have HP := Lib.hid hp; obtain ⟨rfl, -⟩ := hp)
  go_ret
  exact RPost.of (Cx.refl _ _) (KW.out _) HP.out
set_option maxRecDepth 20000 in
set_option maxHeartbeats 8000000 in
theorem model_truncate (k r : Nat) (m : ADisk) (o : AOp) (vd vk vf vu : Value) (w : World) (DD : RD w c k r m) (hk0 : k ≠ 0) (hops : m.ops < 900000) (hdry : m.dead = true → ∀ x ∈ m.files, x.2.chs = []) (hn : o.name.length ≤ maxLen) (hnt : o.to.length ≤ maxLen) (hv : Sw w c (0, 0) vd (o.data.map bv)) (hb : o.data.length ≤ lim)
    (hat : -9223372036854775808 ≤ o.at_ ∧ o.at_ ≤ 9223372036854775807) (hlo : -9223372036854775808 ≤ o.long ∧ o.long ≤ 9223372036854775807) (hpw : PlanW w c vk vf vu o.plan) (lk : o.plan.keep.length ≤ lim) (lf : o.plan.fail.length ≤ lim) (lu : o.plan.full.length ≤ lim) (hkind : o.kind = 3) :
    Calls Try.prog 23 #[ptr r, opV o vd vk vf vu] w (RPost k r (doOp m o) c w) := by
  have e0 : doOp m o = Dk.truncate m o.name o.long := by unfold doOp; simp [hkind]
  rw [e0]
  clear e0
  obtain ⟨ad, capd, rfl, -⟩ := id hv
  obtain ⟨ak, capk, rfl, -⟩ := id hpw.keep
  obtain ⟨af, capf, rfl, -⟩ := id hpw.fail
  obtain ⟨au, capu, rfl, -⟩ := id hpw.full
  obtain ⟨W, hW⟩ : ∃ W, W = w.alloc (.cells #[.int .i64 3, .string ⟨o.name.toArray⟩, .string ⟨o.to.toArray⟩, .int .i64 o.at_, .int .i64 o.long, .slice ad o.data.length capd, .int .i64 o.plan.crash, .slice ak o.plan.keep.length capk, .slice af o.plan.fail.length capf, .slice au o.plan.full.length capu, .int .i64 o.plan.room] 32) := ⟨_, rfl⟩
  have KW : Hid (∀ S, Kp c S w W) := by intro S; rw [hW]; exact (Kp.refl c S w).alloc _
  have HV := Lib.hid (hv.kp (KW.out S2F) (fun h => h) (Cx.refl _ _)); clear hv
  have HPW := Lib.hid (hpw.kp' (KW.out S2F) (fun h => h) (Cx.refl _ _)); clear hpw
  have HD := Lib.hid (DD.kp (KW.out S2F) (fun _ h => h.elim) (Cx.refl _ _)); clear DD
  have HQ := Lib.hid (show ((0, 0) : Nat × Nat).1 ≠ k from fun h => hk0 h.symm)
  have HK0 := Lib.hid hk0; clear hk0
  have HO := Lib.hid hops
  have HO2 := Lib.hid (show m.ops ≤ 1000000 by omega); clear hops
  have HDRY := Lib.hid hdry; clear hdry
  have HN := Lib.hid hn; clear hn
  have HNT := Lib.hid hnt; clear hnt
  have HB := Lib.hid hb; clear hb
  have HAT := Lib.hid hat; clear hat
  have HLO := Lib.hid hlo; clear hlo
  have LK := Lib.hid lk; clear lk
  have LF := Lib.hid lf; clear lf
  have LU := Lib.hid lu; clear lu
  have HW := Lib.hid hW; clear hW
  unfold opV str ptr
  rw [hkind]; clear hkind
  simp only [List.length_map] at HV HPW ⊢
  go_enter Try.func23, Try.ntmps23
  go_wp2_with (go_at_call 48; rw [← HW.out]; refine (rtruncate_c k r m o.name o.long _ HD.out HK0.out HO.out).mono ?_; rintro e w2 hp; have HP := Lib.hid hp; obtain ⟨rfl, -⟩ := hp)
  go_ret
  exact RPost.of (Cx.refl _ _) (KW.out _) HP.out
set_option maxRecDepth 20000 in
set_option maxHeartbeats 8000000 in
theorem model_sync (k r : Nat) (m : ADisk) (o : AOp) (vd vk vf vu : Value) (w : World) (DD : RD w c k r m) (hk0 : k ≠ 0) (hops : m.ops < 900000) (hdry : m.dead = true → ∀ x ∈ m.files, x.2.chs = []) (hn : o.name.length ≤ maxLen) (hnt : o.to.length ≤ maxLen) (hv : Sw w c (0, 0) vd (o.data.map bv)) (hb : o.data.length ≤ lim)
    (hat : -9223372036854775808 ≤ o.at_ ∧ o.at_ ≤ 9223372036854775807) (hlo : -9223372036854775808 ≤ o.long ∧ o.long ≤ 9223372036854775807) (hpw : PlanW w c vk vf vu o.plan) (lk : o.plan.keep.length ≤ lim) (lf : o.plan.fail.length ≤ lim) (lu : o.plan.full.length ≤ lim) (hkind : o.kind = 4) :
    Calls Try.prog 23 #[ptr r, opV o vd vk vf vu] w (RPost k r (doOp m o) c w) := by
  have e0 : doOp m o = Dk.sync m o.name := by unfold doOp; simp [hkind]
  rw [e0]
  clear e0
  obtain ⟨ad, capd, rfl, -⟩ := id hv
  obtain ⟨ak, capk, rfl, -⟩ := id hpw.keep
  obtain ⟨af, capf, rfl, -⟩ := id hpw.fail
  obtain ⟨au, capu, rfl, -⟩ := id hpw.full
  obtain ⟨W, hW⟩ : ∃ W, W = w.alloc (.cells #[.int .i64 4, .string ⟨o.name.toArray⟩, .string ⟨o.to.toArray⟩, .int .i64 o.at_, .int .i64 o.long, .slice ad o.data.length capd, .int .i64 o.plan.crash, .slice ak o.plan.keep.length capk, .slice af o.plan.fail.length capf, .slice au o.plan.full.length capu, .int .i64 o.plan.room] 32) := ⟨_, rfl⟩
  have KW : Hid (∀ S, Kp c S w W) := by intro S; rw [hW]; exact (Kp.refl c S w).alloc _
  have HV := Lib.hid (hv.kp (KW.out S2F) (fun h => h) (Cx.refl _ _)); clear hv
  have HPW := Lib.hid (hpw.kp' (KW.out S2F) (fun h => h) (Cx.refl _ _)); clear hpw
  have HD := Lib.hid (DD.kp (KW.out S2F) (fun _ h => h.elim) (Cx.refl _ _)); clear DD
  have HQ := Lib.hid (show ((0, 0) : Nat × Nat).1 ≠ k from fun h => hk0 h.symm)
  have HK0 := Lib.hid hk0; clear hk0
  have HO := Lib.hid hops
  have HO2 := Lib.hid (show m.ops ≤ 1000000 by omega); clear hops
  have HDRY := Lib.hid hdry; clear hdry
  have HN := Lib.hid hn; clear hn
  have HNT := Lib.hid hnt; clear hnt
  have HB := Lib.hid hb; clear hb
  have HAT := Lib.hid hat; clear hat
  have HLO := Lib.hid hlo; clear hlo
  have LK := Lib.hid lk; clear lk
  have LF := Lib.hid lf; clear lf
  have LU := Lib.hid lu; clear lu
  have HW := Lib.hid hW; clear hW
  unfold opV str ptr
  rw [hkind]; clear hkind
  simp only [List.length_map] at HV HPW ⊢
  go_enter Try.func23, Try.ntmps23
  go_wp2_with (go_at_call 49; rw [← HW.out]; refine (rsync_c k r m o.name _ HD.out HK0.out HO.out).mono ?_; rintro e w2 hp; have HP := Lib.hid hp; obtain ⟨rfl, -⟩ := hp)
  go_ret
  exact RPost.of (Cx.refl _ _) (KW.out _) HP.out
set_option maxRecDepth 20000 in
set_option maxHeartbeats 8000000 in
theorem model_rename (k r : Nat) (m : ADisk) (o : AOp) (vd vk vf vu : Value) (w : World) (DD : RD w c k r m) (hk0 : k ≠ 0) (hops : m.ops < 900000) (hdry : m.dead = true → ∀ x ∈ m.files, x.2.chs = []) (hn : o.name.length ≤ maxLen) (hnt : o.to.length ≤ maxLen) (hv : Sw w c (0, 0) vd (o.data.map bv)) (hb : o.data.length ≤ lim)
    (hat : -9223372036854775808 ≤ o.at_ ∧ o.at_ ≤ 9223372036854775807) (hlo : -9223372036854775808 ≤ o.long ∧ o.long ≤ 9223372036854775807) (hpw : PlanW w c vk vf vu o.plan) (lk : o.plan.keep.length ≤ lim) (lf : o.plan.fail.length ≤ lim) (lu : o.plan.full.length ≤ lim) (hkind : o.kind = 5) :
    Calls Try.prog 23 #[ptr r, opV o vd vk vf vu] w (RPost k r (doOp m o) c w) := by
  have e0 : doOp m o = Dk.rename m o.name o.to := by unfold doOp; simp [hkind]
  rw [e0]
  clear e0
  obtain ⟨ad, capd, rfl, -⟩ := id hv
  obtain ⟨ak, capk, rfl, -⟩ := id hpw.keep
  obtain ⟨af, capf, rfl, -⟩ := id hpw.fail
  obtain ⟨au, capu, rfl, -⟩ := id hpw.full
  obtain ⟨W, hW⟩ : ∃ W, W = w.alloc (.cells #[.int .i64 5, .string ⟨o.name.toArray⟩, .string ⟨o.to.toArray⟩, .int .i64 o.at_, .int .i64 o.long, .slice ad o.data.length capd, .int .i64 o.plan.crash, .slice ak o.plan.keep.length capk, .slice af o.plan.fail.length capf, .slice au o.plan.full.length capu, .int .i64 o.plan.room] 32) := ⟨_, rfl⟩
  have KW : Hid (∀ S, Kp c S w W) := by intro S; rw [hW]; exact (Kp.refl c S w).alloc _
  have HV := Lib.hid (hv.kp (KW.out S2F) (fun h => h) (Cx.refl _ _)); clear hv
  have HPW := Lib.hid (hpw.kp' (KW.out S2F) (fun h => h) (Cx.refl _ _)); clear hpw
  have HD := Lib.hid (DD.kp (KW.out S2F) (fun _ h => h.elim) (Cx.refl _ _)); clear DD
  have HQ := Lib.hid (show ((0, 0) : Nat × Nat).1 ≠ k from fun h => hk0 h.symm)
  have HK0 := Lib.hid hk0; clear hk0
  have HO := Lib.hid hops
  have HO2 := Lib.hid (show m.ops ≤ 1000000 by omega); clear hops
  have HDRY := Lib.hid hdry; clear hdry
  have HN := Lib.hid hn; clear hn
  have HNT := Lib.hid hnt; clear hnt
  have HB := Lib.hid hb; clear hb
  have HAT := Lib.hid hat; clear hat
  have HLO := Lib.hid hlo; clear hlo
  have LK := Lib.hid lk; clear lk
  have LF := Lib.hid lf; clear lf
  have LU := Lib.hid lu; clear lu
  have HW := Lib.hid hW; clear hW
  unfold opV str ptr
  rw [hkind]; clear hkind
  simp only [List.length_map] at HV HPW ⊢
  go_enter Try.func23, Try.ntmps23
  go_wp2_with (go_at_call 50; rw [← HW.out]; refine (rrename_c k r m o.name o.to _ HD.out HK0.out HO.out HNT.out).mono ?_; rintro e w2 hp; have HP := Lib.hid hp; obtain ⟨rfl, -⟩ := hp)
  go_ret
  exact RPost.of (Cx.refl _ _) (KW.out _) HP.out
set_option maxRecDepth 20000 in
set_option maxHeartbeats 8000000 in
theorem model_remove (k r : Nat) (m : ADisk) (o : AOp) (vd vk vf vu : Value) (w : World) (DD : RD w c k r m) (hk0 : k ≠ 0) (hops : m.ops < 900000) (hdry : m.dead = true → ∀ x ∈ m.files, x.2.chs = []) (hn : o.name.length ≤ maxLen) (hnt : o.to.length ≤ maxLen) (hv : Sw w c (0, 0) vd (o.data.map bv)) (hb : o.data.length ≤ lim)
    (hat : -9223372036854775808 ≤ o.at_ ∧ o.at_ ≤ 9223372036854775807) (hlo : -9223372036854775808 ≤ o.long ∧ o.long ≤ 9223372036854775807) (hpw : PlanW w c vk vf vu o.plan) (lk : o.plan.keep.length ≤ lim) (lf : o.plan.fail.length ≤ lim) (lu : o.plan.full.length ≤ lim) (hkind : o.kind = 6) :
    Calls Try.prog 23 #[ptr r, opV o vd vk vf vu] w (RPost k r (doOp m o) c w) := by
  have e0 : doOp m o = Dk.remove m o.name := by unfold doOp; simp [hkind]
  rw [e0]
  clear e0
  obtain ⟨ad, capd, rfl, -⟩ := id hv
  obtain ⟨ak, capk, rfl, -⟩ := id hpw.keep
  obtain ⟨af, capf, rfl, -⟩ := id hpw.fail
  obtain ⟨au, capu, rfl, -⟩ := id hpw.full
  obtain ⟨W, hW⟩ : ∃ W, W = w.alloc (.cells #[.int .i64 6, .string ⟨o.name.toArray⟩, .string ⟨o.to.toArray⟩, .int .i64 o.at_, .int .i64 o.long, .slice ad o.data.length capd, .int .i64 o.plan.crash, .slice ak o.plan.keep.length capk, .slice af o.plan.fail.length capf, .slice au o.plan.full.length capu, .int .i64 o.plan.room] 32) := ⟨_, rfl⟩
  have KW : Hid (∀ S, Kp c S w W) := by intro S; rw [hW]; exact (Kp.refl c S w).alloc _
  have HV := Lib.hid (hv.kp (KW.out S2F) (fun h => h) (Cx.refl _ _)); clear hv
  have HPW := Lib.hid (hpw.kp' (KW.out S2F) (fun h => h) (Cx.refl _ _)); clear hpw
  have HD := Lib.hid (DD.kp (KW.out S2F) (fun _ h => h.elim) (Cx.refl _ _)); clear DD
  have HQ := Lib.hid (show ((0, 0) : Nat × Nat).1 ≠ k from fun h => hk0 h.symm)
  have HK0 := Lib.hid hk0; clear hk0
  have HO := Lib.hid hops
  have HO2 := Lib.hid (show m.ops ≤ 1000000 by omega); clear hops
  have HDRY := Lib.hid hdry; clear hdry
  have HN := Lib.hid hn; clear hn
  have HNT := Lib.hid hnt; clear hnt
  have HB := Lib.hid hb; clear hb
  have HAT := Lib.hid hat; clear hat
  have HLO := Lib.hid hlo; clear hlo
  have LK := Lib.hid lk; clear lk
  have LF := Lib.hid lf; clear lf
  have LU := Lib.hid lu; clear lu
  have HW := Lib.hid hW; clear hW
  unfold opV str ptr
  rw [hkind]; clear hkind
  simp only [List.length_map] at HV HPW ⊢
  go_enter Try.func23, Try.ntmps23
  go_wp2_with (go_at_call 51; rw [← HW.out]; refine (rremove_c k r m o.name _ HD.out HK0.out HO.out).mono ?_; rintro e w2 hp; have HP := Lib.hid hp; obtain ⟨rfl, -⟩ := hp)
  go_ret
  exact RPost.of (Cx.refl _ _) (KW.out _) HP.out
set_option maxRecDepth 20000 in
set_option maxHeartbeats 8000000 in
theorem model_start (k r : Nat) (m : ADisk) (o : AOp) (vd vk vf vu : Value) (w : World) (DD : RD w c k r m) (hk0 : k ≠ 0) (hops : m.ops < 900000) (hdry : m.dead = true → ∀ x ∈ m.files, x.2.chs = []) (hn : o.name.length ≤ maxLen) (hnt : o.to.length ≤ maxLen) (hv : Sw w c (0, 0) vd (o.data.map bv)) (hb : o.data.length ≤ lim)
    (hat : -9223372036854775808 ≤ o.at_ ∧ o.at_ ≤ 9223372036854775807) (hlo : -9223372036854775808 ≤ o.long ∧ o.long ≤ 9223372036854775807) (hpw : PlanW w c vk vf vu o.plan) (lk : o.plan.keep.length ≤ lim) (lf : o.plan.fail.length ≤ lim) (lu : o.plan.full.length ≤ lim) (hkind : o.kind = 7) :
    Calls Try.prog 23 #[ptr r, opV o vd vk vf vu] w (RPost k r (doOp m o) c w) := by
  have e0 : doOp m o = (0, Dk.start m o.plan) := by unfold doOp; simp [hkind]
  rw [e0]
  clear e0
  obtain ⟨ad, capd, rfl, -⟩ := id hv
  obtain ⟨ak, capk, rfl, -⟩ := id hpw.keep
  obtain ⟨af, capf, rfl, -⟩ := id hpw.fail
  obtain ⟨au, capu, rfl, -⟩ := id hpw.full
  obtain ⟨W, hW⟩ : ∃ W, W = w.alloc (.cells #[.int .i64 7, .string ⟨o.name.toArray⟩, .string ⟨o.to.toArray⟩, .int .i64 o.at_, .int .i64 o.long, .slice ad o.data.length capd, .int .i64 o.plan.crash, .slice ak o.plan.keep.length capk, .slice af o.plan.fail.length capf, .slice au o.plan.full.length capu, .int .i64 o.plan.room] 32) := ⟨_, rfl⟩
  have KW : Hid (∀ S, Kp c S w W) := by intro S; rw [hW]; exact (Kp.refl c S w).alloc _
  have HV := Lib.hid (hv.kp (KW.out S2F) (fun h => h) (Cx.refl _ _)); clear hv
  have HPW := Lib.hid (hpw.kp' (KW.out S2F) (fun h => h) (Cx.refl _ _)); clear hpw
  have HD := Lib.hid (DD.kp (KW.out S2F) (fun _ h => h.elim) (Cx.refl _ _)); clear DD
  have HQ := Lib.hid (show ((0, 0) : Nat × Nat).1 ≠ k from fun h => hk0 h.symm)
  have HK0 := Lib.hid hk0; clear hk0
  have HO := Lib.hid hops
  have HO2 := Lib.hid (show m.ops ≤ 1000000 by omega); clear hops
  have HDRY := Lib.hid hdry; clear hdry
  have HN := Lib.hid hn; clear hn
  have HNT := Lib.hid hnt; clear hnt
  have HB := Lib.hid hb; clear hb
  have HAT := Lib.hid hat; clear hat
  have HLO := Lib.hid hlo; clear hlo
  have LK := Lib.hid lk; clear lk
  have LF := Lib.hid lf; clear lf
  have LU := Lib.hid lu; clear lu
  have HW := Lib.hid hW; clear hW
  unfold opV str ptr
  rw [hkind]; clear hkind
  simp only [List.length_map] at HV HPW ⊢
  go_enter Try.func23, Try.ntmps23
  go_wp2_with (go_at_call 52; rw [← HW.out]; refine (rstart_c k r m _ HD.out o.plan HPW.out LK.out LF.out LU.out HK0.out HO.out HDRY.out).mono ?_; rintro e w2 ⟨rfl, c2, hx2, hk2, hd2⟩; have HX2 := Lib.hid hx2; have HK2 := Lib.hid hk2; have HD2 := Lib.hid hd2; clear hx2 hk2 hd2)
  go_ret
  have HX2' := Lib.hid (show Cx w c c2 from fun b hb => HX2.out b (Nat.lt_of_lt_of_le hb (KW.out S2F).size))
  exact ⟨rfl, c2, HX2'.out, (KW.out _).trans HK2.out (Cx.refl _ _), HD2.out⟩
set_option maxRecDepth 20000 in
set_option maxHeartbeats 8000000 in
theorem model_read (k r : Nat) (m : ADisk) (o : AOp) (vd vk vf vu : Value) (w : World) (DD : RD w c k r m) (hk0 : k ≠ 0) (hops : m.ops < 900000) (hdry : m.dead = true → ∀ x ∈ m.files, x.2.chs = []) (hn : o.name.length ≤ maxLen) (hnt : o.to.length ≤ maxLen) (hv : Sw w c (0, 0) vd (o.data.map bv)) (hb : o.data.length ≤ lim)
    (hat : -9223372036854775808 ≤ o.at_ ∧ o.at_ ≤ 9223372036854775807) (hlo : -9223372036854775808 ≤ o.long ∧ o.long ≤ 9223372036854775807) (hpw : PlanW w c vk vf vu o.plan) (lk : o.plan.keep.length ≤ lim) (lf : o.plan.fail.length ≤ lim) (lu : o.plan.full.length ≤ lim) (h0 : o.kind ≠ 0) (h1 : o.kind ≠ 1) (h2 : o.kind ≠ 2) (h3 : o.kind ≠ 3) (h4 : o.kind ≠ 4) (h5 : o.kind ≠ 5) (h6 : o.kind ≠ 6) (h7 : o.kind ≠ 7) :
    Calls Try.prog 23 #[ptr r, opV o vd vk vf vu] w (RPost k r (doOp m o) c w) := by
  have e0 : doOp m o = ((read m o.name o.at_ o.long).2, m) := by unfold doOp; simp [h0, h1, h2, h3, h4, h5, h6, h7]
  rw [e0]
  clear e0
  obtain ⟨ad, capd, rfl, -⟩ := id hv
  obtain ⟨ak, capk, rfl, -⟩ := id hpw.keep
  obtain ⟨af, capf, rfl, -⟩ := id hpw.fail
  obtain ⟨au, capu, rfl, -⟩ := id hpw.full
  obtain ⟨W, hW⟩ : ∃ W, W = w.alloc (.cells #[.int .i64 o.kind, .string ⟨o.name.toArray⟩, .string ⟨o.to.toArray⟩, .int .i64 o.at_, .int .i64 o.long, .slice ad o.data.length capd, .int .i64 o.plan.crash, .slice ak o.plan.keep.length capk, .slice af o.plan.fail.length capf, .slice au o.plan.full.length capu, .int .i64 o.plan.room] 32) := ⟨_, rfl⟩
  have KW : Hid (∀ S, Kp c S w W) := by intro S; rw [hW]; exact (Kp.refl c S w).alloc _
  have HV := Lib.hid (hv.kp (KW.out S2F) (fun h => h) (Cx.refl _ _)); clear hv
  have HPW := Lib.hid (hpw.kp' (KW.out S2F) (fun h => h) (Cx.refl _ _)); clear hpw
  have HD := Lib.hid (DD.kp (KW.out S2F) (fun _ h => h.elim) (Cx.refl _ _)); clear DD
  have HQ := Lib.hid (show ((0, 0) : Nat × Nat).1 ≠ k from fun h => hk0 h.symm)
  have HK0 := Lib.hid hk0; clear hk0
  have HO := Lib.hid hops
  have HO2 := Lib.hid (show m.ops ≤ 1000000 by omega); clear hops
  have HDRY := Lib.hid hdry; clear hdry
  have HN := Lib.hid hn; clear hn
  have HNT := Lib.hid hnt; clear hnt
  have HB := Lib.hid hb; clear hb
  have HAT := Lib.hid hat; clear hat
  have HLO := Lib.hid hlo; clear hlo
  have LK := Lib.hid lk; clear lk
  have LF := Lib.hid lf; clear lf
  have LU := Lib.hid lu; clear lu
  have HW := Lib.hid hW; clear hW
  unfold opV str ptr
  
  simp only [List.length_map] at HV HPW ⊢
  go_enter Try.func23, Try.ntmps23
  go_wp2_with (go_at_call 24; rw [← HW.out]; refine (rread_c k r m o.name o.at_ o.long _ HD.out HO2.out HAT.out HLO.out).mono ?_; rintro e w2 ⟨vr, c2, rfl, hx2, hk2, hs2⟩; obtain ⟨avr, cvr, rfl, -⟩ := id hs2; have HX2 := Lib.hid hx2; have HK2 := Lib.hid hk2; clear hx2 hk2 hs2)
  go_ret
  have HX2' := Lib.hid (show Cx w c c2 from fun b hb => HX2.out b (Nat.lt_of_lt_of_le hb (KW.out S2F).size))
  exact ⟨rfl, c2, HX2'.out, (KW.out _).trans (HK2.out _) (Cx.refl _ _), HD.out.kp (HK2.out S2F) (fun _ h => h.elim) HX2.out⟩
theorem model_c (k r : Nat) (m : ADisk) (o : AOp) (vd vk vf vu : Value) (w : World) (DD : RD w c k r m) (hk0 : k ≠ 0) (hops : m.ops < 900000) (hdry : m.dead = true → ∀ x ∈ m.files, x.2.chs = []) (hn : o.name.length ≤ maxLen) (hnt : o.to.length ≤ maxLen) (hv : Sw w c (0, 0) vd (o.data.map bv)) (hb : o.data.length ≤ lim)
    (hat : -9223372036854775808 ≤ o.at_ ∧ o.at_ ≤ 9223372036854775807) (hlo : -9223372036854775808 ≤ o.long ∧ o.long ≤ 9223372036854775807) (hpw : PlanW w c vk vf vu o.plan) (lk : o.plan.keep.length ≤ lim) (lf : o.plan.fail.length ≤ lim) (lu : o.plan.full.length ≤ lim) :
    Calls Try.prog 23 #[ptr r, opV o vd vk vf vu] w (RPost k r (doOp m o) c w) := by
  by_cases h0 : o.kind = 0
  · exact model_create k r m o vd vk vf vu w DD hk0 hops hdry hn hnt hv hb hat hlo hpw lk lf lu h0
  by_cases h1 : o.kind = 1
  · exact model_append k r m o vd vk vf vu w DD hk0 hops hdry hn hnt hv hb hat hlo hpw lk lf lu h1
  by_cases h2 : o.kind = 2
  · exact model_writeAt k r m o vd vk vf vu w DD hk0 hops hdry hn hnt hv hb hat hlo hpw lk lf lu h2
  by_cases h3 : o.kind = 3
  · exact model_truncate k r m o vd vk vf vu w DD hk0 hops hdry hn hnt hv hb hat hlo hpw lk lf lu h3
  by_cases h4 : o.kind = 4
  · exact model_sync k r m o vd vk vf vu w DD hk0 hops hdry hn hnt hv hb hat hlo hpw lk lf lu h4
  by_cases h5 : o.kind = 5
  · exact model_rename k r m o vd vk vf vu w DD hk0 hops hdry hn hnt hv hb hat hlo hpw lk lf lu h5
  by_cases h6 : o.kind = 6
  · exact model_remove k r m o vd vk vf vu w DD hk0 hops hdry hn hnt hv hb hat hlo hpw lk lf lu h6
  by_cases h7 : o.kind = 7
  · exact model_start k r m o vd vk vf vu w DD hk0 hops hdry hn hnt hv hb hat hlo hpw lk lf lu h7
  exact model_read k r m o vd vk vf vu w DD hk0 hops hdry hn hnt hv hb hat hlo hpw lk lf lu h0 h1 h2 h3 h4 h5 h6 h7
end Go.Proofs.Ytepphepcaphlkaa
