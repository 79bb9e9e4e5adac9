/- The disk of layer 1 as plain data: files by name, each with what is safe, its changes since and its data; the operations on it. No program in sight. -/
namespace Go.Proofs.YtnifmoigalmcmaaGreat
namespace Dk
abbrev Nm := List UInt8
structure APlan where
  crash : Int
  keep : List Int
  fail : List Int
  full : List Int
  room : Int
inductive Chg where
  | wr (at_ : Nat) (b : List UInt8)
  | cut (long : Nat)
def sized (l : List UInt8) (n : Nat) : List UInt8 := l.take n ++ List.replicate (n - l.length) 0
theorem sized_length (l : List UInt8) (n : Nat) : (sized l n).length = n := by simp [sized]; omega
/-- b laid over l at place i. -/
def over (l : List UInt8) (i : Nat) (b : List UInt8) : List UInt8 := l.take i ++ b ++ l.drop (i + b.length)
def Chg.app (l : List UInt8) : Chg → List UInt8
  | .wr i b => over (sized l (max l.length (i + b.length))) i b
  | .cut n => sized l n
/-- how long data are behind a change. -/
def Chg.len (n : Nat) : Chg → Nat
  | .wr i b => max n (i + b.length)
  | .cut k => k
theorem app_length (l : List UInt8) (c : Chg) : (c.app l).length = c.len l.length := by
  cases c with
  | wr i b => simp [Chg.app, over, Chg.len, sized_length]; omega
  | cut n => simp [Chg.app, Chg.len, sized_length]
def Chg.surv (k : Int) : Chg → Option Chg
  | .wr i b => if k < 0 then some (.wr i b) else if (k % ((b.length : Int) + 1)).toNat = 0 then none else some (.wr i (b.take (k % ((b.length : Int) + 1)).toNat))
  | .cut n => if k < 0 ∨ k % 2 = 1 then some (.cut n) else none
structure AFile where
  safe : List UInt8
  chs : List Chg
  now : List UInt8
structure ADisk where
  plan : APlan
  ops : Int
  dead : Bool
  files : List (Nm × AFile)
def get (fs : List (Nm × AFile)) (n : Nm) : Option AFile := (fs.find? fun x => x.1 == n).map (·.2)
def del (fs : List (Nm × AFile)) (n : Nm) : List (Nm × AFile) := fs.filter fun x => !(x.1 == n)
/-- in its place, where no such name is. -/
def ins (n : Nm) (f : AFile) : List (Nm × AFile) → List (Nm × AFile)
  | [] => [(n, f)]
  | x :: r => if n < x.1 then (n, f) :: x :: r else x :: ins n f r
/-- another file under a name that is. -/
def upd (fs : List (Nm × AFile)) (n : Nm) (f : AFile) : List (Nm × AFile) := fs.map fun x => if x.1 == n then (n, f) else x
theorem get_mem {fs : List (Nm × AFile)} {n : Nm} {f : AFile} (h : get fs n = some f) : (n, f) ∈ fs := by
  unfold get at h
  obtain ⟨x, hx, rfl⟩ := Option.map_eq_some_iff.1 h
  have h1 := List.mem_of_find?_eq_some hx
  have h2 := List.find?_some hx
  have : x.1 = n := by simpa using h2
  rw [← this]; exact h1
theorem get_none {fs : List (Nm × AFile)} {n : Nm} (h : get fs n = none) : ∀ x ∈ fs, x.1 ≠ n := by
  intro x hx e
  unfold get at h
  rw [Option.map_eq_none_iff, List.find?_eq_none] at h
  exact h x hx (by simp [e])
abbrev Rising (fs : List (Nm × AFile)) : Prop := fs.Pairwise fun x y => x.1 < y.1
theorem rising_inj {fs : List (Nm × AFile)} (hr : Rising fs) : ∀ {a b}, a ∈ fs → b ∈ fs → a.1 = b.1 → a = b := by
  induction fs with
  | nil => intro a b ha; cases ha
  | cons y r ih =>
    intro a b ha hb e
    obtain ⟨h1, h2⟩ := List.pairwise_cons.1 hr
    rcases List.mem_cons.1 ha with rfl | ha' <;> rcases List.mem_cons.1 hb with rfl | hb'
    · rfl
    · have := h1 b hb'; rw [e] at this; exact absurd this (List.lt_irrefl _)
    · have := h1 a ha'; rw [e] at this; exact absurd this (List.lt_irrefl _)
    · exact ih h2 ha' hb' e
theorem get_of_mem {fs : List (Nm × AFile)} (hr : Rising fs) {x : Nm × AFile} (h : x ∈ fs) : get fs x.1 = some x.2 := by
  cases hg : get fs x.1 with
  | none => exact absurd rfl (get_none hg x h)
  | some f => rw [← rising_inj hr (get_mem hg) h rfl]
theorem ins_perm (n : Nm) (f : AFile) : ∀ fs, (ins n f fs).Perm ((n, f) :: fs)
  | [] => List.Perm.refl _
  | x :: r => by
    unfold ins
    split
    · exact List.Perm.refl _
    · exact ((ins_perm n f r).cons x).trans (List.Perm.swap _ _ _)
theorem lt_of_not {a b : Nm} (h : ¬ a < b) (hne : b ≠ a) : b < a := by
  rcases Std.Trichotomous.rel_or_eq_or_rel_swap (r := fun (x y : Nm) => x < y) (a := a) (b := b) with h' | h' | h'
  · exact absurd h' h
  · exact absurd h'.symm hne
  · exact h'
theorem ins_rising (n : Nm) (f : AFile) : ∀ {fs}, Rising fs → (∀ x ∈ fs, x.1 ≠ n) → Rising (ins n f fs)
  | [], _, _ => List.pairwise_singleton _ _
  | x :: r, hr, hn => by
    obtain ⟨h1, h2⟩ := List.pairwise_cons.1 hr
    unfold ins
    split
    · rename_i hlt
      refine List.pairwise_cons.2 ⟨fun y hy => ?_, hr⟩
      rcases List.mem_cons.1 hy with rfl | hy
      · exact hlt
      · exact List.lt_trans hlt (h1 y hy)
    · rename_i hlt
      refine List.pairwise_cons.2 ⟨fun y hy => ?_, ins_rising n f h2 fun y hy => hn y (List.mem_cons_of_mem _ hy)⟩
      rcases List.mem_cons.1 ((ins_perm n f r).mem_iff.1 hy) with rfl | hy
      · exact lt_of_not hlt (hn x (List.mem_cons_self ..))
      · exact h1 y hy
theorem del_rising {fs : List (Nm × AFile)} (n : Nm) (h : Rising fs) : Rising (del fs n) := h.sublist List.filter_sublist
theorem upd_rising {fs : List (Nm × AFile)} (n : Nm) (f : AFile) (h : Rising fs) : Rising (upd fs n f) := by
  unfold upd
  refine List.pairwise_map.2 (h.imp fun {a b} hab => ?_)
  have e : ∀ x : Nm × AFile, (if x.1 == n then (n, f) else x).1 = x.1 := fun x => by split <;> simp_all
  rw [e, e]; exact hab
def maxFile : Nat := 268435456
def Chg.ok : Chg → Prop
  | .wr i b => i + b.length ≤ maxFile
  | .cut n => n ≤ maxFile
structure AFile.ok (f : AFile) (k : Nat) : Prop where
  safe : f.safe.length ≤ maxFile
  now : f.now.length ≤ maxFile
  chs : ∀ c ∈ f.chs, c.ok
  many : f.chs.length ≤ k
structure ADisk.ok (d : ADisk) : Prop where
  ops0 : 0 ≤ d.ops
  files : ∀ x ∈ d.files, x.2.ok d.ops.toNat
  many : d.files.length ≤ 4096
  names : ∀ x ∈ d.files, x.1.length ≤ 32
  rising : d.files.Pairwise fun x y => x.1 < y.1
def keepAt (p : APlan) (i : Nat) : Int := if p.keep.length = 0 then 0 else p.keep.getD (i % p.keep.length) 0
/-- what of changes survives, from number i on, over data. -/
def dieFile (p : APlan) : Nat → List UInt8 → List Chg → List UInt8
  | _, l, [] => l
  | i, l, c :: r => match c.surv (keepAt p i) with
    | none => dieFile p (i + 1) l r
    | some s => dieFile p (i + 1) (s.app l) r
def dieAll (p : APlan) : Nat → List (Nm × AFile) → List (Nm × AFile)
  | _, [] => []
  | i, x :: r => (x.1, { safe := dieFile p i x.2.safe x.2.chs, chs := [], now := dieFile p i x.2.safe x.2.chs }) :: dieAll p (i + x.2.chs.length) r
theorem dieFile_snoc (p : APlan) (x : Chg) : ∀ (a : List Chg) (N : Nat) (l : List UInt8), dieFile p N l (a ++ [x]) = match x.surv (keepAt p (N + a.length)) with | none => dieFile p N l a | some s => s.app (dieFile p N l a)
  | [], N, l => by
    simp only [List.nil_append, dieFile, List.length_nil, Nat.add_zero]
  | c :: r, N, l => by
    simp only [List.cons_append, dieFile, List.length_cons]
    have e : N + (r.length + 1) = N + 1 + r.length := by omega
    rw [e]
    cases c.surv (keepAt p N) with
    | none => exact dieFile_snoc p x r (N + 1) l
    | some s => exact dieFile_snoc p x r (N + 1) (s.app l)
theorem surv_ok {x s : Chg} {k : Int} (h : x.ok) (hs : x.surv k = some s) : s.ok := by
  cases x with
  | wr i b =>
    simp only [Chg.surv] at hs
    split at hs
    · cases hs; exact h
    · split at hs
      · cases hs
      · cases hs
        simp only [Chg.ok, List.length_take] at *
        omega
  | cut n =>
    simp only [Chg.surv] at hs
    split at hs
    · cases hs; exact h
    · cases hs
theorem app_ok {s : Chg} {l : List UInt8} (h : s.ok) (hl : l.length ≤ maxFile) : (s.app l).length ≤ maxFile := by
  rw [app_length]
  cases s with
  | wr i b => simp only [Chg.len, Chg.ok] at *; omega
  | cut n => exact h
theorem dieFile_len (p : APlan) : ∀ (a : List Chg) (N : Nat) (l : List UInt8), l.length ≤ maxFile → (∀ c ∈ a, c.ok) → (dieFile p N l a).length ≤ maxFile
  | [], _, _, hl, _ => hl
  | c :: r, N, l, hl, hc => by
    simp only [dieFile]
    have h1 := hc c (List.mem_cons_self ..)
    have h2 : ∀ c ∈ r, c.ok := fun c h => hc c (List.mem_cons_of_mem _ h)
    cases hs : c.surv (keepAt p N) with
    | none => exact dieFile_len p r (N + 1) l hl h2
    | some s => exact dieFile_len p r (N + 1) _ (app_ok (surv_ok h1 hs) hl) h2
def cnt (fs : List (Nm × AFile)) : Nat := (fs.map fun x => x.2.chs.length).sum
theorem cnt_le {K : Nat} : ∀ {fs : List (Nm × AFile)}, (∀ x ∈ fs, x.2.chs.length ≤ K) → cnt fs ≤ fs.length * K
  | [], _ => by simp [cnt]
  | x :: r, h => by
    have h1 := h x (List.mem_cons_self ..)
    have h2 := cnt_le (K := K) (fs := r) fun y hy => h y (List.mem_cons_of_mem _ hy)
    have e : cnt (x :: r) = x.2.chs.length + cnt r := by simp [cnt]
    rw [e, List.length_cons, Nat.add_mul]; omega
theorem dieAll_append (p : APlan) : ∀ (a b : List (Nm × AFile)) (N : Nat), dieAll p N (a ++ b) = dieAll p N a ++ dieAll p (N + cnt a) b
  | [], b, N => by simp [dieAll, cnt]
  | x :: r, b, N => by
    simp only [List.cons_append, dieAll]
    rw [dieAll_append p r b]
    simp [cnt, Nat.add_assoc]
theorem dieAll_names (p : APlan) : ∀ (a : List (Nm × AFile)) (N : Nat), (dieAll p N a).map (·.1) = a.map (·.1)
  | [], _ => rfl
  | x :: r, N => by simp only [dieAll, List.map_cons]; rw [dieAll_names p r]
theorem rising_of_names {a b : List (Nm × AFile)} (h : a.map (·.1) = b.map (·.1)) (hr : Rising b) : Rising a := by
  have h1 : (b.map (·.1)).Pairwise (· < ·) := List.pairwise_map.2 hr
  rw [← h] at h1
  exact List.pairwise_map.1 h1
theorem upd_mid {a b : List (Nm × AFile)} {x : Nm × AFile} (hr : Rising (a ++ x :: b)) (f : AFile) : upd (a ++ x :: b) x.1 f = a ++ (x.1, f) :: b := by
  unfold upd
  rw [List.map_append, List.map_cons]
  have hne : ∀ y ∈ a ++ b, (y.1 == x.1) = false := by
    intro y hy
    simp only [beq_eq_false_iff_ne]
    intro e
    have h1 := List.pairwise_append.1 hr
    rcases List.mem_append.1 hy with h | h
    · have := h1.2.2 y h x (List.mem_cons_self ..); rw [e] at this; exact List.lt_irrefl _ this
    · have := (List.pairwise_cons.1 h1.2.1).1 y h; rw [e] at this; exact List.lt_irrefl _ this
  have key : ∀ l : List (Nm × AFile), (∀ y ∈ l, (y.1 == x.1) = false) → l.map (fun y => if (y.1 == x.1) = true then (x.1, f) else y) = l := by
    intro l hl
    have : l.map (fun y => if (y.1 == x.1) = true then (x.1, f) else y) = l.map id := List.map_congr_left fun y hy => by rw [if_neg (by rw [hl y hy]; simp)]; rfl
    rw [this]; simp
  rw [key a (fun y hy => hne y (List.mem_append_left _ hy)), key b (fun y hy => hne y (List.mem_append_right _ hy))]
  simp
def die (d : ADisk) : ADisk := { d with files := dieAll d.plan 0 d.files, dead := true }
theorem dieAll_mem (p : APlan) : ∀ (a : List (Nm × AFile)) (N : Nat) (y), y ∈ dieAll p N a → ∃ x ∈ a, ∃ i, y = (x.1, { safe := dieFile p i x.2.safe x.2.chs, chs := [], now := dieFile p i x.2.safe x.2.chs })
  | [], _, y, h => by cases h
  | x :: r, N, y, h => by
    simp only [dieAll] at h
    rcases List.mem_cons.1 h with rfl | h
    · exact ⟨x, List.mem_cons_self .., N, rfl⟩
    · obtain ⟨z, hz, i, e⟩ := dieAll_mem p r _ y h
      exact ⟨z, List.mem_cons_of_mem _ hz, i, e⟩
theorem dieAll_length (p : APlan) (a : List (Nm × AFile)) (N : Nat) : (dieAll p N a).length = a.length := by
  have := congrArg List.length (dieAll_names p a N); simpa using this
theorem dieAll_ok {p : APlan} {a : List (Nm × AFile)} {N k : Nat} (h : ∀ x ∈ a, x.2.ok k) : ∀ y ∈ dieAll p N a, y.2.ok k := by
  intro y hy
  obtain ⟨x, hx, i, rfl⟩ := dieAll_mem p a N y hy
  have := h x hx
  have hl := dieFile_len p x.2.chs i x.2.safe this.safe this.chs
  exact ⟨hl, hl, (fun c hc => by cases hc), Nat.zero_le _⟩
theorem die_ok {d : ADisk} (h : d.ok) : (die d).ok :=
  ⟨h.ops0, dieAll_ok h.files, by show (dieAll _ _ _).length ≤ 4096; rw [dieAll_length]; exact h.many, by
    intro y hy
    obtain ⟨x, hx, i, rfl⟩ := dieAll_mem _ _ _ y hy
    exact h.names x hx, rising_of_names (dieAll_names _ _ _) h.rising⟩
def begin_ (d : ADisk) : Int × ADisk :=
  if d.dead then (10, d) else
  let e := { d with ops := d.ops + 1 }
  if e.ops = e.plan.crash then (10, die e) else
  if e.ops ∈ e.plan.fail then (11, e) else (0, e)
def total (d : ADisk) : Nat := (d.files.map fun x => x.2.now.length).sum
def room_ (d : ADisk) (had has : Int) : Int :=
  if d.ops ∈ d.plan.full then 12 else
  if d.plan.room ≤ 0 ∨ has ≤ had then 0 else
  if (has - had) + (total d : Int) > d.plan.room then 12 else 0
def named (s : Nm) : Bool := s.all (fun c => !(c < 33 || c > 126 || c == 47)) && (1 ≤ s.length && s.length ≤ 32)
def create (d : ADisk) (n : Nm) : Int × ADisk :=
  let (e, d) := begin_ d
  if e ≠ 0 then (e, d) else
  if named n = false then (15, d) else
  if (get d.files n).isSome then (14, d) else
  if 4096 ≤ d.files.length then (2, d) else
  if room_ d 0 0 ≠ 0 then (room_ d 0 0, d) else
  (0, { d with files := ins n ⟨[], [], []⟩ d.files })
def change (d : ADisk) (n : Nm) (f : AFile) (c : Chg) (has : Int) : Int × ADisk :=
  if room_ d f.now.length has ≠ 0 then (room_ d f.now.length has, d) else
  (0, { d with files := upd d.files n ⟨f.safe, f.chs ++ [c], c.app f.now⟩ })
def append (d : ADisk) (n : Nm) (b : List UInt8) : Int × ADisk :=
  let (e, d) := begin_ d
  if e ≠ 0 then (e, d) else
  match get d.files n with
  | none => (13, d)
  | some f => if maxFile < b.length + f.now.length then (2, d) else change d n f (.wr f.now.length b) (f.now.length + b.length)
def writeAt (d : ADisk) (n : Nm) (i : Int) (b : List UInt8) : Int × ADisk :=
  let (e, d) := begin_ d
  if e ≠ 0 then (e, d) else
  match get d.files n with
  | none => (13, d)
  | some f => if i < 0 then (1, d) else if (maxFile : Int) < i + b.length then (2, d) else change d n f (.wr i.toNat b) (max (f.now.length : Int) (i + b.length))
def truncate (d : ADisk) (n : Nm) (i : Int) : Int × ADisk :=
  let (e, d) := begin_ d
  if e ≠ 0 then (e, d) else
  match get d.files n with
  | none => (13, d)
  | some f => if i < 0 then (1, d) else if (maxFile : Int) < i then (2, d) else change d n f (.cut i.toNat) i
def sync (d : ADisk) (n : Nm) : Int × ADisk :=
  let (e, d) := begin_ d
  if e ≠ 0 then (e, d) else
  match get d.files n with
  | none => (13, d)
  | some f => (0, { d with files := upd d.files n ⟨f.now, [], f.now⟩ })
def rename (d : ADisk) (a b : Nm) : Int × ADisk :=
  let (e, d) := begin_ d
  if e ≠ 0 then (e, d) else
  match get d.files a with
  | none => (13, d)
  | some f => if named b = false then (15, d) else (0, { d with files := ins b f (del (del d.files a) b) })
def remove (d : ADisk) (n : Nm) : Int × ADisk :=
  let (e, d) := begin_ d
  if e ≠ 0 then (e, d) else
  match get d.files n with
  | none => (13, d)
  | some _ => (0, { d with files := del d.files n })
def read (d : ADisk) (n : Nm) (i k : Int) : List UInt8 × Int :=
  if d.dead then ([], 10) else
  match get d.files n with
  | none => ([], 13)
  | some f => if i < 0 ∨ k < 0 ∨ (f.now.length : Int) < i ∨ (f.now.length : Int) < i + k then ([], 1) else ((f.now.drop i.toNat).take k.toNat, 0)
def size (d : ADisk) (n : Nm) : Int × Int :=
  if d.dead then (0, 10) else
  match get d.files n with
  | none => (0, 13)
  | some f => (f.now.length, 0)
def start (d : ADisk) (p : APlan) : ADisk := { (if d.dead then d else die d) with plan := p, ops := 0, dead := false }
def files (d : ADisk) : List (Nm × List UInt8) := if d.dead then [] else d.files.map fun x => (x.1, x.2.now)
def safe (d : ADisk) : List (Nm × List UInt8) := d.files.map fun x => (x.1, x.2.safe)
def new_ (p : APlan) : ADisk := ⟨p, 0, false, []⟩
end Dk
end Go.Proofs.YtnifmoigalmcmaaGreat
