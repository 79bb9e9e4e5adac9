import Derived.Test.YtnifmoigalmcmaaLt
import Derived.Test.YtnifmoigalmcmaaQ
import Derived.Test.YtnifmoigalmcmaaN
import Derived.Test.YtnifmoigalmcmaaR
namespace Go.Proofs.Ytnifmoigalmcmaa
open Go Go.RowKit Go.MapKept Go.Maps
open Dk
variable {c c' : Col} {w w' : World}
theorem append_c (k d : Nat) (m : ADisk) (n : Nm) (v : Value) (b : List UInt8) (w : World) (DD : DiskAt w c k d m) (hk0 : k ≠ 0) (hops : m.ops < 900000) (hn : n.length ≤ maxLen) {q : Nat × Nat} (hv : Sc w c q v (b.map bv)) (hq : q.1 ≠ k) (hb : b.length ≤ lim) :
    Calls Try.prog 40 #[ptr d, str n, v] w (OpPost k d (Dk.append m n b) c w) := by
  by_cases h : openErr m n = 0
  · obtain ⟨h1, f, h2⟩ := openErr_zero h
    exact append_good k d m n v b w DD hk0 hops hn hv hq hb f h1 h2
  · exact append_bad k d m n v b w DD hk0 hops hn h
theorem truncate_c (k d : Nat) (m : ADisk) (n : Nm) (i : Int) (w : World) (DD : DiskAt w c k d m) (hk0 : k ≠ 0) (hops : m.ops < 900000) (hn : n.length ≤ maxLen)  :
    Calls Try.prog 48 #[ptr d, str n, .int .i64 i] w (OpPost k d (Dk.truncate m n i) c w) := by
  by_cases h : openErr m n = 0
  · obtain ⟨h1, f, h2⟩ := openErr_zero h
    exact truncate_good k d m n i w DD hk0 hops hn  f h1 h2
  · exact truncate_bad k d m n i w DD hk0 hops hn h
theorem sync_c (k d : Nat) (m : ADisk) (n : Nm)  (w : World) (DD : DiskAt w c k d m) (hk0 : k ≠ 0) (hops : m.ops < 900000) (hn : n.length ≤ maxLen)  :
    Calls Try.prog 41 #[ptr d, str n] w (OpPost k d (Dk.sync m n ) c w) := by
  by_cases h : openErr m n = 0
  · obtain ⟨h1, f, h2⟩ := openErr_zero h
    exact sync_good k d m n  w DD hk0 hops hn  f h1 h2
  · exact sync_bad k d m n  w DD hk0 hops hn h
structure AOp where
  kind : Int
  name : Nm
  to : Nm
  at_ : Int
  long : Int
  data : List UInt8
  plan : APlan
def doOp (m : ADisk) (o : AOp) : Int × ADisk :=
  if o.kind = 0 then create m o.name else if o.kind = 1 then Dk.append m o.name o.data else if o.kind = 2 then Dk.writeAt m o.name o.at_ o.data else
  if o.kind = 3 then Dk.truncate m o.name o.long else if o.kind = 4 then Dk.sync m o.name else if o.kind = 5 then Dk.rename m o.name o.to else
  if o.kind = 6 then Dk.remove m o.name else if o.kind = 7 then (0, Dk.start m o.plan) else ((read m o.name o.at_ o.long).2, m)
def opV (o : AOp) (vd vk vf vu : Value) : Value := .agg #[.int .i64 o.kind, str o.name, str o.to, .int .i64 o.at_, .int .i64 o.long, vd, .int .i64 o.plan.crash, vk, vf, vu, .int .i64 o.plan.room]
end Go.Proofs.Ytnifmoigalmcmaa
