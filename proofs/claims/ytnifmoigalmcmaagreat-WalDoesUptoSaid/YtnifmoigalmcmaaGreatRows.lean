/-
  No cell of these rows narrows 'for every input' (looked for: loops, veiled, ifaces, maps, wideKeys, modest, calm, conditions, laid).
  DERIVED. THE GIVEN ROWS OF THIS SEAT. 6 by the template 'for every input the law returns true; each argument reads behind the call as it read before'; 0 by the template 'total and deterministic' (their statements: YtnifmoigalmcmaaGreatTotals.lean).
  GIVEN WITH THE SEED: the statements are not yours to turn. If you find one false, say at which input.
  Laid BY PROGRAM, IN A SANDBOX (cutbox-rows.mjs): the forced cells as the released guide's own fill.sh prints them over the translation 9fdb8baa8186ff87… (all of the seat's roots in one cut). By AI agents, Wed Nov 11 2026. No macro, syntax, notation, axiom, sorry.
-/
import Derived.Test.YtnifmoigalmcmaaGreatChecked
import GoSem.Claim
import GoSem.ClaimJoined
import GoSem.ClaimMapViews
import Derived.JoinedTies
import Derived.KernelRfl
namespace Go.Proofs.YtnifmoigalmcmaaGreat
/- THE CELL 'sum', in the pinned program and in every row, IS THE sha256 OF THE DUMP (.gsa) THAT YtnifmoigalmcmaaGreatProg.lean LOADS. Nothing in Lean hashes anything: it is a label: what it is worth is what the hold of that sum in a sandbox is worth. -/
noncomputable def Tryz.pinned : Pinned := { name := "ytnifmoigalmcmaagreat", sum := "9fdb8baa8186ff874cfb41d1f21b4ee362d591faf362a64cffa0e1991ae103e9", checked := Tryz.checked }
namespace Rows
def none {H : Type} : Left H := { results := [], args := [] }

/-- 'cairnlaw10.WalDoes': WHATEVER THE INPUT: true; the input reads as it did. -/
def walDoesSpec : ChangeSpec := { name := "walDoes", fn := fun _ => fun
  | [d1, d2] => { results := [.lit (.bool true)], args := [d1, d2] }
  | _ => none }
def walDoesRow : OpenClaim := { program := "ytnifmoigalmcmaagreat", sum := "9fdb8baa8186ff874cfb41d1f21b4ee362d591faf362a64cffa0e1991ae103e9", func := "cairn/cairnlaw10.WalDoes", spec := "walDoes", unfollowed := true, recurses := true, apart := false }
def WalDoesSaid : Prop := walDoesRow.holds Tryz.pinned (OpenSpec.ofChange walDoesSpec)

/-- ITS FALSE NEIGHBOUR: 'it returns false'. Refute it at one input. -/
def walDoesWrong : ChangeSpec := { name := "walDoes", fn := fun _ => fun
  | [d1, d2] => { results := [.lit (.bool false)], args := [d1, d2] }
  | _ => none }
def WalDoesWrongFalsely : Prop := walDoesRow.holds Tryz.pinned (OpenSpec.ofChange walDoesWrong)

/-- 'cairnlaw11.StoreFrom': WHATEVER THE INPUT: true; the input reads as it did. -/
def storeFromSpec : ChangeSpec := { name := "storeFrom", fn := fun _ => fun
  | [d1, d2] => { results := [.lit (.bool true)], args := [d1, d2] }
  | _ => none }
def storeFromRow : OpenClaim := { program := "ytnifmoigalmcmaagreat", sum := "9fdb8baa8186ff874cfb41d1f21b4ee362d591faf362a64cffa0e1991ae103e9", func := "cairn/cairnlaw11.StoreFrom", spec := "storeFrom", inPlace := ["slices.overlaps[string]", "slices.overlaps[cairn/api.Put]", "slices.overlaps[[]byte]"], unfollowed := true, recurses := true, apart := false }
def StoreFromSaid : Prop := storeFromRow.holds Tryz.pinned (OpenSpec.ofChange storeFromSpec)

/-- ITS FALSE NEIGHBOUR: 'it returns false'. Refute it at one input. -/
def storeFromWrong : ChangeSpec := { name := "storeFrom", fn := fun _ => fun
  | [d1, d2] => { results := [.lit (.bool false)], args := [d1, d2] }
  | _ => none }
def StoreFromWrongFalsely : Prop := storeFromRow.holds Tryz.pinned (OpenSpec.ofChange storeFromWrong)

/-- 'cairnlaw11.StoreNone': WHATEVER THE INPUT: true; the input reads as it did. -/
def storeNoneSpec : ChangeSpec := { name := "storeNone", fn := fun _ => fun
  | [d] => { results := [.lit (.bool true)], args := [d] }
  | _ => none }
def storeNoneRow : OpenClaim := { program := "ytnifmoigalmcmaagreat", sum := "9fdb8baa8186ff874cfb41d1f21b4ee362d591faf362a64cffa0e1991ae103e9", func := "cairn/cairnlaw11.StoreNone", spec := "storeNone", inPlace := ["slices.overlaps[string]", "slices.overlaps[cairn/api.Put]", "slices.overlaps[[]byte]"], unfollowed := true, recurses := true, apart := false }
def StoreNoneSaid : Prop := storeNoneRow.holds Tryz.pinned (OpenSpec.ofChange storeNoneSpec)

/-- ITS FALSE NEIGHBOUR: 'it returns false'. Refute it at one input. -/
def storeNoneWrong : ChangeSpec := { name := "storeNone", fn := fun _ => fun
  | [d] => { results := [.lit (.bool false)], args := [d] }
  | _ => none }
def StoreNoneWrongFalsely : Prop := storeNoneRow.holds Tryz.pinned (OpenSpec.ofChange storeNoneWrong)

/-- 'cairnlaw11.StoreMaps': WHATEVER THE INPUT: true; the input reads as it did. -/
def storeMapsSpec : ChangeSpec := { name := "storeMaps", fn := fun _ => fun
  | [d] => { results := [.lit (.bool true)], args := [d] }
  | _ => none }
def storeMapsRow : OpenClaim := { program := "ytnifmoigalmcmaagreat", sum := "9fdb8baa8186ff874cfb41d1f21b4ee362d591faf362a64cffa0e1991ae103e9", func := "cairn/cairnlaw11.StoreMaps", spec := "storeMaps", inPlace := ["slices.overlaps[string]", "slices.overlaps[cairn/api.Put]", "slices.overlaps[[]byte]"], unfollowed := true, recurses := true, apart := false }
def StoreMapsSaid : Prop := storeMapsRow.holds Tryz.pinned (OpenSpec.ofChange storeMapsSpec)

/-- ITS FALSE NEIGHBOUR: 'it returns false'. Refute it at one input. -/
def storeMapsWrong : ChangeSpec := { name := "storeMaps", fn := fun _ => fun
  | [d] => { results := [.lit (.bool false)], args := [d] }
  | _ => none }
def StoreMapsWrongFalsely : Prop := storeMapsRow.holds Tryz.pinned (OpenSpec.ofChange storeMapsWrong)

/-- 'cairnlaw11.StoreDies': WHATEVER THE INPUT: true; the input reads as it did. -/
def storeDiesSpec : ChangeSpec := { name := "storeDies", fn := fun _ => fun
  | [d1, d2] => { results := [.lit (.bool true)], args := [d1, d2] }
  | _ => none }
def storeDiesRow : OpenClaim := { program := "ytnifmoigalmcmaagreat", sum := "9fdb8baa8186ff874cfb41d1f21b4ee362d591faf362a64cffa0e1991ae103e9", func := "cairn/cairnlaw11.StoreDies", spec := "storeDies", inPlace := ["slices.overlaps[string]", "slices.overlaps[cairn/api.Put]", "slices.overlaps[[]byte]"], unfollowed := true, recurses := true, apart := false }
def StoreDiesSaid : Prop := storeDiesRow.holds Tryz.pinned (OpenSpec.ofChange storeDiesSpec)

/-- ITS FALSE NEIGHBOUR: 'it returns false'. Refute it at one input. -/
def storeDiesWrong : ChangeSpec := { name := "storeDies", fn := fun _ => fun
  | [d1, d2] => { results := [.lit (.bool false)], args := [d1, d2] }
  | _ => none }
def StoreDiesWrongFalsely : Prop := storeDiesRow.holds Tryz.pinned (OpenSpec.ofChange storeDiesWrong)

/-- 'cairnlaw11.StoreBytes': WHATEVER THE INPUT: true; the input reads as it did. -/
def storeBytesSpec : ChangeSpec := { name := "storeBytes", fn := fun _ => fun
  | [d1, d2] => { results := [.lit (.bool true)], args := [d1, d2] }
  | _ => none }
def storeBytesRow : OpenClaim := { program := "ytnifmoigalmcmaagreat", sum := "9fdb8baa8186ff874cfb41d1f21b4ee362d591faf362a64cffa0e1991ae103e9", func := "cairn/cairnlaw11.StoreBytes", spec := "storeBytes", inPlace := ["slices.overlaps[string]", "slices.overlaps[cairn/api.Put]", "slices.overlaps[[]byte]"], unfollowed := true, recurses := true, apart := false }
def StoreBytesSaid : Prop := storeBytesRow.holds Tryz.pinned (OpenSpec.ofChange storeBytesSpec)

/-- ITS FALSE NEIGHBOUR: 'it returns false'. Refute it at one input. -/
def storeBytesWrong : ChangeSpec := { name := "storeBytes", fn := fun _ => fun
  | [d1, d2] => { results := [.lit (.bool false)], args := [d1, d2] }
  | _ => none }
def StoreBytesWrongFalsely : Prop := storeBytesRow.holds Tryz.pinned (OpenSpec.ofChange storeBytesWrong)

/- THE SECOND FORM. 'bulk': how many values and letters a reading holds, each counted each time it is reached (what is shared counts as often as it is met; a slice's spare places count too). A statement '..UptoSaid' is the law's where the arguments, and the package variables that the reading takes, are together of bulk at most 1048576: NARROWER than '..Said'. Prove '..Said' where nothing that the law and all that it calls make is longer than what came in: it says more and counts as full. Else prove '..UptoSaid'. A law counts once. -/
mutual
def uptoBulk {H : Type} : DataW H → Nat
  | .lit (.string bytes) => bytes.length + 1
  | .lit _ => 1
  | .nil => 1
  | .ptr d => uptoBulk d + 1
  | .slice elems spare => uptoBulkAll elems + uptoBulkAll spare + 1
  | .agg parts => uptoBulkAll parts + 1
  | .iface _ d => uptoBulk d + 1
  | .map entries => uptoBulkEntries entries + 1
  | .held _ => 1
def uptoBulkAll {H : Type} : List (DataW H) → Nat
  | [] => 0
  | d :: r => uptoBulk d + uptoBulkAll r
def uptoBulkEntries {H : Type} : List (Lit × DataW H) → Nat
  | [] => 0
  | x :: r => uptoBulkEntry x + uptoBulkEntries r
def uptoBulkEntry {H : Type} : Lit × DataW H → Nat
  | (.string bytes, d) => bytes.length + uptoBulk d + 1
  | (_, d) => uptoBulk d + 1
 end
def uptoSmall : (H : Type) → List (DataW H) → Bool := fun _ ds => decide (uptoBulkAll ds ≤ 1048576)
def OpenSpec.upto (s : _root_.Go.ChangeSpec) : _root_.Go.OpenSpec := { _root_.Go.OpenSpec.ofChange s with cond := some uptoSmall }

/-- 'cairnlaw10.WalDoes', WHERE WHAT IT READS IS OF BULK AT MOST 1048576: true; the input reads as it did. -/
def walDoesUptoRow : OpenClaim := { program := "ytnifmoigalmcmaagreat", sum := "9fdb8baa8186ff874cfb41d1f21b4ee362d591faf362a64cffa0e1991ae103e9", func := "cairn/cairnlaw10.WalDoes", spec := "walDoes", unfollowed := true, recurses := true, apart := false, narrowed := true }
def WalDoesUptoSaid : Prop := walDoesUptoRow.holds Tryz.pinned (OpenSpec.upto walDoesSpec)

/-- 'cairnlaw11.StoreFrom', WHERE WHAT IT READS IS OF BULK AT MOST 1048576: true; the input reads as it did. -/
def storeFromUptoRow : OpenClaim := { program := "ytnifmoigalmcmaagreat", sum := "9fdb8baa8186ff874cfb41d1f21b4ee362d591faf362a64cffa0e1991ae103e9", func := "cairn/cairnlaw11.StoreFrom", spec := "storeFrom", inPlace := ["slices.overlaps[string]", "slices.overlaps[cairn/api.Put]", "slices.overlaps[[]byte]"], unfollowed := true, recurses := true, apart := false, narrowed := true }
def StoreFromUptoSaid : Prop := storeFromUptoRow.holds Tryz.pinned (OpenSpec.upto storeFromSpec)

/-- 'cairnlaw11.StoreNone', WHERE WHAT IT READS IS OF BULK AT MOST 1048576: true; the input reads as it did. -/
def storeNoneUptoRow : OpenClaim := { program := "ytnifmoigalmcmaagreat", sum := "9fdb8baa8186ff874cfb41d1f21b4ee362d591faf362a64cffa0e1991ae103e9", func := "cairn/cairnlaw11.StoreNone", spec := "storeNone", inPlace := ["slices.overlaps[string]", "slices.overlaps[cairn/api.Put]", "slices.overlaps[[]byte]"], unfollowed := true, recurses := true, apart := false, narrowed := true }
def StoreNoneUptoSaid : Prop := storeNoneUptoRow.holds Tryz.pinned (OpenSpec.upto storeNoneSpec)

/-- 'cairnlaw11.StoreMaps', WHERE WHAT IT READS IS OF BULK AT MOST 1048576: true; the input reads as it did. -/
def storeMapsUptoRow : OpenClaim := { program := "ytnifmoigalmcmaagreat", sum := "9fdb8baa8186ff874cfb41d1f21b4ee362d591faf362a64cffa0e1991ae103e9", func := "cairn/cairnlaw11.StoreMaps", spec := "storeMaps", inPlace := ["slices.overlaps[string]", "slices.overlaps[cairn/api.Put]", "slices.overlaps[[]byte]"], unfollowed := true, recurses := true, apart := false, narrowed := true }
def StoreMapsUptoSaid : Prop := storeMapsUptoRow.holds Tryz.pinned (OpenSpec.upto storeMapsSpec)

/-- 'cairnlaw11.StoreDies', WHERE WHAT IT READS IS OF BULK AT MOST 1048576: true; the input reads as it did. -/
def storeDiesUptoRow : OpenClaim := { program := "ytnifmoigalmcmaagreat", sum := "9fdb8baa8186ff874cfb41d1f21b4ee362d591faf362a64cffa0e1991ae103e9", func := "cairn/cairnlaw11.StoreDies", spec := "storeDies", inPlace := ["slices.overlaps[string]", "slices.overlaps[cairn/api.Put]", "slices.overlaps[[]byte]"], unfollowed := true, recurses := true, apart := false, narrowed := true }
def StoreDiesUptoSaid : Prop := storeDiesUptoRow.holds Tryz.pinned (OpenSpec.upto storeDiesSpec)

/-- 'cairnlaw11.StoreBytes', WHERE WHAT IT READS IS OF BULK AT MOST 1048576: true; the input reads as it did. -/
def storeBytesUptoRow : OpenClaim := { program := "ytnifmoigalmcmaagreat", sum := "9fdb8baa8186ff874cfb41d1f21b4ee362d591faf362a64cffa0e1991ae103e9", func := "cairn/cairnlaw11.StoreBytes", spec := "storeBytes", inPlace := ["slices.overlaps[string]", "slices.overlaps[cairn/api.Put]", "slices.overlaps[[]byte]"], unfollowed := true, recurses := true, apart := false, narrowed := true }
def StoreBytesUptoSaid : Prop := storeBytesUptoRow.holds Tryz.pinned (OpenSpec.upto storeBytesSpec)

end Rows
end Go.Proofs.YtnifmoigalmcmaaGreat
