/-
  No cell of these rows narrows 'for every input' (looked for: loops, veiled, ifaces, maps, wideKeys, modest, calm, conditions, laid).
  DERIVED. THE GIVEN ROWS OF THIS SEAT. 4 by the template 'for every input the law returns true; each argument reads behind the call as it read before'; 0 by the template 'total and deterministic' (their statements: YtmcaejnofmbilaaGreatTotals.lean).
  GIVEN WITH THE SEED: the statements are not yours to turn. If you find one false, say at which input.
  Laid BY PROGRAM, IN A SANDBOX (cutbox-rows.mjs): the forced cells as the released guide's own fill.sh prints them over the translation b4c7e0ced24bd6a6… (all of the seat's roots in one cut). By AI agents, Wed Nov 11 2026. No macro, syntax, notation, axiom, sorry.
-/
import Derived.Test.YtmcaejnofmbilaaGreatChecked
import GoSem.Claim
import GoSem.ClaimJoined
import GoSem.ClaimMapViews
import Derived.JoinedTies
import Derived.KernelRfl
namespace Go.Proofs.YtmcaejnofmbilaaGreat
/- THE CELL 'sum', in the pinned program and in every row, IS THE sha256 OF THE DUMP (.gsa) THAT YtmcaejnofmbilaaGreatProg.lean LOADS. Nothing in Lean hashes anything: it is a label: what it is worth is what the hold of that sum in a sandbox is worth. -/
noncomputable def Tryz.pinned : Pinned := { name := "ytmcaejnofmbilaagreat", sum := "b4c7e0ced24bd6a61e318a7b61d23ab3f55e8df91be4366cc3eae15b05a25603", checked := Tryz.checked }
namespace Rows
def none {H : Type} : Left H := { results := [], args := [] }

/-- 'deduplaw18.InodeNobody': WHATEVER THE INPUT: true; the input reads as it did. -/
def inodeNobodySpec : ChangeSpec := { name := "inodeNobody", fn := fun _ => fun
  | [d] => { results := [.lit (.bool true)], args := [d] }
  | _ => none }
def inodeNobodyRow : OpenClaim := { program := "ytmcaejnofmbilaagreat", sum := "b4c7e0ced24bd6a61e318a7b61d23ab3f55e8df91be4366cc3eae15b05a25603", func := "dedup/deduplaw18.InodeNobody", spec := "inodeNobody", inPlace := ["slices.overlaps[string]", "slices.overlaps[*dedup/tree.knot]"], unfollowed := true, recurses := true, apart := false }
def InodeNobodySaid : Prop := inodeNobodyRow.holds Tryz.pinned (OpenSpec.ofChange inodeNobodySpec)

/-- ITS FALSE NEIGHBOUR: 'it returns false'. Refute it at one input. -/
def inodeNobodyWrong : ChangeSpec := { name := "inodeNobody", fn := fun _ => fun
  | [d] => { results := [.lit (.bool false)], args := [d] }
  | _ => none }
def InodeNobodyWrongFalsely : Prop := inodeNobodyRow.holds Tryz.pinned (OpenSpec.ofChange inodeNobodyWrong)

/-- 'deduplaw11.TreeNobody': WHATEVER THE INPUT: true; the input reads as it did. -/
def treeNobodySpec : ChangeSpec := { name := "treeNobody", fn := fun _ => fun
  | [d1, d2] => { results := [.lit (.bool true)], args := [d1, d2] }
  | _ => none }
def treeNobodyRow : OpenClaim := { program := "ytmcaejnofmbilaagreat", sum := "b4c7e0ced24bd6a61e318a7b61d23ab3f55e8df91be4366cc3eae15b05a25603", func := "dedup/deduplaw11.TreeNobody", spec := "treeNobody", inPlace := ["slices.overlaps[string]", "slices.overlaps[*dedup/tree.knot]"], unfollowed := true, recurses := true, apart := false }
def TreeNobodySaid : Prop := treeNobodyRow.holds Tryz.pinned (OpenSpec.ofChange treeNobodySpec)

/-- ITS FALSE NEIGHBOUR: 'it returns false'. Refute it at one input. -/
def treeNobodyWrong : ChangeSpec := { name := "treeNobody", fn := fun _ => fun
  | [d1, d2] => { results := [.lit (.bool false)], args := [d1, d2] }
  | _ => none }
def TreeNobodyWrongFalsely : Prop := treeNobodyRow.holds Tryz.pinned (OpenSpec.ofChange treeNobodyWrong)

/-- 'deduplaw16.ExtentNobody': WHATEVER THE INPUT: true; the input reads as it did. -/
def extentNobodySpec : ChangeSpec := { name := "extentNobody", fn := fun _ => fun
  | [d1, d2, d3] => { results := [.lit (.bool true)], args := [d1, d2, d3] }
  | _ => none }
def extentNobodyRow : OpenClaim := { program := "ytmcaejnofmbilaagreat", sum := "b4c7e0ced24bd6a61e318a7b61d23ab3f55e8df91be4366cc3eae15b05a25603", func := "dedup/deduplaw16.ExtentNobody", spec := "extentNobody", inPlace := ["slices.overlaps[string]", "slices.overlaps[*dedup/tree.knot]"], unfollowed := true, recurses := true, apart := false }
def ExtentNobodySaid : Prop := extentNobodyRow.holds Tryz.pinned (OpenSpec.ofChange extentNobodySpec)

/-- ITS FALSE NEIGHBOUR: 'it returns false'. Refute it at one input. -/
def extentNobodyWrong : ChangeSpec := { name := "extentNobody", fn := fun _ => fun
  | [d1, d2, d3] => { results := [.lit (.bool false)], args := [d1, d2, d3] }
  | _ => none }
def ExtentNobodyWrongFalsely : Prop := extentNobodyRow.holds Tryz.pinned (OpenSpec.ofChange extentNobodyWrong)

/-- 'deduplaw19.DirNobody': WHATEVER THE INPUT: true; the input reads as it did. -/
def dirNobodySpec : ChangeSpec := { name := "dirNobody", fn := fun _ => fun
  | [d1, d2, d3] => { results := [.lit (.bool true)], args := [d1, d2, d3] }
  | _ => none }
def dirNobodyRow : OpenClaim := { program := "ytmcaejnofmbilaagreat", sum := "b4c7e0ced24bd6a61e318a7b61d23ab3f55e8df91be4366cc3eae15b05a25603", func := "dedup/deduplaw19.DirNobody", spec := "dirNobody", inPlace := ["internal/bytealg.IndexByteString", "internal/bytealg.IndexString", "slices.overlaps[string]", "slices.overlaps[*dedup/tree.knot]"], unfollowed := true, recurses := true, named := ["internal/bytealg.MaxLen"], apart := false }
def DirNobodySaid : Prop := dirNobodyRow.holds Tryz.pinned (OpenSpec.ofChange dirNobodySpec)

/-- ITS FALSE NEIGHBOUR: 'it returns false'. Refute it at one input. -/
def dirNobodyWrong : ChangeSpec := { name := "dirNobody", fn := fun _ => fun
  | [d1, d2, d3] => { results := [.lit (.bool false)], args := [d1, d2, d3] }
  | _ => none }
def DirNobodyWrongFalsely : Prop := dirNobodyRow.holds Tryz.pinned (OpenSpec.ofChange dirNobodyWrong)

/- THE SECOND FORM. 'bulk': how many values and letters a reading holds, each counted each time it is reached (what is shared counts as often as it is met; a slice's spare places count too). A statement '..UptoSaid' is the law's where the arguments, and the package variables that the reading takes, are together of bulk at most 1048576: NARROWER than '..Said'. Prove '..Said' where nothing that the law and all that it calls make is longer than what came in: it says more and counts as full. Else prove '..UptoSaid'. A law counts once. -/
mutual
def uptoBulk {H : Type} : DataW H → Nat
  | .lit (.string bytes) => bytes.length + 1
  | .lit _ => 1
  | .nil => 1
  | .ptr d => uptoBulk d + 1
  | .slice elems spare => uptoBulkAll elems + uptoBulkAll spare + 1
  | .agg parts => uptoBulkAll parts + 1
  | .iface _ d => uptoBulk d + 1
  | .map entries => uptoBulkEntries entries + 1
  | .held _ => 1
def uptoBulkAll {H : Type} : List (DataW H) → Nat
  | [] => 0
  | d :: r => uptoBulk d + uptoBulkAll r
def uptoBulkEntries {H : Type} : List (Lit × DataW H) → Nat
  | [] => 0
  | x :: r => uptoBulkEntry x + uptoBulkEntries r
def uptoBulkEntry {H : Type} : Lit × DataW H → Nat
  | (.string bytes, d) => bytes.length + uptoBulk d + 1
  | (_, d) => uptoBulk d + 1
 end
def uptoSmall : (H : Type) → List (DataW H) → Bool := fun _ ds => decide (uptoBulkAll ds ≤ 1048576)
def OpenSpec.upto (s : _root_.Go.ChangeSpec) : _root_.Go.OpenSpec := { _root_.Go.OpenSpec.ofChange s with cond := some uptoSmall }

/-- 'deduplaw18.InodeNobody', WHERE WHAT IT READS IS OF BULK AT MOST 1048576: true; the input reads as it did. -/
def inodeNobodyUptoRow : OpenClaim := { program := "ytmcaejnofmbilaagreat", sum := "b4c7e0ced24bd6a61e318a7b61d23ab3f55e8df91be4366cc3eae15b05a25603", func := "dedup/deduplaw18.InodeNobody", spec := "inodeNobody", inPlace := ["slices.overlaps[string]", "slices.overlaps[*dedup/tree.knot]"], unfollowed := true, recurses := true, apart := false, narrowed := true }
def InodeNobodyUptoSaid : Prop := inodeNobodyUptoRow.holds Tryz.pinned (OpenSpec.upto inodeNobodySpec)

/-- 'deduplaw11.TreeNobody', WHERE WHAT IT READS IS OF BULK AT MOST 1048576: true; the input reads as it did. -/
def treeNobodyUptoRow : OpenClaim := { program := "ytmcaejnofmbilaagreat", sum := "b4c7e0ced24bd6a61e318a7b61d23ab3f55e8df91be4366cc3eae15b05a25603", func := "dedup/deduplaw11.TreeNobody", spec := "treeNobody", inPlace := ["slices.overlaps[string]", "slices.overlaps[*dedup/tree.knot]"], unfollowed := true, recurses := true, apart := false, narrowed := true }
def TreeNobodyUptoSaid : Prop := treeNobodyUptoRow.holds Tryz.pinned (OpenSpec.upto treeNobodySpec)

/-- 'deduplaw16.ExtentNobody', WHERE WHAT IT READS IS OF BULK AT MOST 1048576: true; the input reads as it did. -/
def extentNobodyUptoRow : OpenClaim := { program := "ytmcaejnofmbilaagreat", sum := "b4c7e0ced24bd6a61e318a7b61d23ab3f55e8df91be4366cc3eae15b05a25603", func := "dedup/deduplaw16.ExtentNobody", spec := "extentNobody", inPlace := ["slices.overlaps[string]", "slices.overlaps[*dedup/tree.knot]"], unfollowed := true, recurses := true, apart := false, narrowed := true }
def ExtentNobodyUptoSaid : Prop := extentNobodyUptoRow.holds Tryz.pinned (OpenSpec.upto extentNobodySpec)

/-- 'deduplaw19.DirNobody', WHERE WHAT IT READS IS OF BULK AT MOST 1048576: true; the input reads as it did. -/
def dirNobodyUptoRow : OpenClaim := { program := "ytmcaejnofmbilaagreat", sum := "b4c7e0ced24bd6a61e318a7b61d23ab3f55e8df91be4366cc3eae15b05a25603", func := "dedup/deduplaw19.DirNobody", spec := "dirNobody", inPlace := ["internal/bytealg.IndexByteString", "internal/bytealg.IndexString", "slices.overlaps[string]", "slices.overlaps[*dedup/tree.knot]"], unfollowed := true, recurses := true, named := ["internal/bytealg.MaxLen"], apart := false, narrowed := true }
def DirNobodyUptoSaid : Prop := dirNobodyUptoRow.holds Tryz.pinned (OpenSpec.upto dirNobodySpec)

end Rows
end Go.Proofs.YtmcaejnofmbilaaGreat
