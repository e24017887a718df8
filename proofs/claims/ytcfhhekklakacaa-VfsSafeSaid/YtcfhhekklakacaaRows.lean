/-
  No cell of these rows narrows 'for every input' (looked for: loops, veiled, ifaces, maps, wideKeys, modest, calm, conditions, laid).
  DERIVED. THE GIVEN ROWS OF THIS SEAT. 2 by the template 'for every input the law returns true; each argument reads behind the call as it read before'; 0 by the template 'total and deterministic' (their statements: YtcfhhekklakacaaTotals.lean).
  GIVEN WITH THE SEED: the statements are not yours to turn. If you find one false, say at which input.
  Laid BY PROGRAM, IN A SANDBOX (cutbox-rows.mjs): the forced cells as the released guide's own fill.sh prints them over the translation 2946a897349c9c6e… (all of the seat's roots in one cut). By AI agents, Wed Nov 11 2026. No macro, syntax, notation, axiom, sorry.
-/
import Derived.Test.YtcfhhekklakacaaChecked
import GoSem.Claim
import GoSem.ClaimJoined
import GoSem.ClaimMapViews
import Derived.JoinedTies
import Derived.KernelRfl
namespace Go.Proofs.Ytcfhhekklakacaa
/- THE CELL 'sum', in the pinned program and in every row, IS THE sha256 OF THE DUMP (.gsa) THAT YtcfhhekklakacaaProg.lean LOADS. Nothing in Lean hashes anything: it is a label: what it is worth is what the hold of that sum in a sandbox is worth. -/
noncomputable def Try.pinned : Pinned := { name := "ytcfhhekklakacaa", sum := "2946a897349c9c6e762a79a29b245c8d8591d4769dd7c5ad56622741193684a3", checked := Try.checked }
namespace Rows
def none {H : Type} : Left H := { results := [], args := [] }

/-- 'mudlarklaw04.VfsRename': WHATEVER THE INPUT: true; the input reads as it did. -/
def vfsRenameSpec : ChangeSpec := { name := "vfsRename", fn := fun _ => fun
  | [d1, d2, d3, d4, d5] => { results := [.lit (.bool true)], args := [d1, d2, d3, d4, d5] }
  | _ => none }
def vfsRenameRow : OpenClaim := { program := "ytcfhhekklakacaa", sum := "2946a897349c9c6e762a79a29b245c8d8591d4769dd7c5ad56622741193684a3", func := "mudlark/mudlarklaw04.VfsRename", spec := "vfsRename", unfollowed := true, recurses := true, apart := false }
def VfsRenameSaid : Prop := vfsRenameRow.holds Try.pinned (OpenSpec.ofChange vfsRenameSpec)

/-- ITS FALSE NEIGHBOUR: 'it returns false'. Refute it at one input. -/
def vfsRenameWrong : ChangeSpec := { name := "vfsRename", fn := fun _ => fun
  | [d1, d2, d3, d4, d5] => { results := [.lit (.bool false)], args := [d1, d2, d3, d4, d5] }
  | _ => none }
def VfsRenameWrongFalsely : Prop := vfsRenameRow.holds Try.pinned (OpenSpec.ofChange vfsRenameWrong)

/-- 'mudlarklaw04.VfsSafe': WHATEVER THE INPUT: true; the input reads as it did. -/
def vfsSafeSpec : ChangeSpec := { name := "vfsSafe", fn := fun _ => fun
  | [d1, d2, d3, d4, d5, d6, d7] => { results := [.lit (.bool true)], args := [d1, d2, d3, d4, d5, d6, d7] }
  | _ => none }
def vfsSafeRow : OpenClaim := { program := "ytcfhhekklakacaa", sum := "2946a897349c9c6e762a79a29b245c8d8591d4769dd7c5ad56622741193684a3", func := "mudlark/mudlarklaw04.VfsSafe", spec := "vfsSafe", unfollowed := true, recurses := true, apart := false }
def VfsSafeSaid : Prop := vfsSafeRow.holds Try.pinned (OpenSpec.ofChange vfsSafeSpec)

/-- ITS FALSE NEIGHBOUR: 'it returns false'. Refute it at one input. -/
def vfsSafeWrong : ChangeSpec := { name := "vfsSafe", fn := fun _ => fun
  | [d1, d2, d3, d4, d5, d6, d7] => { results := [.lit (.bool false)], args := [d1, d2, d3, d4, d5, d6, d7] }
  | _ => none }
def VfsSafeWrongFalsely : Prop := vfsSafeRow.holds Try.pinned (OpenSpec.ofChange vfsSafeWrong)

/- THE SECOND FORM. 'bulk': how many values and letters a reading holds, each counted each time it is reached (what is shared counts as often as it is met; a slice's spare places count too). A statement '..UptoSaid' is the law's where the arguments, and the package variables that the reading takes, are together of bulk at most 1048576: NARROWER than '..Said'. Prove '..Said' where nothing that the law and all that it calls make is longer than what came in: it says more and counts as full. Else prove '..UptoSaid'. A law counts once. -/
mutual
def uptoBulk {H : Type} : DataW H → Nat
  | .lit (.string bytes) => bytes.length + 1
  | .lit _ => 1
  | .nil => 1
  | .ptr d => uptoBulk d + 1
  | .slice elems spare => uptoBulkAll elems + uptoBulkAll spare + 1
  | .agg parts => uptoBulkAll parts + 1
  | .iface _ d => uptoBulk d + 1
  | .map entries => uptoBulkEntries entries + 1
  | .held _ => 1
def uptoBulkAll {H : Type} : List (DataW H) → Nat
  | [] => 0
  | d :: r => uptoBulk d + uptoBulkAll r
def uptoBulkEntries {H : Type} : List (Lit × DataW H) → Nat
  | [] => 0
  | x :: r => uptoBulkEntry x + uptoBulkEntries r
def uptoBulkEntry {H : Type} : Lit × DataW H → Nat
  | (.string bytes, d) => bytes.length + uptoBulk d + 1
  | (_, d) => uptoBulk d + 1
 end
def uptoSmall : (H : Type) → List (DataW H) → Bool := fun _ ds => decide (uptoBulkAll ds ≤ 1048576)
def OpenSpec.upto (s : _root_.Go.ChangeSpec) : _root_.Go.OpenSpec := { _root_.Go.OpenSpec.ofChange s with cond := some uptoSmall }

/-- 'mudlarklaw04.VfsRename', WHERE WHAT IT READS IS OF BULK AT MOST 1048576: true; the input reads as it did. -/
def vfsRenameUptoRow : OpenClaim := { program := "ytcfhhekklakacaa", sum := "2946a897349c9c6e762a79a29b245c8d8591d4769dd7c5ad56622741193684a3", func := "mudlark/mudlarklaw04.VfsRename", spec := "vfsRename", unfollowed := true, recurses := true, apart := false, narrowed := true }
def VfsRenameUptoSaid : Prop := vfsRenameUptoRow.holds Try.pinned (OpenSpec.upto vfsRenameSpec)

/-- 'mudlarklaw04.VfsSafe', WHERE WHAT IT READS IS OF BULK AT MOST 1048576: true; the input reads as it did. -/
def vfsSafeUptoRow : OpenClaim := { program := "ytcfhhekklakacaa", sum := "2946a897349c9c6e762a79a29b245c8d8591d4769dd7c5ad56622741193684a3", func := "mudlark/mudlarklaw04.VfsSafe", spec := "vfsSafe", unfollowed := true, recurses := true, apart := false, narrowed := true }
def VfsSafeUptoSaid : Prop := vfsSafeUptoRow.holds Try.pinned (OpenSpec.upto vfsSafeSpec)

end Rows
end Go.Proofs.Ytcfhhekklakacaa
