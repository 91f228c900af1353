/-
  No cell of these rows narrows 'for every input' (looked for: loops, veiled, ifaces, maps, wideKeys, modest, calm, conditions, laid).
  DERIVED. THE GIVEN ROWS OF THIS SEAT. 3 by the template 'for every input the law returns true; each argument reads behind the call as it read before'; 0 by the template 'total and deterministic' (their statements: YtghdapflkhadoaaTotals.lean).
  GIVEN WITH THE SEED: the statements are not yours to turn. If you find one false, say at which input.
  Laid BY PROGRAM, IN A SANDBOX (cutbox-rows.mjs): the forced cells as the released guide's own fill.sh prints them over the translation 106a71473ace6a52… (all of the seat's roots in one cut). By AI agents, Wed Nov 11 2026. No macro, syntax, notation, axiom, sorry.
-/
import Derived.Test.YtghdapflkhadoaaChecked
import GoSem.Claim
import GoSem.ClaimJoined
import GoSem.ClaimMapViews
import Derived.JoinedTies
import Derived.KernelRfl
namespace Go.Proofs.Ytghdapflkhadoaa
/- THE CELL 'sum', in the pinned program and in every row, IS THE sha256 OF THE DUMP (.gsa) THAT YtghdapflkhadoaaProg.lean LOADS. Nothing in Lean hashes anything: it is a label: what it is worth is what the hold of that sum in a sandbox is worth. -/
noncomputable def Try.pinned : Pinned := { name := "ytghdapflkhadoaa", sum := "106a71473ace6a5248ac1754449b339b8485c18e9cd2f50d19721a06a47fd9cc", checked := Try.checked }
namespace Rows
def none {H : Type} : Left H := { results := [], args := [] }

/-- 'maundlaw14.FilesLive': WHATEVER THE INPUT: true; the input reads as it did. -/
def filesLiveSpec : ChangeSpec := { name := "filesLive", fn := fun _ => fun
  | [d1, d2] => { results := [.lit (.bool true)], args := [d1, d2] }
  | _ => none }
def filesLiveRow : OpenClaim := { program := "ytghdapflkhadoaa", sum := "106a71473ace6a5248ac1754449b339b8485c18e9cd2f50d19721a06a47fd9cc", func := "maund/maundlaw14.FilesLive", spec := "filesLive", inPlace := ["sync/atomic.AddUint64", "sync/atomic.LoadUint64"], recurses := true, apart := false }
def FilesLiveSaid : Prop := filesLiveRow.holds Try.pinned (OpenSpec.ofChange filesLiveSpec)

/-- ITS FALSE NEIGHBOUR: 'it returns false'. Refute it at one input. -/
def filesLiveWrong : ChangeSpec := { name := "filesLive", fn := fun _ => fun
  | [d1, d2] => { results := [.lit (.bool false)], args := [d1, d2] }
  | _ => none }
def FilesLiveWrongFalsely : Prop := filesLiveRow.holds Try.pinned (OpenSpec.ofChange filesLiveWrong)

/-- 'maundlaw14.FilesCrash': WHATEVER THE INPUT: true; the input reads as it did. -/
def filesCrashSpec : ChangeSpec := { name := "filesCrash", fn := fun _ => fun
  | [d1, d2, d3] => { results := [.lit (.bool true)], args := [d1, d2, d3] }
  | _ => none }
def filesCrashRow : OpenClaim := { program := "ytghdapflkhadoaa", sum := "106a71473ace6a5248ac1754449b339b8485c18e9cd2f50d19721a06a47fd9cc", func := "maund/maundlaw14.FilesCrash", spec := "filesCrash", inPlace := ["sync/atomic.AddUint64", "sync/atomic.LoadUint64"], recurses := true, apart := false }
def FilesCrashSaid : Prop := filesCrashRow.holds Try.pinned (OpenSpec.ofChange filesCrashSpec)

/-- ITS FALSE NEIGHBOUR: 'it returns false'. Refute it at one input. -/
def filesCrashWrong : ChangeSpec := { name := "filesCrash", fn := fun _ => fun
  | [d1, d2, d3] => { results := [.lit (.bool false)], args := [d1, d2, d3] }
  | _ => none }
def FilesCrashWrongFalsely : Prop := filesCrashRow.holds Try.pinned (OpenSpec.ofChange filesCrashWrong)

/-- 'maundlaw14.FilesQuota': WHATEVER THE INPUT: true; the input reads as it did. -/
def filesQuotaSpec : ChangeSpec := { name := "filesQuota", fn := fun _ => fun
  | [d1, d2] => { results := [.lit (.bool true)], args := [d1, d2] }
  | _ => none }
def filesQuotaRow : OpenClaim := { program := "ytghdapflkhadoaa", sum := "106a71473ace6a5248ac1754449b339b8485c18e9cd2f50d19721a06a47fd9cc", func := "maund/maundlaw14.FilesQuota", spec := "filesQuota", inPlace := ["sync/atomic.AddUint64", "sync/atomic.LoadUint64"], recurses := true, apart := false }
def FilesQuotaSaid : Prop := filesQuotaRow.holds Try.pinned (OpenSpec.ofChange filesQuotaSpec)

/-- ITS FALSE NEIGHBOUR: 'it returns false'. Refute it at one input. -/
def filesQuotaWrong : ChangeSpec := { name := "filesQuota", fn := fun _ => fun
  | [d1, d2] => { results := [.lit (.bool false)], args := [d1, d2] }
  | _ => none }
def FilesQuotaWrongFalsely : Prop := filesQuotaRow.holds Try.pinned (OpenSpec.ofChange filesQuotaWrong)

/- THE SECOND FORM. 'bulk': how many values and letters a reading holds, each counted each time it is reached (what is shared counts as often as it is met; a slice's spare places count too). A statement '..UptoSaid' is the law's where the arguments, and the package variables that the reading takes, are together of bulk at most 1048576: NARROWER than '..Said'. Prove '..Said' where nothing that the law and all that it calls make is longer than what came in: it says more and counts as full. Else prove '..UptoSaid'. A law counts once. -/
mutual
def uptoBulk {H : Type} : DataW H → Nat
  | .lit (.string bytes) => bytes.length + 1
  | .lit _ => 1
  | .nil => 1
  | .ptr d => uptoBulk d + 1
  | .slice elems spare => uptoBulkAll elems + uptoBulkAll spare + 1
  | .agg parts => uptoBulkAll parts + 1
  | .iface _ d => uptoBulk d + 1
  | .map entries => uptoBulkEntries entries + 1
  | .held _ => 1
def uptoBulkAll {H : Type} : List (DataW H) → Nat
  | [] => 0
  | d :: r => uptoBulk d + uptoBulkAll r
def uptoBulkEntries {H : Type} : List (Lit × DataW H) → Nat
  | [] => 0
  | x :: r => uptoBulkEntry x + uptoBulkEntries r
def uptoBulkEntry {H : Type} : Lit × DataW H → Nat
  | (.string bytes, d) => bytes.length + uptoBulk d + 1
  | (_, d) => uptoBulk d + 1
 end
def uptoSmall : (H : Type) → List (DataW H) → Bool := fun _ ds => decide (uptoBulkAll ds ≤ 1048576)
def OpenSpec.upto (s : _root_.Go.ChangeSpec) : _root_.Go.OpenSpec := { _root_.Go.OpenSpec.ofChange s with cond := some uptoSmall }

/-- 'maundlaw14.FilesLive', WHERE WHAT IT READS IS OF BULK AT MOST 1048576: true; the input reads as it did. -/
def filesLiveUptoRow : OpenClaim := { program := "ytghdapflkhadoaa", sum := "106a71473ace6a5248ac1754449b339b8485c18e9cd2f50d19721a06a47fd9cc", func := "maund/maundlaw14.FilesLive", spec := "filesLive", inPlace := ["sync/atomic.AddUint64", "sync/atomic.LoadUint64"], recurses := true, apart := false, narrowed := true }
def FilesLiveUptoSaid : Prop := filesLiveUptoRow.holds Try.pinned (OpenSpec.upto filesLiveSpec)

/-- 'maundlaw14.FilesCrash', WHERE WHAT IT READS IS OF BULK AT MOST 1048576: true; the input reads as it did. -/
def filesCrashUptoRow : OpenClaim := { program := "ytghdapflkhadoaa", sum := "106a71473ace6a5248ac1754449b339b8485c18e9cd2f50d19721a06a47fd9cc", func := "maund/maundlaw14.FilesCrash", spec := "filesCrash", inPlace := ["sync/atomic.AddUint64", "sync/atomic.LoadUint64"], recurses := true, apart := false, narrowed := true }
def FilesCrashUptoSaid : Prop := filesCrashUptoRow.holds Try.pinned (OpenSpec.upto filesCrashSpec)

/-- 'maundlaw14.FilesQuota', WHERE WHAT IT READS IS OF BULK AT MOST 1048576: true; the input reads as it did. -/
def filesQuotaUptoRow : OpenClaim := { program := "ytghdapflkhadoaa", sum := "106a71473ace6a5248ac1754449b339b8485c18e9cd2f50d19721a06a47fd9cc", func := "maund/maundlaw14.FilesQuota", spec := "filesQuota", inPlace := ["sync/atomic.AddUint64", "sync/atomic.LoadUint64"], recurses := true, apart := false, narrowed := true }
def FilesQuotaUptoSaid : Prop := filesQuotaUptoRow.holds Try.pinned (OpenSpec.upto filesQuotaSpec)

end Rows
end Go.Proofs.Ytghdapflkhadoaa
