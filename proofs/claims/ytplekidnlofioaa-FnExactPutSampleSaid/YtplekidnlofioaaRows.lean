/-
  No cell of these rows narrows 'for every input' (looked for: loops, veiled, ifaces, maps, wideKeys, modest, calm, conditions, laid).
  DERIVED. THE GIVEN ROWS OF THIS SEAT. 9 by the template 'for every input the law returns true; each argument reads behind the call as it read before'; 0 by the template 'total and deterministic' (their statements: YtplekidnlofioaaTotals.lean).
  GIVEN WITH THE SEED: the statements are not yours to turn. If you find one false, say at which input.
  Laid BY PROGRAM, IN A SANDBOX (cutbox-rows.mjs): the forced cells as the released guide's own fill.sh prints them over the translation dfb892f9aff1032d… (all of the seat's roots in one cut). By AI agents, Wed Nov 11 2026. No macro, syntax, notation, axiom, sorry.
-/
import Derived.Test.YtplekidnlofioaaChecked
import GoSem.Claim
import GoSem.ClaimJoined
import GoSem.ClaimMapViews
import Derived.JoinedTies
import Derived.KernelRfl
namespace Go.Proofs.Ytplekidnlofioaa
/- THE CELL 'sum', in the pinned program and in every row, IS THE sha256 OF THE DUMP (.gsa) THAT YtplekidnlofioaaProg.lean LOADS. Nothing in Lean hashes anything: it is a label: what it is worth is what the hold of that sum in a sandbox is worth. -/
noncomputable def Try.pinned : Pinned := { name := "ytplekidnlofioaa", sum := "dfb892f9aff1032d51296c7b8ccfe049534d7aa19e07150eb1bd4fa5fd10b93f", checked := Try.checked }
namespace Rows
def none {H : Type} : Left H := { results := [], args := [] }

/-- 'laws.FnSeries': WHATEVER THE INPUT: true; the input reads as it did. -/
def fnSeriesSpec : ChangeSpec := { name := "fnSeries", fn := fun _ => fun
  | [d] => { results := [.lit (.bool true)], args := [d] }
  | _ => none }
def fnSeriesRow : OpenClaim := { program := "ytplekidnlofioaa", sum := "dfb892f9aff1032d51296c7b8ccfe049534d7aa19e07150eb1bd4fa5fd10b93f", func := "loop.example/g00808/laws.FnSeries", spec := "fnSeries", inPlace := ["slices.overlaps[loop.example/g00808/impl.Series]"], unfollowed := true, recurses := true, apart := false }
def FnSeriesSaid : Prop := fnSeriesRow.holds Try.pinned (OpenSpec.ofChange fnSeriesSpec)

/-- ITS FALSE NEIGHBOUR: 'it returns false'. Refute it at one input. -/
def fnSeriesWrong : ChangeSpec := { name := "fnSeries", fn := fun _ => fun
  | [d] => { results := [.lit (.bool false)], args := [d] }
  | _ => none }
def FnSeriesWrongFalsely : Prop := fnSeriesRow.holds Try.pinned (OpenSpec.ofChange fnSeriesWrong)

/-- 'laws.FnExactForgetBefore': WHATEVER THE INPUT: true; the input reads as it did. -/
def fnExactForgetBeforeSpec : ChangeSpec := { name := "fnExactForgetBefore", fn := fun _ => fun
  | [d1, d2] => { results := [.lit (.bool true)], args := [d1, d2] }
  | _ => none }
def fnExactForgetBeforeRow : OpenClaim := { program := "ytplekidnlofioaa", sum := "dfb892f9aff1032d51296c7b8ccfe049534d7aa19e07150eb1bd4fa5fd10b93f", func := "loop.example/g00808/laws.FnExactForgetBefore", spec := "fnExactForgetBefore", unfollowed := true, recurses := true, apart := false }
def FnExactForgetBeforeSaid : Prop := fnExactForgetBeforeRow.holds Try.pinned (OpenSpec.ofChange fnExactForgetBeforeSpec)

/-- ITS FALSE NEIGHBOUR: 'it returns false'. Refute it at one input. -/
def fnExactForgetBeforeWrong : ChangeSpec := { name := "fnExactForgetBefore", fn := fun _ => fun
  | [d1, d2] => { results := [.lit (.bool false)], args := [d1, d2] }
  | _ => none }
def FnExactForgetBeforeWrongFalsely : Prop := fnExactForgetBeforeRow.holds Try.pinned (OpenSpec.ofChange fnExactForgetBeforeWrong)

/-- 'laws.FnExactKeepPods': WHATEVER THE INPUT: true; the input reads as it did. -/
def fnExactKeepPodsSpec : ChangeSpec := { name := "fnExactKeepPods", fn := fun _ => fun
  | [d1, d2] => { results := [.lit (.bool true)], args := [d1, d2] }
  | _ => none }
def fnExactKeepPodsRow : OpenClaim := { program := "ytplekidnlofioaa", sum := "dfb892f9aff1032d51296c7b8ccfe049534d7aa19e07150eb1bd4fa5fd10b93f", func := "loop.example/g00808/laws.FnExactKeepPods", spec := "fnExactKeepPods", unfollowed := true, recurses := true, apart := false }
def FnExactKeepPodsSaid : Prop := fnExactKeepPodsRow.holds Try.pinned (OpenSpec.ofChange fnExactKeepPodsSpec)

/-- ITS FALSE NEIGHBOUR: 'it returns false'. Refute it at one input. -/
def fnExactKeepPodsWrong : ChangeSpec := { name := "fnExactKeepPods", fn := fun _ => fun
  | [d1, d2] => { results := [.lit (.bool false)], args := [d1, d2] }
  | _ => none }
def FnExactKeepPodsWrongFalsely : Prop := fnExactKeepPodsRow.holds Try.pinned (OpenSpec.ofChange fnExactKeepPodsWrong)

/-- 'laws.FnExactClassesOf': WHATEVER THE INPUT: true; the input reads as it did. -/
def fnExactClassesOfSpec : ChangeSpec := { name := "fnExactClassesOf", fn := fun _ => fun
  | [d1, d2, d3, d4, d5] => { results := [.lit (.bool true)], args := [d1, d2, d3, d4, d5] }
  | _ => none }
def fnExactClassesOfRow : OpenClaim := { program := "ytplekidnlofioaa", sum := "dfb892f9aff1032d51296c7b8ccfe049534d7aa19e07150eb1bd4fa5fd10b93f", func := "loop.example/g00808/laws.FnExactClassesOf", spec := "fnExactClassesOf", apart := false }
def FnExactClassesOfSaid : Prop := fnExactClassesOfRow.holds Try.pinned (OpenSpec.ofChange fnExactClassesOfSpec)

/-- ITS FALSE NEIGHBOUR: 'it returns false'. Refute it at one input. -/
def fnExactClassesOfWrong : ChangeSpec := { name := "fnExactClassesOf", fn := fun _ => fun
  | [d1, d2, d3, d4, d5] => { results := [.lit (.bool false)], args := [d1, d2, d3, d4, d5] }
  | _ => none }
def FnExactClassesOfWrongFalsely : Prop := fnExactClassesOfRow.holds Try.pinned (OpenSpec.ofChange fnExactClassesOfWrong)

/-- 'laws.FnExactPutSample': WHATEVER THE INPUT: true; the input reads as it did. -/
def fnExactPutSampleSpec : ChangeSpec := { name := "fnExactPutSample", fn := fun _ => fun
  | [d1, d2] => { results := [.lit (.bool true)], args := [d1, d2] }
  | _ => none }
def fnExactPutSampleRow : OpenClaim := { program := "ytplekidnlofioaa", sum := "dfb892f9aff1032d51296c7b8ccfe049534d7aa19e07150eb1bd4fa5fd10b93f", func := "loop.example/g00808/laws.FnExactPutSample", spec := "fnExactPutSample", inPlace := ["slices.overlaps[loop.example/g00808/impl.Series]"], apart := false }
def FnExactPutSampleSaid : Prop := fnExactPutSampleRow.holds Try.pinned (OpenSpec.ofChange fnExactPutSampleSpec)

/-- ITS FALSE NEIGHBOUR: 'it returns false'. Refute it at one input. -/
def fnExactPutSampleWrong : ChangeSpec := { name := "fnExactPutSample", fn := fun _ => fun
  | [d1, d2] => { results := [.lit (.bool false)], args := [d1, d2] }
  | _ => none }
def FnExactPutSampleWrongFalsely : Prop := fnExactPutSampleRow.holds Try.pinned (OpenSpec.ofChange fnExactPutSampleWrong)

/-- 'laws.FnPuts': WHATEVER THE INPUT: true; the input reads as it did. -/
def fnPutsSpec : ChangeSpec := { name := "fnPuts", fn := fun _ => fun
  | [d] => { results := [.lit (.bool true)], args := [d] }
  | _ => none }
def fnPutsRow : OpenClaim := { program := "ytplekidnlofioaa", sum := "dfb892f9aff1032d51296c7b8ccfe049534d7aa19e07150eb1bd4fa5fd10b93f", func := "loop.example/g00808/laws.FnPuts", spec := "fnPuts", inPlace := ["slices.overlaps[loop.example/g00808/impl.Series]"], apart := false }
def FnPutsSaid : Prop := fnPutsRow.holds Try.pinned (OpenSpec.ofChange fnPutsSpec)

/-- ITS FALSE NEIGHBOUR: 'it returns false'. Refute it at one input. -/
def fnPutsWrong : ChangeSpec := { name := "fnPuts", fn := fun _ => fun
  | [d] => { results := [.lit (.bool false)], args := [d] }
  | _ => none }
def FnPutsWrongFalsely : Prop := fnPutsRow.holds Try.pinned (OpenSpec.ofChange fnPutsWrong)

/-- 'laws.FnExactTallyOf': WHATEVER THE INPUT: true; the input reads as it did. -/
def fnExactTallyOfSpec : ChangeSpec := { name := "fnExactTallyOf", fn := fun _ => fun
  | [d1, d2, d3, d4, d5] => { results := [.lit (.bool true)], args := [d1, d2, d3, d4, d5] }
  | _ => none }
def fnExactTallyOfRow : OpenClaim := { program := "ytplekidnlofioaa", sum := "dfb892f9aff1032d51296c7b8ccfe049534d7aa19e07150eb1bd4fa5fd10b93f", func := "loop.example/g00808/laws.FnExactTallyOf", spec := "fnExactTallyOf", apart := false }
def FnExactTallyOfSaid : Prop := fnExactTallyOfRow.holds Try.pinned (OpenSpec.ofChange fnExactTallyOfSpec)

/-- ITS FALSE NEIGHBOUR: 'it returns false'. Refute it at one input. -/
def fnExactTallyOfWrong : ChangeSpec := { name := "fnExactTallyOf", fn := fun _ => fun
  | [d1, d2, d3, d4, d5] => { results := [.lit (.bool false)], args := [d1, d2, d3, d4, d5] }
  | _ => none }
def FnExactTallyOfWrongFalsely : Prop := fnExactTallyOfRow.holds Try.pinned (OpenSpec.ofChange fnExactTallyOfWrong)

/-- 'laws.FnExactPutAll': WHATEVER THE INPUT: true; the input reads as it did. -/
def fnExactPutAllSpec : ChangeSpec := { name := "fnExactPutAll", fn := fun _ => fun
  | [d1, d2] => { results := [.lit (.bool true)], args := [d1, d2] }
  | _ => none }
def fnExactPutAllRow : OpenClaim := { program := "ytplekidnlofioaa", sum := "dfb892f9aff1032d51296c7b8ccfe049534d7aa19e07150eb1bd4fa5fd10b93f", func := "loop.example/g00808/laws.FnExactPutAll", spec := "fnExactPutAll", inPlace := ["slices.overlaps[loop.example/g00808/impl.Series]"], apart := false }
def FnExactPutAllSaid : Prop := fnExactPutAllRow.holds Try.pinned (OpenSpec.ofChange fnExactPutAllSpec)

/-- ITS FALSE NEIGHBOUR: 'it returns false'. Refute it at one input. -/
def fnExactPutAllWrong : ChangeSpec := { name := "fnExactPutAll", fn := fun _ => fun
  | [d1, d2] => { results := [.lit (.bool false)], args := [d1, d2] }
  | _ => none }
def FnExactPutAllWrongFalsely : Prop := fnExactPutAllRow.holds Try.pinned (OpenSpec.ofChange fnExactPutAllWrong)

/-- 'laws.FnExactHerdOk': WHATEVER THE INPUT: true; the input reads as it did. -/
def fnExactHerdOkSpec : ChangeSpec := { name := "fnExactHerdOk", fn := fun _ => fun
  | [d] => { results := [.lit (.bool true)], args := [d] }
  | _ => none }
def fnExactHerdOkRow : OpenClaim := { program := "ytplekidnlofioaa", sum := "dfb892f9aff1032d51296c7b8ccfe049534d7aa19e07150eb1bd4fa5fd10b93f", func := "loop.example/g00808/laws.FnExactHerdOk", spec := "fnExactHerdOk", unfollowed := true, recurses := true, apart := false }
def FnExactHerdOkSaid : Prop := fnExactHerdOkRow.holds Try.pinned (OpenSpec.ofChange fnExactHerdOkSpec)

/-- ITS FALSE NEIGHBOUR: 'it returns false'. Refute it at one input. -/
def fnExactHerdOkWrong : ChangeSpec := { name := "fnExactHerdOk", fn := fun _ => fun
  | [d] => { results := [.lit (.bool false)], args := [d] }
  | _ => none }
def FnExactHerdOkWrongFalsely : Prop := fnExactHerdOkRow.holds Try.pinned (OpenSpec.ofChange fnExactHerdOkWrong)

/- THE SECOND FORM. 'bulk': how many values and letters a reading holds, each counted each time it is reached (what is shared counts as often as it is met; a slice's spare places count too). A statement '..UptoSaid' is the law's where the arguments, and the package variables that the reading takes, are together of bulk at most 1048576: NARROWER than '..Said'. Prove '..Said' where nothing that the law and all that it calls make is longer than what came in: it says more and counts as full. Else prove '..UptoSaid'. A law counts once. -/
mutual
def uptoBulk {H : Type} : DataW H → Nat
  | .lit (.string bytes) => bytes.length + 1
  | .lit _ => 1
  | .nil => 1
  | .ptr d => uptoBulk d + 1
  | .slice elems spare => uptoBulkAll elems + uptoBulkAll spare + 1
  | .agg parts => uptoBulkAll parts + 1
  | .iface _ d => uptoBulk d + 1
  | .map entries => uptoBulkEntries entries + 1
  | .held _ => 1
def uptoBulkAll {H : Type} : List (DataW H) → Nat
  | [] => 0
  | d :: r => uptoBulk d + uptoBulkAll r
def uptoBulkEntries {H : Type} : List (Lit × DataW H) → Nat
  | [] => 0
  | x :: r => uptoBulkEntry x + uptoBulkEntries r
def uptoBulkEntry {H : Type} : Lit × DataW H → Nat
  | (.string bytes, d) => bytes.length + uptoBulk d + 1
  | (_, d) => uptoBulk d + 1
 end
def uptoSmall : (H : Type) → List (DataW H) → Bool := fun _ ds => decide (uptoBulkAll ds ≤ 1048576)
def OpenSpec.upto (s : _root_.Go.ChangeSpec) : _root_.Go.OpenSpec := { _root_.Go.OpenSpec.ofChange s with cond := some uptoSmall }

/-- 'laws.FnSeries', WHERE WHAT IT READS IS OF BULK AT MOST 1048576: true; the input reads as it did. -/
def fnSeriesUptoRow : OpenClaim := { program := "ytplekidnlofioaa", sum := "dfb892f9aff1032d51296c7b8ccfe049534d7aa19e07150eb1bd4fa5fd10b93f", func := "loop.example/g00808/laws.FnSeries", spec := "fnSeries", inPlace := ["slices.overlaps[loop.example/g00808/impl.Series]"], unfollowed := true, recurses := true, apart := false, narrowed := true }
def FnSeriesUptoSaid : Prop := fnSeriesUptoRow.holds Try.pinned (OpenSpec.upto fnSeriesSpec)

/-- 'laws.FnExactForgetBefore', WHERE WHAT IT READS IS OF BULK AT MOST 1048576: true; the input reads as it did. -/
def fnExactForgetBeforeUptoRow : OpenClaim := { program := "ytplekidnlofioaa", sum := "dfb892f9aff1032d51296c7b8ccfe049534d7aa19e07150eb1bd4fa5fd10b93f", func := "loop.example/g00808/laws.FnExactForgetBefore", spec := "fnExactForgetBefore", unfollowed := true, recurses := true, apart := false, narrowed := true }
def FnExactForgetBeforeUptoSaid : Prop := fnExactForgetBeforeUptoRow.holds Try.pinned (OpenSpec.upto fnExactForgetBeforeSpec)

/-- 'laws.FnExactKeepPods', WHERE WHAT IT READS IS OF BULK AT MOST 1048576: true; the input reads as it did. -/
def fnExactKeepPodsUptoRow : OpenClaim := { program := "ytplekidnlofioaa", sum := "dfb892f9aff1032d51296c7b8ccfe049534d7aa19e07150eb1bd4fa5fd10b93f", func := "loop.example/g00808/laws.FnExactKeepPods", spec := "fnExactKeepPods", unfollowed := true, recurses := true, apart := false, narrowed := true }
def FnExactKeepPodsUptoSaid : Prop := fnExactKeepPodsUptoRow.holds Try.pinned (OpenSpec.upto fnExactKeepPodsSpec)

/-- 'laws.FnExactClassesOf', WHERE WHAT IT READS IS OF BULK AT MOST 1048576: true; the input reads as it did. -/
def fnExactClassesOfUptoRow : OpenClaim := { program := "ytplekidnlofioaa", sum := "dfb892f9aff1032d51296c7b8ccfe049534d7aa19e07150eb1bd4fa5fd10b93f", func := "loop.example/g00808/laws.FnExactClassesOf", spec := "fnExactClassesOf", apart := false, narrowed := true }
def FnExactClassesOfUptoSaid : Prop := fnExactClassesOfUptoRow.holds Try.pinned (OpenSpec.upto fnExactClassesOfSpec)

/-- 'laws.FnExactPutSample', WHERE WHAT IT READS IS OF BULK AT MOST 1048576: true; the input reads as it did. -/
def fnExactPutSampleUptoRow : OpenClaim := { program := "ytplekidnlofioaa", sum := "dfb892f9aff1032d51296c7b8ccfe049534d7aa19e07150eb1bd4fa5fd10b93f", func := "loop.example/g00808/laws.FnExactPutSample", spec := "fnExactPutSample", inPlace := ["slices.overlaps[loop.example/g00808/impl.Series]"], apart := false, narrowed := true }
def FnExactPutSampleUptoSaid : Prop := fnExactPutSampleUptoRow.holds Try.pinned (OpenSpec.upto fnExactPutSampleSpec)

/-- 'laws.FnPuts', WHERE WHAT IT READS IS OF BULK AT MOST 1048576: true; the input reads as it did. -/
def fnPutsUptoRow : OpenClaim := { program := "ytplekidnlofioaa", sum := "dfb892f9aff1032d51296c7b8ccfe049534d7aa19e07150eb1bd4fa5fd10b93f", func := "loop.example/g00808/laws.FnPuts", spec := "fnPuts", inPlace := ["slices.overlaps[loop.example/g00808/impl.Series]"], apart := false, narrowed := true }
def FnPutsUptoSaid : Prop := fnPutsUptoRow.holds Try.pinned (OpenSpec.upto fnPutsSpec)

/-- 'laws.FnExactTallyOf', WHERE WHAT IT READS IS OF BULK AT MOST 1048576: true; the input reads as it did. -/
def fnExactTallyOfUptoRow : OpenClaim := { program := "ytplekidnlofioaa", sum := "dfb892f9aff1032d51296c7b8ccfe049534d7aa19e07150eb1bd4fa5fd10b93f", func := "loop.example/g00808/laws.FnExactTallyOf", spec := "fnExactTallyOf", apart := false, narrowed := true }
def FnExactTallyOfUptoSaid : Prop := fnExactTallyOfUptoRow.holds Try.pinned (OpenSpec.upto fnExactTallyOfSpec)

/-- 'laws.FnExactPutAll', WHERE WHAT IT READS IS OF BULK AT MOST 1048576: true; the input reads as it did. -/
def fnExactPutAllUptoRow : OpenClaim := { program := "ytplekidnlofioaa", sum := "dfb892f9aff1032d51296c7b8ccfe049534d7aa19e07150eb1bd4fa5fd10b93f", func := "loop.example/g00808/laws.FnExactPutAll", spec := "fnExactPutAll", inPlace := ["slices.overlaps[loop.example/g00808/impl.Series]"], apart := false, narrowed := true }
def FnExactPutAllUptoSaid : Prop := fnExactPutAllUptoRow.holds Try.pinned (OpenSpec.upto fnExactPutAllSpec)

/-- 'laws.FnExactHerdOk', WHERE WHAT IT READS IS OF BULK AT MOST 1048576: true; the input reads as it did. -/
def fnExactHerdOkUptoRow : OpenClaim := { program := "ytplekidnlofioaa", sum := "dfb892f9aff1032d51296c7b8ccfe049534d7aa19e07150eb1bd4fa5fd10b93f", func := "loop.example/g00808/laws.FnExactHerdOk", spec := "fnExactHerdOk", unfollowed := true, recurses := true, apart := false, narrowed := true }
def FnExactHerdOkUptoSaid : Prop := fnExactHerdOkUptoRow.holds Try.pinned (OpenSpec.upto fnExactHerdOkSpec)

end Rows
end Go.Proofs.Ytplekidnlofioaa
