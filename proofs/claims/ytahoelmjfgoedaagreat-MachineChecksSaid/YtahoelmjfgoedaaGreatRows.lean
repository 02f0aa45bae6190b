/-
  No cell of these rows narrows 'for every input' (looked for: loops, veiled, ifaces, maps, wideKeys, modest, calm, conditions, laid).
  DERIVED. THE GIVEN ROWS OF THIS SEAT. 12 by the template 'for every input the law returns true; each argument reads behind the call as it read before'; 0 by the template 'total and deterministic' (their statements: YtahoelmjfgoedaaGreatTotals.lean).
  GIVEN WITH THE SEED: the statements are not yours to turn. If you find one false, say at which input.
  Laid BY PROGRAM, IN A SANDBOX (cutbox-rows.mjs): the forced cells as the released guide's own fill.sh prints them over the translation 245a3572b318bbde… (all of the seat's roots in one cut). By AI agents, Wed Nov 11 2026. No macro, syntax, notation, axiom, sorry.
-/
import Derived.Test.YtahoelmjfgoedaaGreatChecked
import GoSem.Claim
import GoSem.ClaimJoined
import GoSem.ClaimMapViews
import Derived.JoinedTies
import Derived.KernelRfl
namespace Go.Proofs.YtahoelmjfgoedaaGreat
/- THE CELL 'sum', in the pinned program and in every row, IS THE sha256 OF THE DUMP (.gsa) THAT YtahoelmjfgoedaaGreatProg.lean LOADS. Nothing in Lean hashes anything: it is a label: what it is worth is what the hold of that sum in a sandbox is worth. -/
noncomputable def Tryz.pinned : Pinned := { name := "ytahoelmjfgoedaagreat", sum := "245a3572b318bbdea1fa5b6d73d37250aac9724baf389ccb0326822c2ea48b78", checked := Tryz.checked }
namespace Rows
def none {H : Type} : Left H := { results := [], args := [] }

/-- 'warrenerlaw29.MachineEnds': WHATEVER THE INPUT: true; the input reads as it did. -/
def machineEndsSpec : ChangeSpec := { name := "machineEnds", fn := fun _ => fun
  | [d1, d2, d3] => { results := [.lit (.bool true)], args := [d1, d2, d3] }
  | _ => none }
def machineEndsRow : OpenClaim := { program := "ytahoelmjfgoedaagreat", sum := "245a3572b318bbdea1fa5b6d73d37250aac9724baf389ccb0326822c2ea48b78", func := "warrener/warrenerlaw29.MachineEnds", spec := "machineEnds", unfollowed := true, recurses := true, plainKeys := false, apart := false }
def MachineEndsSaid : Prop := machineEndsRow.holds Tryz.pinned (OpenSpec.ofChange machineEndsSpec)

/-- ITS FALSE NEIGHBOUR: 'it returns false'. Refute it at one input. -/
def machineEndsWrong : ChangeSpec := { name := "machineEnds", fn := fun _ => fun
  | [d1, d2, d3] => { results := [.lit (.bool false)], args := [d1, d2, d3] }
  | _ => none }
def MachineEndsWrongFalsely : Prop := machineEndsRow.holds Tryz.pinned (OpenSpec.ofChange machineEndsWrong)

/-- 'warrenerlaw31.ReplayShows': WHATEVER THE INPUT: true; the input reads as it did. -/
def replayShowsSpec : ChangeSpec := { name := "replayShows", fn := fun _ => fun
  | [d1, d2, d3, d4] => { results := [.lit (.bool true)], args := [d1, d2, d3, d4] }
  | _ => none }
def replayShowsRow : OpenClaim := { program := "ytahoelmjfgoedaagreat", sum := "245a3572b318bbdea1fa5b6d73d37250aac9724baf389ccb0326822c2ea48b78", func := "warrener/warrenerlaw31.ReplayShows", spec := "replayShows", unfollowed := true, recurses := true, plainKeys := false, apart := false }
def ReplayShowsSaid : Prop := replayShowsRow.holds Tryz.pinned (OpenSpec.ofChange replayShowsSpec)

/-- ITS FALSE NEIGHBOUR: 'it returns false'. Refute it at one input. -/
def replayShowsWrong : ChangeSpec := { name := "replayShows", fn := fun _ => fun
  | [d1, d2, d3, d4] => { results := [.lit (.bool false)], args := [d1, d2, d3, d4] }
  | _ => none }
def ReplayShowsWrongFalsely : Prop := replayShowsRow.holds Tryz.pinned (OpenSpec.ofChange replayShowsWrong)

/-- 'warrenerlaw31.ReplayFirst': WHATEVER THE INPUT: true; the input reads as it did. -/
def replayFirstSpec : ChangeSpec := { name := "replayFirst", fn := fun _ => fun
  | [d1, d2, d3, d4] => { results := [.lit (.bool true)], args := [d1, d2, d3, d4] }
  | _ => none }
def replayFirstRow : OpenClaim := { program := "ytahoelmjfgoedaagreat", sum := "245a3572b318bbdea1fa5b6d73d37250aac9724baf389ccb0326822c2ea48b78", func := "warrener/warrenerlaw31.ReplayFirst", spec := "replayFirst", unfollowed := true, recurses := true, plainKeys := false, apart := false }
def ReplayFirstSaid : Prop := replayFirstRow.holds Tryz.pinned (OpenSpec.ofChange replayFirstSpec)

/-- ITS FALSE NEIGHBOUR: 'it returns false'. Refute it at one input. -/
def replayFirstWrong : ChangeSpec := { name := "replayFirst", fn := fun _ => fun
  | [d1, d2, d3, d4] => { results := [.lit (.bool false)], args := [d1, d2, d3, d4] }
  | _ => none }
def ReplayFirstWrongFalsely : Prop := replayFirstRow.holds Tryz.pinned (OpenSpec.ofChange replayFirstWrong)

/-- 'warrenerlaw31.ReplayRuns': WHATEVER THE INPUT: true; the input reads as it did. -/
def replayRunsSpec : ChangeSpec := { name := "replayRuns", fn := fun _ => fun
  | [d1, d2, d3] => { results := [.lit (.bool true)], args := [d1, d2, d3] }
  | _ => none }
def replayRunsRow : OpenClaim := { program := "ytahoelmjfgoedaagreat", sum := "245a3572b318bbdea1fa5b6d73d37250aac9724baf389ccb0326822c2ea48b78", func := "warrener/warrenerlaw31.ReplayRuns", spec := "replayRuns", unfollowed := true, recurses := true, plainKeys := false, apart := false }
def ReplayRunsSaid : Prop := replayRunsRow.holds Tryz.pinned (OpenSpec.ofChange replayRunsSpec)

/-- ITS FALSE NEIGHBOUR: 'it returns false'. Refute it at one input. -/
def replayRunsWrong : ChangeSpec := { name := "replayRuns", fn := fun _ => fun
  | [d1, d2, d3] => { results := [.lit (.bool false)], args := [d1, d2, d3] }
  | _ => none }
def ReplayRunsWrongFalsely : Prop := replayRunsRow.holds Tryz.pinned (OpenSpec.ofChange replayRunsWrong)

/-- 'warrenerlaw29.MachineChecks': WHATEVER THE INPUT: true; the input reads as it did. -/
def machineChecksSpec : ChangeSpec := { name := "machineChecks", fn := fun _ => fun
  | [d1, d2] => { results := [.lit (.bool true)], args := [d1, d2] }
  | _ => none }
def machineChecksRow : OpenClaim := { program := "ytahoelmjfgoedaagreat", sum := "245a3572b318bbdea1fa5b6d73d37250aac9724baf389ccb0326822c2ea48b78", func := "warrener/warrenerlaw29.MachineChecks", spec := "machineChecks", unfollowed := true, recurses := true, plainKeys := false, apart := false }
def MachineChecksSaid : Prop := machineChecksRow.holds Tryz.pinned (OpenSpec.ofChange machineChecksSpec)

/-- ITS FALSE NEIGHBOUR: 'it returns false'. Refute it at one input. -/
def machineChecksWrong : ChangeSpec := { name := "machineChecks", fn := fun _ => fun
  | [d1, d2] => { results := [.lit (.bool false)], args := [d1, d2] }
  | _ => none }
def MachineChecksWrongFalsely : Prop := machineChecksRow.holds Tryz.pinned (OpenSpec.ofChange machineChecksWrong)

/-- 'warrenerlaw29.MachineRuns': WHATEVER THE INPUT: true; the input reads as it did. -/
def machineRunsSpec : ChangeSpec := { name := "machineRuns", fn := fun _ => fun
  | [d1, d2, d3] => { results := [.lit (.bool true)], args := [d1, d2, d3] }
  | _ => none }
def machineRunsRow : OpenClaim := { program := "ytahoelmjfgoedaagreat", sum := "245a3572b318bbdea1fa5b6d73d37250aac9724baf389ccb0326822c2ea48b78", func := "warrener/warrenerlaw29.MachineRuns", spec := "machineRuns", unfollowed := true, recurses := true, plainKeys := false, apart := false }
def MachineRunsSaid : Prop := machineRunsRow.holds Tryz.pinned (OpenSpec.ofChange machineRunsSpec)

/-- ITS FALSE NEIGHBOUR: 'it returns false'. Refute it at one input. -/
def machineRunsWrong : ChangeSpec := { name := "machineRuns", fn := fun _ => fun
  | [d1, d2, d3] => { results := [.lit (.bool false)], args := [d1, d2, d3] }
  | _ => none }
def MachineRunsWrongFalsely : Prop := machineRunsRow.holds Tryz.pinned (OpenSpec.ofChange machineRunsWrong)

/-- 'warrenerlaw29.MachineFeet': WHATEVER THE INPUT: true; the input reads as it did. -/
def machineFeetSpec : ChangeSpec := { name := "machineFeet", fn := fun _ => fun
  | [d1, d2, d3, d4] => { results := [.lit (.bool true)], args := [d1, d2, d3, d4] }
  | _ => none }
def machineFeetRow : OpenClaim := { program := "ytahoelmjfgoedaagreat", sum := "245a3572b318bbdea1fa5b6d73d37250aac9724baf389ccb0326822c2ea48b78", func := "warrener/warrenerlaw29.MachineFeet", spec := "machineFeet", unfollowed := true, recurses := true, plainKeys := false, apart := false }
def MachineFeetSaid : Prop := machineFeetRow.holds Tryz.pinned (OpenSpec.ofChange machineFeetSpec)

/-- ITS FALSE NEIGHBOUR: 'it returns false'. Refute it at one input. -/
def machineFeetWrong : ChangeSpec := { name := "machineFeet", fn := fun _ => fun
  | [d1, d2, d3, d4] => { results := [.lit (.bool false)], args := [d1, d2, d3, d4] }
  | _ => none }
def MachineFeetWrongFalsely : Prop := machineFeetRow.holds Tryz.pinned (OpenSpec.ofChange machineFeetWrong)

/-- 'warrenerlaw29.MachineUndoes': WHATEVER THE INPUT: true; the input reads as it did. -/
def machineUndoesSpec : ChangeSpec := { name := "machineUndoes", fn := fun _ => fun
  | [d1, d2, d3, d4, d5] => { results := [.lit (.bool true)], args := [d1, d2, d3, d4, d5] }
  | _ => none }
def machineUndoesRow : OpenClaim := { program := "ytahoelmjfgoedaagreat", sum := "245a3572b318bbdea1fa5b6d73d37250aac9724baf389ccb0326822c2ea48b78", func := "warrener/warrenerlaw29.MachineUndoes", spec := "machineUndoes", unfollowed := true, recurses := true, plainKeys := false, apart := false }
def MachineUndoesSaid : Prop := machineUndoesRow.holds Tryz.pinned (OpenSpec.ofChange machineUndoesSpec)

/-- ITS FALSE NEIGHBOUR: 'it returns false'. Refute it at one input. -/
def machineUndoesWrong : ChangeSpec := { name := "machineUndoes", fn := fun _ => fun
  | [d1, d2, d3, d4, d5] => { results := [.lit (.bool false)], args := [d1, d2, d3, d4, d5] }
  | _ => none }
def MachineUndoesWrongFalsely : Prop := machineUndoesRow.holds Tryz.pinned (OpenSpec.ofChange machineUndoesWrong)

/-- 'warrenerlaw29.MachineClones': WHATEVER THE INPUT: true; the input reads as it did. -/
def machineClonesSpec : ChangeSpec := { name := "machineClones", fn := fun _ => fun
  | [d1, d2, d3, d4, d5] => { results := [.lit (.bool true)], args := [d1, d2, d3, d4, d5] }
  | _ => none }
def machineClonesRow : OpenClaim := { program := "ytahoelmjfgoedaagreat", sum := "245a3572b318bbdea1fa5b6d73d37250aac9724baf389ccb0326822c2ea48b78", func := "warrener/warrenerlaw29.MachineClones", spec := "machineClones", unfollowed := true, recurses := true, plainKeys := false, apart := false }
def MachineClonesSaid : Prop := machineClonesRow.holds Tryz.pinned (OpenSpec.ofChange machineClonesSpec)

/-- ITS FALSE NEIGHBOUR: 'it returns false'. Refute it at one input. -/
def machineClonesWrong : ChangeSpec := { name := "machineClones", fn := fun _ => fun
  | [d1, d2, d3, d4, d5] => { results := [.lit (.bool false)], args := [d1, d2, d3, d4, d5] }
  | _ => none }
def MachineClonesWrongFalsely : Prop := machineClonesRow.holds Tryz.pinned (OpenSpec.ofChange machineClonesWrong)

/-- 'warrenerlaw29.MachineMeets': WHATEVER THE INPUT: true; the input reads as it did. -/
def machineMeetsSpec : ChangeSpec := { name := "machineMeets", fn := fun _ => fun
  | [d1, d2, d3, d4, d5] => { results := [.lit (.bool true)], args := [d1, d2, d3, d4, d5] }
  | _ => none }
def machineMeetsRow : OpenClaim := { program := "ytahoelmjfgoedaagreat", sum := "245a3572b318bbdea1fa5b6d73d37250aac9724baf389ccb0326822c2ea48b78", func := "warrener/warrenerlaw29.MachineMeets", spec := "machineMeets", unfollowed := true, recurses := true, plainKeys := false, apart := false }
def MachineMeetsSaid : Prop := machineMeetsRow.holds Tryz.pinned (OpenSpec.ofChange machineMeetsSpec)

/-- ITS FALSE NEIGHBOUR: 'it returns false'. Refute it at one input. -/
def machineMeetsWrong : ChangeSpec := { name := "machineMeets", fn := fun _ => fun
  | [d1, d2, d3, d4, d5] => { results := [.lit (.bool false)], args := [d1, d2, d3, d4, d5] }
  | _ => none }
def MachineMeetsWrongFalsely : Prop := machineMeetsRow.holds Tryz.pinned (OpenSpec.ofChange machineMeetsWrong)

/-- 'warrenerlaw29.MachineNobody': WHATEVER THE INPUT: true; the input reads as it did. -/
def machineNobodySpec : ChangeSpec := { name := "machineNobody", fn := fun _ => fun
  | [d] => { results := [.lit (.bool true)], args := [d] }
  | _ => none }
def machineNobodyRow : OpenClaim := { program := "ytahoelmjfgoedaagreat", sum := "245a3572b318bbdea1fa5b6d73d37250aac9724baf389ccb0326822c2ea48b78", func := "warrener/warrenerlaw29.MachineNobody", spec := "machineNobody", unfollowed := true, recurses := true, plainKeys := false, apart := false }
def MachineNobodySaid : Prop := machineNobodyRow.holds Tryz.pinned (OpenSpec.ofChange machineNobodySpec)

/-- ITS FALSE NEIGHBOUR: 'it returns false'. Refute it at one input. -/
def machineNobodyWrong : ChangeSpec := { name := "machineNobody", fn := fun _ => fun
  | [d] => { results := [.lit (.bool false)], args := [d] }
  | _ => none }
def MachineNobodyWrongFalsely : Prop := machineNobodyRow.holds Tryz.pinned (OpenSpec.ofChange machineNobodyWrong)

/-- 'warrenerlaw39.SmallMinimal': WHATEVER THE INPUT: true; the input reads as it did. -/
def smallMinimalSpec : ChangeSpec := { name := "smallMinimal", fn := fun _ => fun
  | [d1, d2, d3, d4] => { results := [.lit (.bool true)], args := [d1, d2, d3, d4] }
  | _ => none }
def smallMinimalRow : OpenClaim := { program := "ytahoelmjfgoedaagreat", sum := "245a3572b318bbdea1fa5b6d73d37250aac9724baf389ccb0326822c2ea48b78", func := "warrener/warrenerlaw39.SmallMinimal", spec := "smallMinimal", unfollowed := true, recurses := true, plainKeys := false, apart := false }
def SmallMinimalSaid : Prop := smallMinimalRow.holds Tryz.pinned (OpenSpec.ofChange smallMinimalSpec)

/-- ITS FALSE NEIGHBOUR: 'it returns false'. Refute it at one input. -/
def smallMinimalWrong : ChangeSpec := { name := "smallMinimal", fn := fun _ => fun
  | [d1, d2, d3, d4] => { results := [.lit (.bool false)], args := [d1, d2, d3, d4] }
  | _ => none }
def SmallMinimalWrongFalsely : Prop := smallMinimalRow.holds Tryz.pinned (OpenSpec.ofChange smallMinimalWrong)

/- THE SECOND FORM. 'bulk': how many values and letters a reading holds, each counted each time it is reached (what is shared counts as often as it is met; a slice's spare places count too). A statement '..UptoSaid' is the law's where the arguments, and the package variables that the reading takes, are together of bulk at most 1048576: NARROWER than '..Said'. Prove '..Said' where nothing that the law and all that it calls make is longer than what came in: it says more and counts as full. Else prove '..UptoSaid'. A law counts once. -/
mutual
def uptoBulk {H : Type} : DataW H → Nat
  | .lit (.string bytes) => bytes.length + 1
  | .lit _ => 1
  | .nil => 1
  | .ptr d => uptoBulk d + 1
  | .slice elems spare => uptoBulkAll elems + uptoBulkAll spare + 1
  | .agg parts => uptoBulkAll parts + 1
  | .iface _ d => uptoBulk d + 1
  | .map entries => uptoBulkEntries entries + 1
  | .held _ => 1
def uptoBulkAll {H : Type} : List (DataW H) → Nat
  | [] => 0
  | d :: r => uptoBulk d + uptoBulkAll r
def uptoBulkEntries {H : Type} : List (Lit × DataW H) → Nat
  | [] => 0
  | x :: r => uptoBulkEntry x + uptoBulkEntries r
def uptoBulkEntry {H : Type} : Lit × DataW H → Nat
  | (.string bytes, d) => bytes.length + uptoBulk d + 1
  | (_, d) => uptoBulk d + 1
 end
def uptoSmall : (H : Type) → List (DataW H) → Bool := fun _ ds => decide (uptoBulkAll ds ≤ 1048576)
def OpenSpec.upto (s : _root_.Go.ChangeSpec) : _root_.Go.OpenSpec := { _root_.Go.OpenSpec.ofChange s with cond := some uptoSmall }

/-- 'warrenerlaw29.MachineEnds', WHERE WHAT IT READS IS OF BULK AT MOST 1048576: true; the input reads as it did. -/
def machineEndsUptoRow : OpenClaim := { program := "ytahoelmjfgoedaagreat", sum := "245a3572b318bbdea1fa5b6d73d37250aac9724baf389ccb0326822c2ea48b78", func := "warrener/warrenerlaw29.MachineEnds", spec := "machineEnds", unfollowed := true, recurses := true, plainKeys := false, apart := false, narrowed := true }
def MachineEndsUptoSaid : Prop := machineEndsUptoRow.holds Tryz.pinned (OpenSpec.upto machineEndsSpec)

/-- 'warrenerlaw31.ReplayShows', WHERE WHAT IT READS IS OF BULK AT MOST 1048576: true; the input reads as it did. -/
def replayShowsUptoRow : OpenClaim := { program := "ytahoelmjfgoedaagreat", sum := "245a3572b318bbdea1fa5b6d73d37250aac9724baf389ccb0326822c2ea48b78", func := "warrener/warrenerlaw31.ReplayShows", spec := "replayShows", unfollowed := true, recurses := true, plainKeys := false, apart := false, narrowed := true }
def ReplayShowsUptoSaid : Prop := replayShowsUptoRow.holds Tryz.pinned (OpenSpec.upto replayShowsSpec)

/-- 'warrenerlaw31.ReplayFirst', WHERE WHAT IT READS IS OF BULK AT MOST 1048576: true; the input reads as it did. -/
def replayFirstUptoRow : OpenClaim := { program := "ytahoelmjfgoedaagreat", sum := "245a3572b318bbdea1fa5b6d73d37250aac9724baf389ccb0326822c2ea48b78", func := "warrener/warrenerlaw31.ReplayFirst", spec := "replayFirst", unfollowed := true, recurses := true, plainKeys := false, apart := false, narrowed := true }
def ReplayFirstUptoSaid : Prop := replayFirstUptoRow.holds Tryz.pinned (OpenSpec.upto replayFirstSpec)

/-- 'warrenerlaw31.ReplayRuns', WHERE WHAT IT READS IS OF BULK AT MOST 1048576: true; the input reads as it did. -/
def replayRunsUptoRow : OpenClaim := { program := "ytahoelmjfgoedaagreat", sum := "245a3572b318bbdea1fa5b6d73d37250aac9724baf389ccb0326822c2ea48b78", func := "warrener/warrenerlaw31.ReplayRuns", spec := "replayRuns", unfollowed := true, recurses := true, plainKeys := false, apart := false, narrowed := true }
def ReplayRunsUptoSaid : Prop := replayRunsUptoRow.holds Tryz.pinned (OpenSpec.upto replayRunsSpec)

/-- 'warrenerlaw29.MachineChecks', WHERE WHAT IT READS IS OF BULK AT MOST 1048576: true; the input reads as it did. -/
def machineChecksUptoRow : OpenClaim := { program := "ytahoelmjfgoedaagreat", sum := "245a3572b318bbdea1fa5b6d73d37250aac9724baf389ccb0326822c2ea48b78", func := "warrener/warrenerlaw29.MachineChecks", spec := "machineChecks", unfollowed := true, recurses := true, plainKeys := false, apart := false, narrowed := true }
def MachineChecksUptoSaid : Prop := machineChecksUptoRow.holds Tryz.pinned (OpenSpec.upto machineChecksSpec)

/-- 'warrenerlaw29.MachineRuns', WHERE WHAT IT READS IS OF BULK AT MOST 1048576: true; the input reads as it did. -/
def machineRunsUptoRow : OpenClaim := { program := "ytahoelmjfgoedaagreat", sum := "245a3572b318bbdea1fa5b6d73d37250aac9724baf389ccb0326822c2ea48b78", func := "warrener/warrenerlaw29.MachineRuns", spec := "machineRuns", unfollowed := true, recurses := true, plainKeys := false, apart := false, narrowed := true }
def MachineRunsUptoSaid : Prop := machineRunsUptoRow.holds Tryz.pinned (OpenSpec.upto machineRunsSpec)

/-- 'warrenerlaw29.MachineFeet', WHERE WHAT IT READS IS OF BULK AT MOST 1048576: true; the input reads as it did. -/
def machineFeetUptoRow : OpenClaim := { program := "ytahoelmjfgoedaagreat", sum := "245a3572b318bbdea1fa5b6d73d37250aac9724baf389ccb0326822c2ea48b78", func := "warrener/warrenerlaw29.MachineFeet", spec := "machineFeet", unfollowed := true, recurses := true, plainKeys := false, apart := false, narrowed := true }
def MachineFeetUptoSaid : Prop := machineFeetUptoRow.holds Tryz.pinned (OpenSpec.upto machineFeetSpec)

/-- 'warrenerlaw29.MachineUndoes', WHERE WHAT IT READS IS OF BULK AT MOST 1048576: true; the input reads as it did. -/
def machineUndoesUptoRow : OpenClaim := { program := "ytahoelmjfgoedaagreat", sum := "245a3572b318bbdea1fa5b6d73d37250aac9724baf389ccb0326822c2ea48b78", func := "warrener/warrenerlaw29.MachineUndoes", spec := "machineUndoes", unfollowed := true, recurses := true, plainKeys := false, apart := false, narrowed := true }
def MachineUndoesUptoSaid : Prop := machineUndoesUptoRow.holds Tryz.pinned (OpenSpec.upto machineUndoesSpec)

/-- 'warrenerlaw29.MachineClones', WHERE WHAT IT READS IS OF BULK AT MOST 1048576: true; the input reads as it did. -/
def machineClonesUptoRow : OpenClaim := { program := "ytahoelmjfgoedaagreat", sum := "245a3572b318bbdea1fa5b6d73d37250aac9724baf389ccb0326822c2ea48b78", func := "warrener/warrenerlaw29.MachineClones", spec := "machineClones", unfollowed := true, recurses := true, plainKeys := false, apart := false, narrowed := true }
def MachineClonesUptoSaid : Prop := machineClonesUptoRow.holds Tryz.pinned (OpenSpec.upto machineClonesSpec)

/-- 'warrenerlaw29.MachineMeets', WHERE WHAT IT READS IS OF BULK AT MOST 1048576: true; the input reads as it did. -/
def machineMeetsUptoRow : OpenClaim := { program := "ytahoelmjfgoedaagreat", sum := "245a3572b318bbdea1fa5b6d73d37250aac9724baf389ccb0326822c2ea48b78", func := "warrener/warrenerlaw29.MachineMeets", spec := "machineMeets", unfollowed := true, recurses := true, plainKeys := false, apart := false, narrowed := true }
def MachineMeetsUptoSaid : Prop := machineMeetsUptoRow.holds Tryz.pinned (OpenSpec.upto machineMeetsSpec)

/-- 'warrenerlaw29.MachineNobody', WHERE WHAT IT READS IS OF BULK AT MOST 1048576: true; the input reads as it did. -/
def machineNobodyUptoRow : OpenClaim := { program := "ytahoelmjfgoedaagreat", sum := "245a3572b318bbdea1fa5b6d73d37250aac9724baf389ccb0326822c2ea48b78", func := "warrener/warrenerlaw29.MachineNobody", spec := "machineNobody", unfollowed := true, recurses := true, plainKeys := false, apart := false, narrowed := true }
def MachineNobodyUptoSaid : Prop := machineNobodyUptoRow.holds Tryz.pinned (OpenSpec.upto machineNobodySpec)

/-- 'warrenerlaw39.SmallMinimal', WHERE WHAT IT READS IS OF BULK AT MOST 1048576: true; the input reads as it did. -/
def smallMinimalUptoRow : OpenClaim := { program := "ytahoelmjfgoedaagreat", sum := "245a3572b318bbdea1fa5b6d73d37250aac9724baf389ccb0326822c2ea48b78", func := "warrener/warrenerlaw39.SmallMinimal", spec := "smallMinimal", unfollowed := true, recurses := true, plainKeys := false, apart := false, narrowed := true }
def SmallMinimalUptoSaid : Prop := smallMinimalUptoRow.holds Tryz.pinned (OpenSpec.upto smallMinimalSpec)

end Rows
end Go.Proofs.YtahoelmjfgoedaaGreat
