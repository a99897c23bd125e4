/-
  No cell of these rows narrows 'for every input' (looked for: loops, veiled, ifaces, maps, wideKeys, modest, calm, conditions, laid).
  DERIVED. THE GIVEN ROWS OF THIS SEAT. 13 by the template 'for every input the law returns true; each argument reads behind the call as it read before'; 0 by the template 'total and deterministic' (their statements: YtljcgcllhcdleaaTotals.lean).
  GIVEN WITH THE SEED: the statements are not yours to turn. If you find one false, say at which input.
  Laid BY PROGRAM, IN A SANDBOX (cutbox-rows.mjs): the forced cells as the released guide's own fill.sh prints them over the translation 1a70329e90083e1d… (all of the seat's roots in one cut). By AI agents, Wed Nov 11 2026. No macro, syntax, notation, axiom, sorry.
-/
import Derived.Test.YtljcgcllhcdleaaChecked
import GoSem.Claim
import GoSem.ClaimJoined
import GoSem.ClaimMapViews
import Derived.JoinedTies
import Derived.KernelRfl
namespace Go.Proofs.Ytljcgcllhcdleaa
/- THE CELL 'sum', in the pinned program and in every row, IS THE sha256 OF THE DUMP (.gsa) THAT YtljcgcllhcdleaaProg.lean LOADS. Nothing in Lean hashes anything: it is a label: what it is worth is what the hold of that sum in a sandbox is worth. -/
noncomputable def Try.pinned : Pinned := { name := "ytljcgcllhcdleaa", sum := "1a70329e90083e1d76ff12543cf891cddcb16bba238e746bdcab90995a47be17", checked := Try.checked }
namespace Rows
def none {H : Type} : Left H := { results := [], args := [] }

/-- 'evlaw8.LegalShows': WHATEVER THE INPUT: true; the input reads as it did. -/
def legalShowsSpec : ChangeSpec := { name := "legalShows", fn := fun _ => fun
  | [d1, d2] => { results := [.lit (.bool true)], args := [d1, d2] }
  | _ => none }
def legalShowsRow : OpenClaim := { program := "ytljcgcllhcdleaa", sum := "1a70329e90083e1d76ff12543cf891cddcb16bba238e746bdcab90995a47be17", func := "evenpace/evlaw8.LegalShows", spec := "legalShows", apart := false }
def LegalShowsSaid : Prop := legalShowsRow.holds Try.pinned (OpenSpec.ofChange legalShowsSpec)

/-- ITS FALSE NEIGHBOUR: 'it returns false'. Refute it at one input. -/
def legalShowsWrong : ChangeSpec := { name := "legalShows", fn := fun _ => fun
  | [d1, d2] => { results := [.lit (.bool false)], args := [d1, d2] }
  | _ => none }
def LegalShowsWrongFalsely : Prop := legalShowsRow.holds Try.pinned (OpenSpec.ofChange legalShowsWrong)

/-- 'evlaw8.LegalSame': WHATEVER THE INPUT: true; the input reads as it did. -/
def legalSameSpec : ChangeSpec := { name := "legalSame", fn := fun _ => fun
  | [d1, d2, d3] => { results := [.lit (.bool true)], args := [d1, d2, d3] }
  | _ => none }
def legalSameRow : OpenClaim := { program := "ytljcgcllhcdleaa", sum := "1a70329e90083e1d76ff12543cf891cddcb16bba238e746bdcab90995a47be17", func := "evenpace/evlaw8.LegalSame", spec := "legalSame", apart := false }
def LegalSameSaid : Prop := legalSameRow.holds Try.pinned (OpenSpec.ofChange legalSameSpec)

/-- ITS FALSE NEIGHBOUR: 'it returns false'. Refute it at one input. -/
def legalSameWrong : ChangeSpec := { name := "legalSame", fn := fun _ => fun
  | [d1, d2, d3] => { results := [.lit (.bool false)], args := [d1, d2, d3] }
  | _ => none }
def LegalSameWrongFalsely : Prop := legalSameRow.holds Try.pinned (OpenSpec.ofChange legalSameWrong)

/-- 'evlaw8.LegalWhen': WHATEVER THE INPUT: true; the input reads as it did. -/
def legalWhenSpec : ChangeSpec := { name := "legalWhen", fn := fun _ => fun
  | [d1, d2] => { results := [.lit (.bool true)], args := [d1, d2] }
  | _ => none }
def legalWhenRow : OpenClaim := { program := "ytljcgcllhcdleaa", sum := "1a70329e90083e1d76ff12543cf891cddcb16bba238e746bdcab90995a47be17", func := "evenpace/evlaw8.LegalWhen", spec := "legalWhen", apart := false }
def LegalWhenSaid : Prop := legalWhenRow.holds Try.pinned (OpenSpec.ofChange legalWhenSpec)

/-- ITS FALSE NEIGHBOUR: 'it returns false'. Refute it at one input. -/
def legalWhenWrong : ChangeSpec := { name := "legalWhen", fn := fun _ => fun
  | [d1, d2] => { results := [.lit (.bool false)], args := [d1, d2] }
  | _ => none }
def LegalWhenWrongFalsely : Prop := legalWhenRow.holds Try.pinned (OpenSpec.ofChange legalWhenWrong)

/-- 'evlaw9.FoldSame': WHATEVER THE INPUT: true; the input reads as it did. -/
def foldSameSpec : ChangeSpec := { name := "foldSame", fn := fun _ => fun
  | [d1, d2] => { results := [.lit (.bool true)], args := [d1, d2] }
  | _ => none }
def foldSameRow : OpenClaim := { program := "ytljcgcllhcdleaa", sum := "1a70329e90083e1d76ff12543cf891cddcb16bba238e746bdcab90995a47be17", func := "evenpace/evlaw9.FoldSame", spec := "foldSame", inPlace := ["maps.clone"], apart := false }
def FoldSameSaid : Prop := foldSameRow.holds Try.pinned (OpenSpec.ofChange foldSameSpec)

/-- ITS FALSE NEIGHBOUR: 'it returns false'. Refute it at one input. -/
def foldSameWrong : ChangeSpec := { name := "foldSame", fn := fun _ => fun
  | [d1, d2] => { results := [.lit (.bool false)], args := [d1, d2] }
  | _ => none }
def FoldSameWrongFalsely : Prop := foldSameRow.holds Try.pinned (OpenSpec.ofChange foldSameWrong)

/-- 'evlaw9.FoldUsed': WHATEVER THE INPUT: true; the input reads as it did. -/
def foldUsedSpec : ChangeSpec := { name := "foldUsed", fn := fun _ => fun
  | [d] => { results := [.lit (.bool true)], args := [d] }
  | _ => none }
def foldUsedRow : OpenClaim := { program := "ytljcgcllhcdleaa", sum := "1a70329e90083e1d76ff12543cf891cddcb16bba238e746bdcab90995a47be17", func := "evenpace/evlaw9.FoldUsed", spec := "foldUsed", inPlace := ["maps.clone"], apart := false }
def FoldUsedSaid : Prop := foldUsedRow.holds Try.pinned (OpenSpec.ofChange foldUsedSpec)

/-- ITS FALSE NEIGHBOUR: 'it returns false'. Refute it at one input. -/
def foldUsedWrong : ChangeSpec := { name := "foldUsed", fn := fun _ => fun
  | [d] => { results := [.lit (.bool false)], args := [d] }
  | _ => none }
def FoldUsedWrongFalsely : Prop := foldUsedRow.holds Try.pinned (OpenSpec.ofChange foldUsedWrong)

/-- 'evlaw9.FoldTwice': WHATEVER THE INPUT: true; the input reads as it did. -/
def foldTwiceSpec : ChangeSpec := { name := "foldTwice", fn := fun _ => fun
  | [d] => { results := [.lit (.bool true)], args := [d] }
  | _ => none }
def foldTwiceRow : OpenClaim := { program := "ytljcgcllhcdleaa", sum := "1a70329e90083e1d76ff12543cf891cddcb16bba238e746bdcab90995a47be17", func := "evenpace/evlaw9.FoldTwice", spec := "foldTwice", inPlace := ["maps.clone"], apart := false }
def FoldTwiceSaid : Prop := foldTwiceRow.holds Try.pinned (OpenSpec.ofChange foldTwiceSpec)

/-- ITS FALSE NEIGHBOUR: 'it returns false'. Refute it at one input. -/
def foldTwiceWrong : ChangeSpec := { name := "foldTwice", fn := fun _ => fun
  | [d] => { results := [.lit (.bool false)], args := [d] }
  | _ => none }
def FoldTwiceWrongFalsely : Prop := foldTwiceRow.holds Try.pinned (OpenSpec.ofChange foldTwiceWrong)

/-- 'evlaw9.FoldShows': WHATEVER THE INPUT: true; the input reads as it did. -/
def foldShowsSpec : ChangeSpec := { name := "foldShows", fn := fun _ => fun
  | [d1, d2] => { results := [.lit (.bool true)], args := [d1, d2] }
  | _ => none }
def foldShowsRow : OpenClaim := { program := "ytljcgcllhcdleaa", sum := "1a70329e90083e1d76ff12543cf891cddcb16bba238e746bdcab90995a47be17", func := "evenpace/evlaw9.FoldShows", spec := "foldShows", inPlace := ["maps.clone"], apart := false }
def FoldShowsSaid : Prop := foldShowsRow.holds Try.pinned (OpenSpec.ofChange foldShowsSpec)

/-- ITS FALSE NEIGHBOUR: 'it returns false'. Refute it at one input. -/
def foldShowsWrong : ChangeSpec := { name := "foldShows", fn := fun _ => fun
  | [d1, d2] => { results := [.lit (.bool false)], args := [d1, d2] }
  | _ => none }
def FoldShowsWrongFalsely : Prop := foldShowsRow.holds Try.pinned (OpenSpec.ofChange foldShowsWrong)

/-- 'evlaw7.FlowTells': WHATEVER THE INPUT: true; the input reads as it did. -/
def flowTellsSpec : ChangeSpec := { name := "flowTells", fn := fun _ => fun
  | [d1, d2, d3, d4, d5, d6] => { results := [.lit (.bool true)], args := [d1, d2, d3, d4, d5, d6] }
  | _ => none }
def flowTellsRow : OpenClaim := { program := "ytljcgcllhcdleaa", sum := "1a70329e90083e1d76ff12543cf891cddcb16bba238e746bdcab90995a47be17", func := "evenpace/evlaw7.FlowTells", spec := "flowTells", apart := false }
def FlowTellsSaid : Prop := flowTellsRow.holds Try.pinned (OpenSpec.ofChange flowTellsSpec)

/-- ITS FALSE NEIGHBOUR: 'it returns false'. Refute it at one input. -/
def flowTellsWrong : ChangeSpec := { name := "flowTells", fn := fun _ => fun
  | [d1, d2, d3, d4, d5, d6] => { results := [.lit (.bool false)], args := [d1, d2, d3, d4, d5, d6] }
  | _ => none }
def FlowTellsWrongFalsely : Prop := flowTellsRow.holds Try.pinned (OpenSpec.ofChange flowTellsWrong)

/-- 'evlaw7.FlowWays': WHATEVER THE INPUT: true; the input reads as it did. -/
def flowWaysSpec : ChangeSpec := { name := "flowWays", fn := fun _ => fun
  | [d1, d2, d3] => { results := [.lit (.bool true)], args := [d1, d2, d3] }
  | _ => none }
def flowWaysRow : OpenClaim := { program := "ytljcgcllhcdleaa", sum := "1a70329e90083e1d76ff12543cf891cddcb16bba238e746bdcab90995a47be17", func := "evenpace/evlaw7.FlowWays", spec := "flowWays", apart := false }
def FlowWaysSaid : Prop := flowWaysRow.holds Try.pinned (OpenSpec.ofChange flowWaysSpec)

/-- ITS FALSE NEIGHBOUR: 'it returns false'. Refute it at one input. -/
def flowWaysWrong : ChangeSpec := { name := "flowWays", fn := fun _ => fun
  | [d1, d2, d3] => { results := [.lit (.bool false)], args := [d1, d2, d3] }
  | _ => none }
def FlowWaysWrongFalsely : Prop := flowWaysRow.holds Try.pinned (OpenSpec.ofChange flowWaysWrong)

/-- 'evlaw7.FlowEven': WHATEVER THE INPUT: true; the input reads as it did. -/
def flowEvenSpec : ChangeSpec := { name := "flowEven", fn := fun _ => fun
  | [d1, d2, d3, d4] => { results := [.lit (.bool true)], args := [d1, d2, d3, d4] }
  | _ => none }
def flowEvenRow : OpenClaim := { program := "ytljcgcllhcdleaa", sum := "1a70329e90083e1d76ff12543cf891cddcb16bba238e746bdcab90995a47be17", func := "evenpace/evlaw7.FlowEven", spec := "flowEven", apart := false }
def FlowEvenSaid : Prop := flowEvenRow.holds Try.pinned (OpenSpec.ofChange flowEvenSpec)

/-- ITS FALSE NEIGHBOUR: 'it returns false'. Refute it at one input. -/
def flowEvenWrong : ChangeSpec := { name := "flowEven", fn := fun _ => fun
  | [d1, d2, d3, d4] => { results := [.lit (.bool false)], args := [d1, d2, d3, d4] }
  | _ => none }
def FlowEvenWrongFalsely : Prop := flowEvenRow.holds Try.pinned (OpenSpec.ofChange flowEvenWrong)

/-- 'evlaw11.MachTells': WHATEVER THE INPUT: true; the input reads as it did. -/
def machTellsSpec : ChangeSpec := { name := "machTells", fn := fun _ => fun
  | [d1, d2, d3, d4, d5] => { results := [.lit (.bool true)], args := [d1, d2, d3, d4, d5] }
  | _ => none }
def machTellsRow : OpenClaim := { program := "ytljcgcllhcdleaa", sum := "1a70329e90083e1d76ff12543cf891cddcb16bba238e746bdcab90995a47be17", func := "evenpace/evlaw11.MachTells", spec := "machTells", apart := false }
def MachTellsSaid : Prop := machTellsRow.holds Try.pinned (OpenSpec.ofChange machTellsSpec)

/-- ITS FALSE NEIGHBOUR: 'it returns false'. Refute it at one input. -/
def machTellsWrong : ChangeSpec := { name := "machTells", fn := fun _ => fun
  | [d1, d2, d3, d4, d5] => { results := [.lit (.bool false)], args := [d1, d2, d3, d4, d5] }
  | _ => none }
def MachTellsWrongFalsely : Prop := machTellsRow.holds Try.pinned (OpenSpec.ofChange machTellsWrong)

/-- 'evlaw11.MachMore': WHATEVER THE INPUT: true; the input reads as it did. -/
def machMoreSpec : ChangeSpec := { name := "machMore", fn := fun _ => fun
  | [d1, d2, d3, d4, d5, d6] => { results := [.lit (.bool true)], args := [d1, d2, d3, d4, d5, d6] }
  | _ => none }
def machMoreRow : OpenClaim := { program := "ytljcgcllhcdleaa", sum := "1a70329e90083e1d76ff12543cf891cddcb16bba238e746bdcab90995a47be17", func := "evenpace/evlaw11.MachMore", spec := "machMore", apart := false }
def MachMoreSaid : Prop := machMoreRow.holds Try.pinned (OpenSpec.ofChange machMoreSpec)

/-- ITS FALSE NEIGHBOUR: 'it returns false'. Refute it at one input. -/
def machMoreWrong : ChangeSpec := { name := "machMore", fn := fun _ => fun
  | [d1, d2, d3, d4, d5, d6] => { results := [.lit (.bool false)], args := [d1, d2, d3, d4, d5, d6] }
  | _ => none }
def MachMoreWrongFalsely : Prop := machMoreRow.holds Try.pinned (OpenSpec.ofChange machMoreWrong)

/-- 'evlaw11.MachOn': WHATEVER THE INPUT: true; the input reads as it did. -/
def machOnSpec : ChangeSpec := { name := "machOn", fn := fun _ => fun
  | [d1, d2, d3, d4] => { results := [.lit (.bool true)], args := [d1, d2, d3, d4] }
  | _ => none }
def machOnRow : OpenClaim := { program := "ytljcgcllhcdleaa", sum := "1a70329e90083e1d76ff12543cf891cddcb16bba238e746bdcab90995a47be17", func := "evenpace/evlaw11.MachOn", spec := "machOn", apart := false }
def MachOnSaid : Prop := machOnRow.holds Try.pinned (OpenSpec.ofChange machOnSpec)

/-- ITS FALSE NEIGHBOUR: 'it returns false'. Refute it at one input. -/
def machOnWrong : ChangeSpec := { name := "machOn", fn := fun _ => fun
  | [d1, d2, d3, d4] => { results := [.lit (.bool false)], args := [d1, d2, d3, d4] }
  | _ => none }
def MachOnWrongFalsely : Prop := machOnRow.holds Try.pinned (OpenSpec.ofChange machOnWrong)

/- THE SECOND FORM. 'bulk': how many values and letters a reading holds, each counted each time it is reached (what is shared counts as often as it is met; a slice's spare places count too). A statement '..UptoSaid' is the law's where the arguments, and the package variables that the reading takes, are together of bulk at most 1048576: NARROWER than '..Said'. Prove '..Said' where nothing that the law and all that it calls make is longer than what came in: it says more and counts as full. Else prove '..UptoSaid'. A law counts once. -/
mutual
def uptoBulk {H : Type} : DataW H → Nat
  | .lit (.string bytes) => bytes.length + 1
  | .lit _ => 1
  | .nil => 1
  | .ptr d => uptoBulk d + 1
  | .slice elems spare => uptoBulkAll elems + uptoBulkAll spare + 1
  | .agg parts => uptoBulkAll parts + 1
  | .iface _ d => uptoBulk d + 1
  | .map entries => uptoBulkEntries entries + 1
  | .held _ => 1
def uptoBulkAll {H : Type} : List (DataW H) → Nat
  | [] => 0
  | d :: r => uptoBulk d + uptoBulkAll r
def uptoBulkEntries {H : Type} : List (Lit × DataW H) → Nat
  | [] => 0
  | x :: r => uptoBulkEntry x + uptoBulkEntries r
def uptoBulkEntry {H : Type} : Lit × DataW H → Nat
  | (.string bytes, d) => bytes.length + uptoBulk d + 1
  | (_, d) => uptoBulk d + 1
 end
def uptoSmall : (H : Type) → List (DataW H) → Bool := fun _ ds => decide (uptoBulkAll ds ≤ 1048576)
def OpenSpec.upto (s : _root_.Go.ChangeSpec) : _root_.Go.OpenSpec := { _root_.Go.OpenSpec.ofChange s with cond := some uptoSmall }

/-- 'evlaw8.LegalShows', WHERE WHAT IT READS IS OF BULK AT MOST 1048576: true; the input reads as it did. -/
def legalShowsUptoRow : OpenClaim := { program := "ytljcgcllhcdleaa", sum := "1a70329e90083e1d76ff12543cf891cddcb16bba238e746bdcab90995a47be17", func := "evenpace/evlaw8.LegalShows", spec := "legalShows", apart := false, narrowed := true }
def LegalShowsUptoSaid : Prop := legalShowsUptoRow.holds Try.pinned (OpenSpec.upto legalShowsSpec)

/-- 'evlaw8.LegalSame', WHERE WHAT IT READS IS OF BULK AT MOST 1048576: true; the input reads as it did. -/
def legalSameUptoRow : OpenClaim := { program := "ytljcgcllhcdleaa", sum := "1a70329e90083e1d76ff12543cf891cddcb16bba238e746bdcab90995a47be17", func := "evenpace/evlaw8.LegalSame", spec := "legalSame", apart := false, narrowed := true }
def LegalSameUptoSaid : Prop := legalSameUptoRow.holds Try.pinned (OpenSpec.upto legalSameSpec)

/-- 'evlaw8.LegalWhen', WHERE WHAT IT READS IS OF BULK AT MOST 1048576: true; the input reads as it did. -/
def legalWhenUptoRow : OpenClaim := { program := "ytljcgcllhcdleaa", sum := "1a70329e90083e1d76ff12543cf891cddcb16bba238e746bdcab90995a47be17", func := "evenpace/evlaw8.LegalWhen", spec := "legalWhen", apart := false, narrowed := true }
def LegalWhenUptoSaid : Prop := legalWhenUptoRow.holds Try.pinned (OpenSpec.upto legalWhenSpec)

/-- 'evlaw9.FoldSame', WHERE WHAT IT READS IS OF BULK AT MOST 1048576: true; the input reads as it did. -/
def foldSameUptoRow : OpenClaim := { program := "ytljcgcllhcdleaa", sum := "1a70329e90083e1d76ff12543cf891cddcb16bba238e746bdcab90995a47be17", func := "evenpace/evlaw9.FoldSame", spec := "foldSame", inPlace := ["maps.clone"], apart := false, narrowed := true }
def FoldSameUptoSaid : Prop := foldSameUptoRow.holds Try.pinned (OpenSpec.upto foldSameSpec)

/-- 'evlaw9.FoldUsed', WHERE WHAT IT READS IS OF BULK AT MOST 1048576: true; the input reads as it did. -/
def foldUsedUptoRow : OpenClaim := { program := "ytljcgcllhcdleaa", sum := "1a70329e90083e1d76ff12543cf891cddcb16bba238e746bdcab90995a47be17", func := "evenpace/evlaw9.FoldUsed", spec := "foldUsed", inPlace := ["maps.clone"], apart := false, narrowed := true }
def FoldUsedUptoSaid : Prop := foldUsedUptoRow.holds Try.pinned (OpenSpec.upto foldUsedSpec)

/-- 'evlaw9.FoldTwice', WHERE WHAT IT READS IS OF BULK AT MOST 1048576: true; the input reads as it did. -/
def foldTwiceUptoRow : OpenClaim := { program := "ytljcgcllhcdleaa", sum := "1a70329e90083e1d76ff12543cf891cddcb16bba238e746bdcab90995a47be17", func := "evenpace/evlaw9.FoldTwice", spec := "foldTwice", inPlace := ["maps.clone"], apart := false, narrowed := true }
def FoldTwiceUptoSaid : Prop := foldTwiceUptoRow.holds Try.pinned (OpenSpec.upto foldTwiceSpec)

/-- 'evlaw9.FoldShows', WHERE WHAT IT READS IS OF BULK AT MOST 1048576: true; the input reads as it did. -/
def foldShowsUptoRow : OpenClaim := { program := "ytljcgcllhcdleaa", sum := "1a70329e90083e1d76ff12543cf891cddcb16bba238e746bdcab90995a47be17", func := "evenpace/evlaw9.FoldShows", spec := "foldShows", inPlace := ["maps.clone"], apart := false, narrowed := true }
def FoldShowsUptoSaid : Prop := foldShowsUptoRow.holds Try.pinned (OpenSpec.upto foldShowsSpec)

/-- 'evlaw7.FlowTells', WHERE WHAT IT READS IS OF BULK AT MOST 1048576: true; the input reads as it did. -/
def flowTellsUptoRow : OpenClaim := { program := "ytljcgcllhcdleaa", sum := "1a70329e90083e1d76ff12543cf891cddcb16bba238e746bdcab90995a47be17", func := "evenpace/evlaw7.FlowTells", spec := "flowTells", apart := false, narrowed := true }
def FlowTellsUptoSaid : Prop := flowTellsUptoRow.holds Try.pinned (OpenSpec.upto flowTellsSpec)

/-- 'evlaw7.FlowWays', WHERE WHAT IT READS IS OF BULK AT MOST 1048576: true; the input reads as it did. -/
def flowWaysUptoRow : OpenClaim := { program := "ytljcgcllhcdleaa", sum := "1a70329e90083e1d76ff12543cf891cddcb16bba238e746bdcab90995a47be17", func := "evenpace/evlaw7.FlowWays", spec := "flowWays", apart := false, narrowed := true }
def FlowWaysUptoSaid : Prop := flowWaysUptoRow.holds Try.pinned (OpenSpec.upto flowWaysSpec)

/-- 'evlaw7.FlowEven', WHERE WHAT IT READS IS OF BULK AT MOST 1048576: true; the input reads as it did. -/
def flowEvenUptoRow : OpenClaim := { program := "ytljcgcllhcdleaa", sum := "1a70329e90083e1d76ff12543cf891cddcb16bba238e746bdcab90995a47be17", func := "evenpace/evlaw7.FlowEven", spec := "flowEven", apart := false, narrowed := true }
def FlowEvenUptoSaid : Prop := flowEvenUptoRow.holds Try.pinned (OpenSpec.upto flowEvenSpec)

/-- 'evlaw11.MachTells', WHERE WHAT IT READS IS OF BULK AT MOST 1048576: true; the input reads as it did. -/
def machTellsUptoRow : OpenClaim := { program := "ytljcgcllhcdleaa", sum := "1a70329e90083e1d76ff12543cf891cddcb16bba238e746bdcab90995a47be17", func := "evenpace/evlaw11.MachTells", spec := "machTells", apart := false, narrowed := true }
def MachTellsUptoSaid : Prop := machTellsUptoRow.holds Try.pinned (OpenSpec.upto machTellsSpec)

/-- 'evlaw11.MachMore', WHERE WHAT IT READS IS OF BULK AT MOST 1048576: true; the input reads as it did. -/
def machMoreUptoRow : OpenClaim := { program := "ytljcgcllhcdleaa", sum := "1a70329e90083e1d76ff12543cf891cddcb16bba238e746bdcab90995a47be17", func := "evenpace/evlaw11.MachMore", spec := "machMore", apart := false, narrowed := true }
def MachMoreUptoSaid : Prop := machMoreUptoRow.holds Try.pinned (OpenSpec.upto machMoreSpec)

/-- 'evlaw11.MachOn', WHERE WHAT IT READS IS OF BULK AT MOST 1048576: true; the input reads as it did. -/
def machOnUptoRow : OpenClaim := { program := "ytljcgcllhcdleaa", sum := "1a70329e90083e1d76ff12543cf891cddcb16bba238e746bdcab90995a47be17", func := "evenpace/evlaw11.MachOn", spec := "machOn", apart := false, narrowed := true }
def MachOnUptoSaid : Prop := machOnUptoRow.holds Try.pinned (OpenSpec.upto machOnSpec)

end Rows
end Go.Proofs.Ytljcgcllhcdleaa
