/-
  No cell of these rows narrows 'for every input' (looked for: loops, veiled, ifaces, maps, wideKeys, modest, calm, conditions, laid).
  DERIVED. THE GIVEN ROWS OF THIS SEAT. 12 by the template 'for every input the law returns true; each argument reads behind the call as it read before'; 0 by the template 'total and deterministic' (their statements: YtakblaaipaehjaaTotals.lean).
  GIVEN WITH THE SEED: the statements are not yours to turn. If you find one false, say at which input.
  Laid BY PROGRAM, IN A SANDBOX (cutbox-rows.mjs): the forced cells as the released guide's own fill.sh prints them over the translation 4c7001fe3ad101b2… (all of the seat's roots in one cut). By AI agents, Wed Nov 11 2026. No macro, syntax, notation, axiom, sorry.
-/
import Derived.Test.YtakblaaipaehjaaChecked
import GoSem.Claim
import GoSem.ClaimJoined
import GoSem.ClaimMapViews
import Derived.JoinedTies
import Derived.KernelRfl
namespace Go.Proofs.Ytakblaaipaehjaa
/- THE CELL 'sum', in the pinned program and in every row, IS THE sha256 OF THE DUMP (.gsa) THAT YtakblaaipaehjaaProg.lean LOADS. Nothing in Lean hashes anything: it is a label: what it is worth is what the hold of that sum in a sandbox is worth. -/
noncomputable def Try.pinned : Pinned := { name := "ytakblaaipaehjaa", sum := "4c7001fe3ad101b2c3ff3c41c0d967586cbf91e7f59c0b9599b987c316f80ade", checked := Try.checked }
namespace Rows
def none {H : Type} : Left H := { results := [], args := [] }

/-- 'tandemlaw16.LeaseTells': WHATEVER THE INPUT: true; the input reads as it did. -/
def leaseTellsSpec : ChangeSpec := { name := "leaseTells", fn := fun _ => fun
  | [d1, d2, d3, d4] => { results := [.lit (.bool true)], args := [d1, d2, d3, d4] }
  | _ => none }
def leaseTellsRow : OpenClaim := { program := "ytakblaaipaehjaa", sum := "4c7001fe3ad101b2c3ff3c41c0d967586cbf91e7f59c0b9599b987c316f80ade", func := "tandem/tandemlaw16.LeaseTells", spec := "leaseTells", apart := false }
def LeaseTellsSaid : Prop := leaseTellsRow.holds Try.pinned (OpenSpec.ofChange leaseTellsSpec)

/-- ITS FALSE NEIGHBOUR: 'it returns false'. Refute it at one input. -/
def leaseTellsWrong : ChangeSpec := { name := "leaseTells", fn := fun _ => fun
  | [d1, d2, d3, d4] => { results := [.lit (.bool false)], args := [d1, d2, d3, d4] }
  | _ => none }
def LeaseTellsWrongFalsely : Prop := leaseTellsRow.holds Try.pinned (OpenSpec.ofChange leaseTellsWrong)

/-- 'tandemlaw16.LeaseEnds': WHATEVER THE INPUT: true; the input reads as it did. -/
def leaseEndsSpec : ChangeSpec := { name := "leaseEnds", fn := fun _ => fun
  | [d1, d2, d3] => { results := [.lit (.bool true)], args := [d1, d2, d3] }
  | _ => none }
def leaseEndsRow : OpenClaim := { program := "ytakblaaipaehjaa", sum := "4c7001fe3ad101b2c3ff3c41c0d967586cbf91e7f59c0b9599b987c316f80ade", func := "tandem/tandemlaw16.LeaseEnds", spec := "leaseEnds", apart := false }
def LeaseEndsSaid : Prop := leaseEndsRow.holds Try.pinned (OpenSpec.ofChange leaseEndsSpec)

/-- ITS FALSE NEIGHBOUR: 'it returns false'. Refute it at one input. -/
def leaseEndsWrong : ChangeSpec := { name := "leaseEnds", fn := fun _ => fun
  | [d1, d2, d3] => { results := [.lit (.bool false)], args := [d1, d2, d3] }
  | _ => none }
def LeaseEndsWrongFalsely : Prop := leaseEndsRow.holds Try.pinned (OpenSpec.ofChange leaseEndsWrong)

/-- 'tandemlaw16.LeaseKeeps': WHATEVER THE INPUT: true; the input reads as it did. -/
def leaseKeepsSpec : ChangeSpec := { name := "leaseKeeps", fn := fun _ => fun
  | [d] => { results := [.lit (.bool true)], args := [d] }
  | _ => none }
def leaseKeepsRow : OpenClaim := { program := "ytakblaaipaehjaa", sum := "4c7001fe3ad101b2c3ff3c41c0d967586cbf91e7f59c0b9599b987c316f80ade", func := "tandem/tandemlaw16.LeaseKeeps", spec := "leaseKeeps", apart := false }
def LeaseKeepsSaid : Prop := leaseKeepsRow.holds Try.pinned (OpenSpec.ofChange leaseKeepsSpec)

/-- ITS FALSE NEIGHBOUR: 'it returns false'. Refute it at one input. -/
def leaseKeepsWrong : ChangeSpec := { name := "leaseKeeps", fn := fun _ => fun
  | [d] => { results := [.lit (.bool false)], args := [d] }
  | _ => none }
def LeaseKeepsWrongFalsely : Prop := leaseKeepsRow.holds Try.pinned (OpenSpec.ofChange leaseKeepsWrong)

/-- 'tandemlaw16.LeaseKnown': WHATEVER THE INPUT: true; the input reads as it did. -/
def leaseKnownSpec : ChangeSpec := { name := "leaseKnown", fn := fun _ => fun
  | [] => { results := [.lit (.bool true)], args := [] }
  | _ => none }
def leaseKnownRow : OpenClaim := { program := "ytakblaaipaehjaa", sum := "4c7001fe3ad101b2c3ff3c41c0d967586cbf91e7f59c0b9599b987c316f80ade", func := "tandem/tandemlaw16.LeaseKnown", spec := "leaseKnown", apart := false }
def LeaseKnownSaid : Prop := leaseKnownRow.holds Try.pinned (OpenSpec.ofChange leaseKnownSpec)

/-- ITS FALSE NEIGHBOUR: 'it returns false'. Refute it at one input. -/
def leaseKnownWrong : ChangeSpec := { name := "leaseKnown", fn := fun _ => fun
  | [] => { results := [.lit (.bool false)], args := [] }
  | _ => none }
def LeaseKnownWrongFalsely : Prop := leaseKnownRow.holds Try.pinned (OpenSpec.ofChange leaseKnownWrong)

/-- 'tandemlaw16.LeaseApart': WHATEVER THE INPUT: true; the input reads as it did. -/
def leaseApartSpec : ChangeSpec := { name := "leaseApart", fn := fun _ => fun
  | [d1, d2, d3, d4, d5] => { results := [.lit (.bool true)], args := [d1, d2, d3, d4, d5] }
  | _ => none }
def leaseApartRow : OpenClaim := { program := "ytakblaaipaehjaa", sum := "4c7001fe3ad101b2c3ff3c41c0d967586cbf91e7f59c0b9599b987c316f80ade", func := "tandem/tandemlaw16.LeaseApart", spec := "leaseApart", apart := false }
def LeaseApartSaid : Prop := leaseApartRow.holds Try.pinned (OpenSpec.ofChange leaseApartSpec)

/-- ITS FALSE NEIGHBOUR: 'it returns false'. Refute it at one input. -/
def leaseApartWrong : ChangeSpec := { name := "leaseApart", fn := fun _ => fun
  | [d1, d2, d3, d4, d5] => { results := [.lit (.bool false)], args := [d1, d2, d3, d4, d5] }
  | _ => none }
def LeaseApartWrongFalsely : Prop := leaseApartRow.holds Try.pinned (OpenSpec.ofChange leaseApartWrong)

/-- 'tandemlaw16.LeaseOne': WHATEVER THE INPUT: true; the input reads as it did. -/
def leaseOneSpec : ChangeSpec := { name := "leaseOne", fn := fun _ => fun
  | [d1, d2] => { results := [.lit (.bool true)], args := [d1, d2] }
  | _ => none }
def leaseOneRow : OpenClaim := { program := "ytakblaaipaehjaa", sum := "4c7001fe3ad101b2c3ff3c41c0d967586cbf91e7f59c0b9599b987c316f80ade", func := "tandem/tandemlaw16.LeaseOne", spec := "leaseOne", apart := false }
def LeaseOneSaid : Prop := leaseOneRow.holds Try.pinned (OpenSpec.ofChange leaseOneSpec)

/-- ITS FALSE NEIGHBOUR: 'it returns false'. Refute it at one input. -/
def leaseOneWrong : ChangeSpec := { name := "leaseOne", fn := fun _ => fun
  | [d1, d2] => { results := [.lit (.bool false)], args := [d1, d2] }
  | _ => none }
def LeaseOneWrongFalsely : Prop := leaseOneRow.holds Try.pinned (OpenSpec.ofChange leaseOneWrong)

/-- 'tandemlaw17.RecordTells': WHATEVER THE INPUT: true; the input reads as it did. -/
def recordTellsSpec : ChangeSpec := { name := "recordTells", fn := fun _ => fun
  | [d1, d2, d3] => { results := [.lit (.bool true)], args := [d1, d2, d3] }
  | _ => none }
def recordTellsRow : OpenClaim := { program := "ytakblaaipaehjaa", sum := "4c7001fe3ad101b2c3ff3c41c0d967586cbf91e7f59c0b9599b987c316f80ade", func := "tandem/tandemlaw17.RecordTells", spec := "recordTells", apart := false }
def RecordTellsSaid : Prop := recordTellsRow.holds Try.pinned (OpenSpec.ofChange recordTellsSpec)

/-- ITS FALSE NEIGHBOUR: 'it returns false'. Refute it at one input. -/
def recordTellsWrong : ChangeSpec := { name := "recordTells", fn := fun _ => fun
  | [d1, d2, d3] => { results := [.lit (.bool false)], args := [d1, d2, d3] }
  | _ => none }
def RecordTellsWrongFalsely : Prop := recordTellsRow.holds Try.pinned (OpenSpec.ofChange recordTellsWrong)

/-- 'tandemlaw17.RecordNexts': WHATEVER THE INPUT: true; the input reads as it did. -/
def recordNextsSpec : ChangeSpec := { name := "recordNexts", fn := fun _ => fun
  | [d1, d2, d3] => { results := [.lit (.bool true)], args := [d1, d2, d3] }
  | _ => none }
def recordNextsRow : OpenClaim := { program := "ytakblaaipaehjaa", sum := "4c7001fe3ad101b2c3ff3c41c0d967586cbf91e7f59c0b9599b987c316f80ade", func := "tandem/tandemlaw17.RecordNexts", spec := "recordNexts", apart := false }
def RecordNextsSaid : Prop := recordNextsRow.holds Try.pinned (OpenSpec.ofChange recordNextsSpec)

/-- ITS FALSE NEIGHBOUR: 'it returns false'. Refute it at one input. -/
def recordNextsWrong : ChangeSpec := { name := "recordNexts", fn := fun _ => fun
  | [d1, d2, d3] => { results := [.lit (.bool false)], args := [d1, d2, d3] }
  | _ => none }
def RecordNextsWrongFalsely : Prop := recordNextsRow.holds Try.pinned (OpenSpec.ofChange recordNextsWrong)

/-- 'tandemlaw17.RecordKnown': WHATEVER THE INPUT: true; the input reads as it did. -/
def recordKnownSpec : ChangeSpec := { name := "recordKnown", fn := fun _ => fun
  | [] => { results := [.lit (.bool true)], args := [] }
  | _ => none }
def recordKnownRow : OpenClaim := { program := "ytakblaaipaehjaa", sum := "4c7001fe3ad101b2c3ff3c41c0d967586cbf91e7f59c0b9599b987c316f80ade", func := "tandem/tandemlaw17.RecordKnown", spec := "recordKnown", apart := false }
def RecordKnownSaid : Prop := recordKnownRow.holds Try.pinned (OpenSpec.ofChange recordKnownSpec)

/-- ITS FALSE NEIGHBOUR: 'it returns false'. Refute it at one input. -/
def recordKnownWrong : ChangeSpec := { name := "recordKnown", fn := fun _ => fun
  | [] => { results := [.lit (.bool false)], args := [] }
  | _ => none }
def RecordKnownWrongFalsely : Prop := recordKnownRow.holds Try.pinned (OpenSpec.ofChange recordKnownWrong)

/-- 'tandemlaw17.RecordOrder': WHATEVER THE INPUT: true; the input reads as it did. -/
def recordOrderSpec : ChangeSpec := { name := "recordOrder", fn := fun _ => fun
  | [d1, d2, d3, d4, d5, d6] => { results := [.lit (.bool true)], args := [d1, d2, d3, d4, d5, d6] }
  | _ => none }
def recordOrderRow : OpenClaim := { program := "ytakblaaipaehjaa", sum := "4c7001fe3ad101b2c3ff3c41c0d967586cbf91e7f59c0b9599b987c316f80ade", func := "tandem/tandemlaw17.RecordOrder", spec := "recordOrder", apart := false }
def RecordOrderSaid : Prop := recordOrderRow.holds Try.pinned (OpenSpec.ofChange recordOrderSpec)

/-- ITS FALSE NEIGHBOUR: 'it returns false'. Refute it at one input. -/
def recordOrderWrong : ChangeSpec := { name := "recordOrder", fn := fun _ => fun
  | [d1, d2, d3, d4, d5, d6] => { results := [.lit (.bool false)], args := [d1, d2, d3, d4, d5, d6] }
  | _ => none }
def RecordOrderWrongFalsely : Prop := recordOrderRow.holds Try.pinned (OpenSpec.ofChange recordOrderWrong)

/-- 'tandemlaw17.RecordMost': WHATEVER THE INPUT: true; the input reads as it did. -/
def recordMostSpec : ChangeSpec := { name := "recordMost", fn := fun _ => fun
  | [d1, d2, d3, d4] => { results := [.lit (.bool true)], args := [d1, d2, d3, d4] }
  | _ => none }
def recordMostRow : OpenClaim := { program := "ytakblaaipaehjaa", sum := "4c7001fe3ad101b2c3ff3c41c0d967586cbf91e7f59c0b9599b987c316f80ade", func := "tandem/tandemlaw17.RecordMost", spec := "recordMost", apart := false }
def RecordMostSaid : Prop := recordMostRow.holds Try.pinned (OpenSpec.ofChange recordMostSpec)

/-- ITS FALSE NEIGHBOUR: 'it returns false'. Refute it at one input. -/
def recordMostWrong : ChangeSpec := { name := "recordMost", fn := fun _ => fun
  | [d1, d2, d3, d4] => { results := [.lit (.bool false)], args := [d1, d2, d3, d4] }
  | _ => none }
def RecordMostWrongFalsely : Prop := recordMostRow.holds Try.pinned (OpenSpec.ofChange recordMostWrong)

/-- 'tandemlaw17.RecordSafe': WHATEVER THE INPUT: true; the input reads as it did. -/
def recordSafeSpec : ChangeSpec := { name := "recordSafe", fn := fun _ => fun
  | [d] => { results := [.lit (.bool true)], args := [d] }
  | _ => none }
def recordSafeRow : OpenClaim := { program := "ytakblaaipaehjaa", sum := "4c7001fe3ad101b2c3ff3c41c0d967586cbf91e7f59c0b9599b987c316f80ade", func := "tandem/tandemlaw17.RecordSafe", spec := "recordSafe", apart := false }
def RecordSafeSaid : Prop := recordSafeRow.holds Try.pinned (OpenSpec.ofChange recordSafeSpec)

/-- ITS FALSE NEIGHBOUR: 'it returns false'. Refute it at one input. -/
def recordSafeWrong : ChangeSpec := { name := "recordSafe", fn := fun _ => fun
  | [d] => { results := [.lit (.bool false)], args := [d] }
  | _ => none }
def RecordSafeWrongFalsely : Prop := recordSafeRow.holds Try.pinned (OpenSpec.ofChange recordSafeWrong)

/- THE SECOND FORM. 'bulk': how many values and letters a reading holds, each counted each time it is reached (what is shared counts as often as it is met; a slice's spare places count too). A statement '..UptoSaid' is the law's where the arguments, and the package variables that the reading takes, are together of bulk at most 1048576: NARROWER than '..Said'. Prove '..Said' where nothing that the law and all that it calls make is longer than what came in: it says more and counts as full. Else prove '..UptoSaid'. A law counts once. -/
mutual
def uptoBulk {H : Type} : DataW H → Nat
  | .lit (.string bytes) => bytes.length + 1
  | .lit _ => 1
  | .nil => 1
  | .ptr d => uptoBulk d + 1
  | .slice elems spare => uptoBulkAll elems + uptoBulkAll spare + 1
  | .agg parts => uptoBulkAll parts + 1
  | .iface _ d => uptoBulk d + 1
  | .map entries => uptoBulkEntries entries + 1
  | .held _ => 1
def uptoBulkAll {H : Type} : List (DataW H) → Nat
  | [] => 0
  | d :: r => uptoBulk d + uptoBulkAll r
def uptoBulkEntries {H : Type} : List (Lit × DataW H) → Nat
  | [] => 0
  | x :: r => uptoBulkEntry x + uptoBulkEntries r
def uptoBulkEntry {H : Type} : Lit × DataW H → Nat
  | (.string bytes, d) => bytes.length + uptoBulk d + 1
  | (_, d) => uptoBulk d + 1
 end
def uptoSmall : (H : Type) → List (DataW H) → Bool := fun _ ds => decide (uptoBulkAll ds ≤ 1048576)
def OpenSpec.upto (s : _root_.Go.ChangeSpec) : _root_.Go.OpenSpec := { _root_.Go.OpenSpec.ofChange s with cond := some uptoSmall }

/-- 'tandemlaw16.LeaseTells', WHERE WHAT IT READS IS OF BULK AT MOST 1048576: true; the input reads as it did. -/
def leaseTellsUptoRow : OpenClaim := { program := "ytakblaaipaehjaa", sum := "4c7001fe3ad101b2c3ff3c41c0d967586cbf91e7f59c0b9599b987c316f80ade", func := "tandem/tandemlaw16.LeaseTells", spec := "leaseTells", apart := false, narrowed := true }
def LeaseTellsUptoSaid : Prop := leaseTellsUptoRow.holds Try.pinned (OpenSpec.upto leaseTellsSpec)

/-- 'tandemlaw16.LeaseEnds', WHERE WHAT IT READS IS OF BULK AT MOST 1048576: true; the input reads as it did. -/
def leaseEndsUptoRow : OpenClaim := { program := "ytakblaaipaehjaa", sum := "4c7001fe3ad101b2c3ff3c41c0d967586cbf91e7f59c0b9599b987c316f80ade", func := "tandem/tandemlaw16.LeaseEnds", spec := "leaseEnds", apart := false, narrowed := true }
def LeaseEndsUptoSaid : Prop := leaseEndsUptoRow.holds Try.pinned (OpenSpec.upto leaseEndsSpec)

/-- 'tandemlaw16.LeaseKeeps', WHERE WHAT IT READS IS OF BULK AT MOST 1048576: true; the input reads as it did. -/
def leaseKeepsUptoRow : OpenClaim := { program := "ytakblaaipaehjaa", sum := "4c7001fe3ad101b2c3ff3c41c0d967586cbf91e7f59c0b9599b987c316f80ade", func := "tandem/tandemlaw16.LeaseKeeps", spec := "leaseKeeps", apart := false, narrowed := true }
def LeaseKeepsUptoSaid : Prop := leaseKeepsUptoRow.holds Try.pinned (OpenSpec.upto leaseKeepsSpec)

/-- 'tandemlaw16.LeaseKnown', WHERE WHAT IT READS IS OF BULK AT MOST 1048576: true; the input reads as it did. -/
def leaseKnownUptoRow : OpenClaim := { program := "ytakblaaipaehjaa", sum := "4c7001fe3ad101b2c3ff3c41c0d967586cbf91e7f59c0b9599b987c316f80ade", func := "tandem/tandemlaw16.LeaseKnown", spec := "leaseKnown", apart := false, narrowed := true }
def LeaseKnownUptoSaid : Prop := leaseKnownUptoRow.holds Try.pinned (OpenSpec.upto leaseKnownSpec)

/-- 'tandemlaw16.LeaseApart', WHERE WHAT IT READS IS OF BULK AT MOST 1048576: true; the input reads as it did. -/
def leaseApartUptoRow : OpenClaim := { program := "ytakblaaipaehjaa", sum := "4c7001fe3ad101b2c3ff3c41c0d967586cbf91e7f59c0b9599b987c316f80ade", func := "tandem/tandemlaw16.LeaseApart", spec := "leaseApart", apart := false, narrowed := true }
def LeaseApartUptoSaid : Prop := leaseApartUptoRow.holds Try.pinned (OpenSpec.upto leaseApartSpec)

/-- 'tandemlaw16.LeaseOne', WHERE WHAT IT READS IS OF BULK AT MOST 1048576: true; the input reads as it did. -/
def leaseOneUptoRow : OpenClaim := { program := "ytakblaaipaehjaa", sum := "4c7001fe3ad101b2c3ff3c41c0d967586cbf91e7f59c0b9599b987c316f80ade", func := "tandem/tandemlaw16.LeaseOne", spec := "leaseOne", apart := false, narrowed := true }
def LeaseOneUptoSaid : Prop := leaseOneUptoRow.holds Try.pinned (OpenSpec.upto leaseOneSpec)

/-- 'tandemlaw17.RecordTells', WHERE WHAT IT READS IS OF BULK AT MOST 1048576: true; the input reads as it did. -/
def recordTellsUptoRow : OpenClaim := { program := "ytakblaaipaehjaa", sum := "4c7001fe3ad101b2c3ff3c41c0d967586cbf91e7f59c0b9599b987c316f80ade", func := "tandem/tandemlaw17.RecordTells", spec := "recordTells", apart := false, narrowed := true }
def RecordTellsUptoSaid : Prop := recordTellsUptoRow.holds Try.pinned (OpenSpec.upto recordTellsSpec)

/-- 'tandemlaw17.RecordNexts', WHERE WHAT IT READS IS OF BULK AT MOST 1048576: true; the input reads as it did. -/
def recordNextsUptoRow : OpenClaim := { program := "ytakblaaipaehjaa", sum := "4c7001fe3ad101b2c3ff3c41c0d967586cbf91e7f59c0b9599b987c316f80ade", func := "tandem/tandemlaw17.RecordNexts", spec := "recordNexts", apart := false, narrowed := true }
def RecordNextsUptoSaid : Prop := recordNextsUptoRow.holds Try.pinned (OpenSpec.upto recordNextsSpec)

/-- 'tandemlaw17.RecordKnown', WHERE WHAT IT READS IS OF BULK AT MOST 1048576: true; the input reads as it did. -/
def recordKnownUptoRow : OpenClaim := { program := "ytakblaaipaehjaa", sum := "4c7001fe3ad101b2c3ff3c41c0d967586cbf91e7f59c0b9599b987c316f80ade", func := "tandem/tandemlaw17.RecordKnown", spec := "recordKnown", apart := false, narrowed := true }
def RecordKnownUptoSaid : Prop := recordKnownUptoRow.holds Try.pinned (OpenSpec.upto recordKnownSpec)

/-- 'tandemlaw17.RecordOrder', WHERE WHAT IT READS IS OF BULK AT MOST 1048576: true; the input reads as it did. -/
def recordOrderUptoRow : OpenClaim := { program := "ytakblaaipaehjaa", sum := "4c7001fe3ad101b2c3ff3c41c0d967586cbf91e7f59c0b9599b987c316f80ade", func := "tandem/tandemlaw17.RecordOrder", spec := "recordOrder", apart := false, narrowed := true }
def RecordOrderUptoSaid : Prop := recordOrderUptoRow.holds Try.pinned (OpenSpec.upto recordOrderSpec)

/-- 'tandemlaw17.RecordMost', WHERE WHAT IT READS IS OF BULK AT MOST 1048576: true; the input reads as it did. -/
def recordMostUptoRow : OpenClaim := { program := "ytakblaaipaehjaa", sum := "4c7001fe3ad101b2c3ff3c41c0d967586cbf91e7f59c0b9599b987c316f80ade", func := "tandem/tandemlaw17.RecordMost", spec := "recordMost", apart := false, narrowed := true }
def RecordMostUptoSaid : Prop := recordMostUptoRow.holds Try.pinned (OpenSpec.upto recordMostSpec)

/-- 'tandemlaw17.RecordSafe', WHERE WHAT IT READS IS OF BULK AT MOST 1048576: true; the input reads as it did. -/
def recordSafeUptoRow : OpenClaim := { program := "ytakblaaipaehjaa", sum := "4c7001fe3ad101b2c3ff3c41c0d967586cbf91e7f59c0b9599b987c316f80ade", func := "tandem/tandemlaw17.RecordSafe", spec := "recordSafe", apart := false, narrowed := true }
def RecordSafeUptoSaid : Prop := recordSafeUptoRow.holds Try.pinned (OpenSpec.upto recordSafeSpec)

end Rows
end Go.Proofs.Ytakblaaipaehjaa
