/-
  No cell of these rows narrows 'for every input' (looked for: loops, veiled, ifaces, maps, wideKeys, modest, calm, conditions, laid).
  DERIVED. THE GIVEN ROWS OF THIS SEAT. 12 by the template 'for every input the law returns true; each argument reads behind the call as it read before'; 0 by the template 'total and deterministic' (their statements: YtoiceofneelphaaTotals.lean).
  GIVEN WITH THE SEED: the statements are not yours to turn. If you find one false, say at which input.
  Laid BY PROGRAM, IN A SANDBOX (cutbox-rows.mjs): the forced cells as the released guide's own fill.sh prints them over the translation 12dd63a07eba9582… (all of the seat's roots in one cut). By AI agents, Wed Nov 11 2026. No macro, syntax, notation, axiom, sorry.
-/
import Derived.Test.YtoiceofneelphaaChecked
import GoSem.Claim
import GoSem.ClaimJoined
import GoSem.ClaimMapViews
import Derived.JoinedTies
import Derived.KernelRfl
namespace Go.Proofs.Ytoiceofneelphaa
/- THE CELL 'sum', in the pinned program and in every row, IS THE sha256 OF THE DUMP (.gsa) THAT YtoiceofneelphaaProg.lean LOADS. Nothing in Lean hashes anything: it is a label: what it is worth is what the hold of that sum in a sandbox is worth. -/
noncomputable def Try.pinned : Pinned := { name := "ytoiceofneelphaa", sum := "12dd63a07eba95826d5686ddcb99addd97b227dae77dbbdb490e2641f128aa13", checked := Try.checked }
namespace Rows
def none {H : Type} : Left H := { results := [], args := [] }

/-- 'tandemlaw19.ElectRaces': WHATEVER THE INPUT: true; the input reads as it did. -/
def electRacesSpec : ChangeSpec := { name := "electRaces", fn := fun _ => fun
  | [d1, d2, d3, d4] => { results := [.lit (.bool true)], args := [d1, d2, d3, d4] }
  | _ => none }
def electRacesRow : OpenClaim := { program := "ytoiceofneelphaa", sum := "12dd63a07eba95826d5686ddcb99addd97b227dae77dbbdb490e2641f128aa13", func := "tandem/tandemlaw19.ElectRaces", spec := "electRaces", apart := false }
def ElectRacesSaid : Prop := electRacesRow.holds Try.pinned (OpenSpec.ofChange electRacesSpec)

/-- ITS FALSE NEIGHBOUR: 'it returns false'. Refute it at one input. -/
def electRacesWrong : ChangeSpec := { name := "electRaces", fn := fun _ => fun
  | [d1, d2, d3, d4] => { results := [.lit (.bool false)], args := [d1, d2, d3, d4] }
  | _ => none }
def ElectRacesWrongFalsely : Prop := electRacesRow.holds Try.pinned (OpenSpec.ofChange electRacesWrong)

/-- 'tandemlaw19.ElectDue': WHATEVER THE INPUT: true; the input reads as it did. -/
def electDueSpec : ChangeSpec := { name := "electDue", fn := fun _ => fun
  | [d1, d2, d3] => { results := [.lit (.bool true)], args := [d1, d2, d3] }
  | _ => none }
def electDueRow : OpenClaim := { program := "ytoiceofneelphaa", sum := "12dd63a07eba95826d5686ddcb99addd97b227dae77dbbdb490e2641f128aa13", func := "tandem/tandemlaw19.ElectDue", spec := "electDue", apart := false }
def ElectDueSaid : Prop := electDueRow.holds Try.pinned (OpenSpec.ofChange electDueSpec)

/-- ITS FALSE NEIGHBOUR: 'it returns false'. Refute it at one input. -/
def electDueWrong : ChangeSpec := { name := "electDue", fn := fun _ => fun
  | [d1, d2, d3] => { results := [.lit (.bool false)], args := [d1, d2, d3] }
  | _ => none }
def ElectDueWrongFalsely : Prop := electDueRow.holds Try.pinned (OpenSpec.ofChange electDueWrong)

/-- 'tandemlaw19.ElectNone': WHATEVER THE INPUT: true; the input reads as it did. -/
def electNoneSpec : ChangeSpec := { name := "electNone", fn := fun _ => fun
  | [d1, d2, d3] => { results := [.lit (.bool true)], args := [d1, d2, d3] }
  | _ => none }
def electNoneRow : OpenClaim := { program := "ytoiceofneelphaa", sum := "12dd63a07eba95826d5686ddcb99addd97b227dae77dbbdb490e2641f128aa13", func := "tandem/tandemlaw19.ElectNone", spec := "electNone", apart := false }
def ElectNoneSaid : Prop := electNoneRow.holds Try.pinned (OpenSpec.ofChange electNoneSpec)

/-- ITS FALSE NEIGHBOUR: 'it returns false'. Refute it at one input. -/
def electNoneWrong : ChangeSpec := { name := "electNone", fn := fun _ => fun
  | [d1, d2, d3] => { results := [.lit (.bool false)], args := [d1, d2, d3] }
  | _ => none }
def ElectNoneWrongFalsely : Prop := electNoneRow.holds Try.pinned (OpenSpec.ofChange electNoneWrong)

/-- 'tandemlaw19.ElectHolds': WHATEVER THE INPUT: true; the input reads as it did. -/
def electHoldsSpec : ChangeSpec := { name := "electHolds", fn := fun _ => fun
  | [d1, d2, d3, d4] => { results := [.lit (.bool true)], args := [d1, d2, d3, d4] }
  | _ => none }
def electHoldsRow : OpenClaim := { program := "ytoiceofneelphaa", sum := "12dd63a07eba95826d5686ddcb99addd97b227dae77dbbdb490e2641f128aa13", func := "tandem/tandemlaw19.ElectHolds", spec := "electHolds", apart := false }
def ElectHoldsSaid : Prop := electHoldsRow.holds Try.pinned (OpenSpec.ofChange electHoldsSpec)

/-- ITS FALSE NEIGHBOUR: 'it returns false'. Refute it at one input. -/
def electHoldsWrong : ChangeSpec := { name := "electHolds", fn := fun _ => fun
  | [d1, d2, d3, d4] => { results := [.lit (.bool false)], args := [d1, d2, d3, d4] }
  | _ => none }
def ElectHoldsWrongFalsely : Prop := electHoldsRow.holds Try.pinned (OpenSpec.ofChange electHoldsWrong)

/-- 'tandemlaw19.ElectKnown': WHATEVER THE INPUT: true; the input reads as it did. -/
def electKnownSpec : ChangeSpec := { name := "electKnown", fn := fun _ => fun
  | [] => { results := [.lit (.bool true)], args := [] }
  | _ => none }
def electKnownRow : OpenClaim := { program := "ytoiceofneelphaa", sum := "12dd63a07eba95826d5686ddcb99addd97b227dae77dbbdb490e2641f128aa13", func := "tandem/tandemlaw19.ElectKnown", spec := "electKnown", apart := false }
def ElectKnownSaid : Prop := electKnownRow.holds Try.pinned (OpenSpec.ofChange electKnownSpec)

/-- ITS FALSE NEIGHBOUR: 'it returns false'. Refute it at one input. -/
def electKnownWrong : ChangeSpec := { name := "electKnown", fn := fun _ => fun
  | [] => { results := [.lit (.bool false)], args := [] }
  | _ => none }
def ElectKnownWrongFalsely : Prop := electKnownRow.holds Try.pinned (OpenSpec.ofChange electKnownWrong)

/-- 'tandemlaw19.ElectOne': WHATEVER THE INPUT: true; the input reads as it did. -/
def electOneSpec : ChangeSpec := { name := "electOne", fn := fun _ => fun
  | [d1, d2, d3, d4, d5] => { results := [.lit (.bool true)], args := [d1, d2, d3, d4, d5] }
  | _ => none }
def electOneRow : OpenClaim := { program := "ytoiceofneelphaa", sum := "12dd63a07eba95826d5686ddcb99addd97b227dae77dbbdb490e2641f128aa13", func := "tandem/tandemlaw19.ElectOne", spec := "electOne", apart := false }
def ElectOneSaid : Prop := electOneRow.holds Try.pinned (OpenSpec.ofChange electOneSpec)

/-- ITS FALSE NEIGHBOUR: 'it returns false'. Refute it at one input. -/
def electOneWrong : ChangeSpec := { name := "electOne", fn := fun _ => fun
  | [d1, d2, d3, d4, d5] => { results := [.lit (.bool false)], args := [d1, d2, d3, d4, d5] }
  | _ => none }
def ElectOneWrongFalsely : Prop := electOneRow.holds Try.pinned (OpenSpec.ofChange electOneWrong)

/-- 'tandemlaw18.VoterKnown': WHATEVER THE INPUT: true; the input reads as it did. -/
def voterKnownSpec : ChangeSpec := { name := "voterKnown", fn := fun _ => fun
  | [] => { results := [.lit (.bool true)], args := [] }
  | _ => none }
def voterKnownRow : OpenClaim := { program := "ytoiceofneelphaa", sum := "12dd63a07eba95826d5686ddcb99addd97b227dae77dbbdb490e2641f128aa13", func := "tandem/tandemlaw18.VoterKnown", spec := "voterKnown", unfollowed := true, recurses := true, apart := false }
def VoterKnownSaid : Prop := voterKnownRow.holds Try.pinned (OpenSpec.ofChange voterKnownSpec)

/-- ITS FALSE NEIGHBOUR: 'it returns false'. Refute it at one input. -/
def voterKnownWrong : ChangeSpec := { name := "voterKnown", fn := fun _ => fun
  | [] => { results := [.lit (.bool false)], args := [] }
  | _ => none }
def VoterKnownWrongFalsely : Prop := voterKnownRow.holds Try.pinned (OpenSpec.ofChange voterKnownWrong)

/-- 'tandemlaw18.VoterLives': WHATEVER THE INPUT: true; the input reads as it did. -/
def voterLivesSpec : ChangeSpec := { name := "voterLives", fn := fun _ => fun
  | [d1, d2, d3, d4] => { results := [.lit (.bool true)], args := [d1, d2, d3, d4] }
  | _ => none }
def voterLivesRow : OpenClaim := { program := "ytoiceofneelphaa", sum := "12dd63a07eba95826d5686ddcb99addd97b227dae77dbbdb490e2641f128aa13", func := "tandem/tandemlaw18.VoterLives", spec := "voterLives", unfollowed := true, recurses := true, apart := false }
def VoterLivesSaid : Prop := voterLivesRow.holds Try.pinned (OpenSpec.ofChange voterLivesSpec)

/-- ITS FALSE NEIGHBOUR: 'it returns false'. Refute it at one input. -/
def voterLivesWrong : ChangeSpec := { name := "voterLives", fn := fun _ => fun
  | [d1, d2, d3, d4] => { results := [.lit (.bool false)], args := [d1, d2, d3, d4] }
  | _ => none }
def VoterLivesWrongFalsely : Prop := voterLivesRow.holds Try.pinned (OpenSpec.ofChange voterLivesWrong)

/-- 'tandemlaw18.VoterScript': WHATEVER THE INPUT: true; the input reads as it did. -/
def voterScriptSpec : ChangeSpec := { name := "voterScript", fn := fun _ => fun
  | [d1, d2, d3, d4] => { results := [.lit (.bool true)], args := [d1, d2, d3, d4] }
  | _ => none }
def voterScriptRow : OpenClaim := { program := "ytoiceofneelphaa", sum := "12dd63a07eba95826d5686ddcb99addd97b227dae77dbbdb490e2641f128aa13", func := "tandem/tandemlaw18.VoterScript", spec := "voterScript", unfollowed := true, recurses := true, apart := false }
def VoterScriptSaid : Prop := voterScriptRow.holds Try.pinned (OpenSpec.ofChange voterScriptSpec)

/-- ITS FALSE NEIGHBOUR: 'it returns false'. Refute it at one input. -/
def voterScriptWrong : ChangeSpec := { name := "voterScript", fn := fun _ => fun
  | [d1, d2, d3, d4] => { results := [.lit (.bool false)], args := [d1, d2, d3, d4] }
  | _ => none }
def VoterScriptWrongFalsely : Prop := voterScriptRow.holds Try.pinned (OpenSpec.ofChange voterScriptWrong)

/-- 'tandemlaw18.VoterNone': WHATEVER THE INPUT: true; the input reads as it did. -/
def voterNoneSpec : ChangeSpec := { name := "voterNone", fn := fun _ => fun
  | [d] => { results := [.lit (.bool true)], args := [d] }
  | _ => none }
def voterNoneRow : OpenClaim := { program := "ytoiceofneelphaa", sum := "12dd63a07eba95826d5686ddcb99addd97b227dae77dbbdb490e2641f128aa13", func := "tandem/tandemlaw18.VoterNone", spec := "voterNone", unfollowed := true, recurses := true, apart := false }
def VoterNoneSaid : Prop := voterNoneRow.holds Try.pinned (OpenSpec.ofChange voterNoneSpec)

/-- ITS FALSE NEIGHBOUR: 'it returns false'. Refute it at one input. -/
def voterNoneWrong : ChangeSpec := { name := "voterNone", fn := fun _ => fun
  | [d] => { results := [.lit (.bool false)], args := [d] }
  | _ => none }
def VoterNoneWrongFalsely : Prop := voterNoneRow.holds Try.pinned (OpenSpec.ofChange voterNoneWrong)

/-- 'tandemlaw18.VoterOne': WHATEVER THE INPUT: true; the input reads as it did. -/
def voterOneSpec : ChangeSpec := { name := "voterOne", fn := fun _ => fun
  | [d1, d2, d3, d4] => { results := [.lit (.bool true)], args := [d1, d2, d3, d4] }
  | _ => none }
def voterOneRow : OpenClaim := { program := "ytoiceofneelphaa", sum := "12dd63a07eba95826d5686ddcb99addd97b227dae77dbbdb490e2641f128aa13", func := "tandem/tandemlaw18.VoterOne", spec := "voterOne", unfollowed := true, recurses := true, apart := false }
def VoterOneSaid : Prop := voterOneRow.holds Try.pinned (OpenSpec.ofChange voterOneSpec)

/-- ITS FALSE NEIGHBOUR: 'it returns false'. Refute it at one input. -/
def voterOneWrong : ChangeSpec := { name := "voterOne", fn := fun _ => fun
  | [d1, d2, d3, d4] => { results := [.lit (.bool false)], args := [d1, d2, d3, d4] }
  | _ => none }
def VoterOneWrongFalsely : Prop := voterOneRow.holds Try.pinned (OpenSpec.ofChange voterOneWrong)

/-- 'tandemlaw19.ElectApart': WHATEVER THE INPUT: true; the input reads as it did. -/
def electApartSpec : ChangeSpec := { name := "electApart", fn := fun _ => fun
  | [d] => { results := [.lit (.bool true)], args := [d] }
  | _ => none }
def electApartRow : OpenClaim := { program := "ytoiceofneelphaa", sum := "12dd63a07eba95826d5686ddcb99addd97b227dae77dbbdb490e2641f128aa13", func := "tandem/tandemlaw19.ElectApart", spec := "electApart", unfollowed := true, recurses := true, apart := false }
def ElectApartSaid : Prop := electApartRow.holds Try.pinned (OpenSpec.ofChange electApartSpec)

/-- ITS FALSE NEIGHBOUR: 'it returns false'. Refute it at one input. -/
def electApartWrong : ChangeSpec := { name := "electApart", fn := fun _ => fun
  | [d] => { results := [.lit (.bool false)], args := [d] }
  | _ => none }
def ElectApartWrongFalsely : Prop := electApartRow.holds Try.pinned (OpenSpec.ofChange electApartWrong)

/- THE SECOND FORM. 'bulk': how many values and letters a reading holds, each counted each time it is reached (what is shared counts as often as it is met; a slice's spare places count too). A statement '..UptoSaid' is the law's where the arguments, and the package variables that the reading takes, are together of bulk at most 1048576: NARROWER than '..Said'. Prove '..Said' where nothing that the law and all that it calls make is longer than what came in: it says more and counts as full. Else prove '..UptoSaid'. A law counts once. -/
mutual
def uptoBulk {H : Type} : DataW H → Nat
  | .lit (.string bytes) => bytes.length + 1
  | .lit _ => 1
  | .nil => 1
  | .ptr d => uptoBulk d + 1
  | .slice elems spare => uptoBulkAll elems + uptoBulkAll spare + 1
  | .agg parts => uptoBulkAll parts + 1
  | .iface _ d => uptoBulk d + 1
  | .map entries => uptoBulkEntries entries + 1
  | .held _ => 1
def uptoBulkAll {H : Type} : List (DataW H) → Nat
  | [] => 0
  | d :: r => uptoBulk d + uptoBulkAll r
def uptoBulkEntries {H : Type} : List (Lit × DataW H) → Nat
  | [] => 0
  | x :: r => uptoBulkEntry x + uptoBulkEntries r
def uptoBulkEntry {H : Type} : Lit × DataW H → Nat
  | (.string bytes, d) => bytes.length + uptoBulk d + 1
  | (_, d) => uptoBulk d + 1
 end
def uptoSmall : (H : Type) → List (DataW H) → Bool := fun _ ds => decide (uptoBulkAll ds ≤ 1048576)
def OpenSpec.upto (s : _root_.Go.ChangeSpec) : _root_.Go.OpenSpec := { _root_.Go.OpenSpec.ofChange s with cond := some uptoSmall }

/-- 'tandemlaw19.ElectRaces', WHERE WHAT IT READS IS OF BULK AT MOST 1048576: true; the input reads as it did. -/
def electRacesUptoRow : OpenClaim := { program := "ytoiceofneelphaa", sum := "12dd63a07eba95826d5686ddcb99addd97b227dae77dbbdb490e2641f128aa13", func := "tandem/tandemlaw19.ElectRaces", spec := "electRaces", apart := false, narrowed := true }
def ElectRacesUptoSaid : Prop := electRacesUptoRow.holds Try.pinned (OpenSpec.upto electRacesSpec)

/-- 'tandemlaw19.ElectDue', WHERE WHAT IT READS IS OF BULK AT MOST 1048576: true; the input reads as it did. -/
def electDueUptoRow : OpenClaim := { program := "ytoiceofneelphaa", sum := "12dd63a07eba95826d5686ddcb99addd97b227dae77dbbdb490e2641f128aa13", func := "tandem/tandemlaw19.ElectDue", spec := "electDue", apart := false, narrowed := true }
def ElectDueUptoSaid : Prop := electDueUptoRow.holds Try.pinned (OpenSpec.upto electDueSpec)

/-- 'tandemlaw19.ElectNone', WHERE WHAT IT READS IS OF BULK AT MOST 1048576: true; the input reads as it did. -/
def electNoneUptoRow : OpenClaim := { program := "ytoiceofneelphaa", sum := "12dd63a07eba95826d5686ddcb99addd97b227dae77dbbdb490e2641f128aa13", func := "tandem/tandemlaw19.ElectNone", spec := "electNone", apart := false, narrowed := true }
def ElectNoneUptoSaid : Prop := electNoneUptoRow.holds Try.pinned (OpenSpec.upto electNoneSpec)

/-- 'tandemlaw19.ElectHolds', WHERE WHAT IT READS IS OF BULK AT MOST 1048576: true; the input reads as it did. -/
def electHoldsUptoRow : OpenClaim := { program := "ytoiceofneelphaa", sum := "12dd63a07eba95826d5686ddcb99addd97b227dae77dbbdb490e2641f128aa13", func := "tandem/tandemlaw19.ElectHolds", spec := "electHolds", apart := false, narrowed := true }
def ElectHoldsUptoSaid : Prop := electHoldsUptoRow.holds Try.pinned (OpenSpec.upto electHoldsSpec)

/-- 'tandemlaw19.ElectKnown', WHERE WHAT IT READS IS OF BULK AT MOST 1048576: true; the input reads as it did. -/
def electKnownUptoRow : OpenClaim := { program := "ytoiceofneelphaa", sum := "12dd63a07eba95826d5686ddcb99addd97b227dae77dbbdb490e2641f128aa13", func := "tandem/tandemlaw19.ElectKnown", spec := "electKnown", apart := false, narrowed := true }
def ElectKnownUptoSaid : Prop := electKnownUptoRow.holds Try.pinned (OpenSpec.upto electKnownSpec)

/-- 'tandemlaw19.ElectOne', WHERE WHAT IT READS IS OF BULK AT MOST 1048576: true; the input reads as it did. -/
def electOneUptoRow : OpenClaim := { program := "ytoiceofneelphaa", sum := "12dd63a07eba95826d5686ddcb99addd97b227dae77dbbdb490e2641f128aa13", func := "tandem/tandemlaw19.ElectOne", spec := "electOne", apart := false, narrowed := true }
def ElectOneUptoSaid : Prop := electOneUptoRow.holds Try.pinned (OpenSpec.upto electOneSpec)

/-- 'tandemlaw18.VoterKnown', WHERE WHAT IT READS IS OF BULK AT MOST 1048576: true; the input reads as it did. -/
def voterKnownUptoRow : OpenClaim := { program := "ytoiceofneelphaa", sum := "12dd63a07eba95826d5686ddcb99addd97b227dae77dbbdb490e2641f128aa13", func := "tandem/tandemlaw18.VoterKnown", spec := "voterKnown", unfollowed := true, recurses := true, apart := false, narrowed := true }
def VoterKnownUptoSaid : Prop := voterKnownUptoRow.holds Try.pinned (OpenSpec.upto voterKnownSpec)

/-- 'tandemlaw18.VoterLives', WHERE WHAT IT READS IS OF BULK AT MOST 1048576: true; the input reads as it did. -/
def voterLivesUptoRow : OpenClaim := { program := "ytoiceofneelphaa", sum := "12dd63a07eba95826d5686ddcb99addd97b227dae77dbbdb490e2641f128aa13", func := "tandem/tandemlaw18.VoterLives", spec := "voterLives", unfollowed := true, recurses := true, apart := false, narrowed := true }
def VoterLivesUptoSaid : Prop := voterLivesUptoRow.holds Try.pinned (OpenSpec.upto voterLivesSpec)

/-- 'tandemlaw18.VoterScript', WHERE WHAT IT READS IS OF BULK AT MOST 1048576: true; the input reads as it did. -/
def voterScriptUptoRow : OpenClaim := { program := "ytoiceofneelphaa", sum := "12dd63a07eba95826d5686ddcb99addd97b227dae77dbbdb490e2641f128aa13", func := "tandem/tandemlaw18.VoterScript", spec := "voterScript", unfollowed := true, recurses := true, apart := false, narrowed := true }
def VoterScriptUptoSaid : Prop := voterScriptUptoRow.holds Try.pinned (OpenSpec.upto voterScriptSpec)

/-- 'tandemlaw18.VoterNone', WHERE WHAT IT READS IS OF BULK AT MOST 1048576: true; the input reads as it did. -/
def voterNoneUptoRow : OpenClaim := { program := "ytoiceofneelphaa", sum := "12dd63a07eba95826d5686ddcb99addd97b227dae77dbbdb490e2641f128aa13", func := "tandem/tandemlaw18.VoterNone", spec := "voterNone", unfollowed := true, recurses := true, apart := false, narrowed := true }
def VoterNoneUptoSaid : Prop := voterNoneUptoRow.holds Try.pinned (OpenSpec.upto voterNoneSpec)

/-- 'tandemlaw18.VoterOne', WHERE WHAT IT READS IS OF BULK AT MOST 1048576: true; the input reads as it did. -/
def voterOneUptoRow : OpenClaim := { program := "ytoiceofneelphaa", sum := "12dd63a07eba95826d5686ddcb99addd97b227dae77dbbdb490e2641f128aa13", func := "tandem/tandemlaw18.VoterOne", spec := "voterOne", unfollowed := true, recurses := true, apart := false, narrowed := true }
def VoterOneUptoSaid : Prop := voterOneUptoRow.holds Try.pinned (OpenSpec.upto voterOneSpec)

/-- 'tandemlaw19.ElectApart', WHERE WHAT IT READS IS OF BULK AT MOST 1048576: true; the input reads as it did. -/
def electApartUptoRow : OpenClaim := { program := "ytoiceofneelphaa", sum := "12dd63a07eba95826d5686ddcb99addd97b227dae77dbbdb490e2641f128aa13", func := "tandem/tandemlaw19.ElectApart", spec := "electApart", unfollowed := true, recurses := true, apart := false, narrowed := true }
def ElectApartUptoSaid : Prop := electApartUptoRow.holds Try.pinned (OpenSpec.upto electApartSpec)

end Rows
end Go.Proofs.Ytoiceofneelphaa
