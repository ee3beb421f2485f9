/-
  No cell of these rows narrows 'for every input' (looked for: loops, veiled, ifaces, maps, wideKeys, modest, calm, conditions, laid).
  DERIVED. THE GIVEN ROWS OF THIS SEAT. 3 by the template 'for every input the law returns true; each argument reads behind the call as it read before'; 0 by the template 'total and deterministic' (their statements: YthcfmcmmmpfjoaaTotals.lean).
  GIVEN WITH THE SEED: the statements are not yours to turn. If you find one false, say at which input.
  Laid BY PROGRAM, IN A SANDBOX (cutbox-rows.mjs): the forced cells as the released guide's own fill.sh prints them over the translation 627ceea5d51068a3… (all of the seat's roots in one cut). By AI agents, Wed Nov 11 2026. No macro, syntax, notation, axiom, sorry.
-/
import Derived.Test.YthcfmcmmmpfjoaaChecked
import GoSem.Claim
import GoSem.ClaimJoined
import GoSem.ClaimMapViews
import Derived.JoinedTies
import Derived.KernelRfl
namespace Go.Proofs.Ythcfmcmmmpfjoaa
/- THE CELL 'sum', in the pinned program and in every row, IS THE sha256 OF THE DUMP (.gsa) THAT YthcfmcmmmpfjoaaProg.lean LOADS. Nothing in Lean hashes anything: it is a label: what it is worth is what the hold of that sum in a sandbox is worth. -/
noncomputable def Try.pinned : Pinned := { name := "ythcfmcmmmpfjoaa", sum := "627ceea5d51068a3ac4c7933c531d170213b90e856bcd8a9e24c8b14961f04cb", checked := Try.checked }
namespace Rows
def none {H : Type} : Left H := { results := [], args := [] }

/-- 'sherdlaw40.AgreeMarks': WHATEVER THE INPUT: true; the input reads as it did. -/
def agreeMarksSpec : ChangeSpec := { name := "agreeMarks", fn := fun _ => fun
  | [d1, d2, d3] => { results := [.lit (.bool true)], args := [d1, d2, d3] }
  | _ => none }
def agreeMarksRow : OpenClaim := { program := "ythcfmcmmmpfjoaa", sum := "627ceea5d51068a3ac4c7933c531d170213b90e856bcd8a9e24c8b14961f04cb", func := "sherd/sherdlaw40.AgreeMarks", spec := "agreeMarks", unfollowed := true, recurses := true, apart := false }
def AgreeMarksSaid : Prop := agreeMarksRow.holds Try.pinned (OpenSpec.ofChange agreeMarksSpec)

/-- ITS FALSE NEIGHBOUR: 'it returns false'. Refute it at one input. -/
def agreeMarksWrong : ChangeSpec := { name := "agreeMarks", fn := fun _ => fun
  | [d1, d2, d3] => { results := [.lit (.bool false)], args := [d1, d2, d3] }
  | _ => none }
def AgreeMarksWrongFalsely : Prop := agreeMarksRow.holds Try.pinned (OpenSpec.ofChange agreeMarksWrong)

/-- 'sherdlaw40.AgreeEnds': WHATEVER THE INPUT: true; the input reads as it did. -/
def agreeEndsSpec : ChangeSpec := { name := "agreeEnds", fn := fun _ => fun
  | [d1, d2, d3] => { results := [.lit (.bool true)], args := [d1, d2, d3] }
  | _ => none }
def agreeEndsRow : OpenClaim := { program := "ythcfmcmmmpfjoaa", sum := "627ceea5d51068a3ac4c7933c531d170213b90e856bcd8a9e24c8b14961f04cb", func := "sherd/sherdlaw40.AgreeEnds", spec := "agreeEnds", unfollowed := true, recurses := true, apart := false }
def AgreeEndsSaid : Prop := agreeEndsRow.holds Try.pinned (OpenSpec.ofChange agreeEndsSpec)

/-- ITS FALSE NEIGHBOUR: 'it returns false'. Refute it at one input. -/
def agreeEndsWrong : ChangeSpec := { name := "agreeEnds", fn := fun _ => fun
  | [d1, d2, d3] => { results := [.lit (.bool false)], args := [d1, d2, d3] }
  | _ => none }
def AgreeEndsWrongFalsely : Prop := agreeEndsRow.holds Try.pinned (OpenSpec.ofChange agreeEndsWrong)

/-- 'sherdlaw40.AgreeTwice': WHATEVER THE INPUT: true; the input reads as it did. -/
def agreeTwiceSpec : ChangeSpec := { name := "agreeTwice", fn := fun _ => fun
  | [d1, d2, d3] => { results := [.lit (.bool true)], args := [d1, d2, d3] }
  | _ => none }
def agreeTwiceRow : OpenClaim := { program := "ythcfmcmmmpfjoaa", sum := "627ceea5d51068a3ac4c7933c531d170213b90e856bcd8a9e24c8b14961f04cb", func := "sherd/sherdlaw40.AgreeTwice", spec := "agreeTwice", unfollowed := true, recurses := true, apart := false }
def AgreeTwiceSaid : Prop := agreeTwiceRow.holds Try.pinned (OpenSpec.ofChange agreeTwiceSpec)

/-- ITS FALSE NEIGHBOUR: 'it returns false'. Refute it at one input. -/
def agreeTwiceWrong : ChangeSpec := { name := "agreeTwice", fn := fun _ => fun
  | [d1, d2, d3] => { results := [.lit (.bool false)], args := [d1, d2, d3] }
  | _ => none }
def AgreeTwiceWrongFalsely : Prop := agreeTwiceRow.holds Try.pinned (OpenSpec.ofChange agreeTwiceWrong)

/- THE SECOND FORM. 'bulk': how many values and letters a reading holds, each counted each time it is reached (what is shared counts as often as it is met; a slice's spare places count too). A statement '..UptoSaid' is the law's where the arguments, and the package variables that the reading takes, are together of bulk at most 1048576: NARROWER than '..Said'. Prove '..Said' where nothing that the law and all that it calls make is longer than what came in: it says more and counts as full. Else prove '..UptoSaid'. A law counts once. -/
mutual
def uptoBulk {H : Type} : DataW H → Nat
  | .lit (.string bytes) => bytes.length + 1
  | .lit _ => 1
  | .nil => 1
  | .ptr d => uptoBulk d + 1
  | .slice elems spare => uptoBulkAll elems + uptoBulkAll spare + 1
  | .agg parts => uptoBulkAll parts + 1
  | .iface _ d => uptoBulk d + 1
  | .map entries => uptoBulkEntries entries + 1
  | .held _ => 1
def uptoBulkAll {H : Type} : List (DataW H) → Nat
  | [] => 0
  | d :: r => uptoBulk d + uptoBulkAll r
def uptoBulkEntries {H : Type} : List (Lit × DataW H) → Nat
  | [] => 0
  | x :: r => uptoBulkEntry x + uptoBulkEntries r
def uptoBulkEntry {H : Type} : Lit × DataW H → Nat
  | (.string bytes, d) => bytes.length + uptoBulk d + 1
  | (_, d) => uptoBulk d + 1
 end
def uptoSmall : (H : Type) → List (DataW H) → Bool := fun _ ds => decide (uptoBulkAll ds ≤ 1048576)
def OpenSpec.upto (s : _root_.Go.ChangeSpec) : _root_.Go.OpenSpec := { _root_.Go.OpenSpec.ofChange s with cond := some uptoSmall }

/-- 'sherdlaw40.AgreeMarks', WHERE WHAT IT READS IS OF BULK AT MOST 1048576: true; the input reads as it did. -/
def agreeMarksUptoRow : OpenClaim := { program := "ythcfmcmmmpfjoaa", sum := "627ceea5d51068a3ac4c7933c531d170213b90e856bcd8a9e24c8b14961f04cb", func := "sherd/sherdlaw40.AgreeMarks", spec := "agreeMarks", unfollowed := true, recurses := true, apart := false, narrowed := true }
def AgreeMarksUptoSaid : Prop := agreeMarksUptoRow.holds Try.pinned (OpenSpec.upto agreeMarksSpec)

/-- 'sherdlaw40.AgreeEnds', WHERE WHAT IT READS IS OF BULK AT MOST 1048576: true; the input reads as it did. -/
def agreeEndsUptoRow : OpenClaim := { program := "ythcfmcmmmpfjoaa", sum := "627ceea5d51068a3ac4c7933c531d170213b90e856bcd8a9e24c8b14961f04cb", func := "sherd/sherdlaw40.AgreeEnds", spec := "agreeEnds", unfollowed := true, recurses := true, apart := false, narrowed := true }
def AgreeEndsUptoSaid : Prop := agreeEndsUptoRow.holds Try.pinned (OpenSpec.upto agreeEndsSpec)

/-- 'sherdlaw40.AgreeTwice', WHERE WHAT IT READS IS OF BULK AT MOST 1048576: true; the input reads as it did. -/
def agreeTwiceUptoRow : OpenClaim := { program := "ythcfmcmmmpfjoaa", sum := "627ceea5d51068a3ac4c7933c531d170213b90e856bcd8a9e24c8b14961f04cb", func := "sherd/sherdlaw40.AgreeTwice", spec := "agreeTwice", unfollowed := true, recurses := true, apart := false, narrowed := true }
def AgreeTwiceUptoSaid : Prop := agreeTwiceUptoRow.holds Try.pinned (OpenSpec.upto agreeTwiceSpec)

end Rows
end Go.Proofs.Ythcfmcmmmpfjoaa
