/-
  No cell of these rows narrows 'for every input' (looked for: loops, veiled, ifaces, maps, wideKeys, modest, calm, conditions, laid).
  DERIVED. THE GIVEN ROWS OF THIS SEAT. 8 by the template 'for every input the law returns true; each argument reads behind the call as it read before'; 0 by the template 'total and deterministic' (their statements: YtddgcegimmcbgaaTotals.lean).
  GIVEN WITH THE SEED: the statements are not yours to turn. If you find one false, say at which input.
  Laid BY PROGRAM, IN A SANDBOX (cutbox-rows.mjs): the forced cells as the released guide's own fill.sh prints them over the translation 566d75fb0754c2a7… (all of the seat's roots in one cut). By AI agents, Wed Nov 11 2026. No macro, syntax, notation, axiom, sorry.
-/
import Derived.Test.YtddgcegimmcbgaaChecked
import GoSem.Claim
import GoSem.ClaimJoined
import GoSem.ClaimMapViews
import Derived.JoinedTies
import Derived.KernelRfl
namespace Go.Proofs.Ytddgcegimmcbgaa
/- THE CELL 'sum', in the pinned program and in every row, IS THE sha256 OF THE DUMP (.gsa) THAT YtddgcegimmcbgaaProg.lean LOADS. Nothing in Lean hashes anything: it is a label: what it is worth is what the hold of that sum in a sandbox is worth. -/
noncomputable def Try.pinned : Pinned := { name := "ytddgcegimmcbgaa", sum := "566d75fb0754c2a7f3a53316b7920f13b6fa3061ad3243aab291b0ca85a8d7d5", checked := Try.checked }
namespace Rows
def none {H : Type} : Left H := { results := [], args := [] }

/-- 'manciplelaw30.LifeOnce': WHATEVER THE INPUT: true; the input reads as it did. -/
def lifeOnceSpec : ChangeSpec := { name := "lifeOnce", fn := fun _ => fun
  | [d] => { results := [.lit (.bool true)], args := [d] }
  | _ => none }
def lifeOnceRow : OpenClaim := { program := "ytddgcegimmcbgaa", sum := "566d75fb0754c2a7f3a53316b7920f13b6fa3061ad3243aab291b0ca85a8d7d5", func := "manciple/manciplelaw30.LifeOnce", spec := "lifeOnce", unfollowed := true, recurses := true, plainKeys := false, apart := false }
def LifeOnceSaid : Prop := lifeOnceRow.holds Try.pinned (OpenSpec.ofChange lifeOnceSpec)

/-- ITS FALSE NEIGHBOUR: 'it returns false'. Refute it at one input. -/
def lifeOnceWrong : ChangeSpec := { name := "lifeOnce", fn := fun _ => fun
  | [d] => { results := [.lit (.bool false)], args := [d] }
  | _ => none }
def LifeOnceWrongFalsely : Prop := lifeOnceRow.holds Try.pinned (OpenSpec.ofChange lifeOnceWrong)

/-- 'manciplelaw30.LifeLives': WHATEVER THE INPUT: true; the input reads as it did. -/
def lifeLivesSpec : ChangeSpec := { name := "lifeLives", fn := fun _ => fun
  | [d] => { results := [.lit (.bool true)], args := [d] }
  | _ => none }
def lifeLivesRow : OpenClaim := { program := "ytddgcegimmcbgaa", sum := "566d75fb0754c2a7f3a53316b7920f13b6fa3061ad3243aab291b0ca85a8d7d5", func := "manciple/manciplelaw30.LifeLives", spec := "lifeLives", unfollowed := true, recurses := true, plainKeys := false, apart := false }
def LifeLivesSaid : Prop := lifeLivesRow.holds Try.pinned (OpenSpec.ofChange lifeLivesSpec)

/-- ITS FALSE NEIGHBOUR: 'it returns false'. Refute it at one input. -/
def lifeLivesWrong : ChangeSpec := { name := "lifeLives", fn := fun _ => fun
  | [d] => { results := [.lit (.bool false)], args := [d] }
  | _ => none }
def LifeLivesWrongFalsely : Prop := lifeLivesRow.holds Try.pinned (OpenSpec.ofChange lifeLivesWrong)

/-- 'manciplelaw37.FillValid': WHATEVER THE INPUT: true; the input reads as it did. -/
def fillValidSpec : ChangeSpec := { name := "fillValid", fn := fun _ => fun
  | [d1, d2, d3] => { results := [.lit (.bool true)], args := [d1, d2, d3] }
  | _ => none }
def fillValidRow : OpenClaim := { program := "ytddgcegimmcbgaa", sum := "566d75fb0754c2a7f3a53316b7920f13b6fa3061ad3243aab291b0ca85a8d7d5", func := "manciple/manciplelaw37.FillValid", spec := "fillValid", unfollowed := true, recurses := true, plainKeys := false, apart := false }
def FillValidSaid : Prop := fillValidRow.holds Try.pinned (OpenSpec.ofChange fillValidSpec)

/-- ITS FALSE NEIGHBOUR: 'it returns false'. Refute it at one input. -/
def fillValidWrong : ChangeSpec := { name := "fillValid", fn := fun _ => fun
  | [d1, d2, d3] => { results := [.lit (.bool false)], args := [d1, d2, d3] }
  | _ => none }
def FillValidWrongFalsely : Prop := fillValidRow.holds Try.pinned (OpenSpec.ofChange fillValidWrong)

/-- 'manciplelaw37.FillFills': WHATEVER THE INPUT: true; the input reads as it did. -/
def fillFillsSpec : ChangeSpec := { name := "fillFills", fn := fun _ => fun
  | [d1, d2, d3] => { results := [.lit (.bool true)], args := [d1, d2, d3] }
  | _ => none }
def fillFillsRow : OpenClaim := { program := "ytddgcegimmcbgaa", sum := "566d75fb0754c2a7f3a53316b7920f13b6fa3061ad3243aab291b0ca85a8d7d5", func := "manciple/manciplelaw37.FillFills", spec := "fillFills", unfollowed := true, recurses := true, plainKeys := false, apart := false }
def FillFillsSaid : Prop := fillFillsRow.holds Try.pinned (OpenSpec.ofChange fillFillsSpec)

/-- ITS FALSE NEIGHBOUR: 'it returns false'. Refute it at one input. -/
def fillFillsWrong : ChangeSpec := { name := "fillFills", fn := fun _ => fun
  | [d1, d2, d3] => { results := [.lit (.bool false)], args := [d1, d2, d3] }
  | _ => none }
def FillFillsWrongFalsely : Prop := fillFillsRow.holds Try.pinned (OpenSpec.ofChange fillFillsWrong)

/-- 'manciplelaw36.BoundSums': WHATEVER THE INPUT: true; the input reads as it did. -/
def boundSumsSpec : ChangeSpec := { name := "boundSums", fn := fun _ => fun
  | [d1, d2, d3] => { results := [.lit (.bool true)], args := [d1, d2, d3] }
  | _ => none }
def boundSumsRow : OpenClaim := { program := "ytddgcegimmcbgaa", sum := "566d75fb0754c2a7f3a53316b7920f13b6fa3061ad3243aab291b0ca85a8d7d5", func := "manciple/manciplelaw36.BoundSums", spec := "boundSums", unfollowed := true, recurses := true, plainKeys := false, apart := false }
def BoundSumsSaid : Prop := boundSumsRow.holds Try.pinned (OpenSpec.ofChange boundSumsSpec)

/-- ITS FALSE NEIGHBOUR: 'it returns false'. Refute it at one input. -/
def boundSumsWrong : ChangeSpec := { name := "boundSums", fn := fun _ => fun
  | [d1, d2, d3] => { results := [.lit (.bool false)], args := [d1, d2, d3] }
  | _ => none }
def BoundSumsWrongFalsely : Prop := boundSumsRow.holds Try.pinned (OpenSpec.ofChange boundSumsWrong)

/-- 'manciplelaw36.BoundUnder': WHATEVER THE INPUT: true; the input reads as it did. -/
def boundUnderSpec : ChangeSpec := { name := "boundUnder", fn := fun _ => fun
  | [d1, d2] => { results := [.lit (.bool true)], args := [d1, d2] }
  | _ => none }
def boundUnderRow : OpenClaim := { program := "ytddgcegimmcbgaa", sum := "566d75fb0754c2a7f3a53316b7920f13b6fa3061ad3243aab291b0ca85a8d7d5", func := "manciple/manciplelaw36.BoundUnder", spec := "boundUnder", unfollowed := true, recurses := true, plainKeys := false, apart := false }
def BoundUnderSaid : Prop := boundUnderRow.holds Try.pinned (OpenSpec.ofChange boundUnderSpec)

/-- ITS FALSE NEIGHBOUR: 'it returns false'. Refute it at one input. -/
def boundUnderWrong : ChangeSpec := { name := "boundUnder", fn := fun _ => fun
  | [d1, d2] => { results := [.lit (.bool false)], args := [d1, d2] }
  | _ => none }
def BoundUnderWrongFalsely : Prop := boundUnderRow.holds Try.pinned (OpenSpec.ofChange boundUnderWrong)

/-- 'manciplelaw16.BookPlaces': WHATEVER THE INPUT: true; the input reads as it did. -/
def bookPlacesSpec : ChangeSpec := { name := "bookPlaces", fn := fun _ => fun
  | [d1, d2, d3] => { results := [.lit (.bool true)], args := [d1, d2, d3] }
  | _ => none }
def bookPlacesRow : OpenClaim := { program := "ytddgcegimmcbgaa", sum := "566d75fb0754c2a7f3a53316b7920f13b6fa3061ad3243aab291b0ca85a8d7d5", func := "manciple/manciplelaw16.BookPlaces", spec := "bookPlaces", unfollowed := true, recurses := true, plainKeys := false, apart := false }
def BookPlacesSaid : Prop := bookPlacesRow.holds Try.pinned (OpenSpec.ofChange bookPlacesSpec)

/-- ITS FALSE NEIGHBOUR: 'it returns false'. Refute it at one input. -/
def bookPlacesWrong : ChangeSpec := { name := "bookPlaces", fn := fun _ => fun
  | [d1, d2, d3] => { results := [.lit (.bool false)], args := [d1, d2, d3] }
  | _ => none }
def BookPlacesWrongFalsely : Prop := bookPlacesRow.holds Try.pinned (OpenSpec.ofChange bookPlacesWrong)

/-- 'manciplelaw36.BoundEnvy': WHATEVER THE INPUT: true; the input reads as it did. -/
def boundEnvySpec : ChangeSpec := { name := "boundEnvy", fn := fun _ => fun
  | [d1, d2, d3] => { results := [.lit (.bool true)], args := [d1, d2, d3] }
  | _ => none }
def boundEnvyRow : OpenClaim := { program := "ytddgcegimmcbgaa", sum := "566d75fb0754c2a7f3a53316b7920f13b6fa3061ad3243aab291b0ca85a8d7d5", func := "manciple/manciplelaw36.BoundEnvy", spec := "boundEnvy", unfollowed := true, recurses := true, plainKeys := false, apart := false }
def BoundEnvySaid : Prop := boundEnvyRow.holds Try.pinned (OpenSpec.ofChange boundEnvySpec)

/-- ITS FALSE NEIGHBOUR: 'it returns false'. Refute it at one input. -/
def boundEnvyWrong : ChangeSpec := { name := "boundEnvy", fn := fun _ => fun
  | [d1, d2, d3] => { results := [.lit (.bool false)], args := [d1, d2, d3] }
  | _ => none }
def BoundEnvyWrongFalsely : Prop := boundEnvyRow.holds Try.pinned (OpenSpec.ofChange boundEnvyWrong)

/- THE SECOND FORM. 'bulk': how many values and letters a reading holds, each counted each time it is reached (what is shared counts as often as it is met; a slice's spare places count too). A statement '..UptoSaid' is the law's where the arguments, and the package variables that the reading takes, are together of bulk at most 1048576: NARROWER than '..Said'. Prove '..Said' where nothing that the law and all that it calls make is longer than what came in: it says more and counts as full. Else prove '..UptoSaid'. A law counts once. -/
mutual
def uptoBulk {H : Type} : DataW H → Nat
  | .lit (.string bytes) => bytes.length + 1
  | .lit _ => 1
  | .nil => 1
  | .ptr d => uptoBulk d + 1
  | .slice elems spare => uptoBulkAll elems + uptoBulkAll spare + 1
  | .agg parts => uptoBulkAll parts + 1
  | .iface _ d => uptoBulk d + 1
  | .map entries => uptoBulkEntries entries + 1
  | .held _ => 1
def uptoBulkAll {H : Type} : List (DataW H) → Nat
  | [] => 0
  | d :: r => uptoBulk d + uptoBulkAll r
def uptoBulkEntries {H : Type} : List (Lit × DataW H) → Nat
  | [] => 0
  | x :: r => uptoBulkEntry x + uptoBulkEntries r
def uptoBulkEntry {H : Type} : Lit × DataW H → Nat
  | (.string bytes, d) => bytes.length + uptoBulk d + 1
  | (_, d) => uptoBulk d + 1
 end
def uptoSmall : (H : Type) → List (DataW H) → Bool := fun _ ds => decide (uptoBulkAll ds ≤ 1048576)
def OpenSpec.upto (s : _root_.Go.ChangeSpec) : _root_.Go.OpenSpec := { _root_.Go.OpenSpec.ofChange s with cond := some uptoSmall }

/-- 'manciplelaw30.LifeOnce', WHERE WHAT IT READS IS OF BULK AT MOST 1048576: true; the input reads as it did. -/
def lifeOnceUptoRow : OpenClaim := { program := "ytddgcegimmcbgaa", sum := "566d75fb0754c2a7f3a53316b7920f13b6fa3061ad3243aab291b0ca85a8d7d5", func := "manciple/manciplelaw30.LifeOnce", spec := "lifeOnce", unfollowed := true, recurses := true, plainKeys := false, apart := false, narrowed := true }
def LifeOnceUptoSaid : Prop := lifeOnceUptoRow.holds Try.pinned (OpenSpec.upto lifeOnceSpec)

/-- 'manciplelaw30.LifeLives', WHERE WHAT IT READS IS OF BULK AT MOST 1048576: true; the input reads as it did. -/
def lifeLivesUptoRow : OpenClaim := { program := "ytddgcegimmcbgaa", sum := "566d75fb0754c2a7f3a53316b7920f13b6fa3061ad3243aab291b0ca85a8d7d5", func := "manciple/manciplelaw30.LifeLives", spec := "lifeLives", unfollowed := true, recurses := true, plainKeys := false, apart := false, narrowed := true }
def LifeLivesUptoSaid : Prop := lifeLivesUptoRow.holds Try.pinned (OpenSpec.upto lifeLivesSpec)

/-- 'manciplelaw37.FillValid', WHERE WHAT IT READS IS OF BULK AT MOST 1048576: true; the input reads as it did. -/
def fillValidUptoRow : OpenClaim := { program := "ytddgcegimmcbgaa", sum := "566d75fb0754c2a7f3a53316b7920f13b6fa3061ad3243aab291b0ca85a8d7d5", func := "manciple/manciplelaw37.FillValid", spec := "fillValid", unfollowed := true, recurses := true, plainKeys := false, apart := false, narrowed := true }
def FillValidUptoSaid : Prop := fillValidUptoRow.holds Try.pinned (OpenSpec.upto fillValidSpec)

/-- 'manciplelaw37.FillFills', WHERE WHAT IT READS IS OF BULK AT MOST 1048576: true; the input reads as it did. -/
def fillFillsUptoRow : OpenClaim := { program := "ytddgcegimmcbgaa", sum := "566d75fb0754c2a7f3a53316b7920f13b6fa3061ad3243aab291b0ca85a8d7d5", func := "manciple/manciplelaw37.FillFills", spec := "fillFills", unfollowed := true, recurses := true, plainKeys := false, apart := false, narrowed := true }
def FillFillsUptoSaid : Prop := fillFillsUptoRow.holds Try.pinned (OpenSpec.upto fillFillsSpec)

/-- 'manciplelaw36.BoundSums', WHERE WHAT IT READS IS OF BULK AT MOST 1048576: true; the input reads as it did. -/
def boundSumsUptoRow : OpenClaim := { program := "ytddgcegimmcbgaa", sum := "566d75fb0754c2a7f3a53316b7920f13b6fa3061ad3243aab291b0ca85a8d7d5", func := "manciple/manciplelaw36.BoundSums", spec := "boundSums", unfollowed := true, recurses := true, plainKeys := false, apart := false, narrowed := true }
def BoundSumsUptoSaid : Prop := boundSumsUptoRow.holds Try.pinned (OpenSpec.upto boundSumsSpec)

/-- 'manciplelaw36.BoundUnder', WHERE WHAT IT READS IS OF BULK AT MOST 1048576: true; the input reads as it did. -/
def boundUnderUptoRow : OpenClaim := { program := "ytddgcegimmcbgaa", sum := "566d75fb0754c2a7f3a53316b7920f13b6fa3061ad3243aab291b0ca85a8d7d5", func := "manciple/manciplelaw36.BoundUnder", spec := "boundUnder", unfollowed := true, recurses := true, plainKeys := false, apart := false, narrowed := true }
def BoundUnderUptoSaid : Prop := boundUnderUptoRow.holds Try.pinned (OpenSpec.upto boundUnderSpec)

/-- 'manciplelaw16.BookPlaces', WHERE WHAT IT READS IS OF BULK AT MOST 1048576: true; the input reads as it did. -/
def bookPlacesUptoRow : OpenClaim := { program := "ytddgcegimmcbgaa", sum := "566d75fb0754c2a7f3a53316b7920f13b6fa3061ad3243aab291b0ca85a8d7d5", func := "manciple/manciplelaw16.BookPlaces", spec := "bookPlaces", unfollowed := true, recurses := true, plainKeys := false, apart := false, narrowed := true }
def BookPlacesUptoSaid : Prop := bookPlacesUptoRow.holds Try.pinned (OpenSpec.upto bookPlacesSpec)

/-- 'manciplelaw36.BoundEnvy', WHERE WHAT IT READS IS OF BULK AT MOST 1048576: true; the input reads as it did. -/
def boundEnvyUptoRow : OpenClaim := { program := "ytddgcegimmcbgaa", sum := "566d75fb0754c2a7f3a53316b7920f13b6fa3061ad3243aab291b0ca85a8d7d5", func := "manciple/manciplelaw36.BoundEnvy", spec := "boundEnvy", unfollowed := true, recurses := true, plainKeys := false, apart := false, narrowed := true }
def BoundEnvyUptoSaid : Prop := boundEnvyUptoRow.holds Try.pinned (OpenSpec.upto boundEnvySpec)

end Rows
end Go.Proofs.Ytddgcegimmcbgaa
