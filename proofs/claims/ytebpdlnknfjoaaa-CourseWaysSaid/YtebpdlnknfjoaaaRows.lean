/-
  No cell of these rows narrows 'for every input' (looked for: loops, veiled, ifaces, maps, wideKeys, modest, calm, conditions, laid).
  DERIVED. THE GIVEN ROWS OF THIS SEAT. 6 by the template 'for every input the law returns true; each argument reads behind the call as it read before'; 0 by the template 'total and deterministic' (their statements: YtebpdlnknfjoaaaTotals.lean).
  GIVEN WITH THE SEED: the statements are not yours to turn. If you find one false, say at which input.
  Laid BY PROGRAM, IN A SANDBOX (cutbox-rows.mjs): the forced cells as the released guide's own fill.sh prints them over the translation faf60ba127cdef0a… (all of the seat's roots in one cut). By AI agents, Wed Nov 11 2026. No macro, syntax, notation, axiom, sorry.
-/
import Derived.Test.YtebpdlnknfjoaaaChecked
import GoSem.Claim
import GoSem.ClaimJoined
import GoSem.ClaimMapViews
import Derived.JoinedTies
import Derived.KernelRfl
namespace Go.Proofs.Ytebpdlnknfjoaaa
/- THE CELL 'sum', in the pinned program and in every row, IS THE sha256 OF THE DUMP (.gsa) THAT YtebpdlnknfjoaaaProg.lean LOADS. Nothing in Lean hashes anything: it is a label: what it is worth is what the hold of that sum in a sandbox is worth. -/
noncomputable def Try.pinned : Pinned := { name := "ytebpdlnknfjoaaa", sum := "faf60ba127cdef0ab517e68ace198b85d93d02ca94a3839f30a2eb1ff4707314", checked := Try.checked }
namespace Rows
def none {H : Type} : Left H := { results := [], args := [] }

/-- 'horariumlaw14.CourseTells': WHATEVER THE INPUT: true; the input reads as it did. -/
def courseTellsSpec : ChangeSpec := { name := "courseTells", fn := fun _ => fun
  | [d1, d2] => { results := [.lit (.bool true)], args := [d1, d2] }
  | _ => none }
def courseTellsRow : OpenClaim := { program := "ytebpdlnknfjoaaa", sum := "faf60ba127cdef0ab517e68ace198b85d93d02ca94a3839f30a2eb1ff4707314", func := "horarium/horariumlaw14.CourseTells", spec := "courseTells", unfollowed := true, recurses := true, apart := false }
def CourseTellsSaid : Prop := courseTellsRow.holds Try.pinned (OpenSpec.ofChange courseTellsSpec)

/-- ITS FALSE NEIGHBOUR: 'it returns false'. Refute it at one input. -/
def courseTellsWrong : ChangeSpec := { name := "courseTells", fn := fun _ => fun
  | [d1, d2] => { results := [.lit (.bool false)], args := [d1, d2] }
  | _ => none }
def CourseTellsWrongFalsely : Prop := courseTellsRow.holds Try.pinned (OpenSpec.ofChange courseTellsWrong)

/-- 'horariumlaw14.CourseLoads': WHATEVER THE INPUT: true; the input reads as it did. -/
def courseLoadsSpec : ChangeSpec := { name := "courseLoads", fn := fun _ => fun
  | [d1, d2] => { results := [.lit (.bool true)], args := [d1, d2] }
  | _ => none }
def courseLoadsRow : OpenClaim := { program := "ytebpdlnknfjoaaa", sum := "faf60ba127cdef0ab517e68ace198b85d93d02ca94a3839f30a2eb1ff4707314", func := "horarium/horariumlaw14.CourseLoads", spec := "courseLoads", unfollowed := true, recurses := true, apart := false }
def CourseLoadsSaid : Prop := courseLoadsRow.holds Try.pinned (OpenSpec.ofChange courseLoadsSpec)

/-- ITS FALSE NEIGHBOUR: 'it returns false'. Refute it at one input. -/
def courseLoadsWrong : ChangeSpec := { name := "courseLoads", fn := fun _ => fun
  | [d1, d2] => { results := [.lit (.bool false)], args := [d1, d2] }
  | _ => none }
def CourseLoadsWrongFalsely : Prop := courseLoadsRow.holds Try.pinned (OpenSpec.ofChange courseLoadsWrong)

/-- 'horariumlaw14.CourseTakes': WHATEVER THE INPUT: true; the input reads as it did. -/
def courseTakesSpec : ChangeSpec := { name := "courseTakes", fn := fun _ => fun
  | [d1, d2, d3] => { results := [.lit (.bool true)], args := [d1, d2, d3] }
  | _ => none }
def courseTakesRow : OpenClaim := { program := "ytebpdlnknfjoaaa", sum := "faf60ba127cdef0ab517e68ace198b85d93d02ca94a3839f30a2eb1ff4707314", func := "horarium/horariumlaw14.CourseTakes", spec := "courseTakes", unfollowed := true, recurses := true, apart := false }
def CourseTakesSaid : Prop := courseTakesRow.holds Try.pinned (OpenSpec.ofChange courseTakesSpec)

/-- ITS FALSE NEIGHBOUR: 'it returns false'. Refute it at one input. -/
def courseTakesWrong : ChangeSpec := { name := "courseTakes", fn := fun _ => fun
  | [d1, d2, d3] => { results := [.lit (.bool false)], args := [d1, d2, d3] }
  | _ => none }
def CourseTakesWrongFalsely : Prop := courseTakesRow.holds Try.pinned (OpenSpec.ofChange courseTakesWrong)

/-- 'horariumlaw14.CourseAbove': WHATEVER THE INPUT: true; the input reads as it did. -/
def courseAboveSpec : ChangeSpec := { name := "courseAbove", fn := fun _ => fun
  | [d1, d2] => { results := [.lit (.bool true)], args := [d1, d2] }
  | _ => none }
def courseAboveRow : OpenClaim := { program := "ytebpdlnknfjoaaa", sum := "faf60ba127cdef0ab517e68ace198b85d93d02ca94a3839f30a2eb1ff4707314", func := "horarium/horariumlaw14.CourseAbove", spec := "courseAbove", unfollowed := true, recurses := true, apart := false }
def CourseAboveSaid : Prop := courseAboveRow.holds Try.pinned (OpenSpec.ofChange courseAboveSpec)

/-- ITS FALSE NEIGHBOUR: 'it returns false'. Refute it at one input. -/
def courseAboveWrong : ChangeSpec := { name := "courseAbove", fn := fun _ => fun
  | [d1, d2] => { results := [.lit (.bool false)], args := [d1, d2] }
  | _ => none }
def CourseAboveWrongFalsely : Prop := courseAboveRow.holds Try.pinned (OpenSpec.ofChange courseAboveWrong)

/-- 'horariumlaw14.CourseWays': WHATEVER THE INPUT: true; the input reads as it did. -/
def courseWaysSpec : ChangeSpec := { name := "courseWays", fn := fun _ => fun
  | [d1, d2] => { results := [.lit (.bool true)], args := [d1, d2] }
  | _ => none }
def courseWaysRow : OpenClaim := { program := "ytebpdlnknfjoaaa", sum := "faf60ba127cdef0ab517e68ace198b85d93d02ca94a3839f30a2eb1ff4707314", func := "horarium/horariumlaw14.CourseWays", spec := "courseWays", unfollowed := true, recurses := true, apart := false }
def CourseWaysSaid : Prop := courseWaysRow.holds Try.pinned (OpenSpec.ofChange courseWaysSpec)

/-- ITS FALSE NEIGHBOUR: 'it returns false'. Refute it at one input. -/
def courseWaysWrong : ChangeSpec := { name := "courseWays", fn := fun _ => fun
  | [d1, d2] => { results := [.lit (.bool false)], args := [d1, d2] }
  | _ => none }
def CourseWaysWrongFalsely : Prop := courseWaysRow.holds Try.pinned (OpenSpec.ofChange courseWaysWrong)

/-- 'horariumlaw14.CourseSames': WHATEVER THE INPUT: true; the input reads as it did. -/
def courseSamesSpec : ChangeSpec := { name := "courseSames", fn := fun _ => fun
  | [d1, d2] => { results := [.lit (.bool true)], args := [d1, d2] }
  | _ => none }
def courseSamesRow : OpenClaim := { program := "ytebpdlnknfjoaaa", sum := "faf60ba127cdef0ab517e68ace198b85d93d02ca94a3839f30a2eb1ff4707314", func := "horarium/horariumlaw14.CourseSames", spec := "courseSames", unfollowed := true, recurses := true, apart := false }
def CourseSamesSaid : Prop := courseSamesRow.holds Try.pinned (OpenSpec.ofChange courseSamesSpec)

/-- ITS FALSE NEIGHBOUR: 'it returns false'. Refute it at one input. -/
def courseSamesWrong : ChangeSpec := { name := "courseSames", fn := fun _ => fun
  | [d1, d2] => { results := [.lit (.bool false)], args := [d1, d2] }
  | _ => none }
def CourseSamesWrongFalsely : Prop := courseSamesRow.holds Try.pinned (OpenSpec.ofChange courseSamesWrong)

/- THE SECOND FORM. 'bulk': how many values and letters a reading holds, each counted each time it is reached (what is shared counts as often as it is met; a slice's spare places count too). A statement '..UptoSaid' is the law's where the arguments, and the package variables that the reading takes, are together of bulk at most 1048576: NARROWER than '..Said'. Prove '..Said' where nothing that the law and all that it calls make is longer than what came in: it says more and counts as full. Else prove '..UptoSaid'. A law counts once. -/
mutual
def uptoBulk {H : Type} : DataW H → Nat
  | .lit (.string bytes) => bytes.length + 1
  | .lit _ => 1
  | .nil => 1
  | .ptr d => uptoBulk d + 1
  | .slice elems spare => uptoBulkAll elems + uptoBulkAll spare + 1
  | .agg parts => uptoBulkAll parts + 1
  | .iface _ d => uptoBulk d + 1
  | .map entries => uptoBulkEntries entries + 1
  | .held _ => 1
def uptoBulkAll {H : Type} : List (DataW H) → Nat
  | [] => 0
  | d :: r => uptoBulk d + uptoBulkAll r
def uptoBulkEntries {H : Type} : List (Lit × DataW H) → Nat
  | [] => 0
  | x :: r => uptoBulkEntry x + uptoBulkEntries r
def uptoBulkEntry {H : Type} : Lit × DataW H → Nat
  | (.string bytes, d) => bytes.length + uptoBulk d + 1
  | (_, d) => uptoBulk d + 1
 end
def uptoSmall : (H : Type) → List (DataW H) → Bool := fun _ ds => decide (uptoBulkAll ds ≤ 1048576)
def OpenSpec.upto (s : _root_.Go.ChangeSpec) : _root_.Go.OpenSpec := { _root_.Go.OpenSpec.ofChange s with cond := some uptoSmall }

/-- 'horariumlaw14.CourseTells', WHERE WHAT IT READS IS OF BULK AT MOST 1048576: true; the input reads as it did. -/
def courseTellsUptoRow : OpenClaim := { program := "ytebpdlnknfjoaaa", sum := "faf60ba127cdef0ab517e68ace198b85d93d02ca94a3839f30a2eb1ff4707314", func := "horarium/horariumlaw14.CourseTells", spec := "courseTells", unfollowed := true, recurses := true, apart := false, narrowed := true }
def CourseTellsUptoSaid : Prop := courseTellsUptoRow.holds Try.pinned (OpenSpec.upto courseTellsSpec)

/-- 'horariumlaw14.CourseLoads', WHERE WHAT IT READS IS OF BULK AT MOST 1048576: true; the input reads as it did. -/
def courseLoadsUptoRow : OpenClaim := { program := "ytebpdlnknfjoaaa", sum := "faf60ba127cdef0ab517e68ace198b85d93d02ca94a3839f30a2eb1ff4707314", func := "horarium/horariumlaw14.CourseLoads", spec := "courseLoads", unfollowed := true, recurses := true, apart := false, narrowed := true }
def CourseLoadsUptoSaid : Prop := courseLoadsUptoRow.holds Try.pinned (OpenSpec.upto courseLoadsSpec)

/-- 'horariumlaw14.CourseTakes', WHERE WHAT IT READS IS OF BULK AT MOST 1048576: true; the input reads as it did. -/
def courseTakesUptoRow : OpenClaim := { program := "ytebpdlnknfjoaaa", sum := "faf60ba127cdef0ab517e68ace198b85d93d02ca94a3839f30a2eb1ff4707314", func := "horarium/horariumlaw14.CourseTakes", spec := "courseTakes", unfollowed := true, recurses := true, apart := false, narrowed := true }
def CourseTakesUptoSaid : Prop := courseTakesUptoRow.holds Try.pinned (OpenSpec.upto courseTakesSpec)

/-- 'horariumlaw14.CourseAbove', WHERE WHAT IT READS IS OF BULK AT MOST 1048576: true; the input reads as it did. -/
def courseAboveUptoRow : OpenClaim := { program := "ytebpdlnknfjoaaa", sum := "faf60ba127cdef0ab517e68ace198b85d93d02ca94a3839f30a2eb1ff4707314", func := "horarium/horariumlaw14.CourseAbove", spec := "courseAbove", unfollowed := true, recurses := true, apart := false, narrowed := true }
def CourseAboveUptoSaid : Prop := courseAboveUptoRow.holds Try.pinned (OpenSpec.upto courseAboveSpec)

/-- 'horariumlaw14.CourseWays', WHERE WHAT IT READS IS OF BULK AT MOST 1048576: true; the input reads as it did. -/
def courseWaysUptoRow : OpenClaim := { program := "ytebpdlnknfjoaaa", sum := "faf60ba127cdef0ab517e68ace198b85d93d02ca94a3839f30a2eb1ff4707314", func := "horarium/horariumlaw14.CourseWays", spec := "courseWays", unfollowed := true, recurses := true, apart := false, narrowed := true }
def CourseWaysUptoSaid : Prop := courseWaysUptoRow.holds Try.pinned (OpenSpec.upto courseWaysSpec)

/-- 'horariumlaw14.CourseSames', WHERE WHAT IT READS IS OF BULK AT MOST 1048576: true; the input reads as it did. -/
def courseSamesUptoRow : OpenClaim := { program := "ytebpdlnknfjoaaa", sum := "faf60ba127cdef0ab517e68ace198b85d93d02ca94a3839f30a2eb1ff4707314", func := "horarium/horariumlaw14.CourseSames", spec := "courseSames", unfollowed := true, recurses := true, apart := false, narrowed := true }
def CourseSamesUptoSaid : Prop := courseSamesUptoRow.holds Try.pinned (OpenSpec.upto courseSamesSpec)

end Rows
end Go.Proofs.Ytebpdlnknfjoaaa
