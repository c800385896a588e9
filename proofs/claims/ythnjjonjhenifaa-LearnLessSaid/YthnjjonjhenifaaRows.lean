/-
  No cell of these rows narrows 'for every input' (looked for: loops, veiled, ifaces, maps, wideKeys, modest, calm, conditions, laid).
  DERIVED. THE GIVEN ROWS OF THIS SEAT. 7 by the template 'for every input the law returns true; each argument reads behind the call as it read before'; 0 by the template 'total and deterministic' (their statements: YthnjjonjhenifaaTotals.lean).
  GIVEN WITH THE SEED: the statements are not yours to turn. If you find one false, say at which input.
  Laid BY PROGRAM, IN A SANDBOX (cutbox-rows.mjs): the forced cells as the released guide's own fill.sh prints them over the translation ccbb37a5be7df7c9… (all of the seat's roots in one cut). By AI agents, Wed Nov 11 2026. No macro, syntax, notation, axiom, sorry.
-/
import Derived.Test.YthnjjonjhenifaaChecked
import GoSem.Claim
import GoSem.ClaimJoined
import GoSem.ClaimMapViews
import Derived.JoinedTies
import Derived.KernelRfl
namespace Go.Proofs.Ythnjjonjhenifaa
/- THE CELL 'sum', in the pinned program and in every row, IS THE sha256 OF THE DUMP (.gsa) THAT YthnjjonjhenifaaProg.lean LOADS. Nothing in Lean hashes anything: it is a label: what it is worth is what the hold of that sum in a sandbox is worth. -/
noncomputable def Try.pinned : Pinned := { name := "ythnjjonjhenifaa", sum := "ccbb37a5be7df7c9419c498734fedc0e7465031537841a9209f7c5b8b9c6410e", checked := Try.checked }
namespace Rows
def none {H : Type} : Left H := { results := [], args := [] }

/-- 'horariumlaw36.LearnFollows': WHATEVER THE INPUT: true; the input reads as it did. -/
def learnFollowsSpec : ChangeSpec := { name := "learnFollows", fn := fun _ => fun
  | [d1, d2] => { results := [.lit (.bool true)], args := [d1, d2] }
  | _ => none }
def learnFollowsRow : OpenClaim := { program := "ythnjjonjhenifaa", sum := "ccbb37a5be7df7c9419c498734fedc0e7465031537841a9209f7c5b8b9c6410e", func := "horarium/horariumlaw36.LearnFollows", spec := "learnFollows", unfollowed := true, recurses := true, apart := false }
def LearnFollowsSaid : Prop := learnFollowsRow.holds Try.pinned (OpenSpec.ofChange learnFollowsSpec)

/-- ITS FALSE NEIGHBOUR: 'it returns false'. Refute it at one input. -/
def learnFollowsWrong : ChangeSpec := { name := "learnFollows", fn := fun _ => fun
  | [d1, d2] => { results := [.lit (.bool false)], args := [d1, d2] }
  | _ => none }
def LearnFollowsWrongFalsely : Prop := learnFollowsRow.holds Try.pinned (OpenSpec.ofChange learnFollowsWrong)

/-- 'horariumlaw36.LearnResolves': WHATEVER THE INPUT: true; the input reads as it did. -/
def learnResolvesSpec : ChangeSpec := { name := "learnResolves", fn := fun _ => fun
  | [d1, d2, d3] => { results := [.lit (.bool true)], args := [d1, d2, d3] }
  | _ => none }
def learnResolvesRow : OpenClaim := { program := "ythnjjonjhenifaa", sum := "ccbb37a5be7df7c9419c498734fedc0e7465031537841a9209f7c5b8b9c6410e", func := "horarium/horariumlaw36.LearnResolves", spec := "learnResolves", unfollowed := true, recurses := true, apart := false }
def LearnResolvesSaid : Prop := learnResolvesRow.holds Try.pinned (OpenSpec.ofChange learnResolvesSpec)

/-- ITS FALSE NEIGHBOUR: 'it returns false'. Refute it at one input. -/
def learnResolvesWrong : ChangeSpec := { name := "learnResolves", fn := fun _ => fun
  | [d1, d2, d3] => { results := [.lit (.bool false)], args := [d1, d2, d3] }
  | _ => none }
def LearnResolvesWrongFalsely : Prop := learnResolvesRow.holds Try.pinned (OpenSpec.ofChange learnResolvesWrong)

/-- 'horariumlaw36.LearnSound': WHATEVER THE INPUT: true; the input reads as it did. -/
def learnSoundSpec : ChangeSpec := { name := "learnSound", fn := fun _ => fun
  | [d1, d2, d3, d4] => { results := [.lit (.bool true)], args := [d1, d2, d3, d4] }
  | _ => none }
def learnSoundRow : OpenClaim := { program := "ythnjjonjhenifaa", sum := "ccbb37a5be7df7c9419c498734fedc0e7465031537841a9209f7c5b8b9c6410e", func := "horarium/horariumlaw36.LearnSound", spec := "learnSound", unfollowed := true, recurses := true, apart := false }
def LearnSoundSaid : Prop := learnSoundRow.holds Try.pinned (OpenSpec.ofChange learnSoundSpec)

/-- ITS FALSE NEIGHBOUR: 'it returns false'. Refute it at one input. -/
def learnSoundWrong : ChangeSpec := { name := "learnSound", fn := fun _ => fun
  | [d1, d2, d3, d4] => { results := [.lit (.bool false)], args := [d1, d2, d3, d4] }
  | _ => none }
def LearnSoundWrongFalsely : Prop := learnSoundRow.holds Try.pinned (OpenSpec.ofChange learnSoundWrong)

/-- 'horariumlaw36.LearnTells': WHATEVER THE INPUT: true; the input reads as it did. -/
def learnTellsSpec : ChangeSpec := { name := "learnTells", fn := fun _ => fun
  | [d1, d2] => { results := [.lit (.bool true)], args := [d1, d2] }
  | _ => none }
def learnTellsRow : OpenClaim := { program := "ythnjjonjhenifaa", sum := "ccbb37a5be7df7c9419c498734fedc0e7465031537841a9209f7c5b8b9c6410e", func := "horarium/horariumlaw36.LearnTells", spec := "learnTells", unfollowed := true, recurses := true, apart := false }
def LearnTellsSaid : Prop := learnTellsRow.holds Try.pinned (OpenSpec.ofChange learnTellsSpec)

/-- ITS FALSE NEIGHBOUR: 'it returns false'. Refute it at one input. -/
def learnTellsWrong : ChangeSpec := { name := "learnTells", fn := fun _ => fun
  | [d1, d2] => { results := [.lit (.bool false)], args := [d1, d2] }
  | _ => none }
def LearnTellsWrongFalsely : Prop := learnTellsRow.holds Try.pinned (OpenSpec.ofChange learnTellsWrong)

/-- 'horariumlaw36.LearnBack': WHATEVER THE INPUT: true; the input reads as it did. -/
def learnBackSpec : ChangeSpec := { name := "learnBack", fn := fun _ => fun
  | [d1, d2] => { results := [.lit (.bool true)], args := [d1, d2] }
  | _ => none }
def learnBackRow : OpenClaim := { program := "ythnjjonjhenifaa", sum := "ccbb37a5be7df7c9419c498734fedc0e7465031537841a9209f7c5b8b9c6410e", func := "horarium/horariumlaw36.LearnBack", spec := "learnBack", unfollowed := true, recurses := true, apart := false }
def LearnBackSaid : Prop := learnBackRow.holds Try.pinned (OpenSpec.ofChange learnBackSpec)

/-- ITS FALSE NEIGHBOUR: 'it returns false'. Refute it at one input. -/
def learnBackWrong : ChangeSpec := { name := "learnBack", fn := fun _ => fun
  | [d1, d2] => { results := [.lit (.bool false)], args := [d1, d2] }
  | _ => none }
def LearnBackWrongFalsely : Prop := learnBackRow.holds Try.pinned (OpenSpec.ofChange learnBackWrong)

/-- 'horariumlaw36.LearnShorts': WHATEVER THE INPUT: true; the input reads as it did. -/
def learnShortsSpec : ChangeSpec := { name := "learnShorts", fn := fun _ => fun
  | [d1, d2] => { results := [.lit (.bool true)], args := [d1, d2] }
  | _ => none }
def learnShortsRow : OpenClaim := { program := "ythnjjonjhenifaa", sum := "ccbb37a5be7df7c9419c498734fedc0e7465031537841a9209f7c5b8b9c6410e", func := "horarium/horariumlaw36.LearnShorts", spec := "learnShorts", unfollowed := true, recurses := true, apart := false }
def LearnShortsSaid : Prop := learnShortsRow.holds Try.pinned (OpenSpec.ofChange learnShortsSpec)

/-- ITS FALSE NEIGHBOUR: 'it returns false'. Refute it at one input. -/
def learnShortsWrong : ChangeSpec := { name := "learnShorts", fn := fun _ => fun
  | [d1, d2] => { results := [.lit (.bool false)], args := [d1, d2] }
  | _ => none }
def LearnShortsWrongFalsely : Prop := learnShortsRow.holds Try.pinned (OpenSpec.ofChange learnShortsWrong)

/-- 'horariumlaw36.LearnLess': WHATEVER THE INPUT: true; the input reads as it did. -/
def learnLessSpec : ChangeSpec := { name := "learnLess", fn := fun _ => fun
  | [d1, d2] => { results := [.lit (.bool true)], args := [d1, d2] }
  | _ => none }
def learnLessRow : OpenClaim := { program := "ythnjjonjhenifaa", sum := "ccbb37a5be7df7c9419c498734fedc0e7465031537841a9209f7c5b8b9c6410e", func := "horarium/horariumlaw36.LearnLess", spec := "learnLess", unfollowed := true, recurses := true, apart := false }
def LearnLessSaid : Prop := learnLessRow.holds Try.pinned (OpenSpec.ofChange learnLessSpec)

/-- ITS FALSE NEIGHBOUR: 'it returns false'. Refute it at one input. -/
def learnLessWrong : ChangeSpec := { name := "learnLess", fn := fun _ => fun
  | [d1, d2] => { results := [.lit (.bool false)], args := [d1, d2] }
  | _ => none }
def LearnLessWrongFalsely : Prop := learnLessRow.holds Try.pinned (OpenSpec.ofChange learnLessWrong)

/- THE SECOND FORM. 'bulk': how many values and letters a reading holds, each counted each time it is reached (what is shared counts as often as it is met; a slice's spare places count too). A statement '..UptoSaid' is the law's where the arguments, and the package variables that the reading takes, are together of bulk at most 1048576: NARROWER than '..Said'. Prove '..Said' where nothing that the law and all that it calls make is longer than what came in: it says more and counts as full. Else prove '..UptoSaid'. A law counts once. -/
mutual
def uptoBulk {H : Type} : DataW H → Nat
  | .lit (.string bytes) => bytes.length + 1
  | .lit _ => 1
  | .nil => 1
  | .ptr d => uptoBulk d + 1
  | .slice elems spare => uptoBulkAll elems + uptoBulkAll spare + 1
  | .agg parts => uptoBulkAll parts + 1
  | .iface _ d => uptoBulk d + 1
  | .map entries => uptoBulkEntries entries + 1
  | .held _ => 1
def uptoBulkAll {H : Type} : List (DataW H) → Nat
  | [] => 0
  | d :: r => uptoBulk d + uptoBulkAll r
def uptoBulkEntries {H : Type} : List (Lit × DataW H) → Nat
  | [] => 0
  | x :: r => uptoBulkEntry x + uptoBulkEntries r
def uptoBulkEntry {H : Type} : Lit × DataW H → Nat
  | (.string bytes, d) => bytes.length + uptoBulk d + 1
  | (_, d) => uptoBulk d + 1
 end
def uptoSmall : (H : Type) → List (DataW H) → Bool := fun _ ds => decide (uptoBulkAll ds ≤ 1048576)
def OpenSpec.upto (s : _root_.Go.ChangeSpec) : _root_.Go.OpenSpec := { _root_.Go.OpenSpec.ofChange s with cond := some uptoSmall }

/-- 'horariumlaw36.LearnFollows', WHERE WHAT IT READS IS OF BULK AT MOST 1048576: true; the input reads as it did. -/
def learnFollowsUptoRow : OpenClaim := { program := "ythnjjonjhenifaa", sum := "ccbb37a5be7df7c9419c498734fedc0e7465031537841a9209f7c5b8b9c6410e", func := "horarium/horariumlaw36.LearnFollows", spec := "learnFollows", unfollowed := true, recurses := true, apart := false, narrowed := true }
def LearnFollowsUptoSaid : Prop := learnFollowsUptoRow.holds Try.pinned (OpenSpec.upto learnFollowsSpec)

/-- 'horariumlaw36.LearnResolves', WHERE WHAT IT READS IS OF BULK AT MOST 1048576: true; the input reads as it did. -/
def learnResolvesUptoRow : OpenClaim := { program := "ythnjjonjhenifaa", sum := "ccbb37a5be7df7c9419c498734fedc0e7465031537841a9209f7c5b8b9c6410e", func := "horarium/horariumlaw36.LearnResolves", spec := "learnResolves", unfollowed := true, recurses := true, apart := false, narrowed := true }
def LearnResolvesUptoSaid : Prop := learnResolvesUptoRow.holds Try.pinned (OpenSpec.upto learnResolvesSpec)

/-- 'horariumlaw36.LearnSound', WHERE WHAT IT READS IS OF BULK AT MOST 1048576: true; the input reads as it did. -/
def learnSoundUptoRow : OpenClaim := { program := "ythnjjonjhenifaa", sum := "ccbb37a5be7df7c9419c498734fedc0e7465031537841a9209f7c5b8b9c6410e", func := "horarium/horariumlaw36.LearnSound", spec := "learnSound", unfollowed := true, recurses := true, apart := false, narrowed := true }
def LearnSoundUptoSaid : Prop := learnSoundUptoRow.holds Try.pinned (OpenSpec.upto learnSoundSpec)

/-- 'horariumlaw36.LearnTells', WHERE WHAT IT READS IS OF BULK AT MOST 1048576: true; the input reads as it did. -/
def learnTellsUptoRow : OpenClaim := { program := "ythnjjonjhenifaa", sum := "ccbb37a5be7df7c9419c498734fedc0e7465031537841a9209f7c5b8b9c6410e", func := "horarium/horariumlaw36.LearnTells", spec := "learnTells", unfollowed := true, recurses := true, apart := false, narrowed := true }
def LearnTellsUptoSaid : Prop := learnTellsUptoRow.holds Try.pinned (OpenSpec.upto learnTellsSpec)

/-- 'horariumlaw36.LearnBack', WHERE WHAT IT READS IS OF BULK AT MOST 1048576: true; the input reads as it did. -/
def learnBackUptoRow : OpenClaim := { program := "ythnjjonjhenifaa", sum := "ccbb37a5be7df7c9419c498734fedc0e7465031537841a9209f7c5b8b9c6410e", func := "horarium/horariumlaw36.LearnBack", spec := "learnBack", unfollowed := true, recurses := true, apart := false, narrowed := true }
def LearnBackUptoSaid : Prop := learnBackUptoRow.holds Try.pinned (OpenSpec.upto learnBackSpec)

/-- 'horariumlaw36.LearnShorts', WHERE WHAT IT READS IS OF BULK AT MOST 1048576: true; the input reads as it did. -/
def learnShortsUptoRow : OpenClaim := { program := "ythnjjonjhenifaa", sum := "ccbb37a5be7df7c9419c498734fedc0e7465031537841a9209f7c5b8b9c6410e", func := "horarium/horariumlaw36.LearnShorts", spec := "learnShorts", unfollowed := true, recurses := true, apart := false, narrowed := true }
def LearnShortsUptoSaid : Prop := learnShortsUptoRow.holds Try.pinned (OpenSpec.upto learnShortsSpec)

/-- 'horariumlaw36.LearnLess', WHERE WHAT IT READS IS OF BULK AT MOST 1048576: true; the input reads as it did. -/
def learnLessUptoRow : OpenClaim := { program := "ythnjjonjhenifaa", sum := "ccbb37a5be7df7c9419c498734fedc0e7465031537841a9209f7c5b8b9c6410e", func := "horarium/horariumlaw36.LearnLess", spec := "learnLess", unfollowed := true, recurses := true, apart := false, narrowed := true }
def LearnLessUptoSaid : Prop := learnLessUptoRow.holds Try.pinned (OpenSpec.upto learnLessSpec)

end Rows
end Go.Proofs.Ythnjjonjhenifaa
