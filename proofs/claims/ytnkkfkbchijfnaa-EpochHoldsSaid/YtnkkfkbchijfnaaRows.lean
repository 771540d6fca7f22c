/-
  No cell of these rows narrows 'for every input' (looked for: loops, veiled, ifaces, maps, wideKeys, modest, calm, conditions, laid).
  DERIVED. THE GIVEN ROWS OF THIS SEAT. 3 by the template 'for every input the law returns true; each argument reads behind the call as it read before'; 0 by the template 'total and deterministic' (their statements: YtnkkfkbchijfnaaTotals.lean).
  GIVEN WITH THE SEED: the statements are not yours to turn. If you find one false, say at which input.
  Laid BY PROGRAM, IN A SANDBOX (cutbox-rows.mjs): the forced cells as the released guide's own fill.sh prints them over the translation ef06f84aa23e8cf9… (all of the seat's roots in one cut). By AI agents, Wed Nov 11 2026. No macro, syntax, notation, axiom, sorry.
-/
import Derived.Test.YtnkkfkbchijfnaaChecked
import GoSem.Claim
import GoSem.ClaimJoined
import GoSem.ClaimMapViews
import Derived.JoinedTies
import Derived.KernelRfl
namespace Go.Proofs.Ytnkkfkbchijfnaa
/- THE CELL 'sum', in the pinned program and in every row, IS THE sha256 OF THE DUMP (.gsa) THAT YtnkkfkbchijfnaaProg.lean LOADS. Nothing in Lean hashes anything: it is a label: what it is worth is what the hold of that sum in a sandbox is worth. -/
noncomputable def Try.pinned : Pinned := { name := "ytnkkfkbchijfnaa", sum := "ef06f84aa23e8cf99ba1483942a3906c7b758733c41760f7f15456d4102d7931", checked := Try.checked }
namespace Rows
def none {H : Type} : Left H := { results := [], args := [] }

/-- 'castellanlaw17.EpochPromises': WHATEVER THE INPUT: true; the input reads as it did. -/
def epochPromisesSpec : ChangeSpec := { name := "epochPromises", fn := fun _ => fun
  | [d1, d2, d3] => { results := [.lit (.bool true)], args := [d1, d2, d3] }
  | _ => none }
def epochPromisesRow : OpenClaim := { program := "ytnkkfkbchijfnaa", sum := "ef06f84aa23e8cf99ba1483942a3906c7b758733c41760f7f15456d4102d7931", func := "castellan/castellanlaw17.EpochPromises", spec := "epochPromises", unfollowed := true, recurses := true, apart := false }
def EpochPromisesSaid : Prop := epochPromisesRow.holds Try.pinned (OpenSpec.ofChange epochPromisesSpec)

/-- ITS FALSE NEIGHBOUR: 'it returns false'. Refute it at one input. -/
def epochPromisesWrong : ChangeSpec := { name := "epochPromises", fn := fun _ => fun
  | [d1, d2, d3] => { results := [.lit (.bool false)], args := [d1, d2, d3] }
  | _ => none }
def EpochPromisesWrongFalsely : Prop := epochPromisesRow.holds Try.pinned (OpenSpec.ofChange epochPromisesWrong)

/-- 'castellanlaw17.EpochHolds': WHATEVER THE INPUT: true; the input reads as it did. -/
def epochHoldsSpec : ChangeSpec := { name := "epochHolds", fn := fun _ => fun
  | [d1, d2, d3] => { results := [.lit (.bool true)], args := [d1, d2, d3] }
  | _ => none }
def epochHoldsRow : OpenClaim := { program := "ytnkkfkbchijfnaa", sum := "ef06f84aa23e8cf99ba1483942a3906c7b758733c41760f7f15456d4102d7931", func := "castellan/castellanlaw17.EpochHolds", spec := "epochHolds", unfollowed := true, recurses := true, apart := false }
def EpochHoldsSaid : Prop := epochHoldsRow.holds Try.pinned (OpenSpec.ofChange epochHoldsSpec)

/-- ITS FALSE NEIGHBOUR: 'it returns false'. Refute it at one input. -/
def epochHoldsWrong : ChangeSpec := { name := "epochHolds", fn := fun _ => fun
  | [d1, d2, d3] => { results := [.lit (.bool false)], args := [d1, d2, d3] }
  | _ => none }
def EpochHoldsWrongFalsely : Prop := epochHoldsRow.holds Try.pinned (OpenSpec.ofChange epochHoldsWrong)

/-- 'castellanlaw17.EpochOrders': WHATEVER THE INPUT: true; the input reads as it did. -/
def epochOrdersSpec : ChangeSpec := { name := "epochOrders", fn := fun _ => fun
  | [d1, d2, d3] => { results := [.lit (.bool true)], args := [d1, d2, d3] }
  | _ => none }
def epochOrdersRow : OpenClaim := { program := "ytnkkfkbchijfnaa", sum := "ef06f84aa23e8cf99ba1483942a3906c7b758733c41760f7f15456d4102d7931", func := "castellan/castellanlaw17.EpochOrders", spec := "epochOrders", unfollowed := true, recurses := true, apart := false }
def EpochOrdersSaid : Prop := epochOrdersRow.holds Try.pinned (OpenSpec.ofChange epochOrdersSpec)

/-- ITS FALSE NEIGHBOUR: 'it returns false'. Refute it at one input. -/
def epochOrdersWrong : ChangeSpec := { name := "epochOrders", fn := fun _ => fun
  | [d1, d2, d3] => { results := [.lit (.bool false)], args := [d1, d2, d3] }
  | _ => none }
def EpochOrdersWrongFalsely : Prop := epochOrdersRow.holds Try.pinned (OpenSpec.ofChange epochOrdersWrong)

/- THE SECOND FORM. 'bulk': how many values and letters a reading holds, each counted each time it is reached (what is shared counts as often as it is met; a slice's spare places count too). A statement '..UptoSaid' is the law's where the arguments, and the package variables that the reading takes, are together of bulk at most 1048576: NARROWER than '..Said'. Prove '..Said' where nothing that the law and all that it calls make is longer than what came in: it says more and counts as full. Else prove '..UptoSaid'. A law counts once. -/
mutual
def uptoBulk {H : Type} : DataW H → Nat
  | .lit (.string bytes) => bytes.length + 1
  | .lit _ => 1
  | .nil => 1
  | .ptr d => uptoBulk d + 1
  | .slice elems spare => uptoBulkAll elems + uptoBulkAll spare + 1
  | .agg parts => uptoBulkAll parts + 1
  | .iface _ d => uptoBulk d + 1
  | .map entries => uptoBulkEntries entries + 1
  | .held _ => 1
def uptoBulkAll {H : Type} : List (DataW H) → Nat
  | [] => 0
  | d :: r => uptoBulk d + uptoBulkAll r
def uptoBulkEntries {H : Type} : List (Lit × DataW H) → Nat
  | [] => 0
  | x :: r => uptoBulkEntry x + uptoBulkEntries r
def uptoBulkEntry {H : Type} : Lit × DataW H → Nat
  | (.string bytes, d) => bytes.length + uptoBulk d + 1
  | (_, d) => uptoBulk d + 1
 end
def uptoSmall : (H : Type) → List (DataW H) → Bool := fun _ ds => decide (uptoBulkAll ds ≤ 1048576)
def OpenSpec.upto (s : _root_.Go.ChangeSpec) : _root_.Go.OpenSpec := { _root_.Go.OpenSpec.ofChange s with cond := some uptoSmall }

/-- 'castellanlaw17.EpochPromises', WHERE WHAT IT READS IS OF BULK AT MOST 1048576: true; the input reads as it did. -/
def epochPromisesUptoRow : OpenClaim := { program := "ytnkkfkbchijfnaa", sum := "ef06f84aa23e8cf99ba1483942a3906c7b758733c41760f7f15456d4102d7931", func := "castellan/castellanlaw17.EpochPromises", spec := "epochPromises", unfollowed := true, recurses := true, apart := false, narrowed := true }
def EpochPromisesUptoSaid : Prop := epochPromisesUptoRow.holds Try.pinned (OpenSpec.upto epochPromisesSpec)

/-- 'castellanlaw17.EpochHolds', WHERE WHAT IT READS IS OF BULK AT MOST 1048576: true; the input reads as it did. -/
def epochHoldsUptoRow : OpenClaim := { program := "ytnkkfkbchijfnaa", sum := "ef06f84aa23e8cf99ba1483942a3906c7b758733c41760f7f15456d4102d7931", func := "castellan/castellanlaw17.EpochHolds", spec := "epochHolds", unfollowed := true, recurses := true, apart := false, narrowed := true }
def EpochHoldsUptoSaid : Prop := epochHoldsUptoRow.holds Try.pinned (OpenSpec.upto epochHoldsSpec)

/-- 'castellanlaw17.EpochOrders', WHERE WHAT IT READS IS OF BULK AT MOST 1048576: true; the input reads as it did. -/
def epochOrdersUptoRow : OpenClaim := { program := "ytnkkfkbchijfnaa", sum := "ef06f84aa23e8cf99ba1483942a3906c7b758733c41760f7f15456d4102d7931", func := "castellan/castellanlaw17.EpochOrders", spec := "epochOrders", unfollowed := true, recurses := true, apart := false, narrowed := true }
def EpochOrdersUptoSaid : Prop := epochOrdersUptoRow.holds Try.pinned (OpenSpec.upto epochOrdersSpec)

end Rows
end Go.Proofs.Ytnkkfkbchijfnaa
