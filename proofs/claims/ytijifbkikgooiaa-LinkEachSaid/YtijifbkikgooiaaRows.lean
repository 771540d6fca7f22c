/-
  No cell of these rows narrows 'for every input' (looked for: loops, veiled, ifaces, maps, wideKeys, modest, calm, conditions, laid).
  DERIVED. THE GIVEN ROWS OF THIS SEAT. 5 by the template 'for every input the law returns true; each argument reads behind the call as it read before'; 0 by the template 'total and deterministic' (their statements: YtijifbkikgooiaaTotals.lean).
  GIVEN WITH THE SEED: the statements are not yours to turn. If you find one false, say at which input.
  Laid BY PROGRAM, IN A SANDBOX (cutbox-rows.mjs): the forced cells as the released guide's own fill.sh prints them over the translation 0f51fcdc874d83d2… (all of the seat's roots in one cut). By AI agents, Wed Nov 11 2026. No macro, syntax, notation, axiom, sorry.
-/
import Derived.Test.YtijifbkikgooiaaChecked
import GoSem.Claim
import GoSem.ClaimJoined
import GoSem.ClaimMapViews
import Derived.JoinedTies
import Derived.KernelRfl
namespace Go.Proofs.Ytijifbkikgooiaa
/- THE CELL 'sum', in the pinned program and in every row, IS THE sha256 OF THE DUMP (.gsa) THAT YtijifbkikgooiaaProg.lean LOADS. Nothing in Lean hashes anything: it is a label: what it is worth is what the hold of that sum in a sandbox is worth. -/
noncomputable def Try.pinned : Pinned := { name := "ytijifbkikgooiaa", sum := "0f51fcdc874d83d22cddbbfe7f0c2beab285ff73b8981cd53faed51c537312ae", checked := Try.checked }
namespace Rows
def none {H : Type} : Left H := { results := [], args := [] }

/-- 'castellanlaw11.LinkMakes': WHATEVER THE INPUT: true; the input reads as it did. -/
def linkMakesSpec : ChangeSpec := { name := "linkMakes", fn := fun _ => fun
  | [d1, d2, d3] => { results := [.lit (.bool true)], args := [d1, d2, d3] }
  | _ => none }
def linkMakesRow : OpenClaim := { program := "ytijifbkikgooiaa", sum := "0f51fcdc874d83d22cddbbfe7f0c2beab285ff73b8981cd53faed51c537312ae", func := "castellan/castellanlaw11.LinkMakes", spec := "linkMakes", unfollowed := true, recurses := true, apart := false }
def LinkMakesSaid : Prop := linkMakesRow.holds Try.pinned (OpenSpec.ofChange linkMakesSpec)

/-- ITS FALSE NEIGHBOUR: 'it returns false'. Refute it at one input. -/
def linkMakesWrong : ChangeSpec := { name := "linkMakes", fn := fun _ => fun
  | [d1, d2, d3] => { results := [.lit (.bool false)], args := [d1, d2, d3] }
  | _ => none }
def LinkMakesWrongFalsely : Prop := linkMakesRow.holds Try.pinned (OpenSpec.ofChange linkMakesWrong)

/-- 'castellanlaw11.LinkSends': WHATEVER THE INPUT: true; the input reads as it did. -/
def linkSendsSpec : ChangeSpec := { name := "linkSends", fn := fun _ => fun
  | [d1, d2] => { results := [.lit (.bool true)], args := [d1, d2] }
  | _ => none }
def linkSendsRow : OpenClaim := { program := "ytijifbkikgooiaa", sum := "0f51fcdc874d83d22cddbbfe7f0c2beab285ff73b8981cd53faed51c537312ae", func := "castellan/castellanlaw11.LinkSends", spec := "linkSends", unfollowed := true, recurses := true, apart := false }
def LinkSendsSaid : Prop := linkSendsRow.holds Try.pinned (OpenSpec.ofChange linkSendsSpec)

/-- ITS FALSE NEIGHBOUR: 'it returns false'. Refute it at one input. -/
def linkSendsWrong : ChangeSpec := { name := "linkSends", fn := fun _ => fun
  | [d1, d2] => { results := [.lit (.bool false)], args := [d1, d2] }
  | _ => none }
def LinkSendsWrongFalsely : Prop := linkSendsRow.holds Try.pinned (OpenSpec.ofChange linkSendsWrong)

/-- 'castellanlaw11.LinkTakes': WHATEVER THE INPUT: true; the input reads as it did. -/
def linkTakesSpec : ChangeSpec := { name := "linkTakes", fn := fun _ => fun
  | [d1, d2, d3] => { results := [.lit (.bool true)], args := [d1, d2, d3] }
  | _ => none }
def linkTakesRow : OpenClaim := { program := "ytijifbkikgooiaa", sum := "0f51fcdc874d83d22cddbbfe7f0c2beab285ff73b8981cd53faed51c537312ae", func := "castellan/castellanlaw11.LinkTakes", spec := "linkTakes", unfollowed := true, recurses := true, apart := false }
def LinkTakesSaid : Prop := linkTakesRow.holds Try.pinned (OpenSpec.ofChange linkTakesSpec)

/-- ITS FALSE NEIGHBOUR: 'it returns false'. Refute it at one input. -/
def linkTakesWrong : ChangeSpec := { name := "linkTakes", fn := fun _ => fun
  | [d1, d2, d3] => { results := [.lit (.bool false)], args := [d1, d2, d3] }
  | _ => none }
def LinkTakesWrongFalsely : Prop := linkTakesRow.holds Try.pinned (OpenSpec.ofChange linkTakesWrong)

/-- 'castellanlaw11.LinkHolds': WHATEVER THE INPUT: true; the input reads as it did. -/
def linkHoldsSpec : ChangeSpec := { name := "linkHolds", fn := fun _ => fun
  | [d1, d2] => { results := [.lit (.bool true)], args := [d1, d2] }
  | _ => none }
def linkHoldsRow : OpenClaim := { program := "ytijifbkikgooiaa", sum := "0f51fcdc874d83d22cddbbfe7f0c2beab285ff73b8981cd53faed51c537312ae", func := "castellan/castellanlaw11.LinkHolds", spec := "linkHolds", unfollowed := true, recurses := true, apart := false }
def LinkHoldsSaid : Prop := linkHoldsRow.holds Try.pinned (OpenSpec.ofChange linkHoldsSpec)

/-- ITS FALSE NEIGHBOUR: 'it returns false'. Refute it at one input. -/
def linkHoldsWrong : ChangeSpec := { name := "linkHolds", fn := fun _ => fun
  | [d1, d2] => { results := [.lit (.bool false)], args := [d1, d2] }
  | _ => none }
def LinkHoldsWrongFalsely : Prop := linkHoldsRow.holds Try.pinned (OpenSpec.ofChange linkHoldsWrong)

/-- 'castellanlaw11.LinkEach': WHATEVER THE INPUT: true; the input reads as it did. -/
def linkEachSpec : ChangeSpec := { name := "linkEach", fn := fun _ => fun
  | [d1, d2, d3] => { results := [.lit (.bool true)], args := [d1, d2, d3] }
  | _ => none }
def linkEachRow : OpenClaim := { program := "ytijifbkikgooiaa", sum := "0f51fcdc874d83d22cddbbfe7f0c2beab285ff73b8981cd53faed51c537312ae", func := "castellan/castellanlaw11.LinkEach", spec := "linkEach", unfollowed := true, recurses := true, apart := false }
def LinkEachSaid : Prop := linkEachRow.holds Try.pinned (OpenSpec.ofChange linkEachSpec)

/-- ITS FALSE NEIGHBOUR: 'it returns false'. Refute it at one input. -/
def linkEachWrong : ChangeSpec := { name := "linkEach", fn := fun _ => fun
  | [d1, d2, d3] => { results := [.lit (.bool false)], args := [d1, d2, d3] }
  | _ => none }
def LinkEachWrongFalsely : Prop := linkEachRow.holds Try.pinned (OpenSpec.ofChange linkEachWrong)

/- THE SECOND FORM. 'bulk': how many values and letters a reading holds, each counted each time it is reached (what is shared counts as often as it is met; a slice's spare places count too). A statement '..UptoSaid' is the law's where the arguments, and the package variables that the reading takes, are together of bulk at most 1048576: NARROWER than '..Said'. Prove '..Said' where nothing that the law and all that it calls make is longer than what came in: it says more and counts as full. Else prove '..UptoSaid'. A law counts once. -/
mutual
def uptoBulk {H : Type} : DataW H → Nat
  | .lit (.string bytes) => bytes.length + 1
  | .lit _ => 1
  | .nil => 1
  | .ptr d => uptoBulk d + 1
  | .slice elems spare => uptoBulkAll elems + uptoBulkAll spare + 1
  | .agg parts => uptoBulkAll parts + 1
  | .iface _ d => uptoBulk d + 1
  | .map entries => uptoBulkEntries entries + 1
  | .held _ => 1
def uptoBulkAll {H : Type} : List (DataW H) → Nat
  | [] => 0
  | d :: r => uptoBulk d + uptoBulkAll r
def uptoBulkEntries {H : Type} : List (Lit × DataW H) → Nat
  | [] => 0
  | x :: r => uptoBulkEntry x + uptoBulkEntries r
def uptoBulkEntry {H : Type} : Lit × DataW H → Nat
  | (.string bytes, d) => bytes.length + uptoBulk d + 1
  | (_, d) => uptoBulk d + 1
 end
def uptoSmall : (H : Type) → List (DataW H) → Bool := fun _ ds => decide (uptoBulkAll ds ≤ 1048576)
def OpenSpec.upto (s : _root_.Go.ChangeSpec) : _root_.Go.OpenSpec := { _root_.Go.OpenSpec.ofChange s with cond := some uptoSmall }

/-- 'castellanlaw11.LinkMakes', WHERE WHAT IT READS IS OF BULK AT MOST 1048576: true; the input reads as it did. -/
def linkMakesUptoRow : OpenClaim := { program := "ytijifbkikgooiaa", sum := "0f51fcdc874d83d22cddbbfe7f0c2beab285ff73b8981cd53faed51c537312ae", func := "castellan/castellanlaw11.LinkMakes", spec := "linkMakes", unfollowed := true, recurses := true, apart := false, narrowed := true }
def LinkMakesUptoSaid : Prop := linkMakesUptoRow.holds Try.pinned (OpenSpec.upto linkMakesSpec)

/-- 'castellanlaw11.LinkSends', WHERE WHAT IT READS IS OF BULK AT MOST 1048576: true; the input reads as it did. -/
def linkSendsUptoRow : OpenClaim := { program := "ytijifbkikgooiaa", sum := "0f51fcdc874d83d22cddbbfe7f0c2beab285ff73b8981cd53faed51c537312ae", func := "castellan/castellanlaw11.LinkSends", spec := "linkSends", unfollowed := true, recurses := true, apart := false, narrowed := true }
def LinkSendsUptoSaid : Prop := linkSendsUptoRow.holds Try.pinned (OpenSpec.upto linkSendsSpec)

/-- 'castellanlaw11.LinkTakes', WHERE WHAT IT READS IS OF BULK AT MOST 1048576: true; the input reads as it did. -/
def linkTakesUptoRow : OpenClaim := { program := "ytijifbkikgooiaa", sum := "0f51fcdc874d83d22cddbbfe7f0c2beab285ff73b8981cd53faed51c537312ae", func := "castellan/castellanlaw11.LinkTakes", spec := "linkTakes", unfollowed := true, recurses := true, apart := false, narrowed := true }
def LinkTakesUptoSaid : Prop := linkTakesUptoRow.holds Try.pinned (OpenSpec.upto linkTakesSpec)

/-- 'castellanlaw11.LinkHolds', WHERE WHAT IT READS IS OF BULK AT MOST 1048576: true; the input reads as it did. -/
def linkHoldsUptoRow : OpenClaim := { program := "ytijifbkikgooiaa", sum := "0f51fcdc874d83d22cddbbfe7f0c2beab285ff73b8981cd53faed51c537312ae", func := "castellan/castellanlaw11.LinkHolds", spec := "linkHolds", unfollowed := true, recurses := true, apart := false, narrowed := true }
def LinkHoldsUptoSaid : Prop := linkHoldsUptoRow.holds Try.pinned (OpenSpec.upto linkHoldsSpec)

/-- 'castellanlaw11.LinkEach', WHERE WHAT IT READS IS OF BULK AT MOST 1048576: true; the input reads as it did. -/
def linkEachUptoRow : OpenClaim := { program := "ytijifbkikgooiaa", sum := "0f51fcdc874d83d22cddbbfe7f0c2beab285ff73b8981cd53faed51c537312ae", func := "castellan/castellanlaw11.LinkEach", spec := "linkEach", unfollowed := true, recurses := true, apart := false, narrowed := true }
def LinkEachUptoSaid : Prop := linkEachUptoRow.holds Try.pinned (OpenSpec.upto linkEachSpec)

end Rows
end Go.Proofs.Ytijifbkikgooiaa
