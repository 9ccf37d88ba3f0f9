/-
  No cell of these rows narrows 'for every input' (looked for: loops, veiled, ifaces, maps, wideKeys, modest, calm, conditions, laid).
  DERIVED. THE GIVEN ROWS OF THIS SEAT. 5 by the template 'for every input the law returns true; each argument reads behind the call as it read before'; 0 by the template 'total and deterministic' (their statements: YtfmkfmcplffhdaaTotals.lean).
  GIVEN WITH THE SEED: the statements are not yours to turn. If you find one false, say at which input.
  Laid BY PROGRAM, IN A SANDBOX (cutbox-rows.mjs): the forced cells as the released guide's own fill.sh prints them over the translation afaf560131cfff4f… (all of the seat's roots in one cut). By AI agents, Wed Nov 11 2026. No macro, syntax, notation, axiom, sorry.
-/
import Derived.Test.YtfmkfmcplffhdaaChecked
import GoSem.Claim
import GoSem.ClaimJoined
import GoSem.ClaimMapViews
import Derived.JoinedTies
import Derived.KernelRfl
namespace Go.Proofs.Ytfmkfmcplffhdaa
/- THE CELL 'sum', in the pinned program and in every row, IS THE sha256 OF THE DUMP (.gsa) THAT YtfmkfmcplffhdaaProg.lean LOADS. Nothing in Lean hashes anything: it is a label: what it is worth is what the hold of that sum in a sandbox is worth. -/
noncomputable def Try.pinned : Pinned := { name := "ytfmkfmcplffhdaa", sum := "afaf560131cfff4f7ca09c52a72b4601d095f150d759f6c402a449b86097b437", checked := Try.checked }
namespace Rows
def none {H : Type} : Left H := { results := [], args := [] }

/-- 'ploverlaw19.LiveTells': WHATEVER THE INPUT: true; the input reads as it did. -/
def liveTellsSpec : ChangeSpec := { name := "liveTells", fn := fun _ => fun
  | [d1, d2, d3] => { results := [.lit (.bool true)], args := [d1, d2, d3] }
  | _ => none }
def liveTellsRow : OpenClaim := { program := "ytfmkfmcplffhdaa", sum := "afaf560131cfff4f7ca09c52a72b4601d095f150d759f6c402a449b86097b437", func := "plover/ploverlaw19.LiveTells", spec := "liveTells", unfollowed := true, recurses := true, apart := false }
def LiveTellsSaid : Prop := liveTellsRow.holds Try.pinned (OpenSpec.ofChange liveTellsSpec)

/-- ITS FALSE NEIGHBOUR: 'it returns false'. Refute it at one input. -/
def liveTellsWrong : ChangeSpec := { name := "liveTells", fn := fun _ => fun
  | [d1, d2, d3] => { results := [.lit (.bool false)], args := [d1, d2, d3] }
  | _ => none }
def LiveTellsWrongFalsely : Prop := liveTellsRow.holds Try.pinned (OpenSpec.ofChange liveTellsWrong)

/-- 'ploverlaw19.LiveKeeps': WHATEVER THE INPUT: true; the input reads as it did. -/
def liveKeepsSpec : ChangeSpec := { name := "liveKeeps", fn := fun _ => fun
  | [d1, d2] => { results := [.lit (.bool true)], args := [d1, d2] }
  | _ => none }
def liveKeepsRow : OpenClaim := { program := "ytfmkfmcplffhdaa", sum := "afaf560131cfff4f7ca09c52a72b4601d095f150d759f6c402a449b86097b437", func := "plover/ploverlaw19.LiveKeeps", spec := "liveKeeps", unfollowed := true, recurses := true, apart := false }
def LiveKeepsSaid : Prop := liveKeepsRow.holds Try.pinned (OpenSpec.ofChange liveKeepsSpec)

/-- ITS FALSE NEIGHBOUR: 'it returns false'. Refute it at one input. -/
def liveKeepsWrong : ChangeSpec := { name := "liveKeeps", fn := fun _ => fun
  | [d1, d2] => { results := [.lit (.bool false)], args := [d1, d2] }
  | _ => none }
def LiveKeepsWrongFalsely : Prop := liveKeepsRow.holds Try.pinned (OpenSpec.ofChange liveKeepsWrong)

/-- 'ploverlaw19.LiveHolds': WHATEVER THE INPUT: true; the input reads as it did. -/
def liveHoldsSpec : ChangeSpec := { name := "liveHolds", fn := fun _ => fun
  | [d] => { results := [.lit (.bool true)], args := [d] }
  | _ => none }
def liveHoldsRow : OpenClaim := { program := "ytfmkfmcplffhdaa", sum := "afaf560131cfff4f7ca09c52a72b4601d095f150d759f6c402a449b86097b437", func := "plover/ploverlaw19.LiveHolds", spec := "liveHolds", unfollowed := true, recurses := true, apart := false }
def LiveHoldsSaid : Prop := liveHoldsRow.holds Try.pinned (OpenSpec.ofChange liveHoldsSpec)

/-- ITS FALSE NEIGHBOUR: 'it returns false'. Refute it at one input. -/
def liveHoldsWrong : ChangeSpec := { name := "liveHolds", fn := fun _ => fun
  | [d] => { results := [.lit (.bool false)], args := [d] }
  | _ => none }
def LiveHoldsWrongFalsely : Prop := liveHoldsRow.holds Try.pinned (OpenSpec.ofChange liveHoldsWrong)

/-- 'ploverlaw19.LiveKnown': WHATEVER THE INPUT: true; the input reads as it did. -/
def liveKnownSpec : ChangeSpec := { name := "liveKnown", fn := fun _ => fun
  | [] => { results := [.lit (.bool true)], args := [] }
  | _ => none }
def liveKnownRow : OpenClaim := { program := "ytfmkfmcplffhdaa", sum := "afaf560131cfff4f7ca09c52a72b4601d095f150d759f6c402a449b86097b437", func := "plover/ploverlaw19.LiveKnown", spec := "liveKnown", unfollowed := true, recurses := true, apart := false }
def LiveKnownSaid : Prop := liveKnownRow.holds Try.pinned (OpenSpec.ofChange liveKnownSpec)

/-- ITS FALSE NEIGHBOUR: 'it returns false'. Refute it at one input. -/
def liveKnownWrong : ChangeSpec := { name := "liveKnown", fn := fun _ => fun
  | [] => { results := [.lit (.bool false)], args := [] }
  | _ => none }
def LiveKnownWrongFalsely : Prop := liveKnownRow.holds Try.pinned (OpenSpec.ofChange liveKnownWrong)

/-- 'ploverlaw19.LiveNames': WHATEVER THE INPUT: true; the input reads as it did. -/
def liveNamesSpec : ChangeSpec := { name := "liveNames", fn := fun _ => fun
  | [d1, d2] => { results := [.lit (.bool true)], args := [d1, d2] }
  | _ => none }
def liveNamesRow : OpenClaim := { program := "ytfmkfmcplffhdaa", sum := "afaf560131cfff4f7ca09c52a72b4601d095f150d759f6c402a449b86097b437", func := "plover/ploverlaw19.LiveNames", spec := "liveNames", unfollowed := true, recurses := true, apart := false }
def LiveNamesSaid : Prop := liveNamesRow.holds Try.pinned (OpenSpec.ofChange liveNamesSpec)

/-- ITS FALSE NEIGHBOUR: 'it returns false'. Refute it at one input. -/
def liveNamesWrong : ChangeSpec := { name := "liveNames", fn := fun _ => fun
  | [d1, d2] => { results := [.lit (.bool false)], args := [d1, d2] }
  | _ => none }
def LiveNamesWrongFalsely : Prop := liveNamesRow.holds Try.pinned (OpenSpec.ofChange liveNamesWrong)

/- THE SECOND FORM. 'bulk': how many values and letters a reading holds, each counted each time it is reached (what is shared counts as often as it is met; a slice's spare places count too). A statement '..UptoSaid' is the law's where the arguments, and the package variables that the reading takes, are together of bulk at most 1048576: NARROWER than '..Said'. Prove '..Said' where nothing that the law and all that it calls make is longer than what came in: it says more and counts as full. Else prove '..UptoSaid'. A law counts once. -/
mutual
def uptoBulk {H : Type} : DataW H → Nat
  | .lit (.string bytes) => bytes.length + 1
  | .lit _ => 1
  | .nil => 1
  | .ptr d => uptoBulk d + 1
  | .slice elems spare => uptoBulkAll elems + uptoBulkAll spare + 1
  | .agg parts => uptoBulkAll parts + 1
  | .iface _ d => uptoBulk d + 1
  | .map entries => uptoBulkEntries entries + 1
  | .held _ => 1
def uptoBulkAll {H : Type} : List (DataW H) → Nat
  | [] => 0
  | d :: r => uptoBulk d + uptoBulkAll r
def uptoBulkEntries {H : Type} : List (Lit × DataW H) → Nat
  | [] => 0
  | x :: r => uptoBulkEntry x + uptoBulkEntries r
def uptoBulkEntry {H : Type} : Lit × DataW H → Nat
  | (.string bytes, d) => bytes.length + uptoBulk d + 1
  | (_, d) => uptoBulk d + 1
 end
def uptoSmall : (H : Type) → List (DataW H) → Bool := fun _ ds => decide (uptoBulkAll ds ≤ 1048576)
def OpenSpec.upto (s : _root_.Go.ChangeSpec) : _root_.Go.OpenSpec := { _root_.Go.OpenSpec.ofChange s with cond := some uptoSmall }

/-- 'ploverlaw19.LiveTells', WHERE WHAT IT READS IS OF BULK AT MOST 1048576: true; the input reads as it did. -/
def liveTellsUptoRow : OpenClaim := { program := "ytfmkfmcplffhdaa", sum := "afaf560131cfff4f7ca09c52a72b4601d095f150d759f6c402a449b86097b437", func := "plover/ploverlaw19.LiveTells", spec := "liveTells", unfollowed := true, recurses := true, apart := false, narrowed := true }
def LiveTellsUptoSaid : Prop := liveTellsUptoRow.holds Try.pinned (OpenSpec.upto liveTellsSpec)

/-- 'ploverlaw19.LiveKeeps', WHERE WHAT IT READS IS OF BULK AT MOST 1048576: true; the input reads as it did. -/
def liveKeepsUptoRow : OpenClaim := { program := "ytfmkfmcplffhdaa", sum := "afaf560131cfff4f7ca09c52a72b4601d095f150d759f6c402a449b86097b437", func := "plover/ploverlaw19.LiveKeeps", spec := "liveKeeps", unfollowed := true, recurses := true, apart := false, narrowed := true }
def LiveKeepsUptoSaid : Prop := liveKeepsUptoRow.holds Try.pinned (OpenSpec.upto liveKeepsSpec)

/-- 'ploverlaw19.LiveHolds', WHERE WHAT IT READS IS OF BULK AT MOST 1048576: true; the input reads as it did. -/
def liveHoldsUptoRow : OpenClaim := { program := "ytfmkfmcplffhdaa", sum := "afaf560131cfff4f7ca09c52a72b4601d095f150d759f6c402a449b86097b437", func := "plover/ploverlaw19.LiveHolds", spec := "liveHolds", unfollowed := true, recurses := true, apart := false, narrowed := true }
def LiveHoldsUptoSaid : Prop := liveHoldsUptoRow.holds Try.pinned (OpenSpec.upto liveHoldsSpec)

/-- 'ploverlaw19.LiveKnown', WHERE WHAT IT READS IS OF BULK AT MOST 1048576: true; the input reads as it did. -/
def liveKnownUptoRow : OpenClaim := { program := "ytfmkfmcplffhdaa", sum := "afaf560131cfff4f7ca09c52a72b4601d095f150d759f6c402a449b86097b437", func := "plover/ploverlaw19.LiveKnown", spec := "liveKnown", unfollowed := true, recurses := true, apart := false, narrowed := true }
def LiveKnownUptoSaid : Prop := liveKnownUptoRow.holds Try.pinned (OpenSpec.upto liveKnownSpec)

/-- 'ploverlaw19.LiveNames', WHERE WHAT IT READS IS OF BULK AT MOST 1048576: true; the input reads as it did. -/
def liveNamesUptoRow : OpenClaim := { program := "ytfmkfmcplffhdaa", sum := "afaf560131cfff4f7ca09c52a72b4601d095f150d759f6c402a449b86097b437", func := "plover/ploverlaw19.LiveNames", spec := "liveNames", unfollowed := true, recurses := true, apart := false, narrowed := true }
def LiveNamesUptoSaid : Prop := liveNamesUptoRow.holds Try.pinned (OpenSpec.upto liveNamesSpec)

end Rows
end Go.Proofs.Ytfmkfmcplffhdaa
