/-
  No cell of these rows narrows 'for every input' (looked for: loops, veiled, ifaces, maps, wideKeys, modest, calm, conditions, laid).
  DERIVED. THE GIVEN ROWS OF THIS SEAT. 4 by the template 'for every input the law returns true; each argument reads behind the call as it read before'; 0 by the template 'total and deterministic' (their statements: YtlgoenimjmiapaaTotals.lean).
  GIVEN WITH THE SEED: the statements are not yours to turn. If you find one false, say at which input.
  Laid BY PROGRAM, IN A SANDBOX (cutbox-rows.mjs): the forced cells as the released guide's own fill.sh prints them over the translation 9d9ed718c86165d1… (all of the seat's roots in one cut). By AI agents, Wed Nov 11 2026. No macro, syntax, notation, axiom, sorry.
-/
import Derived.Test.YtlgoenimjmiapaaChecked
import GoSem.Claim
import GoSem.ClaimJoined
import GoSem.ClaimMapViews
import Derived.JoinedTies
import Derived.KernelRfl
namespace Go.Proofs.Ytlgoenimjmiapaa
/- THE CELL 'sum', in the pinned program and in every row, IS THE sha256 OF THE DUMP (.gsa) THAT YtlgoenimjmiapaaProg.lean LOADS. Nothing in Lean hashes anything: it is a label: what it is worth is what the hold of that sum in a sandbox is worth. -/
noncomputable def Try.pinned : Pinned := { name := "ytlgoenimjmiapaa", sum := "9d9ed718c86165d14e71c43f331cfaa3ed666ed5be5f46967ed6896c7764ab4b", checked := Try.checked }
namespace Rows
def none {H : Type} : Left H := { results := [], args := [] }

/-- 'longstoplaw19.QuorumVotes': WHATEVER THE INPUT: true; the input reads as it did. -/
def quorumVotesSpec : ChangeSpec := { name := "quorumVotes", fn := fun _ => fun
  | [d1, d2, d3] => { results := [.lit (.bool true)], args := [d1, d2, d3] }
  | _ => none }
def quorumVotesRow : OpenClaim := { program := "ytlgoenimjmiapaa", sum := "9d9ed718c86165d14e71c43f331cfaa3ed666ed5be5f46967ed6896c7764ab4b", func := "longstop/longstoplaw19.QuorumVotes", spec := "quorumVotes", unfollowed := true, recurses := true, apart := false }
def QuorumVotesSaid : Prop := quorumVotesRow.holds Try.pinned (OpenSpec.ofChange quorumVotesSpec)

/-- ITS FALSE NEIGHBOUR: 'it returns false'. Refute it at one input. -/
def quorumVotesWrong : ChangeSpec := { name := "quorumVotes", fn := fun _ => fun
  | [d1, d2, d3] => { results := [.lit (.bool false)], args := [d1, d2, d3] }
  | _ => none }
def QuorumVotesWrongFalsely : Prop := quorumVotesRow.holds Try.pinned (OpenSpec.ofChange quorumVotesWrong)

/-- 'longstoplaw19.QuorumNil': WHATEVER THE INPUT: true; the input reads as it did. -/
def quorumNilSpec : ChangeSpec := { name := "quorumNil", fn := fun _ => fun
  | [d1, d2] => { results := [.lit (.bool true)], args := [d1, d2] }
  | _ => none }
def quorumNilRow : OpenClaim := { program := "ytlgoenimjmiapaa", sum := "9d9ed718c86165d14e71c43f331cfaa3ed666ed5be5f46967ed6896c7764ab4b", func := "longstop/longstoplaw19.QuorumNil", spec := "quorumNil", unfollowed := true, recurses := true, apart := false }
def QuorumNilSaid : Prop := quorumNilRow.holds Try.pinned (OpenSpec.ofChange quorumNilSpec)

/-- ITS FALSE NEIGHBOUR: 'it returns false'. Refute it at one input. -/
def quorumNilWrong : ChangeSpec := { name := "quorumNil", fn := fun _ => fun
  | [d1, d2] => { results := [.lit (.bool false)], args := [d1, d2] }
  | _ => none }
def QuorumNilWrongFalsely : Prop := quorumNilRow.holds Try.pinned (OpenSpec.ofChange quorumNilWrong)

/-- 'longstoplaw19.QuorumSafe': WHATEVER THE INPUT: true; the input reads as it did. -/
def quorumSafeSpec : ChangeSpec := { name := "quorumSafe", fn := fun _ => fun
  | [d1, d2] => { results := [.lit (.bool true)], args := [d1, d2] }
  | _ => none }
def quorumSafeRow : OpenClaim := { program := "ytlgoenimjmiapaa", sum := "9d9ed718c86165d14e71c43f331cfaa3ed666ed5be5f46967ed6896c7764ab4b", func := "longstop/longstoplaw19.QuorumSafe", spec := "quorumSafe", unfollowed := true, recurses := true, apart := false }
def QuorumSafeSaid : Prop := quorumSafeRow.holds Try.pinned (OpenSpec.ofChange quorumSafeSpec)

/-- ITS FALSE NEIGHBOUR: 'it returns false'. Refute it at one input. -/
def quorumSafeWrong : ChangeSpec := { name := "quorumSafe", fn := fun _ => fun
  | [d1, d2] => { results := [.lit (.bool false)], args := [d1, d2] }
  | _ => none }
def QuorumSafeWrongFalsely : Prop := quorumSafeRow.holds Try.pinned (OpenSpec.ofChange quorumSafeWrong)

/-- 'longstoplaw19.QuorumSettles': WHATEVER THE INPUT: true; the input reads as it did. -/
def quorumSettlesSpec : ChangeSpec := { name := "quorumSettles", fn := fun _ => fun
  | [d1, d2] => { results := [.lit (.bool true)], args := [d1, d2] }
  | _ => none }
def quorumSettlesRow : OpenClaim := { program := "ytlgoenimjmiapaa", sum := "9d9ed718c86165d14e71c43f331cfaa3ed666ed5be5f46967ed6896c7764ab4b", func := "longstop/longstoplaw19.QuorumSettles", spec := "quorumSettles", unfollowed := true, recurses := true, apart := false }
def QuorumSettlesSaid : Prop := quorumSettlesRow.holds Try.pinned (OpenSpec.ofChange quorumSettlesSpec)

/-- ITS FALSE NEIGHBOUR: 'it returns false'. Refute it at one input. -/
def quorumSettlesWrong : ChangeSpec := { name := "quorumSettles", fn := fun _ => fun
  | [d1, d2] => { results := [.lit (.bool false)], args := [d1, d2] }
  | _ => none }
def QuorumSettlesWrongFalsely : Prop := quorumSettlesRow.holds Try.pinned (OpenSpec.ofChange quorumSettlesWrong)

/- THE SECOND FORM. 'bulk': how many values and letters a reading holds, each counted each time it is reached (what is shared counts as often as it is met; a slice's spare places count too). A statement '..UptoSaid' is the law's where the arguments, and the package variables that the reading takes, are together of bulk at most 1048576: NARROWER than '..Said'. Prove '..Said' where nothing that the law and all that it calls make is longer than what came in: it says more and counts as full. Else prove '..UptoSaid'. A law counts once. -/
mutual
def uptoBulk {H : Type} : DataW H → Nat
  | .lit (.string bytes) => bytes.length + 1
  | .lit _ => 1
  | .nil => 1
  | .ptr d => uptoBulk d + 1
  | .slice elems spare => uptoBulkAll elems + uptoBulkAll spare + 1
  | .agg parts => uptoBulkAll parts + 1
  | .iface _ d => uptoBulk d + 1
  | .map entries => uptoBulkEntries entries + 1
  | .held _ => 1
def uptoBulkAll {H : Type} : List (DataW H) → Nat
  | [] => 0
  | d :: r => uptoBulk d + uptoBulkAll r
def uptoBulkEntries {H : Type} : List (Lit × DataW H) → Nat
  | [] => 0
  | x :: r => uptoBulkEntry x + uptoBulkEntries r
def uptoBulkEntry {H : Type} : Lit × DataW H → Nat
  | (.string bytes, d) => bytes.length + uptoBulk d + 1
  | (_, d) => uptoBulk d + 1
 end
def uptoSmall : (H : Type) → List (DataW H) → Bool := fun _ ds => decide (uptoBulkAll ds ≤ 1048576)
def OpenSpec.upto (s : _root_.Go.ChangeSpec) : _root_.Go.OpenSpec := { _root_.Go.OpenSpec.ofChange s with cond := some uptoSmall }

/-- 'longstoplaw19.QuorumVotes', WHERE WHAT IT READS IS OF BULK AT MOST 1048576: true; the input reads as it did. -/
def quorumVotesUptoRow : OpenClaim := { program := "ytlgoenimjmiapaa", sum := "9d9ed718c86165d14e71c43f331cfaa3ed666ed5be5f46967ed6896c7764ab4b", func := "longstop/longstoplaw19.QuorumVotes", spec := "quorumVotes", unfollowed := true, recurses := true, apart := false, narrowed := true }
def QuorumVotesUptoSaid : Prop := quorumVotesUptoRow.holds Try.pinned (OpenSpec.upto quorumVotesSpec)

/-- 'longstoplaw19.QuorumNil', WHERE WHAT IT READS IS OF BULK AT MOST 1048576: true; the input reads as it did. -/
def quorumNilUptoRow : OpenClaim := { program := "ytlgoenimjmiapaa", sum := "9d9ed718c86165d14e71c43f331cfaa3ed666ed5be5f46967ed6896c7764ab4b", func := "longstop/longstoplaw19.QuorumNil", spec := "quorumNil", unfollowed := true, recurses := true, apart := false, narrowed := true }
def QuorumNilUptoSaid : Prop := quorumNilUptoRow.holds Try.pinned (OpenSpec.upto quorumNilSpec)

/-- 'longstoplaw19.QuorumSafe', WHERE WHAT IT READS IS OF BULK AT MOST 1048576: true; the input reads as it did. -/
def quorumSafeUptoRow : OpenClaim := { program := "ytlgoenimjmiapaa", sum := "9d9ed718c86165d14e71c43f331cfaa3ed666ed5be5f46967ed6896c7764ab4b", func := "longstop/longstoplaw19.QuorumSafe", spec := "quorumSafe", unfollowed := true, recurses := true, apart := false, narrowed := true }
def QuorumSafeUptoSaid : Prop := quorumSafeUptoRow.holds Try.pinned (OpenSpec.upto quorumSafeSpec)

/-- 'longstoplaw19.QuorumSettles', WHERE WHAT IT READS IS OF BULK AT MOST 1048576: true; the input reads as it did. -/
def quorumSettlesUptoRow : OpenClaim := { program := "ytlgoenimjmiapaa", sum := "9d9ed718c86165d14e71c43f331cfaa3ed666ed5be5f46967ed6896c7764ab4b", func := "longstop/longstoplaw19.QuorumSettles", spec := "quorumSettles", unfollowed := true, recurses := true, apart := false, narrowed := true }
def QuorumSettlesUptoSaid : Prop := quorumSettlesUptoRow.holds Try.pinned (OpenSpec.upto quorumSettlesSpec)

end Rows
end Go.Proofs.Ytlgoenimjmiapaa
