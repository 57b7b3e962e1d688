/-
  No cell of these rows narrows 'for every input' (looked for: loops, veiled, ifaces, maps, wideKeys, modest, calm, conditions, laid).
  DERIVED. THE GIVEN ROWS OF THIS SEAT. 12 by the template 'for every input the law returns true; each argument reads behind the call as it read before'; 0 by the template 'total and deterministic' (their statements: YtegcfogbdgmajaaTotals.lean).
  GIVEN WITH THE SEED: the statements are not yours to turn. If you find one false, say at which input.
  Laid BY PROGRAM, IN A SANDBOX (cutbox-rows.mjs): the forced cells as the released guide's own fill.sh prints them over the translation 2fc50acc160ce8f4… (all of the seat's roots in one cut). By AI agents, Wed Nov 11 2026. No macro, syntax, notation, axiom, sorry.
-/
import Derived.Test.YtegcfogbdgmajaaChecked
import GoSem.Claim
import GoSem.ClaimJoined
import GoSem.ClaimMapViews
import Derived.JoinedTies
import Derived.KernelRfl
namespace Go.Proofs.Ytegcfogbdgmajaa
/- THE CELL 'sum', in the pinned program and in every row, IS THE sha256 OF THE DUMP (.gsa) THAT YtegcfogbdgmajaaProg.lean LOADS. Nothing in Lean hashes anything: it is a label: what it is worth is what the hold of that sum in a sandbox is worth. -/
noncomputable def Try.pinned : Pinned := { name := "ytegcfogbdgmajaa", sum := "2fc50acc160ce8f46fc6e72125154ee6d7d519374a31bcf37c3d8a9ea3f13711", checked := Try.checked }
namespace Rows
def none {H : Type} : Left H := { results := [], args := [] }

/-- 'laws.FnExactDecode': WHATEVER THE INPUT: true; the input reads as it did. -/
def fnExactDecodeSpec : ChangeSpec := { name := "fnExactDecode", fn := fun _ => fun
  | [d] => { results := [.lit (.bool true)], args := [d] }
  | _ => none }
def fnExactDecodeRow : OpenClaim := { program := "ytegcfogbdgmajaa", sum := "2fc50acc160ce8f46fc6e72125154ee6d7d519374a31bcf37c3d8a9ea3f13711", func := "loop.example/s01513/laws.FnExactDecode", spec := "fnExactDecode", unfollowed := true, recurses := true, apart := false }
def FnExactDecodeSaid : Prop := fnExactDecodeRow.holds Try.pinned (OpenSpec.ofChange fnExactDecodeSpec)

/-- ITS FALSE NEIGHBOUR: 'it returns false'. Refute it at one input. -/
def fnExactDecodeWrong : ChangeSpec := { name := "fnExactDecode", fn := fun _ => fun
  | [d] => { results := [.lit (.bool false)], args := [d] }
  | _ => none }
def FnExactDecodeWrongFalsely : Prop := fnExactDecodeRow.holds Try.pinned (OpenSpec.ofChange fnExactDecodeWrong)

/-- 'laws.FnExactRead': WHATEVER THE INPUT: true; the input reads as it did. -/
def fnExactReadSpec : ChangeSpec := { name := "fnExactRead", fn := fun _ => fun
  | [d1, d2, d3] => { results := [.lit (.bool true)], args := [d1, d2, d3] }
  | _ => none }
def fnExactReadRow : OpenClaim := { program := "ytegcfogbdgmajaa", sum := "2fc50acc160ce8f46fc6e72125154ee6d7d519374a31bcf37c3d8a9ea3f13711", func := "loop.example/s01513/laws.FnExactRead", spec := "fnExactRead", apart := false }
def FnExactReadSaid : Prop := fnExactReadRow.holds Try.pinned (OpenSpec.ofChange fnExactReadSpec)

/-- ITS FALSE NEIGHBOUR: 'it returns false'. Refute it at one input. -/
def fnExactReadWrong : ChangeSpec := { name := "fnExactRead", fn := fun _ => fun
  | [d1, d2, d3] => { results := [.lit (.bool false)], args := [d1, d2, d3] }
  | _ => none }
def FnExactReadWrongFalsely : Prop := fnExactReadRow.holds Try.pinned (OpenSpec.ofChange fnExactReadWrong)

/-- 'laws.FnIns': WHATEVER THE INPUT: true; the input reads as it did. -/
def fnInsSpec : ChangeSpec := { name := "fnIns", fn := fun _ => fun
  | [d] => { results := [.lit (.bool true)], args := [d] }
  | _ => none }
def fnInsRow : OpenClaim := { program := "ytegcfogbdgmajaa", sum := "2fc50acc160ce8f46fc6e72125154ee6d7d519374a31bcf37c3d8a9ea3f13711", func := "loop.example/s01513/laws.FnIns", spec := "fnIns", unfollowed := true, recurses := true, apart := false }
def FnInsSaid : Prop := fnInsRow.holds Try.pinned (OpenSpec.ofChange fnInsSpec)

/-- ITS FALSE NEIGHBOUR: 'it returns false'. Refute it at one input. -/
def fnInsWrong : ChangeSpec := { name := "fnIns", fn := fun _ => fun
  | [d] => { results := [.lit (.bool false)], args := [d] }
  | _ => none }
def FnInsWrongFalsely : Prop := fnInsRow.holds Try.pinned (OpenSpec.ofChange fnInsWrong)

/-- 'laws.FnExactAllowed': WHATEVER THE INPUT: true; the input reads as it did. -/
def fnExactAllowedSpec : ChangeSpec := { name := "fnExactAllowed", fn := fun _ => fun
  | [d1, d2, d3, d4] => { results := [.lit (.bool true)], args := [d1, d2, d3, d4] }
  | _ => none }
def fnExactAllowedRow : OpenClaim := { program := "ytegcfogbdgmajaa", sum := "2fc50acc160ce8f46fc6e72125154ee6d7d519374a31bcf37c3d8a9ea3f13711", func := "loop.example/s01513/laws.FnExactAllowed", spec := "fnExactAllowed", apart := false }
def FnExactAllowedSaid : Prop := fnExactAllowedRow.holds Try.pinned (OpenSpec.ofChange fnExactAllowedSpec)

/-- ITS FALSE NEIGHBOUR: 'it returns false'. Refute it at one input. -/
def fnExactAllowedWrong : ChangeSpec := { name := "fnExactAllowed", fn := fun _ => fun
  | [d1, d2, d3, d4] => { results := [.lit (.bool false)], args := [d1, d2, d3, d4] }
  | _ => none }
def FnExactAllowedWrongFalsely : Prop := fnExactAllowedRow.holds Try.pinned (OpenSpec.ofChange fnExactAllowedWrong)

/-- 'laws.FnAllowed': WHATEVER THE INPUT: true; the input reads as it did. -/
def fnAllowedSpec : ChangeSpec := { name := "fnAllowed", fn := fun _ => fun
  | [d] => { results := [.lit (.bool true)], args := [d] }
  | _ => none }
def fnAllowedRow : OpenClaim := { program := "ytegcfogbdgmajaa", sum := "2fc50acc160ce8f46fc6e72125154ee6d7d519374a31bcf37c3d8a9ea3f13711", func := "loop.example/s01513/laws.FnAllowed", spec := "fnAllowed", apart := false }
def FnAllowedSaid : Prop := fnAllowedRow.holds Try.pinned (OpenSpec.ofChange fnAllowedSpec)

/-- ITS FALSE NEIGHBOUR: 'it returns false'. Refute it at one input. -/
def fnAllowedWrong : ChangeSpec := { name := "fnAllowed", fn := fun _ => fun
  | [d] => { results := [.lit (.bool false)], args := [d] }
  | _ => none }
def FnAllowedWrongFalsely : Prop := fnAllowedRow.holds Try.pinned (OpenSpec.ofChange fnAllowedWrong)

/-- 'laws.FnExactCover': WHATEVER THE INPUT: true; the input reads as it did. -/
def fnExactCoverSpec : ChangeSpec := { name := "fnExactCover", fn := fun _ => fun
  | [d1, d2] => { results := [.lit (.bool true)], args := [d1, d2] }
  | _ => none }
def fnExactCoverRow : OpenClaim := { program := "ytegcfogbdgmajaa", sum := "2fc50acc160ce8f46fc6e72125154ee6d7d519374a31bcf37c3d8a9ea3f13711", func := "loop.example/s01513/laws.FnExactCover", spec := "fnExactCover", unfollowed := true, recurses := true, apart := false }
def FnExactCoverSaid : Prop := fnExactCoverRow.holds Try.pinned (OpenSpec.ofChange fnExactCoverSpec)

/-- ITS FALSE NEIGHBOUR: 'it returns false'. Refute it at one input. -/
def fnExactCoverWrong : ChangeSpec := { name := "fnExactCover", fn := fun _ => fun
  | [d1, d2] => { results := [.lit (.bool false)], args := [d1, d2] }
  | _ => none }
def FnExactCoverWrongFalsely : Prop := fnExactCoverRow.holds Try.pinned (OpenSpec.ofChange fnExactCoverWrong)

/-- 'laws.FnCover': WHATEVER THE INPUT: true; the input reads as it did. -/
def fnCoverSpec : ChangeSpec := { name := "fnCover", fn := fun _ => fun
  | [d] => { results := [.lit (.bool true)], args := [d] }
  | _ => none }
def fnCoverRow : OpenClaim := { program := "ytegcfogbdgmajaa", sum := "2fc50acc160ce8f46fc6e72125154ee6d7d519374a31bcf37c3d8a9ea3f13711", func := "loop.example/s01513/laws.FnCover", spec := "fnCover", unfollowed := true, recurses := true, apart := false }
def FnCoverSaid : Prop := fnCoverRow.holds Try.pinned (OpenSpec.ofChange fnCoverSpec)

/-- ITS FALSE NEIGHBOUR: 'it returns false'. Refute it at one input. -/
def fnCoverWrong : ChangeSpec := { name := "fnCover", fn := fun _ => fun
  | [d] => { results := [.lit (.bool false)], args := [d] }
  | _ => none }
def FnCoverWrongFalsely : Prop := fnCoverRow.holds Try.pinned (OpenSpec.ofChange fnCoverWrong)

/-- 'laws.FnExactWrite': WHATEVER THE INPUT: true; the input reads as it did. -/
def fnExactWriteSpec : ChangeSpec := { name := "fnExactWrite", fn := fun _ => fun
  | [d1, d2, d3, d4] => { results := [.lit (.bool true)], args := [d1, d2, d3, d4] }
  | _ => none }
def fnExactWriteRow : OpenClaim := { program := "ytegcfogbdgmajaa", sum := "2fc50acc160ce8f46fc6e72125154ee6d7d519374a31bcf37c3d8a9ea3f13711", func := "loop.example/s01513/laws.FnExactWrite", spec := "fnExactWrite", apart := false }
def FnExactWriteSaid : Prop := fnExactWriteRow.holds Try.pinned (OpenSpec.ofChange fnExactWriteSpec)

/-- ITS FALSE NEIGHBOUR: 'it returns false'. Refute it at one input. -/
def fnExactWriteWrong : ChangeSpec := { name := "fnExactWrite", fn := fun _ => fun
  | [d1, d2, d3, d4] => { results := [.lit (.bool false)], args := [d1, d2, d3, d4] }
  | _ => none }
def FnExactWriteWrongFalsely : Prop := fnExactWriteRow.holds Try.pinned (OpenSpec.ofChange fnExactWriteWrong)

/-- 'laws.FnMemory': WHATEVER THE INPUT: true; the input reads as it did. -/
def fnMemorySpec : ChangeSpec := { name := "fnMemory", fn := fun _ => fun
  | [d] => { results := [.lit (.bool true)], args := [d] }
  | _ => none }
def fnMemoryRow : OpenClaim := { program := "ytegcfogbdgmajaa", sum := "2fc50acc160ce8f46fc6e72125154ee6d7d519374a31bcf37c3d8a9ea3f13711", func := "loop.example/s01513/laws.FnMemory", spec := "fnMemory", apart := false }
def FnMemorySaid : Prop := fnMemoryRow.holds Try.pinned (OpenSpec.ofChange fnMemorySpec)

/-- ITS FALSE NEIGHBOUR: 'it returns false'. Refute it at one input. -/
def fnMemoryWrong : ChangeSpec := { name := "fnMemory", fn := fun _ => fun
  | [d] => { results := [.lit (.bool false)], args := [d] }
  | _ => none }
def FnMemoryWrongFalsely : Prop := fnMemoryRow.holds Try.pinned (OpenSpec.ofChange fnMemoryWrong)

/-- 'laws.FnExactResolve': WHATEVER THE INPUT: true; the input reads as it did. -/
def fnExactResolveSpec : ChangeSpec := { name := "fnExactResolve", fn := fun _ => fun
  | [d1, d2] => { results := [.lit (.bool true)], args := [d1, d2] }
  | _ => none }
def fnExactResolveRow : OpenClaim := { program := "ytegcfogbdgmajaa", sum := "2fc50acc160ce8f46fc6e72125154ee6d7d519374a31bcf37c3d8a9ea3f13711", func := "loop.example/s01513/laws.FnExactResolve", spec := "fnExactResolve", inPlace := ["internal/bytealg.IndexByteString", "internal/bytealg.IndexString"], named := ["internal/bytealg.MaxLen"], apart := false }
def FnExactResolveSaid : Prop := fnExactResolveRow.holds Try.pinned (OpenSpec.ofChange fnExactResolveSpec)

/-- ITS FALSE NEIGHBOUR: 'it returns false'. Refute it at one input. -/
def fnExactResolveWrong : ChangeSpec := { name := "fnExactResolve", fn := fun _ => fun
  | [d1, d2] => { results := [.lit (.bool false)], args := [d1, d2] }
  | _ => none }
def FnExactResolveWrongFalsely : Prop := fnExactResolveRow.holds Try.pinned (OpenSpec.ofChange fnExactResolveWrong)

/-- 'laws.FnExactModuleOk': WHATEVER THE INPUT: true; the input reads as it did. -/
def fnExactModuleOkSpec : ChangeSpec := { name := "fnExactModuleOk", fn := fun _ => fun
  | [d] => { results := [.lit (.bool true)], args := [d] }
  | _ => none }
def fnExactModuleOkRow : OpenClaim := { program := "ytegcfogbdgmajaa", sum := "2fc50acc160ce8f46fc6e72125154ee6d7d519374a31bcf37c3d8a9ea3f13711", func := "loop.example/s01513/laws.FnExactModuleOk", spec := "fnExactModuleOk", inPlace := ["internal/bytealg.IndexByteString", "internal/bytealg.IndexString"], unfollowed := true, recurses := true, named := ["internal/bytealg.MaxLen"], apart := false }
def FnExactModuleOkSaid : Prop := fnExactModuleOkRow.holds Try.pinned (OpenSpec.ofChange fnExactModuleOkSpec)

/-- ITS FALSE NEIGHBOUR: 'it returns false'. Refute it at one input. -/
def fnExactModuleOkWrong : ChangeSpec := { name := "fnExactModuleOk", fn := fun _ => fun
  | [d] => { results := [.lit (.bool false)], args := [d] }
  | _ => none }
def FnExactModuleOkWrongFalsely : Prop := fnExactModuleOkRow.holds Try.pinned (OpenSpec.ofChange fnExactModuleOkWrong)

/-- 'laws.FnExactEncodeModule': WHATEVER THE INPUT: true; the input reads as it did. -/
def fnExactEncodeModuleSpec : ChangeSpec := { name := "fnExactEncodeModule", fn := fun _ => fun
  | [d] => { results := [.lit (.bool true)], args := [d] }
  | _ => none }
def fnExactEncodeModuleRow : OpenClaim := { program := "ytegcfogbdgmajaa", sum := "2fc50acc160ce8f46fc6e72125154ee6d7d519374a31bcf37c3d8a9ea3f13711", func := "loop.example/s01513/laws.FnExactEncodeModule", spec := "fnExactEncodeModule", inPlace := ["internal/bytealg.IndexByteString", "internal/bytealg.IndexString"], unfollowed := true, recurses := true, named := ["internal/bytealg.MaxLen"], apart := false }
def FnExactEncodeModuleSaid : Prop := fnExactEncodeModuleRow.holds Try.pinned (OpenSpec.ofChange fnExactEncodeModuleSpec)

/-- ITS FALSE NEIGHBOUR: 'it returns false'. Refute it at one input. -/
def fnExactEncodeModuleWrong : ChangeSpec := { name := "fnExactEncodeModule", fn := fun _ => fun
  | [d] => { results := [.lit (.bool false)], args := [d] }
  | _ => none }
def FnExactEncodeModuleWrongFalsely : Prop := fnExactEncodeModuleRow.holds Try.pinned (OpenSpec.ofChange fnExactEncodeModuleWrong)

/- THE SECOND FORM. 'bulk': how many values and letters a reading holds, each counted each time it is reached (what is shared counts as often as it is met; a slice's spare places count too). A statement '..UptoSaid' is the law's where the arguments, and the package variables that the reading takes, are together of bulk at most 1048576: NARROWER than '..Said'. Prove '..Said' where nothing that the law and all that it calls make is longer than what came in: it says more and counts as full. Else prove '..UptoSaid'. A law counts once. -/
mutual
def uptoBulk {H : Type} : DataW H → Nat
  | .lit (.string bytes) => bytes.length + 1
  | .lit _ => 1
  | .nil => 1
  | .ptr d => uptoBulk d + 1
  | .slice elems spare => uptoBulkAll elems + uptoBulkAll spare + 1
  | .agg parts => uptoBulkAll parts + 1
  | .iface _ d => uptoBulk d + 1
  | .map entries => uptoBulkEntries entries + 1
  | .held _ => 1
def uptoBulkAll {H : Type} : List (DataW H) → Nat
  | [] => 0
  | d :: r => uptoBulk d + uptoBulkAll r
def uptoBulkEntries {H : Type} : List (Lit × DataW H) → Nat
  | [] => 0
  | x :: r => uptoBulkEntry x + uptoBulkEntries r
def uptoBulkEntry {H : Type} : Lit × DataW H → Nat
  | (.string bytes, d) => bytes.length + uptoBulk d + 1
  | (_, d) => uptoBulk d + 1
 end
def uptoSmall : (H : Type) → List (DataW H) → Bool := fun _ ds => decide (uptoBulkAll ds ≤ 1048576)
def OpenSpec.upto (s : _root_.Go.ChangeSpec) : _root_.Go.OpenSpec := { _root_.Go.OpenSpec.ofChange s with cond := some uptoSmall }

/-- 'laws.FnExactDecode', WHERE WHAT IT READS IS OF BULK AT MOST 1048576: true; the input reads as it did. -/
def fnExactDecodeUptoRow : OpenClaim := { program := "ytegcfogbdgmajaa", sum := "2fc50acc160ce8f46fc6e72125154ee6d7d519374a31bcf37c3d8a9ea3f13711", func := "loop.example/s01513/laws.FnExactDecode", spec := "fnExactDecode", unfollowed := true, recurses := true, apart := false, narrowed := true }
def FnExactDecodeUptoSaid : Prop := fnExactDecodeUptoRow.holds Try.pinned (OpenSpec.upto fnExactDecodeSpec)

/-- 'laws.FnExactRead', WHERE WHAT IT READS IS OF BULK AT MOST 1048576: true; the input reads as it did. -/
def fnExactReadUptoRow : OpenClaim := { program := "ytegcfogbdgmajaa", sum := "2fc50acc160ce8f46fc6e72125154ee6d7d519374a31bcf37c3d8a9ea3f13711", func := "loop.example/s01513/laws.FnExactRead", spec := "fnExactRead", apart := false, narrowed := true }
def FnExactReadUptoSaid : Prop := fnExactReadUptoRow.holds Try.pinned (OpenSpec.upto fnExactReadSpec)

/-- 'laws.FnIns', WHERE WHAT IT READS IS OF BULK AT MOST 1048576: true; the input reads as it did. -/
def fnInsUptoRow : OpenClaim := { program := "ytegcfogbdgmajaa", sum := "2fc50acc160ce8f46fc6e72125154ee6d7d519374a31bcf37c3d8a9ea3f13711", func := "loop.example/s01513/laws.FnIns", spec := "fnIns", unfollowed := true, recurses := true, apart := false, narrowed := true }
def FnInsUptoSaid : Prop := fnInsUptoRow.holds Try.pinned (OpenSpec.upto fnInsSpec)

/-- 'laws.FnExactAllowed', WHERE WHAT IT READS IS OF BULK AT MOST 1048576: true; the input reads as it did. -/
def fnExactAllowedUptoRow : OpenClaim := { program := "ytegcfogbdgmajaa", sum := "2fc50acc160ce8f46fc6e72125154ee6d7d519374a31bcf37c3d8a9ea3f13711", func := "loop.example/s01513/laws.FnExactAllowed", spec := "fnExactAllowed", apart := false, narrowed := true }
def FnExactAllowedUptoSaid : Prop := fnExactAllowedUptoRow.holds Try.pinned (OpenSpec.upto fnExactAllowedSpec)

/-- 'laws.FnAllowed', WHERE WHAT IT READS IS OF BULK AT MOST 1048576: true; the input reads as it did. -/
def fnAllowedUptoRow : OpenClaim := { program := "ytegcfogbdgmajaa", sum := "2fc50acc160ce8f46fc6e72125154ee6d7d519374a31bcf37c3d8a9ea3f13711", func := "loop.example/s01513/laws.FnAllowed", spec := "fnAllowed", apart := false, narrowed := true }
def FnAllowedUptoSaid : Prop := fnAllowedUptoRow.holds Try.pinned (OpenSpec.upto fnAllowedSpec)

/-- 'laws.FnExactCover', WHERE WHAT IT READS IS OF BULK AT MOST 1048576: true; the input reads as it did. -/
def fnExactCoverUptoRow : OpenClaim := { program := "ytegcfogbdgmajaa", sum := "2fc50acc160ce8f46fc6e72125154ee6d7d519374a31bcf37c3d8a9ea3f13711", func := "loop.example/s01513/laws.FnExactCover", spec := "fnExactCover", unfollowed := true, recurses := true, apart := false, narrowed := true }
def FnExactCoverUptoSaid : Prop := fnExactCoverUptoRow.holds Try.pinned (OpenSpec.upto fnExactCoverSpec)

/-- 'laws.FnCover', WHERE WHAT IT READS IS OF BULK AT MOST 1048576: true; the input reads as it did. -/
def fnCoverUptoRow : OpenClaim := { program := "ytegcfogbdgmajaa", sum := "2fc50acc160ce8f46fc6e72125154ee6d7d519374a31bcf37c3d8a9ea3f13711", func := "loop.example/s01513/laws.FnCover", spec := "fnCover", unfollowed := true, recurses := true, apart := false, narrowed := true }
def FnCoverUptoSaid : Prop := fnCoverUptoRow.holds Try.pinned (OpenSpec.upto fnCoverSpec)

/-- 'laws.FnExactWrite', WHERE WHAT IT READS IS OF BULK AT MOST 1048576: true; the input reads as it did. -/
def fnExactWriteUptoRow : OpenClaim := { program := "ytegcfogbdgmajaa", sum := "2fc50acc160ce8f46fc6e72125154ee6d7d519374a31bcf37c3d8a9ea3f13711", func := "loop.example/s01513/laws.FnExactWrite", spec := "fnExactWrite", apart := false, narrowed := true }
def FnExactWriteUptoSaid : Prop := fnExactWriteUptoRow.holds Try.pinned (OpenSpec.upto fnExactWriteSpec)

/-- 'laws.FnMemory', WHERE WHAT IT READS IS OF BULK AT MOST 1048576: true; the input reads as it did. -/
def fnMemoryUptoRow : OpenClaim := { program := "ytegcfogbdgmajaa", sum := "2fc50acc160ce8f46fc6e72125154ee6d7d519374a31bcf37c3d8a9ea3f13711", func := "loop.example/s01513/laws.FnMemory", spec := "fnMemory", apart := false, narrowed := true }
def FnMemoryUptoSaid : Prop := fnMemoryUptoRow.holds Try.pinned (OpenSpec.upto fnMemorySpec)

/-- 'laws.FnExactResolve', WHERE WHAT IT READS IS OF BULK AT MOST 1048576: true; the input reads as it did. -/
def fnExactResolveUptoRow : OpenClaim := { program := "ytegcfogbdgmajaa", sum := "2fc50acc160ce8f46fc6e72125154ee6d7d519374a31bcf37c3d8a9ea3f13711", func := "loop.example/s01513/laws.FnExactResolve", spec := "fnExactResolve", inPlace := ["internal/bytealg.IndexByteString", "internal/bytealg.IndexString"], named := ["internal/bytealg.MaxLen"], apart := false, narrowed := true }
def FnExactResolveUptoSaid : Prop := fnExactResolveUptoRow.holds Try.pinned (OpenSpec.upto fnExactResolveSpec)

/-- 'laws.FnExactModuleOk', WHERE WHAT IT READS IS OF BULK AT MOST 1048576: true; the input reads as it did. -/
def fnExactModuleOkUptoRow : OpenClaim := { program := "ytegcfogbdgmajaa", sum := "2fc50acc160ce8f46fc6e72125154ee6d7d519374a31bcf37c3d8a9ea3f13711", func := "loop.example/s01513/laws.FnExactModuleOk", spec := "fnExactModuleOk", inPlace := ["internal/bytealg.IndexByteString", "internal/bytealg.IndexString"], unfollowed := true, recurses := true, named := ["internal/bytealg.MaxLen"], apart := false, narrowed := true }
def FnExactModuleOkUptoSaid : Prop := fnExactModuleOkUptoRow.holds Try.pinned (OpenSpec.upto fnExactModuleOkSpec)

/-- 'laws.FnExactEncodeModule', WHERE WHAT IT READS IS OF BULK AT MOST 1048576: true; the input reads as it did. -/
def fnExactEncodeModuleUptoRow : OpenClaim := { program := "ytegcfogbdgmajaa", sum := "2fc50acc160ce8f46fc6e72125154ee6d7d519374a31bcf37c3d8a9ea3f13711", func := "loop.example/s01513/laws.FnExactEncodeModule", spec := "fnExactEncodeModule", inPlace := ["internal/bytealg.IndexByteString", "internal/bytealg.IndexString"], unfollowed := true, recurses := true, named := ["internal/bytealg.MaxLen"], apart := false, narrowed := true }
def FnExactEncodeModuleUptoSaid : Prop := fnExactEncodeModuleUptoRow.holds Try.pinned (OpenSpec.upto fnExactEncodeModuleSpec)

end Rows
end Go.Proofs.Ytegcfogbdgmajaa
