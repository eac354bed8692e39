/-
  No cell of these rows narrows 'for every input' (looked for: loops, veiled, ifaces, maps, wideKeys, modest, calm, conditions, laid).
  DERIVED. THE GIVEN ROWS OF THIS SEAT. 10 by the template 'for every input the law returns true; each argument reads behind the call as it read before'; 0 by the template 'total and deterministic' (their statements: YtoocmjdnboldhaaTotals.lean).
  GIVEN WITH THE SEED: the statements are not yours to turn. If you find one false, say at which input.
  Laid BY PROGRAM, IN A SANDBOX (cutbox-rows.mjs): the forced cells as the released guide's own fill.sh prints them over the translation 49cab77973491dc6… (all of the seat's roots in one cut). By AI agents, Wed Nov 11 2026. No macro, syntax, notation, axiom, sorry.
-/
import Derived.Test.YtoocmjdnboldhaaChecked
import GoSem.Claim
import GoSem.ClaimJoined
import GoSem.ClaimMapViews
import Derived.JoinedTies
import Derived.KernelRfl
namespace Go.Proofs.Ytoocmjdnboldhaa
/- THE CELL 'sum', in the pinned program and in every row, IS THE sha256 OF THE DUMP (.gsa) THAT YtoocmjdnboldhaaProg.lean LOADS. Nothing in Lean hashes anything: it is a label: what it is worth is what the hold of that sum in a sandbox is worth. -/
noncomputable def Try.pinned : Pinned := { name := "ytoocmjdnboldhaa", sum := "49cab77973491dc65b942dca3a870ec0e87343dd26cf9934740654457fe90226", checked := Try.checked }
namespace Rows
def none {H : Type} : Left H := { results := [], args := [] }

/-- 'rhzlaw12.SerialFresh': WHATEVER THE INPUT: true; the input reads as it did. -/
def serialFreshSpec : ChangeSpec := { name := "serialFresh", fn := fun _ => fun
  | [d1, d2, d3] => { results := [.lit (.bool true)], args := [d1, d2, d3] }
  | _ => none }
def serialFreshRow : OpenClaim := { program := "ytoocmjdnboldhaa", sum := "49cab77973491dc65b942dca3a870ec0e87343dd26cf9934740654457fe90226", func := "rhizome/rhzlaw12.SerialFresh", spec := "serialFresh", apart := false }
def SerialFreshSaid : Prop := serialFreshRow.holds Try.pinned (OpenSpec.ofChange serialFreshSpec)

/-- ITS FALSE NEIGHBOUR: 'it returns false'. Refute it at one input. -/
def serialFreshWrong : ChangeSpec := { name := "serialFresh", fn := fun _ => fun
  | [d1, d2, d3] => { results := [.lit (.bool false)], args := [d1, d2, d3] }
  | _ => none }
def SerialFreshWrongFalsely : Prop := serialFreshRow.holds Try.pinned (OpenSpec.ofChange serialFreshWrong)

/-- 'rhzlaw12.SerialClips': WHATEVER THE INPUT: true; the input reads as it did. -/
def serialClipsSpec : ChangeSpec := { name := "serialClips", fn := fun _ => fun
  | [d1, d2, d3, d4] => { results := [.lit (.bool true)], args := [d1, d2, d3, d4] }
  | _ => none }
def serialClipsRow : OpenClaim := { program := "ytoocmjdnboldhaa", sum := "49cab77973491dc65b942dca3a870ec0e87343dd26cf9934740654457fe90226", func := "rhizome/rhzlaw12.SerialClips", spec := "serialClips", apart := false }
def SerialClipsSaid : Prop := serialClipsRow.holds Try.pinned (OpenSpec.ofChange serialClipsSpec)

/-- ITS FALSE NEIGHBOUR: 'it returns false'. Refute it at one input. -/
def serialClipsWrong : ChangeSpec := { name := "serialClips", fn := fun _ => fun
  | [d1, d2, d3, d4] => { results := [.lit (.bool false)], args := [d1, d2, d3, d4] }
  | _ => none }
def SerialClipsWrongFalsely : Prop := serialClipsRow.holds Try.pinned (OpenSpec.ofChange serialClipsWrong)

/-- 'rhzlaw12.SerialLast': WHATEVER THE INPUT: true; the input reads as it did. -/
def serialLastSpec : ChangeSpec := { name := "serialLast", fn := fun _ => fun
  | [d1, d2] => { results := [.lit (.bool true)], args := [d1, d2] }
  | _ => none }
def serialLastRow : OpenClaim := { program := "ytoocmjdnboldhaa", sum := "49cab77973491dc65b942dca3a870ec0e87343dd26cf9934740654457fe90226", func := "rhizome/rhzlaw12.SerialLast", spec := "serialLast", apart := false }
def SerialLastSaid : Prop := serialLastRow.holds Try.pinned (OpenSpec.ofChange serialLastSpec)

/-- ITS FALSE NEIGHBOUR: 'it returns false'. Refute it at one input. -/
def serialLastWrong : ChangeSpec := { name := "serialLast", fn := fun _ => fun
  | [d1, d2] => { results := [.lit (.bool false)], args := [d1, d2] }
  | _ => none }
def SerialLastWrongFalsely : Prop := serialLastRow.holds Try.pinned (OpenSpec.ofChange serialLastWrong)

/-- 'rhzlaw12.SerialGoes': WHATEVER THE INPUT: true; the input reads as it did. -/
def serialGoesSpec : ChangeSpec := { name := "serialGoes", fn := fun _ => fun
  | [d1, d2, d3] => { results := [.lit (.bool true)], args := [d1, d2, d3] }
  | _ => none }
def serialGoesRow : OpenClaim := { program := "ytoocmjdnboldhaa", sum := "49cab77973491dc65b942dca3a870ec0e87343dd26cf9934740654457fe90226", func := "rhizome/rhzlaw12.SerialGoes", spec := "serialGoes", apart := false }
def SerialGoesSaid : Prop := serialGoesRow.holds Try.pinned (OpenSpec.ofChange serialGoesSpec)

/-- ITS FALSE NEIGHBOUR: 'it returns false'. Refute it at one input. -/
def serialGoesWrong : ChangeSpec := { name := "serialGoes", fn := fun _ => fun
  | [d1, d2, d3] => { results := [.lit (.bool false)], args := [d1, d2, d3] }
  | _ => none }
def SerialGoesWrongFalsely : Prop := serialGoesRow.holds Try.pinned (OpenSpec.ofChange serialGoesWrong)

/-- 'rhzlaw12.SerialReads': WHATEVER THE INPUT: true; the input reads as it did. -/
def serialReadsSpec : ChangeSpec := { name := "serialReads", fn := fun _ => fun
  | [d1, d2, d3, d4] => { results := [.lit (.bool true)], args := [d1, d2, d3, d4] }
  | _ => none }
def serialReadsRow : OpenClaim := { program := "ytoocmjdnboldhaa", sum := "49cab77973491dc65b942dca3a870ec0e87343dd26cf9934740654457fe90226", func := "rhizome/rhzlaw12.SerialReads", spec := "serialReads", apart := false }
def SerialReadsSaid : Prop := serialReadsRow.holds Try.pinned (OpenSpec.ofChange serialReadsSpec)

/-- ITS FALSE NEIGHBOUR: 'it returns false'. Refute it at one input. -/
def serialReadsWrong : ChangeSpec := { name := "serialReads", fn := fun _ => fun
  | [d1, d2, d3, d4] => { results := [.lit (.bool false)], args := [d1, d2, d3, d4] }
  | _ => none }
def SerialReadsWrongFalsely : Prop := serialReadsRow.holds Try.pinned (OpenSpec.ofChange serialReadsWrong)

/-- 'rhzlaw2.NameParts': WHATEVER THE INPUT: true; the input reads as it did. -/
def namePartsSpec : ChangeSpec := { name := "nameParts", fn := fun _ => fun
  | [d1, d2] => { results := [.lit (.bool true)], args := [d1, d2] }
  | _ => none }
def namePartsRow : OpenClaim := { program := "ytoocmjdnboldhaa", sum := "49cab77973491dc65b942dca3a870ec0e87343dd26cf9934740654457fe90226", func := "rhizome/rhzlaw2.NameParts", spec := "nameParts", inPlace := ["internal/abi.NoEscape"], apart := false }
def NamePartsSaid : Prop := namePartsRow.holds Try.pinned (OpenSpec.ofChange namePartsSpec)

/-- ITS FALSE NEIGHBOUR: 'it returns false'. Refute it at one input. -/
def namePartsWrong : ChangeSpec := { name := "nameParts", fn := fun _ => fun
  | [d1, d2] => { results := [.lit (.bool false)], args := [d1, d2] }
  | _ => none }
def NamePartsWrongFalsely : Prop := namePartsRow.holds Try.pinned (OpenSpec.ofChange namePartsWrong)

/-- 'rhzlaw2.NameOrders': WHATEVER THE INPUT: true; the input reads as it did. -/
def nameOrdersSpec : ChangeSpec := { name := "nameOrders", fn := fun _ => fun
  | [d1, d2, d3] => { results := [.lit (.bool true)], args := [d1, d2, d3] }
  | _ => none }
def nameOrdersRow : OpenClaim := { program := "ytoocmjdnboldhaa", sum := "49cab77973491dc65b942dca3a870ec0e87343dd26cf9934740654457fe90226", func := "rhizome/rhzlaw2.NameOrders", spec := "nameOrders", inPlace := ["internal/abi.NoEscape"], apart := false }
def NameOrdersSaid : Prop := nameOrdersRow.holds Try.pinned (OpenSpec.ofChange nameOrdersSpec)

/-- ITS FALSE NEIGHBOUR: 'it returns false'. Refute it at one input. -/
def nameOrdersWrong : ChangeSpec := { name := "nameOrders", fn := fun _ => fun
  | [d1, d2, d3] => { results := [.lit (.bool false)], args := [d1, d2, d3] }
  | _ => none }
def NameOrdersWrongFalsely : Prop := nameOrdersRow.holds Try.pinned (OpenSpec.ofChange nameOrdersWrong)

/-- 'rhzlaw2.NameTree': WHATEVER THE INPUT: true; the input reads as it did. -/
def nameTreeSpec : ChangeSpec := { name := "nameTree", fn := fun _ => fun
  | [d1, d2, d3] => { results := [.lit (.bool true)], args := [d1, d2, d3] }
  | _ => none }
def nameTreeRow : OpenClaim := { program := "ytoocmjdnboldhaa", sum := "49cab77973491dc65b942dca3a870ec0e87343dd26cf9934740654457fe90226", func := "rhizome/rhzlaw2.NameTree", spec := "nameTree", inPlace := ["internal/abi.NoEscape"], apart := false }
def NameTreeSaid : Prop := nameTreeRow.holds Try.pinned (OpenSpec.ofChange nameTreeSpec)

/-- ITS FALSE NEIGHBOUR: 'it returns false'. Refute it at one input. -/
def nameTreeWrong : ChangeSpec := { name := "nameTree", fn := fun _ => fun
  | [d1, d2, d3] => { results := [.lit (.bool false)], args := [d1, d2, d3] }
  | _ => none }
def NameTreeWrongFalsely : Prop := nameTreeRow.holds Try.pinned (OpenSpec.ofChange nameTreeWrong)

/-- 'rhzlaw2.NameBack': WHATEVER THE INPUT: true; the input reads as it did. -/
def nameBackSpec : ChangeSpec := { name := "nameBack", fn := fun _ => fun
  | [d1, d2] => { results := [.lit (.bool true)], args := [d1, d2] }
  | _ => none }
def nameBackRow : OpenClaim := { program := "ytoocmjdnboldhaa", sum := "49cab77973491dc65b942dca3a870ec0e87343dd26cf9934740654457fe90226", func := "rhizome/rhzlaw2.NameBack", spec := "nameBack", inPlace := ["internal/abi.NoEscape"], apart := false }
def NameBackSaid : Prop := nameBackRow.holds Try.pinned (OpenSpec.ofChange nameBackSpec)

/-- ITS FALSE NEIGHBOUR: 'it returns false'. Refute it at one input. -/
def nameBackWrong : ChangeSpec := { name := "nameBack", fn := fun _ => fun
  | [d1, d2] => { results := [.lit (.bool false)], args := [d1, d2] }
  | _ => none }
def NameBackWrongFalsely : Prop := nameBackRow.holds Try.pinned (OpenSpec.ofChange nameBackWrong)

/-- 'rhzlaw2.NameCase': WHATEVER THE INPUT: true; the input reads as it did. -/
def nameCaseSpec : ChangeSpec := { name := "nameCase", fn := fun _ => fun
  | [d] => { results := [.lit (.bool true)], args := [d] }
  | _ => none }
def nameCaseRow : OpenClaim := { program := "ytoocmjdnboldhaa", sum := "49cab77973491dc65b942dca3a870ec0e87343dd26cf9934740654457fe90226", func := "rhizome/rhzlaw2.NameCase", spec := "nameCase", inPlace := ["internal/abi.NoEscape"], apart := false }
def NameCaseSaid : Prop := nameCaseRow.holds Try.pinned (OpenSpec.ofChange nameCaseSpec)

/-- ITS FALSE NEIGHBOUR: 'it returns false'. Refute it at one input. -/
def nameCaseWrong : ChangeSpec := { name := "nameCase", fn := fun _ => fun
  | [d] => { results := [.lit (.bool false)], args := [d] }
  | _ => none }
def NameCaseWrongFalsely : Prop := nameCaseRow.holds Try.pinned (OpenSpec.ofChange nameCaseWrong)

/- THE SECOND FORM. 'bulk': how many values and letters a reading holds, each counted each time it is reached (what is shared counts as often as it is met; a slice's spare places count too). A statement '..UptoSaid' is the law's where the arguments, and the package variables that the reading takes, are together of bulk at most 1048576: NARROWER than '..Said'. Prove '..Said' where nothing that the law and all that it calls make is longer than what came in: it says more and counts as full. Else prove '..UptoSaid'. A law counts once. -/
mutual
def uptoBulk {H : Type} : DataW H → Nat
  | .lit (.string bytes) => bytes.length + 1
  | .lit _ => 1
  | .nil => 1
  | .ptr d => uptoBulk d + 1
  | .slice elems spare => uptoBulkAll elems + uptoBulkAll spare + 1
  | .agg parts => uptoBulkAll parts + 1
  | .iface _ d => uptoBulk d + 1
  | .map entries => uptoBulkEntries entries + 1
  | .held _ => 1
def uptoBulkAll {H : Type} : List (DataW H) → Nat
  | [] => 0
  | d :: r => uptoBulk d + uptoBulkAll r
def uptoBulkEntries {H : Type} : List (Lit × DataW H) → Nat
  | [] => 0
  | x :: r => uptoBulkEntry x + uptoBulkEntries r
def uptoBulkEntry {H : Type} : Lit × DataW H → Nat
  | (.string bytes, d) => bytes.length + uptoBulk d + 1
  | (_, d) => uptoBulk d + 1
 end
def uptoSmall : (H : Type) → List (DataW H) → Bool := fun _ ds => decide (uptoBulkAll ds ≤ 1048576)
def OpenSpec.upto (s : _root_.Go.ChangeSpec) : _root_.Go.OpenSpec := { _root_.Go.OpenSpec.ofChange s with cond := some uptoSmall }

/-- 'rhzlaw12.SerialFresh', WHERE WHAT IT READS IS OF BULK AT MOST 1048576: true; the input reads as it did. -/
def serialFreshUptoRow : OpenClaim := { program := "ytoocmjdnboldhaa", sum := "49cab77973491dc65b942dca3a870ec0e87343dd26cf9934740654457fe90226", func := "rhizome/rhzlaw12.SerialFresh", spec := "serialFresh", apart := false, narrowed := true }
def SerialFreshUptoSaid : Prop := serialFreshUptoRow.holds Try.pinned (OpenSpec.upto serialFreshSpec)

/-- 'rhzlaw12.SerialClips', WHERE WHAT IT READS IS OF BULK AT MOST 1048576: true; the input reads as it did. -/
def serialClipsUptoRow : OpenClaim := { program := "ytoocmjdnboldhaa", sum := "49cab77973491dc65b942dca3a870ec0e87343dd26cf9934740654457fe90226", func := "rhizome/rhzlaw12.SerialClips", spec := "serialClips", apart := false, narrowed := true }
def SerialClipsUptoSaid : Prop := serialClipsUptoRow.holds Try.pinned (OpenSpec.upto serialClipsSpec)

/-- 'rhzlaw12.SerialLast', WHERE WHAT IT READS IS OF BULK AT MOST 1048576: true; the input reads as it did. -/
def serialLastUptoRow : OpenClaim := { program := "ytoocmjdnboldhaa", sum := "49cab77973491dc65b942dca3a870ec0e87343dd26cf9934740654457fe90226", func := "rhizome/rhzlaw12.SerialLast", spec := "serialLast", apart := false, narrowed := true }
def SerialLastUptoSaid : Prop := serialLastUptoRow.holds Try.pinned (OpenSpec.upto serialLastSpec)

/-- 'rhzlaw12.SerialGoes', WHERE WHAT IT READS IS OF BULK AT MOST 1048576: true; the input reads as it did. -/
def serialGoesUptoRow : OpenClaim := { program := "ytoocmjdnboldhaa", sum := "49cab77973491dc65b942dca3a870ec0e87343dd26cf9934740654457fe90226", func := "rhizome/rhzlaw12.SerialGoes", spec := "serialGoes", apart := false, narrowed := true }
def SerialGoesUptoSaid : Prop := serialGoesUptoRow.holds Try.pinned (OpenSpec.upto serialGoesSpec)

/-- 'rhzlaw12.SerialReads', WHERE WHAT IT READS IS OF BULK AT MOST 1048576: true; the input reads as it did. -/
def serialReadsUptoRow : OpenClaim := { program := "ytoocmjdnboldhaa", sum := "49cab77973491dc65b942dca3a870ec0e87343dd26cf9934740654457fe90226", func := "rhizome/rhzlaw12.SerialReads", spec := "serialReads", apart := false, narrowed := true }
def SerialReadsUptoSaid : Prop := serialReadsUptoRow.holds Try.pinned (OpenSpec.upto serialReadsSpec)

/-- 'rhzlaw2.NameParts', WHERE WHAT IT READS IS OF BULK AT MOST 1048576: true; the input reads as it did. -/
def namePartsUptoRow : OpenClaim := { program := "ytoocmjdnboldhaa", sum := "49cab77973491dc65b942dca3a870ec0e87343dd26cf9934740654457fe90226", func := "rhizome/rhzlaw2.NameParts", spec := "nameParts", inPlace := ["internal/abi.NoEscape"], apart := false, narrowed := true }
def NamePartsUptoSaid : Prop := namePartsUptoRow.holds Try.pinned (OpenSpec.upto namePartsSpec)

/-- 'rhzlaw2.NameOrders', WHERE WHAT IT READS IS OF BULK AT MOST 1048576: true; the input reads as it did. -/
def nameOrdersUptoRow : OpenClaim := { program := "ytoocmjdnboldhaa", sum := "49cab77973491dc65b942dca3a870ec0e87343dd26cf9934740654457fe90226", func := "rhizome/rhzlaw2.NameOrders", spec := "nameOrders", inPlace := ["internal/abi.NoEscape"], apart := false, narrowed := true }
def NameOrdersUptoSaid : Prop := nameOrdersUptoRow.holds Try.pinned (OpenSpec.upto nameOrdersSpec)

/-- 'rhzlaw2.NameTree', WHERE WHAT IT READS IS OF BULK AT MOST 1048576: true; the input reads as it did. -/
def nameTreeUptoRow : OpenClaim := { program := "ytoocmjdnboldhaa", sum := "49cab77973491dc65b942dca3a870ec0e87343dd26cf9934740654457fe90226", func := "rhizome/rhzlaw2.NameTree", spec := "nameTree", inPlace := ["internal/abi.NoEscape"], apart := false, narrowed := true }
def NameTreeUptoSaid : Prop := nameTreeUptoRow.holds Try.pinned (OpenSpec.upto nameTreeSpec)

/-- 'rhzlaw2.NameBack', WHERE WHAT IT READS IS OF BULK AT MOST 1048576: true; the input reads as it did. -/
def nameBackUptoRow : OpenClaim := { program := "ytoocmjdnboldhaa", sum := "49cab77973491dc65b942dca3a870ec0e87343dd26cf9934740654457fe90226", func := "rhizome/rhzlaw2.NameBack", spec := "nameBack", inPlace := ["internal/abi.NoEscape"], apart := false, narrowed := true }
def NameBackUptoSaid : Prop := nameBackUptoRow.holds Try.pinned (OpenSpec.upto nameBackSpec)

/-- 'rhzlaw2.NameCase', WHERE WHAT IT READS IS OF BULK AT MOST 1048576: true; the input reads as it did. -/
def nameCaseUptoRow : OpenClaim := { program := "ytoocmjdnboldhaa", sum := "49cab77973491dc65b942dca3a870ec0e87343dd26cf9934740654457fe90226", func := "rhizome/rhzlaw2.NameCase", spec := "nameCase", inPlace := ["internal/abi.NoEscape"], apart := false, narrowed := true }
def NameCaseUptoSaid : Prop := nameCaseUptoRow.holds Try.pinned (OpenSpec.upto nameCaseSpec)

end Rows
end Go.Proofs.Ytoocmjdnboldhaa
