/-
  No cell of these rows narrows 'for every input' (looked for: loops, veiled, ifaces, maps, wideKeys, modest, calm, conditions, laid).
  DERIVED. THE GIVEN ROWS OF THIS SEAT. 4 by the template 'for every input the law returns true; each argument reads behind the call as it read before'; 0 by the template 'total and deterministic' (their statements: YtkhcphdnppdfjaaTotals.lean).
  GIVEN WITH THE SEED: the statements are not yours to turn. If you find one false, say at which input.
  Laid BY PROGRAM, IN A SANDBOX (cutbox-rows.mjs): the forced cells as the released guide's own fill.sh prints them over the translation 5bbdf4210c45a706… (all of the seat's roots in one cut). By AI agents, Wed Nov 11 2026. No macro, syntax, notation, axiom, sorry.
-/
import Derived.Test.YtkhcphdnppdfjaaChecked
import GoSem.Claim
import GoSem.ClaimJoined
import GoSem.ClaimMapViews
import Derived.JoinedTies
import Derived.KernelRfl
namespace Go.Proofs.Ytkhcphdnppdfjaa
/- THE CELL 'sum', in the pinned program and in every row, IS THE sha256 OF THE DUMP (.gsa) THAT YtkhcphdnppdfjaaProg.lean LOADS. Nothing in Lean hashes anything: it is a label: what it is worth is what the hold of that sum in a sandbox is worth. -/
noncomputable def Try.pinned : Pinned := { name := "ytkhcphdnppdfjaa", sum := "5bbdf4210c45a706a09c88e1f2f77ce18dc71402547cbed310907d62c3eb0d14", checked := Try.checked }
namespace Rows
def none {H : Type} : Left H := { results := [], args := [] }

/-- 'quotalaw12.RegistryExact': WHATEVER THE INPUT: true; the input reads as it did. -/
def registryExactSpec : ChangeSpec := { name := "registryExact", fn := fun _ => fun
  | [d] => { results := [.lit (.bool true)], args := [d] }
  | _ => none }
def registryExactRow : OpenClaim := { program := "ytkhcphdnppdfjaa", sum := "5bbdf4210c45a706a09c88e1f2f77ce18dc71402547cbed310907d62c3eb0d14", func := "quota/quotalaw12.RegistryExact", spec := "registryExact", recurses := true, apart := false }
def RegistryExactSaid : Prop := registryExactRow.holds Try.pinned (OpenSpec.ofChange registryExactSpec)

/-- ITS FALSE NEIGHBOUR: 'it returns false'. Refute it at one input. -/
def registryExactWrong : ChangeSpec := { name := "registryExact", fn := fun _ => fun
  | [d] => { results := [.lit (.bool false)], args := [d] }
  | _ => none }
def RegistryExactWrongFalsely : Prop := registryExactRow.holds Try.pinned (OpenSpec.ofChange registryExactWrong)

/-- 'quotalaw12.RegistryApart': WHATEVER THE INPUT: true; the input reads as it did. -/
def registryApartSpec : ChangeSpec := { name := "registryApart", fn := fun _ => fun
  | [d1, d2] => { results := [.lit (.bool true)], args := [d1, d2] }
  | _ => none }
def registryApartRow : OpenClaim := { program := "ytkhcphdnppdfjaa", sum := "5bbdf4210c45a706a09c88e1f2f77ce18dc71402547cbed310907d62c3eb0d14", func := "quota/quotalaw12.RegistryApart", spec := "registryApart", recurses := true, apart := false }
def RegistryApartSaid : Prop := registryApartRow.holds Try.pinned (OpenSpec.ofChange registryApartSpec)

/-- ITS FALSE NEIGHBOUR: 'it returns false'. Refute it at one input. -/
def registryApartWrong : ChangeSpec := { name := "registryApart", fn := fun _ => fun
  | [d1, d2] => { results := [.lit (.bool false)], args := [d1, d2] }
  | _ => none }
def RegistryApartWrongFalsely : Prop := registryApartRow.holds Try.pinned (OpenSpec.ofChange registryApartWrong)

/-- 'quotalaw12.RegistrySame': WHATEVER THE INPUT: true; the input reads as it did. -/
def registrySameSpec : ChangeSpec := { name := "registrySame", fn := fun _ => fun
  | [d1, d2, d3, d4] => { results := [.lit (.bool true)], args := [d1, d2, d3, d4] }
  | _ => none }
def registrySameRow : OpenClaim := { program := "ytkhcphdnppdfjaa", sum := "5bbdf4210c45a706a09c88e1f2f77ce18dc71402547cbed310907d62c3eb0d14", func := "quota/quotalaw12.RegistrySame", spec := "registrySame", recurses := true, apart := false }
def RegistrySameSaid : Prop := registrySameRow.holds Try.pinned (OpenSpec.ofChange registrySameSpec)

/-- ITS FALSE NEIGHBOUR: 'it returns false'. Refute it at one input. -/
def registrySameWrong : ChangeSpec := { name := "registrySame", fn := fun _ => fun
  | [d1, d2, d3, d4] => { results := [.lit (.bool false)], args := [d1, d2, d3, d4] }
  | _ => none }
def RegistrySameWrongFalsely : Prop := registrySameRow.holds Try.pinned (OpenSpec.ofChange registrySameWrong)

/-- 'quotalaw12.RegistryFull': WHATEVER THE INPUT: true; the input reads as it did. -/
def registryFullSpec : ChangeSpec := { name := "registryFull", fn := fun _ => fun
  | [d1, d2] => { results := [.lit (.bool true)], args := [d1, d2] }
  | _ => none }
def registryFullRow : OpenClaim := { program := "ytkhcphdnppdfjaa", sum := "5bbdf4210c45a706a09c88e1f2f77ce18dc71402547cbed310907d62c3eb0d14", func := "quota/quotalaw12.RegistryFull", spec := "registryFull", recurses := true, apart := false }
def RegistryFullSaid : Prop := registryFullRow.holds Try.pinned (OpenSpec.ofChange registryFullSpec)

/-- ITS FALSE NEIGHBOUR: 'it returns false'. Refute it at one input. -/
def registryFullWrong : ChangeSpec := { name := "registryFull", fn := fun _ => fun
  | [d1, d2] => { results := [.lit (.bool false)], args := [d1, d2] }
  | _ => none }
def RegistryFullWrongFalsely : Prop := registryFullRow.holds Try.pinned (OpenSpec.ofChange registryFullWrong)

/- THE SECOND FORM. 'bulk': how many values and letters a reading holds, each counted each time it is reached (what is shared counts as often as it is met; a slice's spare places count too). A statement '..UptoSaid' is the law's where the arguments, and the package variables that the reading takes, are together of bulk at most 1048576: NARROWER than '..Said'. Prove '..Said' where nothing that the law and all that it calls make is longer than what came in: it says more and counts as full. Else prove '..UptoSaid'. A law counts once. -/
mutual
def uptoBulk {H : Type} : DataW H → Nat
  | .lit (.string bytes) => bytes.length + 1
  | .lit _ => 1
  | .nil => 1
  | .ptr d => uptoBulk d + 1
  | .slice elems spare => uptoBulkAll elems + uptoBulkAll spare + 1
  | .agg parts => uptoBulkAll parts + 1
  | .iface _ d => uptoBulk d + 1
  | .map entries => uptoBulkEntries entries + 1
  | .held _ => 1
def uptoBulkAll {H : Type} : List (DataW H) → Nat
  | [] => 0
  | d :: r => uptoBulk d + uptoBulkAll r
def uptoBulkEntries {H : Type} : List (Lit × DataW H) → Nat
  | [] => 0
  | x :: r => uptoBulkEntry x + uptoBulkEntries r
def uptoBulkEntry {H : Type} : Lit × DataW H → Nat
  | (.string bytes, d) => bytes.length + uptoBulk d + 1
  | (_, d) => uptoBulk d + 1
 end
def uptoSmall : (H : Type) → List (DataW H) → Bool := fun _ ds => decide (uptoBulkAll ds ≤ 1048576)
def OpenSpec.upto (s : _root_.Go.ChangeSpec) : _root_.Go.OpenSpec := { _root_.Go.OpenSpec.ofChange s with cond := some uptoSmall }

/-- 'quotalaw12.RegistryExact', WHERE WHAT IT READS IS OF BULK AT MOST 1048576: true; the input reads as it did. -/
def registryExactUptoRow : OpenClaim := { program := "ytkhcphdnppdfjaa", sum := "5bbdf4210c45a706a09c88e1f2f77ce18dc71402547cbed310907d62c3eb0d14", func := "quota/quotalaw12.RegistryExact", spec := "registryExact", recurses := true, apart := false, narrowed := true }
def RegistryExactUptoSaid : Prop := registryExactUptoRow.holds Try.pinned (OpenSpec.upto registryExactSpec)

/-- 'quotalaw12.RegistryApart', WHERE WHAT IT READS IS OF BULK AT MOST 1048576: true; the input reads as it did. -/
def registryApartUptoRow : OpenClaim := { program := "ytkhcphdnppdfjaa", sum := "5bbdf4210c45a706a09c88e1f2f77ce18dc71402547cbed310907d62c3eb0d14", func := "quota/quotalaw12.RegistryApart", spec := "registryApart", recurses := true, apart := false, narrowed := true }
def RegistryApartUptoSaid : Prop := registryApartUptoRow.holds Try.pinned (OpenSpec.upto registryApartSpec)

/-- 'quotalaw12.RegistrySame', WHERE WHAT IT READS IS OF BULK AT MOST 1048576: true; the input reads as it did. -/
def registrySameUptoRow : OpenClaim := { program := "ytkhcphdnppdfjaa", sum := "5bbdf4210c45a706a09c88e1f2f77ce18dc71402547cbed310907d62c3eb0d14", func := "quota/quotalaw12.RegistrySame", spec := "registrySame", recurses := true, apart := false, narrowed := true }
def RegistrySameUptoSaid : Prop := registrySameUptoRow.holds Try.pinned (OpenSpec.upto registrySameSpec)

/-- 'quotalaw12.RegistryFull', WHERE WHAT IT READS IS OF BULK AT MOST 1048576: true; the input reads as it did. -/
def registryFullUptoRow : OpenClaim := { program := "ytkhcphdnppdfjaa", sum := "5bbdf4210c45a706a09c88e1f2f77ce18dc71402547cbed310907d62c3eb0d14", func := "quota/quotalaw12.RegistryFull", spec := "registryFull", recurses := true, apart := false, narrowed := true }
def RegistryFullUptoSaid : Prop := registryFullUptoRow.holds Try.pinned (OpenSpec.upto registryFullSpec)

end Rows
end Go.Proofs.Ytkhcphdnppdfjaa
