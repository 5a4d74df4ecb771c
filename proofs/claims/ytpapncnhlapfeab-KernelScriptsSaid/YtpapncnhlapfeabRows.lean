/-
  No cell of these rows narrows 'for every input' (looked for: loops, veiled, ifaces, maps, wideKeys, modest, calm, conditions, laid).
  DERIVED. THE GIVEN ROWS OF THIS SEAT. 7 by the template 'for every input the law returns true; each argument reads behind the call as it read before'; 0 by the template 'total and deterministic' (their statements: YtpapncnhlapfeabTotals.lean).
  GIVEN WITH THE SEED: the statements are not yours to turn. If you find one false, say at which input.
  Laid BY PROGRAM, IN A SANDBOX (cutbox-rows.mjs): the forced cells as the released guide's own fill.sh prints them over the translation 653a101ecfae3875… (all of the seat's roots in one cut). By AI agents, Wed Nov 11 2026. No macro, syntax, notation, axiom, sorry.
-/
import Derived.Test.YtpapncnhlapfeabChecked
import GoSem.Claim
import GoSem.ClaimJoined
import GoSem.ClaimMapViews
import Derived.JoinedTies
import Derived.KernelRfl
namespace Go.Proofs.Ytpapncnhlapfeab
/- THE CELL 'sum', in the pinned program and in every row, IS THE sha256 OF THE DUMP (.gsa) THAT YtpapncnhlapfeabProg.lean LOADS. Nothing in Lean hashes anything: it is a label: what it is worth is what the hold of that sum in a sandbox is worth. -/
noncomputable def Try.pinned : Pinned := { name := "ytpapncnhlapfeab", sum := "653a101ecfae3875abc0c6a5011856426c5f399285f5bfcc450f9f97d210d2a7", checked := Try.checked }
namespace Rows
def none {H : Type} : Left H := { results := [], args := [] }

/-- 'mummerlaw35.KernelWants': WHATEVER THE INPUT: true; the input reads as it did. -/
def kernelWantsSpec : ChangeSpec := { name := "kernelWants", fn := fun _ => fun
  | [d] => { results := [.lit (.bool true)], args := [d] }
  | _ => none }
def kernelWantsRow : OpenClaim := { program := "ytpapncnhlapfeab", sum := "653a101ecfae3875abc0c6a5011856426c5f399285f5bfcc450f9f97d210d2a7", func := "mummer/mummerlaw35.KernelWants", spec := "kernelWants", apart := false }
def KernelWantsSaid : Prop := kernelWantsRow.holds Try.pinned (OpenSpec.ofChange kernelWantsSpec)

/-- ITS FALSE NEIGHBOUR: 'it returns false'. Refute it at one input. -/
def kernelWantsWrong : ChangeSpec := { name := "kernelWants", fn := fun _ => fun
  | [d] => { results := [.lit (.bool false)], args := [d] }
  | _ => none }
def KernelWantsWrongFalsely : Prop := kernelWantsRow.holds Try.pinned (OpenSpec.ofChange kernelWantsWrong)

/-- 'mummerlaw13.StrewOrders': WHATEVER THE INPUT: true; the input reads as it did. -/
def strewOrdersSpec : ChangeSpec := { name := "strewOrders", fn := fun _ => fun
  | [d1, d2] => { results := [.lit (.bool true)], args := [d1, d2] }
  | _ => none }
def strewOrdersRow : OpenClaim := { program := "ytpapncnhlapfeab", sum := "653a101ecfae3875abc0c6a5011856426c5f399285f5bfcc450f9f97d210d2a7", func := "mummer/mummerlaw13.StrewOrders", spec := "strewOrders", unfollowed := true, recurses := true, apart := false }
def StrewOrdersSaid : Prop := strewOrdersRow.holds Try.pinned (OpenSpec.ofChange strewOrdersSpec)

/-- ITS FALSE NEIGHBOUR: 'it returns false'. Refute it at one input. -/
def strewOrdersWrong : ChangeSpec := { name := "strewOrders", fn := fun _ => fun
  | [d1, d2] => { results := [.lit (.bool false)], args := [d1, d2] }
  | _ => none }
def StrewOrdersWrongFalsely : Prop := strewOrdersRow.holds Try.pinned (OpenSpec.ofChange strewOrdersWrong)

/-- 'mummerlaw13.StrewOnce': WHATEVER THE INPUT: true; the input reads as it did. -/
def strewOnceSpec : ChangeSpec := { name := "strewOnce", fn := fun _ => fun
  | [d1, d2] => { results := [.lit (.bool true)], args := [d1, d2] }
  | _ => none }
def strewOnceRow : OpenClaim := { program := "ytpapncnhlapfeab", sum := "653a101ecfae3875abc0c6a5011856426c5f399285f5bfcc450f9f97d210d2a7", func := "mummer/mummerlaw13.StrewOnce", spec := "strewOnce", unfollowed := true, recurses := true, apart := false }
def StrewOnceSaid : Prop := strewOnceRow.holds Try.pinned (OpenSpec.ofChange strewOnceSpec)

/-- ITS FALSE NEIGHBOUR: 'it returns false'. Refute it at one input. -/
def strewOnceWrong : ChangeSpec := { name := "strewOnce", fn := fun _ => fun
  | [d1, d2] => { results := [.lit (.bool false)], args := [d1, d2] }
  | _ => none }
def StrewOnceWrongFalsely : Prop := strewOnceRow.holds Try.pinned (OpenSpec.ofChange strewOnceWrong)

/-- 'mummerlaw13.StrewNone': WHATEVER THE INPUT: true; the input reads as it did. -/
def strewNoneSpec : ChangeSpec := { name := "strewNone", fn := fun _ => fun
  | [d] => { results := [.lit (.bool true)], args := [d] }
  | _ => none }
def strewNoneRow : OpenClaim := { program := "ytpapncnhlapfeab", sum := "653a101ecfae3875abc0c6a5011856426c5f399285f5bfcc450f9f97d210d2a7", func := "mummer/mummerlaw13.StrewNone", spec := "strewNone", unfollowed := true, recurses := true, apart := false }
def StrewNoneSaid : Prop := strewNoneRow.holds Try.pinned (OpenSpec.ofChange strewNoneSpec)

/-- ITS FALSE NEIGHBOUR: 'it returns false'. Refute it at one input. -/
def strewNoneWrong : ChangeSpec := { name := "strewNone", fn := fun _ => fun
  | [d] => { results := [.lit (.bool false)], args := [d] }
  | _ => none }
def StrewNoneWrongFalsely : Prop := strewNoneRow.holds Try.pinned (OpenSpec.ofChange strewNoneWrong)

/-- 'mummerlaw35.KernelScripts': WHATEVER THE INPUT: true; the input reads as it did. -/
def kernelScriptsSpec : ChangeSpec := { name := "kernelScripts", fn := fun _ => fun
  | [d1, d2] => { results := [.lit (.bool true)], args := [d1, d2] }
  | _ => none }
def kernelScriptsRow : OpenClaim := { program := "ytpapncnhlapfeab", sum := "653a101ecfae3875abc0c6a5011856426c5f399285f5bfcc450f9f97d210d2a7", func := "mummer/mummerlaw35.KernelScripts", spec := "kernelScripts", apart := false }
def KernelScriptsSaid : Prop := kernelScriptsRow.holds Try.pinned (OpenSpec.ofChange kernelScriptsSpec)

/-- ITS FALSE NEIGHBOUR: 'it returns false'. Refute it at one input. -/
def kernelScriptsWrong : ChangeSpec := { name := "kernelScripts", fn := fun _ => fun
  | [d1, d2] => { results := [.lit (.bool false)], args := [d1, d2] }
  | _ => none }
def KernelScriptsWrongFalsely : Prop := kernelScriptsRow.holds Try.pinned (OpenSpec.ofChange kernelScriptsWrong)

/-- 'mummerlaw13.StrewBack': WHATEVER THE INPUT: true; the input reads as it did. -/
def strewBackSpec : ChangeSpec := { name := "strewBack", fn := fun _ => fun
  | [d1, d2, d3] => { results := [.lit (.bool true)], args := [d1, d2, d3] }
  | _ => none }
def strewBackRow : OpenClaim := { program := "ytpapncnhlapfeab", sum := "653a101ecfae3875abc0c6a5011856426c5f399285f5bfcc450f9f97d210d2a7", func := "mummer/mummerlaw13.StrewBack", spec := "strewBack", unfollowed := true, recurses := true, apart := false }
def StrewBackSaid : Prop := strewBackRow.holds Try.pinned (OpenSpec.ofChange strewBackSpec)

/-- ITS FALSE NEIGHBOUR: 'it returns false'. Refute it at one input. -/
def strewBackWrong : ChangeSpec := { name := "strewBack", fn := fun _ => fun
  | [d1, d2, d3] => { results := [.lit (.bool false)], args := [d1, d2, d3] }
  | _ => none }
def StrewBackWrongFalsely : Prop := strewBackRow.holds Try.pinned (OpenSpec.ofChange strewBackWrong)

/-- 'mummerlaw13.StrewMaps': WHATEVER THE INPUT: true; the input reads as it did. -/
def strewMapsSpec : ChangeSpec := { name := "strewMaps", fn := fun _ => fun
  | [d1, d2, d3] => { results := [.lit (.bool true)], args := [d1, d2, d3] }
  | _ => none }
def strewMapsRow : OpenClaim := { program := "ytpapncnhlapfeab", sum := "653a101ecfae3875abc0c6a5011856426c5f399285f5bfcc450f9f97d210d2a7", func := "mummer/mummerlaw13.StrewMaps", spec := "strewMaps", unfollowed := true, recurses := true, apart := false }
def StrewMapsSaid : Prop := strewMapsRow.holds Try.pinned (OpenSpec.ofChange strewMapsSpec)

/-- ITS FALSE NEIGHBOUR: 'it returns false'. Refute it at one input. -/
def strewMapsWrong : ChangeSpec := { name := "strewMaps", fn := fun _ => fun
  | [d1, d2, d3] => { results := [.lit (.bool false)], args := [d1, d2, d3] }
  | _ => none }
def StrewMapsWrongFalsely : Prop := strewMapsRow.holds Try.pinned (OpenSpec.ofChange strewMapsWrong)

/- THE SECOND FORM. 'bulk': how many values and letters a reading holds, each counted each time it is reached (what is shared counts as often as it is met; a slice's spare places count too). A statement '..UptoSaid' is the law's where the arguments, and the package variables that the reading takes, are together of bulk at most 1048576: NARROWER than '..Said'. Prove '..Said' where nothing that the law and all that it calls make is longer than what came in: it says more and counts as full. Else prove '..UptoSaid'. A law counts once. -/
mutual
def uptoBulk {H : Type} : DataW H → Nat
  | .lit (.string bytes) => bytes.length + 1
  | .lit _ => 1
  | .nil => 1
  | .ptr d => uptoBulk d + 1
  | .slice elems spare => uptoBulkAll elems + uptoBulkAll spare + 1
  | .agg parts => uptoBulkAll parts + 1
  | .iface _ d => uptoBulk d + 1
  | .map entries => uptoBulkEntries entries + 1
  | .held _ => 1
def uptoBulkAll {H : Type} : List (DataW H) → Nat
  | [] => 0
  | d :: r => uptoBulk d + uptoBulkAll r
def uptoBulkEntries {H : Type} : List (Lit × DataW H) → Nat
  | [] => 0
  | x :: r => uptoBulkEntry x + uptoBulkEntries r
def uptoBulkEntry {H : Type} : Lit × DataW H → Nat
  | (.string bytes, d) => bytes.length + uptoBulk d + 1
  | (_, d) => uptoBulk d + 1
 end
def uptoSmall : (H : Type) → List (DataW H) → Bool := fun _ ds => decide (uptoBulkAll ds ≤ 1048576)
def OpenSpec.upto (s : _root_.Go.ChangeSpec) : _root_.Go.OpenSpec := { _root_.Go.OpenSpec.ofChange s with cond := some uptoSmall }

/-- 'mummerlaw35.KernelWants', WHERE WHAT IT READS IS OF BULK AT MOST 1048576: true; the input reads as it did. -/
def kernelWantsUptoRow : OpenClaim := { program := "ytpapncnhlapfeab", sum := "653a101ecfae3875abc0c6a5011856426c5f399285f5bfcc450f9f97d210d2a7", func := "mummer/mummerlaw35.KernelWants", spec := "kernelWants", apart := false, narrowed := true }
def KernelWantsUptoSaid : Prop := kernelWantsUptoRow.holds Try.pinned (OpenSpec.upto kernelWantsSpec)

/-- 'mummerlaw13.StrewOrders', WHERE WHAT IT READS IS OF BULK AT MOST 1048576: true; the input reads as it did. -/
def strewOrdersUptoRow : OpenClaim := { program := "ytpapncnhlapfeab", sum := "653a101ecfae3875abc0c6a5011856426c5f399285f5bfcc450f9f97d210d2a7", func := "mummer/mummerlaw13.StrewOrders", spec := "strewOrders", unfollowed := true, recurses := true, apart := false, narrowed := true }
def StrewOrdersUptoSaid : Prop := strewOrdersUptoRow.holds Try.pinned (OpenSpec.upto strewOrdersSpec)

/-- 'mummerlaw13.StrewOnce', WHERE WHAT IT READS IS OF BULK AT MOST 1048576: true; the input reads as it did. -/
def strewOnceUptoRow : OpenClaim := { program := "ytpapncnhlapfeab", sum := "653a101ecfae3875abc0c6a5011856426c5f399285f5bfcc450f9f97d210d2a7", func := "mummer/mummerlaw13.StrewOnce", spec := "strewOnce", unfollowed := true, recurses := true, apart := false, narrowed := true }
def StrewOnceUptoSaid : Prop := strewOnceUptoRow.holds Try.pinned (OpenSpec.upto strewOnceSpec)

/-- 'mummerlaw13.StrewNone', WHERE WHAT IT READS IS OF BULK AT MOST 1048576: true; the input reads as it did. -/
def strewNoneUptoRow : OpenClaim := { program := "ytpapncnhlapfeab", sum := "653a101ecfae3875abc0c6a5011856426c5f399285f5bfcc450f9f97d210d2a7", func := "mummer/mummerlaw13.StrewNone", spec := "strewNone", unfollowed := true, recurses := true, apart := false, narrowed := true }
def StrewNoneUptoSaid : Prop := strewNoneUptoRow.holds Try.pinned (OpenSpec.upto strewNoneSpec)

/-- 'mummerlaw35.KernelScripts', WHERE WHAT IT READS IS OF BULK AT MOST 1048576: true; the input reads as it did. -/
def kernelScriptsUptoRow : OpenClaim := { program := "ytpapncnhlapfeab", sum := "653a101ecfae3875abc0c6a5011856426c5f399285f5bfcc450f9f97d210d2a7", func := "mummer/mummerlaw35.KernelScripts", spec := "kernelScripts", apart := false, narrowed := true }
def KernelScriptsUptoSaid : Prop := kernelScriptsUptoRow.holds Try.pinned (OpenSpec.upto kernelScriptsSpec)

/-- 'mummerlaw13.StrewBack', WHERE WHAT IT READS IS OF BULK AT MOST 1048576: true; the input reads as it did. -/
def strewBackUptoRow : OpenClaim := { program := "ytpapncnhlapfeab", sum := "653a101ecfae3875abc0c6a5011856426c5f399285f5bfcc450f9f97d210d2a7", func := "mummer/mummerlaw13.StrewBack", spec := "strewBack", unfollowed := true, recurses := true, apart := false, narrowed := true }
def StrewBackUptoSaid : Prop := strewBackUptoRow.holds Try.pinned (OpenSpec.upto strewBackSpec)

/-- 'mummerlaw13.StrewMaps', WHERE WHAT IT READS IS OF BULK AT MOST 1048576: true; the input reads as it did. -/
def strewMapsUptoRow : OpenClaim := { program := "ytpapncnhlapfeab", sum := "653a101ecfae3875abc0c6a5011856426c5f399285f5bfcc450f9f97d210d2a7", func := "mummer/mummerlaw13.StrewMaps", spec := "strewMaps", unfollowed := true, recurses := true, apart := false, narrowed := true }
def StrewMapsUptoSaid : Prop := strewMapsUptoRow.holds Try.pinned (OpenSpec.upto strewMapsSpec)

end Rows
end Go.Proofs.Ytpapncnhlapfeab
