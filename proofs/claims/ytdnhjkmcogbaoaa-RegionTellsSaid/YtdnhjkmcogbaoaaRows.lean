/-
  No cell of these rows narrows 'for every input' (looked for: loops, veiled, ifaces, maps, wideKeys, modest, calm, conditions, laid).
  DERIVED. THE GIVEN ROWS OF THIS SEAT. 12 by the template 'for every input the law returns true; each argument reads behind the call as it read before'; 0 by the template 'total and deterministic' (their statements: YtdnhjkmcogbaoaaTotals.lean).
  GIVEN WITH THE SEED: the statements are not yours to turn. If you find one false, say at which input.
  Laid BY PROGRAM, IN A SANDBOX (cutbox-rows.mjs): the forced cells as the released guide's own fill.sh prints them over the translation 3f9d18e1fab87e17… (all of the seat's roots in one cut). By AI agents, Wed Nov 11 2026. No macro, syntax, notation, axiom, sorry.
-/
import Derived.Test.YtdnhjkmcogbaoaaChecked
import GoSem.Claim
import GoSem.ClaimJoined
import GoSem.ClaimMapViews
import Derived.JoinedTies
import Derived.KernelRfl
namespace Go.Proofs.Ytdnhjkmcogbaoaa
/- THE CELL 'sum', in the pinned program and in every row, IS THE sha256 OF THE DUMP (.gsa) THAT YtdnhjkmcogbaoaaProg.lean LOADS. Nothing in Lean hashes anything: it is a label: what it is worth is what the hold of that sum in a sandbox is worth. -/
noncomputable def Try.pinned : Pinned := { name := "ytdnhjkmcogbaoaa", sum := "3f9d18e1fab87e173d65278bda4701913c3e4aa28d80662c9ac28588c419e29c", checked := Try.checked }
namespace Rows
def none {H : Type} : Left H := { results := [], args := [] }

/-- 'mintmarklaw02.ScaleSums': WHATEVER THE INPUT: true; the input reads as it did. -/
def scaleSumsSpec : ChangeSpec := { name := "scaleSums", fn := fun _ => fun
  | [d1, d2, d3] => { results := [.lit (.bool true)], args := [d1, d2, d3] }
  | _ => none }
def scaleSumsRow : OpenClaim := { program := "ytdnhjkmcogbaoaa", sum := "3f9d18e1fab87e173d65278bda4701913c3e4aa28d80662c9ac28588c419e29c", func := "mintmark/mintmarklaw02.ScaleSums", spec := "scaleSums", inPlace := ["math/bits.Add64"], apart := false }
def ScaleSumsSaid : Prop := scaleSumsRow.holds Try.pinned (OpenSpec.ofChange scaleSumsSpec)

/-- ITS FALSE NEIGHBOUR: 'it returns false'. Refute it at one input. -/
def scaleSumsWrong : ChangeSpec := { name := "scaleSums", fn := fun _ => fun
  | [d1, d2, d3] => { results := [.lit (.bool false)], args := [d1, d2, d3] }
  | _ => none }
def ScaleSumsWrongFalsely : Prop := scaleSumsRow.holds Try.pinned (OpenSpec.ofChange scaleSumsWrong)

/-- 'mintmarklaw02.ScaleSpans': WHATEVER THE INPUT: true; the input reads as it did. -/
def scaleSpansSpec : ChangeSpec := { name := "scaleSpans", fn := fun _ => fun
  | [d1, d2] => { results := [.lit (.bool true)], args := [d1, d2] }
  | _ => none }
def scaleSpansRow : OpenClaim := { program := "ytdnhjkmcogbaoaa", sum := "3f9d18e1fab87e173d65278bda4701913c3e4aa28d80662c9ac28588c419e29c", func := "mintmark/mintmarklaw02.ScaleSpans", spec := "scaleSpans", inPlace := ["math/bits.Add64"], apart := false }
def ScaleSpansSaid : Prop := scaleSpansRow.holds Try.pinned (OpenSpec.ofChange scaleSpansSpec)

/-- ITS FALSE NEIGHBOUR: 'it returns false'. Refute it at one input. -/
def scaleSpansWrong : ChangeSpec := { name := "scaleSpans", fn := fun _ => fun
  | [d1, d2] => { results := [.lit (.bool false)], args := [d1, d2] }
  | _ => none }
def ScaleSpansWrongFalsely : Prop := scaleSpansRow.holds Try.pinned (OpenSpec.ofChange scaleSpansWrong)

/-- 'mintmarklaw04.PermParses': WHATEVER THE INPUT: true; the input reads as it did. -/
def permParsesSpec : ChangeSpec := { name := "permParses", fn := fun _ => fun
  | [d] => { results := [.lit (.bool true)], args := [d] }
  | _ => none }
def permParsesRow : OpenClaim := { program := "ytdnhjkmcogbaoaa", sum := "3f9d18e1fab87e173d65278bda4701913c3e4aa28d80662c9ac28588c419e29c", func := "mintmark/mintmarklaw04.PermParses", spec := "permParses", apart := false }
def PermParsesSaid : Prop := permParsesRow.holds Try.pinned (OpenSpec.ofChange permParsesSpec)

/-- ITS FALSE NEIGHBOUR: 'it returns false'. Refute it at one input. -/
def permParsesWrong : ChangeSpec := { name := "permParses", fn := fun _ => fun
  | [d] => { results := [.lit (.bool false)], args := [d] }
  | _ => none }
def PermParsesWrongFalsely : Prop := permParsesRow.holds Try.pinned (OpenSpec.ofChange permParsesWrong)

/-- 'mintmarklaw04.PermBack': WHATEVER THE INPUT: true; the input reads as it did. -/
def permBackSpec : ChangeSpec := { name := "permBack", fn := fun _ => fun
  | [d1, d2] => { results := [.lit (.bool true)], args := [d1, d2] }
  | _ => none }
def permBackRow : OpenClaim := { program := "ytdnhjkmcogbaoaa", sum := "3f9d18e1fab87e173d65278bda4701913c3e4aa28d80662c9ac28588c419e29c", func := "mintmark/mintmarklaw04.PermBack", spec := "permBack", apart := false }
def PermBackSaid : Prop := permBackRow.holds Try.pinned (OpenSpec.ofChange permBackSpec)

/-- ITS FALSE NEIGHBOUR: 'it returns false'. Refute it at one input. -/
def permBackWrong : ChangeSpec := { name := "permBack", fn := fun _ => fun
  | [d1, d2] => { results := [.lit (.bool false)], args := [d1, d2] }
  | _ => none }
def PermBackWrongFalsely : Prop := permBackRow.holds Try.pinned (OpenSpec.ofChange permBackWrong)

/-- 'mintmarklaw02.ScaleOnes': WHATEVER THE INPUT: true; the input reads as it did. -/
def scaleOnesSpec : ChangeSpec := { name := "scaleOnes", fn := fun _ => fun
  | [d1, d2] => { results := [.lit (.bool true)], args := [d1, d2] }
  | _ => none }
def scaleOnesRow : OpenClaim := { program := "ytdnhjkmcogbaoaa", sum := "3f9d18e1fab87e173d65278bda4701913c3e4aa28d80662c9ac28588c419e29c", func := "mintmark/mintmarklaw02.ScaleOnes", spec := "scaleOnes", unfollowed := true, recurses := true, apart := false }
def ScaleOnesSaid : Prop := scaleOnesRow.holds Try.pinned (OpenSpec.ofChange scaleOnesSpec)

/-- ITS FALSE NEIGHBOUR: 'it returns false'. Refute it at one input. -/
def scaleOnesWrong : ChangeSpec := { name := "scaleOnes", fn := fun _ => fun
  | [d1, d2] => { results := [.lit (.bool false)], args := [d1, d2] }
  | _ => none }
def ScaleOnesWrongFalsely : Prop := scaleOnesRow.holds Try.pinned (OpenSpec.ofChange scaleOnesWrong)

/-- 'mintmarklaw04.PermTells': WHATEVER THE INPUT: true; the input reads as it did. -/
def permTellsSpec : ChangeSpec := { name := "permTells", fn := fun _ => fun
  | [d1, d2, d3] => { results := [.lit (.bool true)], args := [d1, d2, d3] }
  | _ => none }
def permTellsRow : OpenClaim := { program := "ytdnhjkmcogbaoaa", sum := "3f9d18e1fab87e173d65278bda4701913c3e4aa28d80662c9ac28588c419e29c", func := "mintmark/mintmarklaw04.PermTells", spec := "permTells", apart := false }
def PermTellsSaid : Prop := permTellsRow.holds Try.pinned (OpenSpec.ofChange permTellsSpec)

/-- ITS FALSE NEIGHBOUR: 'it returns false'. Refute it at one input. -/
def permTellsWrong : ChangeSpec := { name := "permTells", fn := fun _ => fun
  | [d1, d2, d3] => { results := [.lit (.bool false)], args := [d1, d2, d3] }
  | _ => none }
def PermTellsWrongFalsely : Prop := permTellsRow.holds Try.pinned (OpenSpec.ofChange permTellsWrong)

/-- 'mintmarklaw04.PermNeeds': WHATEVER THE INPUT: true; the input reads as it did. -/
def permNeedsSpec : ChangeSpec := { name := "permNeeds", fn := fun _ => fun
  | [d1, d2, d3] => { results := [.lit (.bool true)], args := [d1, d2, d3] }
  | _ => none }
def permNeedsRow : OpenClaim := { program := "ytdnhjkmcogbaoaa", sum := "3f9d18e1fab87e173d65278bda4701913c3e4aa28d80662c9ac28588c419e29c", func := "mintmark/mintmarklaw04.PermNeeds", spec := "permNeeds", apart := false }
def PermNeedsSaid : Prop := permNeedsRow.holds Try.pinned (OpenSpec.ofChange permNeedsSpec)

/-- ITS FALSE NEIGHBOUR: 'it returns false'. Refute it at one input. -/
def permNeedsWrong : ChangeSpec := { name := "permNeeds", fn := fun _ => fun
  | [d1, d2, d3] => { results := [.lit (.bool false)], args := [d1, d2, d3] }
  | _ => none }
def PermNeedsWrongFalsely : Prop := permNeedsRow.holds Try.pinned (OpenSpec.ofChange permNeedsWrong)

/-- 'mintmarklaw02.ScaleBetween': WHATEVER THE INPUT: true; the input reads as it did. -/
def scaleBetweenSpec : ChangeSpec := { name := "scaleBetween", fn := fun _ => fun
  | [d1, d2] => { results := [.lit (.bool true)], args := [d1, d2] }
  | _ => none }
def scaleBetweenRow : OpenClaim := { program := "ytdnhjkmcogbaoaa", sum := "3f9d18e1fab87e173d65278bda4701913c3e4aa28d80662c9ac28588c419e29c", func := "mintmark/mintmarklaw02.ScaleBetween", spec := "scaleBetween", inPlace := ["math/bits.Add64"], unfollowed := true, recurses := true, apart := false }
def ScaleBetweenSaid : Prop := scaleBetweenRow.holds Try.pinned (OpenSpec.ofChange scaleBetweenSpec)

/-- ITS FALSE NEIGHBOUR: 'it returns false'. Refute it at one input. -/
def scaleBetweenWrong : ChangeSpec := { name := "scaleBetween", fn := fun _ => fun
  | [d1, d2] => { results := [.lit (.bool false)], args := [d1, d2] }
  | _ => none }
def ScaleBetweenWrongFalsely : Prop := scaleBetweenRow.holds Try.pinned (OpenSpec.ofChange scaleBetweenWrong)

/-- 'mintmarklaw02.ScaleTells': WHATEVER THE INPUT: true; the input reads as it did. -/
def scaleTellsSpec : ChangeSpec := { name := "scaleTells", fn := fun _ => fun
  | [d1, d2] => { results := [.lit (.bool true)], args := [d1, d2] }
  | _ => none }
def scaleTellsRow : OpenClaim := { program := "ytdnhjkmcogbaoaa", sum := "3f9d18e1fab87e173d65278bda4701913c3e4aa28d80662c9ac28588c419e29c", func := "mintmark/mintmarklaw02.ScaleTells", spec := "scaleTells", inPlace := ["math/bits.Add64"], unfollowed := true, recurses := true, apart := false }
def ScaleTellsSaid : Prop := scaleTellsRow.holds Try.pinned (OpenSpec.ofChange scaleTellsSpec)

/-- ITS FALSE NEIGHBOUR: 'it returns false'. Refute it at one input. -/
def scaleTellsWrong : ChangeSpec := { name := "scaleTells", fn := fun _ => fun
  | [d1, d2] => { results := [.lit (.bool false)], args := [d1, d2] }
  | _ => none }
def ScaleTellsWrongFalsely : Prop := scaleTellsRow.holds Try.pinned (OpenSpec.ofChange scaleTellsWrong)

/-- 'mintmarklaw24.HeapReuses': WHATEVER THE INPUT: true; the input reads as it did. -/
def heapReusesSpec : ChangeSpec := { name := "heapReuses", fn := fun _ => fun
  | [d1, d2, d3] => { results := [.lit (.bool true)], args := [d1, d2, d3] }
  | _ => none }
def heapReusesRow : OpenClaim := { program := "ytdnhjkmcogbaoaa", sum := "3f9d18e1fab87e173d65278bda4701913c3e4aa28d80662c9ac28588c419e29c", func := "mintmark/mintmarklaw24.HeapReuses", spec := "heapReuses", inPlace := ["math/bits.Add64", "slices.overlaps[mintmark/heap.Block]"], unfollowed := true, recurses := true, apart := false }
def HeapReusesSaid : Prop := heapReusesRow.holds Try.pinned (OpenSpec.ofChange heapReusesSpec)

/-- ITS FALSE NEIGHBOUR: 'it returns false'. Refute it at one input. -/
def heapReusesWrong : ChangeSpec := { name := "heapReuses", fn := fun _ => fun
  | [d1, d2, d3] => { results := [.lit (.bool false)], args := [d1, d2, d3] }
  | _ => none }
def HeapReusesWrongFalsely : Prop := heapReusesRow.holds Try.pinned (OpenSpec.ofChange heapReusesWrong)

/-- 'mintmarklaw21.RegionApart': WHATEVER THE INPUT: true; the input reads as it did. -/
def regionApartSpec : ChangeSpec := { name := "regionApart", fn := fun _ => fun
  | [d1, d2] => { results := [.lit (.bool true)], args := [d1, d2] }
  | _ => none }
def regionApartRow : OpenClaim := { program := "ytdnhjkmcogbaoaa", sum := "3f9d18e1fab87e173d65278bda4701913c3e4aa28d80662c9ac28588c419e29c", func := "mintmark/mintmarklaw21.RegionApart", spec := "regionApart", inPlace := ["math/bits.Add64", "slices.overlaps[mintmark/region.Region]"], unfollowed := true, recurses := true, apart := false }
def RegionApartSaid : Prop := regionApartRow.holds Try.pinned (OpenSpec.ofChange regionApartSpec)

/-- ITS FALSE NEIGHBOUR: 'it returns false'. Refute it at one input. -/
def regionApartWrong : ChangeSpec := { name := "regionApart", fn := fun _ => fun
  | [d1, d2] => { results := [.lit (.bool false)], args := [d1, d2] }
  | _ => none }
def RegionApartWrongFalsely : Prop := regionApartRow.holds Try.pinned (OpenSpec.ofChange regionApartWrong)

/-- 'mintmarklaw21.RegionTells': WHATEVER THE INPUT: true; the input reads as it did. -/
def regionTellsSpec : ChangeSpec := { name := "regionTells", fn := fun _ => fun
  | [d1, d2, d3] => { results := [.lit (.bool true)], args := [d1, d2, d3] }
  | _ => none }
def regionTellsRow : OpenClaim := { program := "ytdnhjkmcogbaoaa", sum := "3f9d18e1fab87e173d65278bda4701913c3e4aa28d80662c9ac28588c419e29c", func := "mintmark/mintmarklaw21.RegionTells", spec := "regionTells", inPlace := ["math/bits.Add64", "slices.overlaps[mintmark/region.Region]"], unfollowed := true, recurses := true, apart := false }
def RegionTellsSaid : Prop := regionTellsRow.holds Try.pinned (OpenSpec.ofChange regionTellsSpec)

/-- ITS FALSE NEIGHBOUR: 'it returns false'. Refute it at one input. -/
def regionTellsWrong : ChangeSpec := { name := "regionTells", fn := fun _ => fun
  | [d1, d2, d3] => { results := [.lit (.bool false)], args := [d1, d2, d3] }
  | _ => none }
def RegionTellsWrongFalsely : Prop := regionTellsRow.holds Try.pinned (OpenSpec.ofChange regionTellsWrong)

/- THE SECOND FORM. 'bulk': how many values and letters a reading holds, each counted each time it is reached (what is shared counts as often as it is met; a slice's spare places count too). A statement '..UptoSaid' is the law's where the arguments, and the package variables that the reading takes, are together of bulk at most 1048576: NARROWER than '..Said'. Prove '..Said' where nothing that the law and all that it calls make is longer than what came in: it says more and counts as full. Else prove '..UptoSaid'. A law counts once. -/
mutual
def uptoBulk {H : Type} : DataW H → Nat
  | .lit (.string bytes) => bytes.length + 1
  | .lit _ => 1
  | .nil => 1
  | .ptr d => uptoBulk d + 1
  | .slice elems spare => uptoBulkAll elems + uptoBulkAll spare + 1
  | .agg parts => uptoBulkAll parts + 1
  | .iface _ d => uptoBulk d + 1
  | .map entries => uptoBulkEntries entries + 1
  | .held _ => 1
def uptoBulkAll {H : Type} : List (DataW H) → Nat
  | [] => 0
  | d :: r => uptoBulk d + uptoBulkAll r
def uptoBulkEntries {H : Type} : List (Lit × DataW H) → Nat
  | [] => 0
  | x :: r => uptoBulkEntry x + uptoBulkEntries r
def uptoBulkEntry {H : Type} : Lit × DataW H → Nat
  | (.string bytes, d) => bytes.length + uptoBulk d + 1
  | (_, d) => uptoBulk d + 1
 end
def uptoSmall : (H : Type) → List (DataW H) → Bool := fun _ ds => decide (uptoBulkAll ds ≤ 1048576)
def OpenSpec.upto (s : _root_.Go.ChangeSpec) : _root_.Go.OpenSpec := { _root_.Go.OpenSpec.ofChange s with cond := some uptoSmall }

/-- 'mintmarklaw02.ScaleSums', WHERE WHAT IT READS IS OF BULK AT MOST 1048576: true; the input reads as it did. -/
def scaleSumsUptoRow : OpenClaim := { program := "ytdnhjkmcogbaoaa", sum := "3f9d18e1fab87e173d65278bda4701913c3e4aa28d80662c9ac28588c419e29c", func := "mintmark/mintmarklaw02.ScaleSums", spec := "scaleSums", inPlace := ["math/bits.Add64"], apart := false, narrowed := true }
def ScaleSumsUptoSaid : Prop := scaleSumsUptoRow.holds Try.pinned (OpenSpec.upto scaleSumsSpec)

/-- 'mintmarklaw02.ScaleSpans', WHERE WHAT IT READS IS OF BULK AT MOST 1048576: true; the input reads as it did. -/
def scaleSpansUptoRow : OpenClaim := { program := "ytdnhjkmcogbaoaa", sum := "3f9d18e1fab87e173d65278bda4701913c3e4aa28d80662c9ac28588c419e29c", func := "mintmark/mintmarklaw02.ScaleSpans", spec := "scaleSpans", inPlace := ["math/bits.Add64"], apart := false, narrowed := true }
def ScaleSpansUptoSaid : Prop := scaleSpansUptoRow.holds Try.pinned (OpenSpec.upto scaleSpansSpec)

/-- 'mintmarklaw04.PermParses', WHERE WHAT IT READS IS OF BULK AT MOST 1048576: true; the input reads as it did. -/
def permParsesUptoRow : OpenClaim := { program := "ytdnhjkmcogbaoaa", sum := "3f9d18e1fab87e173d65278bda4701913c3e4aa28d80662c9ac28588c419e29c", func := "mintmark/mintmarklaw04.PermParses", spec := "permParses", apart := false, narrowed := true }
def PermParsesUptoSaid : Prop := permParsesUptoRow.holds Try.pinned (OpenSpec.upto permParsesSpec)

/-- 'mintmarklaw04.PermBack', WHERE WHAT IT READS IS OF BULK AT MOST 1048576: true; the input reads as it did. -/
def permBackUptoRow : OpenClaim := { program := "ytdnhjkmcogbaoaa", sum := "3f9d18e1fab87e173d65278bda4701913c3e4aa28d80662c9ac28588c419e29c", func := "mintmark/mintmarklaw04.PermBack", spec := "permBack", apart := false, narrowed := true }
def PermBackUptoSaid : Prop := permBackUptoRow.holds Try.pinned (OpenSpec.upto permBackSpec)

/-- 'mintmarklaw02.ScaleOnes', WHERE WHAT IT READS IS OF BULK AT MOST 1048576: true; the input reads as it did. -/
def scaleOnesUptoRow : OpenClaim := { program := "ytdnhjkmcogbaoaa", sum := "3f9d18e1fab87e173d65278bda4701913c3e4aa28d80662c9ac28588c419e29c", func := "mintmark/mintmarklaw02.ScaleOnes", spec := "scaleOnes", unfollowed := true, recurses := true, apart := false, narrowed := true }
def ScaleOnesUptoSaid : Prop := scaleOnesUptoRow.holds Try.pinned (OpenSpec.upto scaleOnesSpec)

/-- 'mintmarklaw04.PermTells', WHERE WHAT IT READS IS OF BULK AT MOST 1048576: true; the input reads as it did. -/
def permTellsUptoRow : OpenClaim := { program := "ytdnhjkmcogbaoaa", sum := "3f9d18e1fab87e173d65278bda4701913c3e4aa28d80662c9ac28588c419e29c", func := "mintmark/mintmarklaw04.PermTells", spec := "permTells", apart := false, narrowed := true }
def PermTellsUptoSaid : Prop := permTellsUptoRow.holds Try.pinned (OpenSpec.upto permTellsSpec)

/-- 'mintmarklaw04.PermNeeds', WHERE WHAT IT READS IS OF BULK AT MOST 1048576: true; the input reads as it did. -/
def permNeedsUptoRow : OpenClaim := { program := "ytdnhjkmcogbaoaa", sum := "3f9d18e1fab87e173d65278bda4701913c3e4aa28d80662c9ac28588c419e29c", func := "mintmark/mintmarklaw04.PermNeeds", spec := "permNeeds", apart := false, narrowed := true }
def PermNeedsUptoSaid : Prop := permNeedsUptoRow.holds Try.pinned (OpenSpec.upto permNeedsSpec)

/-- 'mintmarklaw02.ScaleBetween', WHERE WHAT IT READS IS OF BULK AT MOST 1048576: true; the input reads as it did. -/
def scaleBetweenUptoRow : OpenClaim := { program := "ytdnhjkmcogbaoaa", sum := "3f9d18e1fab87e173d65278bda4701913c3e4aa28d80662c9ac28588c419e29c", func := "mintmark/mintmarklaw02.ScaleBetween", spec := "scaleBetween", inPlace := ["math/bits.Add64"], unfollowed := true, recurses := true, apart := false, narrowed := true }
def ScaleBetweenUptoSaid : Prop := scaleBetweenUptoRow.holds Try.pinned (OpenSpec.upto scaleBetweenSpec)

/-- 'mintmarklaw02.ScaleTells', WHERE WHAT IT READS IS OF BULK AT MOST 1048576: true; the input reads as it did. -/
def scaleTellsUptoRow : OpenClaim := { program := "ytdnhjkmcogbaoaa", sum := "3f9d18e1fab87e173d65278bda4701913c3e4aa28d80662c9ac28588c419e29c", func := "mintmark/mintmarklaw02.ScaleTells", spec := "scaleTells", inPlace := ["math/bits.Add64"], unfollowed := true, recurses := true, apart := false, narrowed := true }
def ScaleTellsUptoSaid : Prop := scaleTellsUptoRow.holds Try.pinned (OpenSpec.upto scaleTellsSpec)

/-- 'mintmarklaw24.HeapReuses', WHERE WHAT IT READS IS OF BULK AT MOST 1048576: true; the input reads as it did. -/
def heapReusesUptoRow : OpenClaim := { program := "ytdnhjkmcogbaoaa", sum := "3f9d18e1fab87e173d65278bda4701913c3e4aa28d80662c9ac28588c419e29c", func := "mintmark/mintmarklaw24.HeapReuses", spec := "heapReuses", inPlace := ["math/bits.Add64", "slices.overlaps[mintmark/heap.Block]"], unfollowed := true, recurses := true, apart := false, narrowed := true }
def HeapReusesUptoSaid : Prop := heapReusesUptoRow.holds Try.pinned (OpenSpec.upto heapReusesSpec)

/-- 'mintmarklaw21.RegionApart', WHERE WHAT IT READS IS OF BULK AT MOST 1048576: true; the input reads as it did. -/
def regionApartUptoRow : OpenClaim := { program := "ytdnhjkmcogbaoaa", sum := "3f9d18e1fab87e173d65278bda4701913c3e4aa28d80662c9ac28588c419e29c", func := "mintmark/mintmarklaw21.RegionApart", spec := "regionApart", inPlace := ["math/bits.Add64", "slices.overlaps[mintmark/region.Region]"], unfollowed := true, recurses := true, apart := false, narrowed := true }
def RegionApartUptoSaid : Prop := regionApartUptoRow.holds Try.pinned (OpenSpec.upto regionApartSpec)

/-- 'mintmarklaw21.RegionTells', WHERE WHAT IT READS IS OF BULK AT MOST 1048576: true; the input reads as it did. -/
def regionTellsUptoRow : OpenClaim := { program := "ytdnhjkmcogbaoaa", sum := "3f9d18e1fab87e173d65278bda4701913c3e4aa28d80662c9ac28588c419e29c", func := "mintmark/mintmarklaw21.RegionTells", spec := "regionTells", inPlace := ["math/bits.Add64", "slices.overlaps[mintmark/region.Region]"], unfollowed := true, recurses := true, apart := false, narrowed := true }
def RegionTellsUptoSaid : Prop := regionTellsUptoRow.holds Try.pinned (OpenSpec.upto regionTellsSpec)

end Rows
end Go.Proofs.Ytdnhjkmcogbaoaa
