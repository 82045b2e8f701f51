/-
  No cell of these rows narrows 'for every input' (looked for: loops, veiled, ifaces, maps, wideKeys, modest, calm, conditions, laid).
  DERIVED. THE GIVEN ROWS OF THIS SEAT. 7 by the template 'for every input the law returns true; each argument reads behind the call as it read before'; 0 by the template 'total and deterministic' (their statements: YtdbfecfcoephoaaTotals.lean).
  GIVEN WITH THE SEED: the statements are not yours to turn. If you find one false, say at which input.
  Laid BY PROGRAM, IN A SANDBOX (cutbox-rows.mjs): the forced cells as the released guide's own fill.sh prints them over the translation 52350ce75bbd759a… (all of the seat's roots in one cut). By AI agents, Wed Nov 11 2026. No macro, syntax, notation, axiom, sorry.
-/
import Derived.Test.YtdbfecfcoephoaaChecked
import GoSem.Claim
import GoSem.ClaimJoined
import GoSem.ClaimMapViews
import Derived.JoinedTies
import Derived.KernelRfl
namespace Go.Proofs.Ytdbfecfcoephoaa
/- THE CELL 'sum', in the pinned program and in every row, IS THE sha256 OF THE DUMP (.gsa) THAT YtdbfecfcoephoaaProg.lean LOADS. Nothing in Lean hashes anything: it is a label: what it is worth is what the hold of that sum in a sandbox is worth. -/
noncomputable def Try.pinned : Pinned := { name := "ytdbfecfcoephoaa", sum := "52350ce75bbd759af9825def73ef949eeba18ef07772c04f6fcf812ecb2184fe", checked := Try.checked }
namespace Rows
def none {H : Type} : Left H := { results := [], args := [] }

/-- 'aditlaw7.GoodsDo': WHATEVER THE INPUT: true; the input reads as it did. -/
def goodsDoSpec : ChangeSpec := { name := "goodsDo", fn := fun _ => fun
  | [d1, d2, d3, d4, d5, d6, d7] => { results := [.lit (.bool true)], args := [d1, d2, d3, d4, d5, d6, d7] }
  | _ => none }
def goodsDoRow : OpenClaim := { program := "ytdbfecfcoephoaa", sum := "52350ce75bbd759af9825def73ef949eeba18ef07772c04f6fcf812ecb2184fe", func := "adit/aditlaw7.GoodsDo", spec := "goodsDo", unfollowed := true, recurses := true, plainKeys := false, apart := false }
def GoodsDoSaid : Prop := goodsDoRow.holds Try.pinned (OpenSpec.ofChange goodsDoSpec)

/-- ITS FALSE NEIGHBOUR: 'it returns false'. Refute it at one input. -/
def goodsDoWrong : ChangeSpec := { name := "goodsDo", fn := fun _ => fun
  | [d1, d2, d3, d4, d5, d6, d7] => { results := [.lit (.bool false)], args := [d1, d2, d3, d4, d5, d6, d7] }
  | _ => none }
def GoodsDoWrongFalsely : Prop := goodsDoRow.holds Try.pinned (OpenSpec.ofChange goodsDoWrong)

/-- 'aditlaw7.GoodsBuys': WHATEVER THE INPUT: true; the input reads as it did. -/
def goodsBuysSpec : ChangeSpec := { name := "goodsBuys", fn := fun _ => fun
  | [d1, d2, d3] => { results := [.lit (.bool true)], args := [d1, d2, d3] }
  | _ => none }
def goodsBuysRow : OpenClaim := { program := "ytdbfecfcoephoaa", sum := "52350ce75bbd759af9825def73ef949eeba18ef07772c04f6fcf812ecb2184fe", func := "adit/aditlaw7.GoodsBuys", spec := "goodsBuys", unfollowed := true, recurses := true, plainKeys := false, apart := false }
def GoodsBuysSaid : Prop := goodsBuysRow.holds Try.pinned (OpenSpec.ofChange goodsBuysSpec)

/-- ITS FALSE NEIGHBOUR: 'it returns false'. Refute it at one input. -/
def goodsBuysWrong : ChangeSpec := { name := "goodsBuys", fn := fun _ => fun
  | [d1, d2, d3] => { results := [.lit (.bool false)], args := [d1, d2, d3] }
  | _ => none }
def GoodsBuysWrongFalsely : Prop := goodsBuysRow.holds Try.pinned (OpenSpec.ofChange goodsBuysWrong)

/-- 'aditlaw7.GoodsBack': WHATEVER THE INPUT: true; the input reads as it did. -/
def goodsBackSpec : ChangeSpec := { name := "goodsBack", fn := fun _ => fun
  | [d1, d2, d3] => { results := [.lit (.bool true)], args := [d1, d2, d3] }
  | _ => none }
def goodsBackRow : OpenClaim := { program := "ytdbfecfcoephoaa", sum := "52350ce75bbd759af9825def73ef949eeba18ef07772c04f6fcf812ecb2184fe", func := "adit/aditlaw7.GoodsBack", spec := "goodsBack", unfollowed := true, recurses := true, plainKeys := false, apart := false }
def GoodsBackSaid : Prop := goodsBackRow.holds Try.pinned (OpenSpec.ofChange goodsBackSpec)

/-- ITS FALSE NEIGHBOUR: 'it returns false'. Refute it at one input. -/
def goodsBackWrong : ChangeSpec := { name := "goodsBack", fn := fun _ => fun
  | [d1, d2, d3] => { results := [.lit (.bool false)], args := [d1, d2, d3] }
  | _ => none }
def GoodsBackWrongFalsely : Prop := goodsBackRow.holds Try.pinned (OpenSpec.ofChange goodsBackWrong)

/-- 'aditlaw7.GoodsHeals': WHATEVER THE INPUT: true; the input reads as it did. -/
def goodsHealsSpec : ChangeSpec := { name := "goodsHeals", fn := fun _ => fun
  | [d1, d2, d3, d4] => { results := [.lit (.bool true)], args := [d1, d2, d3, d4] }
  | _ => none }
def goodsHealsRow : OpenClaim := { program := "ytdbfecfcoephoaa", sum := "52350ce75bbd759af9825def73ef949eeba18ef07772c04f6fcf812ecb2184fe", func := "adit/aditlaw7.GoodsHeals", spec := "goodsHeals", unfollowed := true, recurses := true, plainKeys := false, apart := false }
def GoodsHealsSaid : Prop := goodsHealsRow.holds Try.pinned (OpenSpec.ofChange goodsHealsSpec)

/-- ITS FALSE NEIGHBOUR: 'it returns false'. Refute it at one input. -/
def goodsHealsWrong : ChangeSpec := { name := "goodsHeals", fn := fun _ => fun
  | [d1, d2, d3, d4] => { results := [.lit (.bool false)], args := [d1, d2, d3, d4] }
  | _ => none }
def GoodsHealsWrongFalsely : Prop := goodsHealsRow.holds Try.pinned (OpenSpec.ofChange goodsHealsWrong)

/-- 'aditlaw7.GoodsGold': WHATEVER THE INPUT: true; the input reads as it did. -/
def goodsGoldSpec : ChangeSpec := { name := "goodsGold", fn := fun _ => fun
  | [d1, d2, d3] => { results := [.lit (.bool true)], args := [d1, d2, d3] }
  | _ => none }
def goodsGoldRow : OpenClaim := { program := "ytdbfecfcoephoaa", sum := "52350ce75bbd759af9825def73ef949eeba18ef07772c04f6fcf812ecb2184fe", func := "adit/aditlaw7.GoodsGold", spec := "goodsGold", unfollowed := true, recurses := true, plainKeys := false, apart := false }
def GoodsGoldSaid : Prop := goodsGoldRow.holds Try.pinned (OpenSpec.ofChange goodsGoldSpec)

/-- ITS FALSE NEIGHBOUR: 'it returns false'. Refute it at one input. -/
def goodsGoldWrong : ChangeSpec := { name := "goodsGold", fn := fun _ => fun
  | [d1, d2, d3] => { results := [.lit (.bool false)], args := [d1, d2, d3] }
  | _ => none }
def GoodsGoldWrongFalsely : Prop := goodsGoldRow.holds Try.pinned (OpenSpec.ofChange goodsGoldWrong)

/-- 'aditlaw7.GoodsPlaces': WHATEVER THE INPUT: true; the input reads as it did. -/
def goodsPlacesSpec : ChangeSpec := { name := "goodsPlaces", fn := fun _ => fun
  | [d1, d2, d3, d4, d5, d6, d7] => { results := [.lit (.bool true)], args := [d1, d2, d3, d4, d5, d6, d7] }
  | _ => none }
def goodsPlacesRow : OpenClaim := { program := "ytdbfecfcoephoaa", sum := "52350ce75bbd759af9825def73ef949eeba18ef07772c04f6fcf812ecb2184fe", func := "adit/aditlaw7.GoodsPlaces", spec := "goodsPlaces", unfollowed := true, recurses := true, plainKeys := false, apart := false }
def GoodsPlacesSaid : Prop := goodsPlacesRow.holds Try.pinned (OpenSpec.ofChange goodsPlacesSpec)

/-- ITS FALSE NEIGHBOUR: 'it returns false'. Refute it at one input. -/
def goodsPlacesWrong : ChangeSpec := { name := "goodsPlaces", fn := fun _ => fun
  | [d1, d2, d3, d4, d5, d6, d7] => { results := [.lit (.bool false)], args := [d1, d2, d3, d4, d5, d6, d7] }
  | _ => none }
def GoodsPlacesWrongFalsely : Prop := goodsPlacesRow.holds Try.pinned (OpenSpec.ofChange goodsPlacesWrong)

/-- 'aditlaw7.GoodsWears': WHATEVER THE INPUT: true; the input reads as it did. -/
def goodsWearsSpec : ChangeSpec := { name := "goodsWears", fn := fun _ => fun
  | [d1, d2, d3, d4] => { results := [.lit (.bool true)], args := [d1, d2, d3, d4] }
  | _ => none }
def goodsWearsRow : OpenClaim := { program := "ytdbfecfcoephoaa", sum := "52350ce75bbd759af9825def73ef949eeba18ef07772c04f6fcf812ecb2184fe", func := "adit/aditlaw7.GoodsWears", spec := "goodsWears", unfollowed := true, recurses := true, plainKeys := false, apart := false }
def GoodsWearsSaid : Prop := goodsWearsRow.holds Try.pinned (OpenSpec.ofChange goodsWearsSpec)

/-- ITS FALSE NEIGHBOUR: 'it returns false'. Refute it at one input. -/
def goodsWearsWrong : ChangeSpec := { name := "goodsWears", fn := fun _ => fun
  | [d1, d2, d3, d4] => { results := [.lit (.bool false)], args := [d1, d2, d3, d4] }
  | _ => none }
def GoodsWearsWrongFalsely : Prop := goodsWearsRow.holds Try.pinned (OpenSpec.ofChange goodsWearsWrong)

/- THE SECOND FORM. 'bulk': how many values and letters a reading holds, each counted each time it is reached (what is shared counts as often as it is met; a slice's spare places count too). A statement '..UptoSaid' is the law's where the arguments, and the package variables that the reading takes, are together of bulk at most 1048576: NARROWER than '..Said'. Prove '..Said' where nothing that the law and all that it calls make is longer than what came in: it says more and counts as full. Else prove '..UptoSaid'. A law counts once. -/
mutual
def uptoBulk {H : Type} : DataW H → Nat
  | .lit (.string bytes) => bytes.length + 1
  | .lit _ => 1
  | .nil => 1
  | .ptr d => uptoBulk d + 1
  | .slice elems spare => uptoBulkAll elems + uptoBulkAll spare + 1
  | .agg parts => uptoBulkAll parts + 1
  | .iface _ d => uptoBulk d + 1
  | .map entries => uptoBulkEntries entries + 1
  | .held _ => 1
def uptoBulkAll {H : Type} : List (DataW H) → Nat
  | [] => 0
  | d :: r => uptoBulk d + uptoBulkAll r
def uptoBulkEntries {H : Type} : List (Lit × DataW H) → Nat
  | [] => 0
  | x :: r => uptoBulkEntry x + uptoBulkEntries r
def uptoBulkEntry {H : Type} : Lit × DataW H → Nat
  | (.string bytes, d) => bytes.length + uptoBulk d + 1
  | (_, d) => uptoBulk d + 1
 end
def uptoSmall : (H : Type) → List (DataW H) → Bool := fun _ ds => decide (uptoBulkAll ds ≤ 1048576)
def OpenSpec.upto (s : _root_.Go.ChangeSpec) : _root_.Go.OpenSpec := { _root_.Go.OpenSpec.ofChange s with cond := some uptoSmall }

/-- 'aditlaw7.GoodsDo', WHERE WHAT IT READS IS OF BULK AT MOST 1048576: true; the input reads as it did. -/
def goodsDoUptoRow : OpenClaim := { program := "ytdbfecfcoephoaa", sum := "52350ce75bbd759af9825def73ef949eeba18ef07772c04f6fcf812ecb2184fe", func := "adit/aditlaw7.GoodsDo", spec := "goodsDo", unfollowed := true, recurses := true, plainKeys := false, apart := false, narrowed := true }
def GoodsDoUptoSaid : Prop := goodsDoUptoRow.holds Try.pinned (OpenSpec.upto goodsDoSpec)

/-- 'aditlaw7.GoodsBuys', WHERE WHAT IT READS IS OF BULK AT MOST 1048576: true; the input reads as it did. -/
def goodsBuysUptoRow : OpenClaim := { program := "ytdbfecfcoephoaa", sum := "52350ce75bbd759af9825def73ef949eeba18ef07772c04f6fcf812ecb2184fe", func := "adit/aditlaw7.GoodsBuys", spec := "goodsBuys", unfollowed := true, recurses := true, plainKeys := false, apart := false, narrowed := true }
def GoodsBuysUptoSaid : Prop := goodsBuysUptoRow.holds Try.pinned (OpenSpec.upto goodsBuysSpec)

/-- 'aditlaw7.GoodsBack', WHERE WHAT IT READS IS OF BULK AT MOST 1048576: true; the input reads as it did. -/
def goodsBackUptoRow : OpenClaim := { program := "ytdbfecfcoephoaa", sum := "52350ce75bbd759af9825def73ef949eeba18ef07772c04f6fcf812ecb2184fe", func := "adit/aditlaw7.GoodsBack", spec := "goodsBack", unfollowed := true, recurses := true, plainKeys := false, apart := false, narrowed := true }
def GoodsBackUptoSaid : Prop := goodsBackUptoRow.holds Try.pinned (OpenSpec.upto goodsBackSpec)

/-- 'aditlaw7.GoodsHeals', WHERE WHAT IT READS IS OF BULK AT MOST 1048576: true; the input reads as it did. -/
def goodsHealsUptoRow : OpenClaim := { program := "ytdbfecfcoephoaa", sum := "52350ce75bbd759af9825def73ef949eeba18ef07772c04f6fcf812ecb2184fe", func := "adit/aditlaw7.GoodsHeals", spec := "goodsHeals", unfollowed := true, recurses := true, plainKeys := false, apart := false, narrowed := true }
def GoodsHealsUptoSaid : Prop := goodsHealsUptoRow.holds Try.pinned (OpenSpec.upto goodsHealsSpec)

/-- 'aditlaw7.GoodsGold', WHERE WHAT IT READS IS OF BULK AT MOST 1048576: true; the input reads as it did. -/
def goodsGoldUptoRow : OpenClaim := { program := "ytdbfecfcoephoaa", sum := "52350ce75bbd759af9825def73ef949eeba18ef07772c04f6fcf812ecb2184fe", func := "adit/aditlaw7.GoodsGold", spec := "goodsGold", unfollowed := true, recurses := true, plainKeys := false, apart := false, narrowed := true }
def GoodsGoldUptoSaid : Prop := goodsGoldUptoRow.holds Try.pinned (OpenSpec.upto goodsGoldSpec)

/-- 'aditlaw7.GoodsPlaces', WHERE WHAT IT READS IS OF BULK AT MOST 1048576: true; the input reads as it did. -/
def goodsPlacesUptoRow : OpenClaim := { program := "ytdbfecfcoephoaa", sum := "52350ce75bbd759af9825def73ef949eeba18ef07772c04f6fcf812ecb2184fe", func := "adit/aditlaw7.GoodsPlaces", spec := "goodsPlaces", unfollowed := true, recurses := true, plainKeys := false, apart := false, narrowed := true }
def GoodsPlacesUptoSaid : Prop := goodsPlacesUptoRow.holds Try.pinned (OpenSpec.upto goodsPlacesSpec)

/-- 'aditlaw7.GoodsWears', WHERE WHAT IT READS IS OF BULK AT MOST 1048576: true; the input reads as it did. -/
def goodsWearsUptoRow : OpenClaim := { program := "ytdbfecfcoephoaa", sum := "52350ce75bbd759af9825def73ef949eeba18ef07772c04f6fcf812ecb2184fe", func := "adit/aditlaw7.GoodsWears", spec := "goodsWears", unfollowed := true, recurses := true, plainKeys := false, apart := false, narrowed := true }
def GoodsWearsUptoSaid : Prop := goodsWearsUptoRow.holds Try.pinned (OpenSpec.upto goodsWearsSpec)

end Rows
end Go.Proofs.Ytdbfecfcoephoaa
