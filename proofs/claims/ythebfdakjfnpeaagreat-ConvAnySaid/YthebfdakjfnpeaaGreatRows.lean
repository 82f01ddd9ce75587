/-
  NARROWER THAN 'FOR EVERY INPUT', by the rows' own cells (each row's printed sentence says how): ConvAny: loops.
  DERIVED. THE GIVEN ROWS OF THIS SEAT. 6 by the template 'for every input the law returns true; each argument reads behind the call as it read before'; 0 by the template 'total and deterministic' (their statements: YthebfdakjfnpeaaGreatTotals.lean).
  GIVEN WITH THE SEED: the statements are not yours to turn. If you find one false, say at which input.
  Laid BY PROGRAM, IN A SANDBOX (cutbox-rows.mjs): the forced cells as the released guide's own fill.sh prints them over the translation 8e204e23d4aad7af… (all of the seat's roots in one cut). By AI agents, Wed Nov 11 2026. No macro, syntax, notation, axiom, sorry.
-/
import Derived.Test.YthebfdakjfnpeaaGreatChecked
import GoSem.Claim
import GoSem.ClaimJoined
import GoSem.ClaimMapViews
import Derived.JoinedTies
import Derived.KernelRfl
namespace Go.Proofs.YthebfdakjfnpeaaGreat
/- THE CELL 'sum', in the pinned program and in every row, IS THE sha256 OF THE DUMP (.gsa) THAT YthebfdakjfnpeaaGreatProg.lean LOADS. Nothing in Lean hashes anything: it is a label: what it is worth is what the hold of that sum in a sandbox is worth. -/
noncomputable def Tryz.pinned : Pinned := { name := "ythebfdakjfnpeaagreat", sum := "8e204e23d4aad7af227c0b1b3a44444d6b8995cc0c226f52b65a3f25a13c569e", checked := Tryz.checked }
namespace Rows
def none {H : Type} : Left H := { results := [], args := [] }

/-- 'stereobatelaw17.ConvMade': WHATEVER THE INPUT: true; the input reads as it did. -/
def convMadeSpec : ChangeSpec := { name := "convMade", fn := fun _ => fun
  | [d1, d2, d3, d4, d5, d6] => { results := [.lit (.bool true)], args := [d1, d2, d3, d4, d5, d6] }
  | _ => none }
def convMadeRow : OpenClaim := { program := "ythebfdakjfnpeaagreat", sum := "8e204e23d4aad7af227c0b1b3a44444d6b8995cc0c226f52b65a3f25a13c569e", func := "stereobate/stereobatelaw17.ConvMade", spec := "convMade", unfollowed := true, recurses := true, plainKeys := false, apart := false }
def ConvMadeSaid : Prop := convMadeRow.holds Tryz.pinned (OpenSpec.ofChange convMadeSpec)

/-- ITS FALSE NEIGHBOUR: 'it returns false'. Refute it at one input. -/
def convMadeWrong : ChangeSpec := { name := "convMade", fn := fun _ => fun
  | [d1, d2, d3, d4, d5, d6] => { results := [.lit (.bool false)], args := [d1, d2, d3, d4, d5, d6] }
  | _ => none }
def ConvMadeWrongFalsely : Prop := convMadeRow.holds Tryz.pinned (OpenSpec.ofChange convMadeWrong)

/-- 'stereobatelaw17.ConvAny': WHATEVER THE INPUT: true; the input reads as it did. -/
def convAnySpec : ChangeSpec := { name := "convAny", fn := fun _ => fun
  | [d1, d2, d3, d4, d5] => { results := [.lit (.bool true)], args := [d1, d2, d3, d4, d5] }
  | _ => none }
def convAnyRow : OpenClaim := { program := "ythebfdakjfnpeaagreat", sum := "8e204e23d4aad7af227c0b1b3a44444d6b8995cc0c226f52b65a3f25a13c569e", func := "stereobate/stereobatelaw17.ConvAny", spec := "convAny", unfollowed := true, recurses := true, loops := true, plainKeys := false, apart := false }
def ConvAnySaid : Prop := convAnyRow.holds Tryz.pinned (OpenSpec.ofChange convAnySpec)

/-- ITS FALSE NEIGHBOUR: 'it returns false'. Refute it at one input. -/
def convAnyWrong : ChangeSpec := { name := "convAny", fn := fun _ => fun
  | [d1, d2, d3, d4, d5] => { results := [.lit (.bool false)], args := [d1, d2, d3, d4, d5] }
  | _ => none }
def ConvAnyWrongFalsely : Prop := convAnyRow.holds Tryz.pinned (OpenSpec.ofChange convAnyWrong)

/-- 'stereobatelaw17.ConvSpoilt': WHATEVER THE INPUT: true; the input reads as it did. -/
def convSpoiltSpec : ChangeSpec := { name := "convSpoilt", fn := fun _ => fun
  | [d1, d2, d3, d4, d5] => { results := [.lit (.bool true)], args := [d1, d2, d3, d4, d5] }
  | _ => none }
def convSpoiltRow : OpenClaim := { program := "ythebfdakjfnpeaagreat", sum := "8e204e23d4aad7af227c0b1b3a44444d6b8995cc0c226f52b65a3f25a13c569e", func := "stereobate/stereobatelaw17.ConvSpoilt", spec := "convSpoilt", unfollowed := true, recurses := true, plainKeys := false, apart := false }
def ConvSpoiltSaid : Prop := convSpoiltRow.holds Tryz.pinned (OpenSpec.ofChange convSpoiltSpec)

/-- ITS FALSE NEIGHBOUR: 'it returns false'. Refute it at one input. -/
def convSpoiltWrong : ChangeSpec := { name := "convSpoilt", fn := fun _ => fun
  | [d1, d2, d3, d4, d5] => { results := [.lit (.bool false)], args := [d1, d2, d3, d4, d5] }
  | _ => none }
def ConvSpoiltWrongFalsely : Prop := convSpoiltRow.holds Tryz.pinned (OpenSpec.ofChange convSpoiltWrong)

/-- 'stereobatelaw17.ConvMany': WHATEVER THE INPUT: true; the input reads as it did. -/
def convManySpec : ChangeSpec := { name := "convMany", fn := fun _ => fun
  | [d1, d2] => { results := [.lit (.bool true)], args := [d1, d2] }
  | _ => none }
def convManyRow : OpenClaim := { program := "ythebfdakjfnpeaagreat", sum := "8e204e23d4aad7af227c0b1b3a44444d6b8995cc0c226f52b65a3f25a13c569e", func := "stereobate/stereobatelaw17.ConvMany", spec := "convMany", unfollowed := true, recurses := true, plainKeys := false, apart := false }
def ConvManySaid : Prop := convManyRow.holds Tryz.pinned (OpenSpec.ofChange convManySpec)

/-- ITS FALSE NEIGHBOUR: 'it returns false'. Refute it at one input. -/
def convManyWrong : ChangeSpec := { name := "convMany", fn := fun _ => fun
  | [d1, d2] => { results := [.lit (.bool false)], args := [d1, d2] }
  | _ => none }
def ConvManyWrongFalsely : Prop := convManyRow.holds Tryz.pinned (OpenSpec.ofChange convManyWrong)

/-- 'stereobatelaw17.ConvSelf': WHATEVER THE INPUT: true; the input reads as it did. -/
def convSelfSpec : ChangeSpec := { name := "convSelf", fn := fun _ => fun
  | [d1, d2, d3] => { results := [.lit (.bool true)], args := [d1, d2, d3] }
  | _ => none }
def convSelfRow : OpenClaim := { program := "ythebfdakjfnpeaagreat", sum := "8e204e23d4aad7af227c0b1b3a44444d6b8995cc0c226f52b65a3f25a13c569e", func := "stereobate/stereobatelaw17.ConvSelf", spec := "convSelf", unfollowed := true, recurses := true, plainKeys := false, apart := false }
def ConvSelfSaid : Prop := convSelfRow.holds Tryz.pinned (OpenSpec.ofChange convSelfSpec)

/-- ITS FALSE NEIGHBOUR: 'it returns false'. Refute it at one input. -/
def convSelfWrong : ChangeSpec := { name := "convSelf", fn := fun _ => fun
  | [d1, d2, d3] => { results := [.lit (.bool false)], args := [d1, d2, d3] }
  | _ => none }
def ConvSelfWrongFalsely : Prop := convSelfRow.holds Tryz.pinned (OpenSpec.ofChange convSelfWrong)

/-- 'stereobatelaw17.ConvGather': WHATEVER THE INPUT: true; the input reads as it did. -/
def convGatherSpec : ChangeSpec := { name := "convGather", fn := fun _ => fun
  | [d1, d2, d3, d4] => { results := [.lit (.bool true)], args := [d1, d2, d3, d4] }
  | _ => none }
def convGatherRow : OpenClaim := { program := "ythebfdakjfnpeaagreat", sum := "8e204e23d4aad7af227c0b1b3a44444d6b8995cc0c226f52b65a3f25a13c569e", func := "stereobate/stereobatelaw17.ConvGather", spec := "convGather", unfollowed := true, recurses := true, plainKeys := false, apart := false }
def ConvGatherSaid : Prop := convGatherRow.holds Tryz.pinned (OpenSpec.ofChange convGatherSpec)

/-- ITS FALSE NEIGHBOUR: 'it returns false'. Refute it at one input. -/
def convGatherWrong : ChangeSpec := { name := "convGather", fn := fun _ => fun
  | [d1, d2, d3, d4] => { results := [.lit (.bool false)], args := [d1, d2, d3, d4] }
  | _ => none }
def ConvGatherWrongFalsely : Prop := convGatherRow.holds Tryz.pinned (OpenSpec.ofChange convGatherWrong)

/- THE SECOND FORM. 'bulk': how many values and letters a reading holds, each counted each time it is reached (what is shared counts as often as it is met; a slice's spare places count too). A statement '..UptoSaid' is the law's where the arguments, and the package variables that the reading takes, are together of bulk at most 1048576: NARROWER than '..Said'. Prove '..Said' where nothing that the law and all that it calls make is longer than what came in: it says more and counts as full. Else prove '..UptoSaid'. A law counts once. -/
mutual
def uptoBulk {H : Type} : DataW H → Nat
  | .lit (.string bytes) => bytes.length + 1
  | .lit _ => 1
  | .nil => 1
  | .ptr d => uptoBulk d + 1
  | .slice elems spare => uptoBulkAll elems + uptoBulkAll spare + 1
  | .agg parts => uptoBulkAll parts + 1
  | .iface _ d => uptoBulk d + 1
  | .map entries => uptoBulkEntries entries + 1
  | .held _ => 1
def uptoBulkAll {H : Type} : List (DataW H) → Nat
  | [] => 0
  | d :: r => uptoBulk d + uptoBulkAll r
def uptoBulkEntries {H : Type} : List (Lit × DataW H) → Nat
  | [] => 0
  | x :: r => uptoBulkEntry x + uptoBulkEntries r
def uptoBulkEntry {H : Type} : Lit × DataW H → Nat
  | (.string bytes, d) => bytes.length + uptoBulk d + 1
  | (_, d) => uptoBulk d + 1
 end
def uptoSmall : (H : Type) → List (DataW H) → Bool := fun _ ds => decide (uptoBulkAll ds ≤ 1048576)
def OpenSpec.upto (s : _root_.Go.ChangeSpec) : _root_.Go.OpenSpec := { _root_.Go.OpenSpec.ofChange s with cond := some uptoSmall }

/-- 'stereobatelaw17.ConvMade', WHERE WHAT IT READS IS OF BULK AT MOST 1048576: true; the input reads as it did. -/
def convMadeUptoRow : OpenClaim := { program := "ythebfdakjfnpeaagreat", sum := "8e204e23d4aad7af227c0b1b3a44444d6b8995cc0c226f52b65a3f25a13c569e", func := "stereobate/stereobatelaw17.ConvMade", spec := "convMade", unfollowed := true, recurses := true, plainKeys := false, apart := false, narrowed := true }
def ConvMadeUptoSaid : Prop := convMadeUptoRow.holds Tryz.pinned (OpenSpec.upto convMadeSpec)

/-- 'stereobatelaw17.ConvAny', WHERE WHAT IT READS IS OF BULK AT MOST 1048576: true; the input reads as it did. -/
def convAnyUptoRow : OpenClaim := { program := "ythebfdakjfnpeaagreat", sum := "8e204e23d4aad7af227c0b1b3a44444d6b8995cc0c226f52b65a3f25a13c569e", func := "stereobate/stereobatelaw17.ConvAny", spec := "convAny", unfollowed := true, recurses := true, loops := true, plainKeys := false, apart := false, narrowed := true }
def ConvAnyUptoSaid : Prop := convAnyUptoRow.holds Tryz.pinned (OpenSpec.upto convAnySpec)

/-- 'stereobatelaw17.ConvSpoilt', WHERE WHAT IT READS IS OF BULK AT MOST 1048576: true; the input reads as it did. -/
def convSpoiltUptoRow : OpenClaim := { program := "ythebfdakjfnpeaagreat", sum := "8e204e23d4aad7af227c0b1b3a44444d6b8995cc0c226f52b65a3f25a13c569e", func := "stereobate/stereobatelaw17.ConvSpoilt", spec := "convSpoilt", unfollowed := true, recurses := true, plainKeys := false, apart := false, narrowed := true }
def ConvSpoiltUptoSaid : Prop := convSpoiltUptoRow.holds Tryz.pinned (OpenSpec.upto convSpoiltSpec)

/-- 'stereobatelaw17.ConvMany', WHERE WHAT IT READS IS OF BULK AT MOST 1048576: true; the input reads as it did. -/
def convManyUptoRow : OpenClaim := { program := "ythebfdakjfnpeaagreat", sum := "8e204e23d4aad7af227c0b1b3a44444d6b8995cc0c226f52b65a3f25a13c569e", func := "stereobate/stereobatelaw17.ConvMany", spec := "convMany", unfollowed := true, recurses := true, plainKeys := false, apart := false, narrowed := true }
def ConvManyUptoSaid : Prop := convManyUptoRow.holds Tryz.pinned (OpenSpec.upto convManySpec)

/-- 'stereobatelaw17.ConvSelf', WHERE WHAT IT READS IS OF BULK AT MOST 1048576: true; the input reads as it did. -/
def convSelfUptoRow : OpenClaim := { program := "ythebfdakjfnpeaagreat", sum := "8e204e23d4aad7af227c0b1b3a44444d6b8995cc0c226f52b65a3f25a13c569e", func := "stereobate/stereobatelaw17.ConvSelf", spec := "convSelf", unfollowed := true, recurses := true, plainKeys := false, apart := false, narrowed := true }
def ConvSelfUptoSaid : Prop := convSelfUptoRow.holds Tryz.pinned (OpenSpec.upto convSelfSpec)

/-- 'stereobatelaw17.ConvGather', WHERE WHAT IT READS IS OF BULK AT MOST 1048576: true; the input reads as it did. -/
def convGatherUptoRow : OpenClaim := { program := "ythebfdakjfnpeaagreat", sum := "8e204e23d4aad7af227c0b1b3a44444d6b8995cc0c226f52b65a3f25a13c569e", func := "stereobate/stereobatelaw17.ConvGather", spec := "convGather", unfollowed := true, recurses := true, plainKeys := false, apart := false, narrowed := true }
def ConvGatherUptoSaid : Prop := convGatherUptoRow.holds Tryz.pinned (OpenSpec.upto convGatherSpec)

end Rows
end Go.Proofs.YthebfdakjfnpeaaGreat
