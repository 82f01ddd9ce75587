/- What the law ConvSelf of layer 17 comes to, part 24. Conditions: none. -/
import Derived.Test.YthebfdakjfnpeaaGreatZeak
import Derived.Test.YthebfdakjfnpeaaGreatZeaw
import Derived.Test.YthebfdakjfnpeaaGreatChecked
section
set_option linter.unusedVariables false
set_option linter.unusedSimpArgs false
set_option maxRecDepth 100000
namespace Go.Ab
open Go.RowKit Go.ChangeShapes Go.Proofs
section
variable {H : Type} {enc : TypeId × Value → H} {P : Program} {w : World}
theorem zv2{ts:List TypeId}{ds:List (DataW H)}(h:(DataW.weightsEach P ts ds).all (· <= reachBytes)=true):∀(i:Nat) (t:TypeId) (d:DataW H),ts[i]?=some t->ds[i]?=some d->(d.weights P t).all (· <= reachBytes)=true:=by
 induction ts generalizing ds with
 |nil=>intro i t d ht;simp at ht
 |cons t ts ih=>
  cases ds with
  |nil=>intro i t d _ hd;simp at hd
  |cons d ds=>
   rw[DataW.weightsEach]at h;obtain⟨h1,h2⟩:=zqh h;intro i t' d' ht hd
   cases i with
   |zero=>simp at ht hd;subst ht;subst hd;exact h1
   |succ i=>exact ih h2 i t' d' (by simpa using ht) (by simpa using hd)
end
section
variable {H : Type} {enc : TypeId × Value → H} {w : World}
theorem yhk:Tryz.prog.cellsOf 5=1:=by kernel_rfl
theorem ydj:Tryz.prog.cellsOf 23=1:=by kernel_rfl
theorem yhn:1<=Tryz.prog.bytesOf 5:=of_decide_eq_true (by kernel_rfl)
theorem ydk:1<=Tryz.prog.bytesOf 23:=of_decide_eq_true (by kernel_rfl)
theorem mono_wf{n:Int}(h:(Lit.int .u8 n).wf=true):0<=n/\n<256:=by
 simp[Lit.wf,IntKind.min,IntKind.max,IntKind.bits,IntKind.signed]at h;omega
theorem yag(fuel:Nat):RdN enc Tryz.prog w 23 (fun L:List Int=>[.sl (u8s L)]) (fun L=>L.length<=140737488355328/\zbr L) fuel:=by
 intro cs x hx hw;obtain⟨L,⟨h1,h2⟩,h3⟩:=z5u (e:=fun n:Int=>[AV.int .u8 n]) (Q:=fun n=>(Lit.int .u8 n).wf=true) Tryz.underlying23 yhk (by omega) yhn (fun _=>rfl) (fun a c hc=>by simp at hc;subst hc;rfl) (fuel:=fuel) (fun m _=>rd_int Tryz.underlying5 m) cs x hx hw
 exact⟨L,⟨h1,fun b hb=>mono_wf (h2 b hb)⟩,h3⟩
theorem rd_u8ss(fuel:Nat):RdN enc Tryz.prog w 22 (fun L:List (List Int)=>[.sl (L.map fun l=>[.sl (u8s l)])]) (fun L=>L.length<=140737488355328/\∀l∈L,l.length<=140737488355328/\zbr l) fuel :=
 z5u Tryz.underlying22 ydj (by omega) ydk (fun _=>rfl) (fun a c hc=>by simp at hc;subst hc;rfl) (fun m _=>yag m)
theorem rvs_one{g:G}{a:AV}{c:Value}(h:RVs g [a] [c]):RV g a c:=h.2 0 a c rfl rfl
end
section
variable {H : Type} {enc : TypeId × Value → H} {P : Program} {W : World} {r : Reach} {base : Nat} {t : TypeId} {v : Value} {d : DataW H} {p : List MemPlace}
theorem zvw{u:TypeId}(ht:P.underlying t=some (.slice u)){α:Type}{e:α->AV}{Q:α->Prop}(hr:∀n,RdN enc P W t (fun a=>[e a]) Q n)(hv:Value.okWide P W r base t v)(h:DataW.Trod enc P W 0 (fun _=>true) true t v d p)(hw:(d.weights P t).all (· <= reachBytes)=true):
  ∃a,Q a/\RV (z9j P W) (e a) v:=by
 obtain⟨fuel,hf⟩:=h;obtain⟨a,h1,h2⟩:=hr fuel _ _ hf hw;refine⟨a,h1,?_⟩;have hc:v.cells.toList=[v]:=by
  unfold Value.okWide at hv;rw[ht]at hv;simp only[Cell.okWide,ht,Cell.ok]at hv
  split at hv <;> first|rfl|exact hv.elim
 rw[hc]at h2;exact rvs_one h2
end
section
open Go.ChangeShapes
variable {H : Type} {enc : TypeId × Value → H} {P : Program} {w : World} {base : Nat} {spare : Nat → Bool} {held : Bool}
end
end Go.Ab
end
