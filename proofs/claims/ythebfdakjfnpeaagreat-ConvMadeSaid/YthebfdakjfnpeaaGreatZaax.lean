/- What the law ConvMade of layer 17 comes to, part 24. Conditions: none. -/
import Derived.Test.YthebfdakjfnpeaaGreatZaak
import Derived.Test.YthebfdakjfnpeaaGreatZaaw
import Derived.Test.YthebfdakjfnpeaaGreatChecked
section
set_option linter.unusedVariables false
set_option linter.unusedSimpArgs false
set_option maxRecDepth 100000
namespace Go.Ab
open Go.RowKit Go.ChangeShapes Go.Proofs
section
variable {H : Type} {enc : TypeId × Value → H} {P : Program} {w : World}
theorem zyj{ts:List TypeId}{ds:List (DataW H)}(h:(DataW.weightsEach P ts ds).all (· <= reachBytes)=true):∀(i:Nat) (t:TypeId) (d:DataW H),ts[i]?=some t->ds[i]?=some d->(d.weights P t).all (· <= reachBytes)=true:=by
 induction ts generalizing ds with
 |nil=>intro i t d ht;simp at ht
 |cons t ts ih=>
  cases ds with
  |nil=>intro i t d _ hd;simp at hd
  |cons d ds=>
   rw[DataW.weightsEach]at h;obtain⟨h1,h2⟩:=zsn h;intro i t' d' ht hd
   cases i with
   |zero=>simp at ht hd;subst ht;subst hd;exact h1
   |succ i=>exact ih h2 i t' d' (by simpa using ht) (by simpa using hd)
end
section
variable {H : Type} {enc : TypeId × Value → H} {w : World}
theorem yls:Tryz.prog.cellsOf 5=1:=by kernel_rfl
theorem yhm:Tryz.prog.cellsOf 23=1:=by kernel_rfl
theorem ylv:1<=Tryz.prog.bytesOf 5:=of_decide_eq_true (by kernel_rfl)
theorem yhn:1<=Tryz.prog.bytesOf 23:=of_decide_eq_true (by kernel_rfl)
theorem mono_wf{n:Int}(h:(Lit.int .u8 n).wf=true):0<=n/\n<256:=by
 simp[Lit.wf,IntKind.min,IntKind.max,IntKind.bits,IntKind.signed]at h;omega
theorem ykg{n:Int}(h:(Lit.int .u16 n).wf=true):0<=n/\n<65536:=by
 simp[Lit.wf,IntKind.min,IntKind.max,IntKind.bits,IntKind.signed]at h;omega
theorem yd4(fuel:Nat):RdN enc Tryz.prog w 23 (fun L:List Int=>[.sl (u8s L)]) (fun L=>L.length<=140737488355328/\zbu L) fuel:=by
 intro cs x hx hw;obtain⟨L,⟨h1,h2⟩,h3⟩:=z89 (e:=fun n:Int=>[AV.int .u8 n]) (Q:=fun n=>(Lit.int .u8 n).wf=true) Tryz.underlying23 yls (by omega) ylv (fun _=>rfl) (fun a c hc=>by simp at hc;subst hc;rfl) (fuel:=fuel) (fun m _=>rd_int Tryz.underlying5 m) cs x hx hw
 exact⟨L,⟨h1,fun b hb=>mono_wf (h2 b hb)⟩,h3⟩
theorem rd_u8ss(fuel:Nat):RdN enc Tryz.prog w 22 (fun L:List (List Int)=>[.sl (L.map fun l=>[.sl (u8s l)])]) (fun L=>L.length<=140737488355328/\∀l∈L,l.length<=140737488355328/\zbu l) fuel :=
 z89 Tryz.underlying22 yhm (by omega) yhn (fun _=>rfl) (fun a c hc=>by simp at hc;subst hc;rfl) (fun m _=>yd4 m)
theorem rvs_one{g:G}{a:AV}{c:Value}(h:RVs g [a] [c]):RV g a c:=h.2 0 a c rfl rfl
end
section
variable {H : Type} {enc : TypeId × Value → H} {P : Program} {W : World} {r : Reach} {base : Nat} {t : TypeId} {v : Value} {d : DataW H} {p : List MemPlace}
theorem arg_int{k:IntKind}(ht:P.underlying t=some (.int k))(hv:Value.okWide P W r base t v)(h:DataW.Trod enc P W 0 (fun _=>true) true t v d p):∃n,(Lit.int k n).wf=true/\RV (z9x P W) (.int k n) v:=by
 obtain⟨n,rfl,_,_,hw⟩:=open_int ht hv h;exact⟨n,hw,.int k n⟩
theorem yai(ht:P.underlying t=some .bool)(hv:Value.okWide P W r base t v)(h:DataW.Trod enc P W 0 (fun _=>true) true t v d p):∃b,RV (z9x P W) (.bool b) v:=by
 obtain⟨b,rfl,_,_⟩:=open_bool ht hv h;exact⟨b,.bool b⟩
theorem zyd{u:TypeId}(ht:P.underlying t=some (.slice u)){α:Type}{e:α->AV}{Q:α->Prop}(hr:∀n,RdN enc P W t (fun a=>[e a]) Q n)(hv:Value.okWide P W r base t v)(h:DataW.Trod enc P W 0 (fun _=>true) true t v d p)(hw:(d.weights P t).all (· <= reachBytes)=true):
  ∃a,Q a/\RV (z9x P W) (e a) v:=by
 obtain⟨fuel,hf⟩:=h;obtain⟨a,h1,h2⟩:=hr fuel _ _ hf hw;refine⟨a,h1,?_⟩;have hc:v.cells.toList=[v]:=by
  unfold Value.okWide at hv;rw[ht]at hv;simp only[Cell.okWide,ht,Cell.ok]at hv
  split at hv <;> first|rfl|exact hv.elim
 rw[hc]at h2;exact rvs_one h2
end
section
open Go.ChangeShapes
variable {H : Type} {enc : TypeId × Value → H} {P : Program} {w : World} {base : Nat} {spare : Nat → Bool} {held : Bool}
theorem z6m{t0 t1 t2 t3 t4 t5:TypeId}{args:Array Value}{ds:List (DataW H)}{ps:List MemPlace}(h:DataW.TrodAll enc P w base spare held [t0,t1,t2,t3,t4,t5] args.toList ds ps):
  ∃v0 v1 v2 v3 v4 v5 d0 d1 d2 d3 d4 d5 p0 p1 p2 p3 p4 p5,args = #[v0,v1,v2,v3,v4,v5]/\ds=[d0,d1,d2,d3,d4,d5]/\ps=p0++p1++p2++p3++p4++p5/\DataW.Trod enc P w base spare held t0 v0 d0 p0/\DataW.Trod enc P w base spare held t1 v1 d1 p1/\DataW.Trod enc P w base spare held t2 v2 d2 p2/\DataW.Trod enc P w base spare held t3 v3 d3 p3/\DataW.Trod enc P w base spare held t4 v4 d4 p4/\DataW.Trod enc P w base spare held t5 v5 d5 p5:=by
 obtain⟨v0,vs0,d0,ds0,p0,q0,hargs,rfl,rfl,h0,k0⟩:=trodAll_cons h;obtain⟨v1,vs1,d1,ds1,p1,q1,rfl,rfl,rfl,h1,k1⟩:=trodAll_cons k0;obtain⟨v2,vs2,d2,ds2,p2,q2,rfl,rfl,rfl,h2,k2⟩:=trodAll_cons k1;obtain⟨v3,vs3,d3,ds3,p3,q3,rfl,rfl,rfl,h3,k3⟩:=trodAll_cons k2;obtain⟨v4,vs4,d4,ds4,p4,q4,rfl,rfl,rfl,h4,k4⟩:=trodAll_cons k3;obtain⟨v5,vs5,d5,ds5,p5,q5,rfl,rfl,rfl,h5,k5⟩:=trodAll_cons k4;obtain⟨rfl,rfl,rfl⟩:=trodAll_nil k5;exact⟨v0,v1,v2,v3,v4,v5,d0,d1,d2,d3,d4,d5,p0,p1,p2,p3,p4,p5,by cases args;simp_all,rfl,by simp,h0,h1,h2,h3,h4,h5⟩
end
end Go.Ab
end
