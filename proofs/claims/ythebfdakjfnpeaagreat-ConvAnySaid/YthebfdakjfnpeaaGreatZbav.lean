/- What the law ConvAny of layer 17 comes to, part 22. Conditions: none. -/
import Derived.Test.YthebfdakjfnpeaaGreatZbak
import Derived.Test.YthebfdakjfnpeaaGreatZbau
import Derived.Test.YthebfdakjfnpeaaGreatChecked
section
set_option linter.unusedVariables false
set_option linter.unusedSimpArgs false
set_option maxRecDepth 100000
namespace Go.Ab
open Go.RowKit Go.ChangeShapes Go.Proofs
section
variable {H : Type} {enc : TypeId × Value → H} {P : Program} {w : World}
theorem zmb{ts:List TypeId}{ds:List (DataW H)}(h:(DataW.weightsEach P ts ds).all (· <= reachBytes)=true):∀(i:Nat) (t:TypeId) (d:DataW H),ts[i]?=some t->ds[i]?=some d->(d.weights P t).all (· <= reachBytes)=true:=by
 induction ts generalizing ds with
 |nil=>intro i t d ht;simp at ht
 |cons t ts ih=>
  cases ds with
  |nil=>intro i t d _ hd;simp at hd
  |cons d ds=>
   rw[DataW.weightsEach]at h;obtain⟨h1,h2⟩:=zq5 h;intro i t' d' ht hd
   cases i with
   |zero=>simp at ht hd;subst ht;subst hd;exact h1
   |succ i=>exact ih h2 i t' d' (by simpa using ht) (by simpa using hd)
theorem z10{t:TypeId}{fs:Array Field}(ht:P.underlying t=some (.struct fs))(hsz:P.cellsOf t=fs.size)(ho:∀(i:Nat) (f:Field),fs[i]?=some f->f.offset=i/\P.cellsOf f.type=1){fuel:Nat}{cs:List Value}{x:DataW H×List MemPlace}
  (h:DataW.trod enc P w 0 (fun _=>true) true fuel t cs=some x) (hw:(x.1.weights P t).all (· <= reachBytes)=true) :
  ∃n,fuel=n+1/\cs.length=fs.size/\∀(i:Nat) (f:Field) (c:Value),fs[i]?=some f->cs[i]?=some c->∃y,DataW.trod enc P w 0 (fun _=>true) true n f.type [c]=some y/\(y.1.weights P f.type).all (· <= reachBytes)=true:=by
 obtain⟨xs,n,rfl,rfl,hl,hxl,hget⟩:=DataW.trod_struct ht h;refine⟨n,rfl,by omega,fun i f c hf hc=>?_⟩
 obtain⟨h1,h2⟩:=ho i f hf;have hi:i<fs.size:=(Array.getElem?_eq_some_iff.1 hf).1;have hy:xs[i]?=some xs[i]:=List.getElem?_eq_getElem (by omega)
 have h3:=hget i f hf;rw[h1,h2,hy]at h3;have h4:(cs.drop i).take 1=[c]:=by
  have hil:i<cs.length:=by omega
  rw[List.drop_eq_getElem_cons hil];have:=List.getElem?_eq_getElem hil;rw[hc]at this;injection this with this;rw[this,List.take_succ_cons,List.take_zero]
 rw[h4]at h3;refine⟨_,h3,?_⟩;rw[DataW.weights]at hw;simp only[ht]at hw;exact zmb hw i f.type _ (by simp[hf]) (by rw[List.getElem?_map,hy];rfl)
end
section
variable {H : Type} {enc : TypeId × Value → H} {w : World}
theorem zju:Tryz.prog.cellsOf 3=1:=by kernel_rfl
theorem zr6:Tryz.prog.cellsOf 46=3:=by kernel_rfl
theorem z3u:Tryz.prog.cellsOf 33=1:=by kernel_rfl
theorem zup:Tryz.prog.cellsOf 36=4:=by kernel_rfl
theorem ye2:Tryz.prog.cellsOf 34=1:=by kernel_rfl
theorem z72:1<=Tryz.prog.bytesOf 46:=of_decide_eq_true (by kernel_rfl)
theorem yiz:1<=Tryz.prog.bytesOf 36:=of_decide_eq_true (by kernel_rfl)
theorem fld3{fs:Array Field}{f0 f1 f2:Field}(h:fs = #[f0,f1,f2]){p:Nat->Field->Prop}(h0:p 0 f0)(h1:p 1 f1)(h2:p 2 f2):∀(i:Nat) (f:Field),fs[i]?=some f->p i f:=by
 subst h;intro i f hf
 match i,hf with
 |0,hf=>simp at hf;subst hf;exact h0
 |1,hf=>simp at hf;subst hf;exact h1
 |2,hf=>simp at hf;subst hf;exact h2
theorem fld4{fs:Array Field}{f0 f1 f2 f3:Field}(h:fs = #[f0,f1,f2,f3]){p:Nat->Field->Prop}(h0:p 0 f0)(h1:p 1 f1)(h2:p 2 f2)(h3:p 3 f3):∀(i:Nat) (f:Field),fs[i]?=some f->p i f:=by
 subst h;intro i f hf
 match i,hf with
 |0,hf=>simp at hf;subst hf;exact h0
 |1,hf=>simp at hf;subst hf;exact h1
 |2,hf=>simp at hf;subst hf;exact h2
 |3,hf=>simp at hf;subst hf;exact h3
theorem zsk{g:G}{a:AV}{c:Value}(h:RVs g [a] [c]):RV g a c:=h.2 0 a c rfl rfl
theorem rd_lv(fuel:Nat):RdN enc Tryz.prog w 46 Lv.cs Lv.ok fuel:=by
 induction fuel using Nat.strongRecOn with
 |_ fuel ih=>
 intro cs x hx hw;obtain⟨n,rfl,hl,hf⟩:=z10 Tryz.underlying46 zr6 (fld3 rfl ⟨rfl,zju⟩ ⟨rfl,zju⟩ ⟨rfl,z3u⟩) hx hw;have hl:cs.length=3:=hl
 match cs,hl with
 |[c0,c1,c2],_=>
  obtain⟨y0,a0,b0⟩:=hf 0 _ c0 rfl rfl;obtain⟨y1,a1,b1⟩:=hf 1 _ c1 rfl rfl;obtain⟨y2,a2,b2⟩:=hf 2 _ c2 rfl rfl;obtain⟨k,_,hk⟩:=zti Tryz.underlying3 n [c0] y0 a0 b0;obtain⟨m,_,hm⟩:=zti Tryz.underlying3 n [c1] y1 a1 b1;obtain⟨l,⟨h1,h2⟩,hl⟩:=zpr (sz:=3) Tryz.underlying33 zr6 (by omega) z72 z3n (fun a c hc=>List.all_eq_true.1 (yk7 a) c hc) (fuel:=n) (fun m hm=>ih m (by omega)) [c2] y2 a2 b2
  refine⟨.mk k m l,.mk h1 h2,?_⟩;rw[Lv.cs,Lv.css_eq];exact .cons (zsk hk) (.cons (zsk hm) hl)
theorem yg5(fuel:Nat):RdN enc Tryz.prog w 36 Te.cs Te.ok fuel:=by
 induction fuel using Nat.strongRecOn with
 |_ fuel ih=>
 intro cs x hx hw;obtain⟨n,rfl,hl,hf⟩:=z10 Tryz.underlying36 zup (fld4 rfl ⟨rfl,zju⟩ ⟨rfl,zju⟩ ⟨rfl,z3u⟩ ⟨rfl,ye2⟩) hx hw;have hl:cs.length=4:=hl
 match cs,hl with
 |[c0,c1,c2,c3],_=>
  obtain⟨y0,a0,b0⟩:=hf 0 _ c0 rfl rfl;obtain⟨y1,a1,b1⟩:=hf 1 _ c1 rfl rfl;obtain⟨y2,a2,b2⟩:=hf 2 _ c2 rfl rfl;obtain⟨y3,a3,b3⟩:=hf 3 _ c3 rfl rfl;obtain⟨k,_,hk⟩:=zti Tryz.underlying3 n [c0] y0 a0 b0;obtain⟨m,_,hm⟩:=zti Tryz.underlying3 n [c1] y1 a1 b1;obtain⟨ls,⟨h1,h2⟩,hls⟩:=zpr (sz:=3) Tryz.underlying33 zr6 (by omega) z72 z3n (fun a c hc=>List.all_eq_true.1 (yk7 a) c hc) (fuel:=n) (fun m hm=>rd_lv m) [c2] y2 a2 b2
  obtain⟨l,⟨h3,h4⟩,hl⟩:=zpr (sz:=4) Tryz.underlying34 zup (by omega) yiz ya6 (fun a c hc=>List.all_eq_true.1 (tcs_one a) c hc) (fuel:=n) (fun m hm=>ih m (by omega)) [c3] y3 a3 b3
  refine⟨.mk k m ls l,.mk h3 h1 h2 h4,?_⟩;rw[Te.cs,Te.css_eq,Lv.css_eq];exact .cons (zsk hk) (.cons (zsk hm) (.cons (zsk hls) hl))
end
section
variable {H : Type} {enc : TypeId × Value → H} {P : Program} {W : World} {r : Reach} {base : Nat} {t : TypeId} {v : Value} {d : DataW H} {p : List MemPlace}
theorem arg_int{k:IntKind}(ht:P.underlying t=some (.int k))(hv:Value.okWide P W r base t v)(h:DataW.Trod enc P W 0 (fun _=>true) true t v d p):∃n,(Lit.int k n).wf=true/\RV (z7o P W) (.int k n) v:=by
 obtain⟨n,rfl,_,_,hw⟩:=open_int ht hv h;exact⟨n,hw,.int k n⟩
theorem yi6(ht:P.underlying t=some .bool)(hv:Value.okWide P W r base t v)(h:DataW.Trod enc P W 0 (fun _=>true) true t v d p):∃b,RV (z7o P W) (.bool b) v:=by
 obtain⟨b,rfl,_,_⟩:=open_bool ht hv h;exact⟨b,.bool b⟩
theorem ztc{fs:Array Field}(ht:P.underlying t=some (.struct fs)){α:Type}{e:α->List AV}{Q:α->Prop}(hr:∀n,RdN enc P W t e Q n)(hv:Value.okWide P W r base t v)(h:DataW.Trod enc P W 0 (fun _=>true) true t v d p)(hw:(d.weights P t).all (· <= reachBytes)=true):
  ∃a,Q a/\RV (z7o P W) (.agg (e a)) v:=by
 obtain⟨fuel,hf⟩:=h;obtain⟨a,h1,h2⟩:=hr fuel _ _ hf hw;unfold Value.okWide at hv;rw[ht]at hv;obtain⟨cs,rfl,_⟩:=hv;exact⟨a,h1,RV.agg_iff.2 h2⟩
end
section
open Go.ChangeShapes
variable {H : Type} {enc : TypeId × Value → H} {P : Program} {w : World} {base : Nat} {spare : Nat → Bool} {held : Bool}
theorem z1k{t0 t1 t2 t3 t4:TypeId}{args:Array Value}{ds:List (DataW H)}{ps:List MemPlace}(h:DataW.TrodAll enc P w base spare held [t0,t1,t2,t3,t4] args.toList ds ps):
  ∃v0 v1 v2 v3 v4 d0 d1 d2 d3 d4 p0 p1 p2 p3 p4,args = #[v0,v1,v2,v3,v4]/\ds=[d0,d1,d2,d3,d4]/\ps=p0++p1++p2++p3++p4/\DataW.Trod enc P w base spare held t0 v0 d0 p0/\DataW.Trod enc P w base spare held t1 v1 d1 p1/\DataW.Trod enc P w base spare held t2 v2 d2 p2/\DataW.Trod enc P w base spare held t3 v3 d3 p3/\DataW.Trod enc P w base spare held t4 v4 d4 p4:=by
 obtain⟨v0,vs0,d0,ds0,p0,q0,hargs,rfl,rfl,h0,k0⟩:=trodAll_cons h;obtain⟨v1,vs1,d1,ds1,p1,q1,rfl,rfl,rfl,h1,k1⟩:=trodAll_cons k0;obtain⟨v2,vs2,d2,ds2,p2,q2,rfl,rfl,rfl,h2,k2⟩:=trodAll_cons k1;obtain⟨v3,vs3,d3,ds3,p3,q3,rfl,rfl,rfl,h3,k3⟩:=trodAll_cons k2;obtain⟨v4,vs4,d4,ds4,p4,q4,rfl,rfl,rfl,h4,k4⟩:=trodAll_cons k3;obtain⟨rfl,rfl,rfl⟩:=trodAll_nil k4;exact⟨v0,v1,v2,v3,v4,d0,d1,d2,d3,d4,p0,p1,p2,p3,p4,by cases args;simp_all,rfl,by simp,h0,h1,h2,h3,h4⟩
end
end Go.Ab
end
