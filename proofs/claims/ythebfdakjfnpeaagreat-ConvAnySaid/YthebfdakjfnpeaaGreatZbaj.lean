/- What the law ConvAny of layer 17 comes to, part 10. Conditions: none. -/
import Derived.Test.YthebfdakjfnpeaaGreatZbai
import Derived.ProofKit
import Derived.SizedLaws
section
set_option linter.unusedVariables false
set_option linter.unusedSimpArgs false
namespace Go.Ab
open Go.RowKit Go.ChangeShapes
def z7o(P:Program)(w:World):G where
 fz:=fun b o=>match w.heap[b]? with
  |some (.cells c _ _)=>c[o]?
  |_=>none
 fm:=fun b=>match w.heap[b]? with
  |some (.map m _)=>some m
  |_=>none
 bx:=fun _=>none
 hd:=fun _ _=>none
 cm:=Cm P
theorem yh8(P:Program)(w:World):Sat (z7o P w) [] w:=by
 refine⟨fun b o v h=>?_,fun b m h=>?_,fun id o h=>(by cases h),fun id _=>⟨rfl,fun _=>rfl⟩,fun i j x y b h=>(by cases h),fun b h=>?_,fun id ver sz es h=>(by cases h)⟩
 ·unfold z7o at h
  dsimp only at h
  split at h
  ·rename_i c t fr hc;exact⟨c,t,fr,hc,h⟩
  ·cases h
 ·unfold z7o at h
  dsimp only at h
  split at h
  ·rename_i m' ck hc;cases h;exact⟨ck,hc⟩
  ·cases h
 ·obtain⟨id,o,h,_⟩:=h;cases h
theorem yd1{P:Program}{w:World}{b o:Nat}{v:Value}(h:w.cell? ⟨b,o,none⟩=some v):(z7o P w).fz b o=some v:=by
 unfold World.cell? at h;unfold z7o;dsimp only at h ⊢
 split at h
 ·rename_i c t fr hc;rw[hc];simpa using h
 ·cases h
section
variable {H : Type} {enc : TypeId × Value → H} {P : Program} {w : World} {α : Type}
def RdN(enc:TypeId×Value->H)(P:Program)(w:World)(t:TypeId)(e:α->List AV)(Q:α->Prop)(fuel:Nat):Prop :=
 ∀(cs:List Value) (x:DataW H×List MemPlace),DataW.trod enc P w 0 (fun _=>true) true fuel t cs=some x->(x.1.weights P t).all (· <= reachBytes)=true->∃a,Q a/\RVs (z7o P w) (e a) cs
theorem zti{t:TypeId}{k:IntKind}(ht:P.underlying t=some (.int k))(fuel:Nat):RdN enc P w t (fun n:Int=>[.int k n]) (fun n=>(Lit.int k n).wf=true) fuel:=by
 intro cs x h _;obtain⟨n,rfl,_,hw⟩:=DataW.trod_int ht h;exact⟨n,hw,.cons (.int k n) (.nil _)⟩
theorem rd_bool{t:TypeId}(ht:P.underlying t=some .bool)(fuel:Nat):RdN enc P w t (fun b:Bool=>[.bool b]) (fun _=>True) fuel:=by
 intro cs x h _;obtain⟨b,rfl,_⟩:=DataW.trod_bool ht h;exact⟨b,trivial,.cons (.bool b) (.nil _)⟩
theorem zq5{p:Nat->Bool}{a b:List Nat}(h:(a++b).all p=true):a.all p=true/\b.all p=true:=by simpa using h
theorem zqf{e:TypeId}:∀{l:List (DataW H)},(DataW.weightsAll P e l).all (· <= reachBytes)=true->∀d∈l,(d.weights P e).all (· <= reachBytes)=true
 |[],_,d,hd=>by cases hd
 |a::r,h,d,hd=>by
  rw[DataW.weightsAll]at h;obtain⟨h1,h2⟩:=zq5 h;rcases List.mem_cons.1 hd with rfl|hd
  ·exact h1
  ·exact zqf h2 d hd
theorem z8c{a:Addr}(h:a.spot=none)(n:Nat):a.add n=⟨a.block,a.off+n,none⟩:=by
 unfold Addr.add
 split
 ·rename_i e;subst e;cases a;simp_all
 ·rfl
theorem yba{w:World}{a:Addr}{v:Value}(h:w.cell? a=some v):a.spot=none:=by
 unfold World.cell? at h
 split at h
 ·split at h
  ·cases h
  ·rename_i hs;simpa using hs
 ·cases h
theorem yia{l:List (List Value)}{sz:Nat}(hz:∀e∈l,e.length=sz)(hpos:0<sz)(k:Nat):l.flatten[k]?=(l[k / sz]?).bind (·[k % sz]?):=by
 induction l generalizing k with
 |nil=>simp
 |cons a r ih=>
  have ha:=hz a (by simp)
  rw[List.flatten_cons];rcases Nat.lt_or_ge k sz with hk|hk
  ·rw[List.getElem?_append_left (by omega),Nat.div_eq_of_lt hk,Nat.mod_eq_of_lt hk];simp
  ·rw[List.getElem?_append_right (by omega),ha,ih (fun e he=>hz e (by simp[he]))]
   have e1:k / sz=(k - sz) / sz+1:=by
    have:k=(k - sz)+sz:=by omega
    conv=>lhs;rw[this]
    rw[Nat.add_div_right _ hpos]
   have e2:k % sz=(k - sz) % sz:=by rw[Nat.mod_eq_sub_mod hk]
   rw[e1,e2,List.getElem?_cons_succ]
theorem zvu{g:G}{e:α->List AV}:∀{l:List α} {vs:List (List Value)},l.length=vs.length->(∀(i:Nat) (a:α) (v:List Value),l[i]?=some a->vs[i]?=some v->RVs g (e a) v)->RVs g (l.map e).flatten vs.flatten
 |[],[],_,_=>.nil _
 |a::r,v::s,hl,h=>by
  rw[List.map_cons,List.flatten_cons,List.flatten_cons];exact .append (h 0 a v rfl rfl) (zvu (by simpa using hl) fun i a v ha hv=>h (i+1) a v (by simpa using ha) (by simpa using hv))
theorem zv5{β:Type}{Q:α->Prop}{R:α->β->Prop}:∀{l:List β},(∀b∈l,∃a,Q a/\R a b)->∃as':List α,as'.length=l.length/\(∀a∈as',Q a)/\∀(i:Nat) (a:α) (b:β),as'[i]?=some a->l[i]?=some b->R a b
 |[],_=>⟨[],rfl,fun _ h=>(by cases h),fun i a b h=>(by simp at h)⟩
 |b::r,h=>by
  obtain⟨a,h1,h2⟩:=h b (by simp)
  obtain⟨l,h3,h4,h5⟩:=zv5 (Q:=Q) (R:=R) (l:=r) fun b' hb=>h b' (by simp[hb])
  refine⟨a::l,(by simp[h3]),fun x hx=>?_,fun i x y hx hy=>?_⟩
  ·rcases List.mem_cons.1 hx with rfl|hx
   ·exact h1
   ·exact h4 x hx
  ·cases i with
   |zero=>simp at hx hy;subst hx;subst hy;exact h2
   |succ i=>exact h5 i x y (by simpa using hx) (by simpa using hy)
theorem zpr{t u:TypeId}{e:α->List AV}{Q:α->Prop}{sz:Nat}(ht:P.underlying t=some (.slice u))(hsz:P.cellsOf u=sz)(hpos:0<sz)(hb:1<=P.bytesOf u)(hlen:∀a,(e a).length=sz)(hone:∀a,∀c∈e a,c.one=true){fuel:Nat}
  (h:∀m,m<fuel->RdN enc P w u e Q m):RdN enc P w t (fun l:List α=>[.sl (l.map e)]) (fun l=>l.length<=140737488355328/\∀a∈l,Q a) fuel:=by
 intro cs x hx hw;rcases DataW.trod_slice ht hx with⟨rfl,rfl⟩|⟨a,len,cap,elems,rest,n,hf,rfl,rfl,_,hlc,hcap,hel,hget,hsp,_⟩
 ·exact⟨[],⟨by simp,by simp⟩,.cons (.sl0 _ _) (.nil _)⟩
 ·have hrest:=(hsp rfl).1
  have hwt:(elems.length+rest.length)*P.bytesOf u<=reachBytes/\(DataW.weightsAll P u (elems.map (·.1))).all (· <= reachBytes)=true:=by
   rw[DataW.weights]at hw;simp only[ht]at hw;rw[List.all_cons,Bool.and_eq_true]at hw;exact⟨by simpa using hw.1,(zq5 hw.2).1⟩
  have hlen2:len<=140737488355328:=by
   have h1:=hwt.1;have h2:elems.length+rest.length<=(elems.length+rest.length)*P.bytesOf u:=Nat.le_mul_of_pos_right _ hb;have h3:reachBytes<=140737488355328:=by decide
   omega
  have hcell:∀i,i<len->∃(c:List Value) (y:DataW H×List MemPlace),w.cells? 0 (a.add (i*sz)) sz=some c/\elems[i]?=some y/\DataW.trod enc P w 0 (fun _=>true) true n u c=some y:=by
   intro i hi;have h1:=hget i hi;rw[hsz]at h1;have hy:elems[i]?=some elems[i]:=List.getElem?_eq_getElem (by omega)
   rw[hy]at h1;obtain⟨c,h2,h3⟩:=Option.bind_eq_some_iff.1 h1;exact⟨c,_,h2,hy,h3⟩
  rcases Nat.eq_zero_or_pos len with hz|hp
  ·subst hz
   exact⟨[],⟨by simp,by simp⟩,.cons (.sl0 _ _) (.nil _)⟩
  ·have hspot:a.spot=none:=by
    obtain⟨c,y,h1,_⟩:=hcell 0 hp;obtain⟨_,h2,h3⟩:=World.cells?_some h1;have h4:=h3 0 hpos;have hc0:c[0]?=some c[0]:=List.getElem?_eq_getElem (by omega)
    rw[hc0]at h4;have:=yba h4;rw[Nat.zero_mul]at this;simpa [Addr.add] using this
   let cells:Nat->List Value:=fun i=>(w.cells? 0 (a.add (i*sz)) sz).getD []
   have hcs:∀i,i<len->w.cells? 0 (a.add (i*sz)) sz=some (cells i):=by
    intro i hi;obtain⟨c,y,h1,_⟩:=hcell i hi;simp[cells,h1]
   let vs:List (List Value):=(List.range len).map cells
   have hvl:∀c∈vs,c.length=sz:=by
    intro c hc;obtain⟨i,hi,rfl⟩:=List.mem_map.1 hc;exact (World.cells?_some (hcs i (List.mem_range.1 hi))).2.1
   have hrd:∀c∈vs,∃b,Q b/\RVs (z7o P w) (e b) c:=by
    intro c hc;obtain⟨i,hi,rfl⟩:=List.mem_map.1 hc;have hi:=List.mem_range.1 hi;obtain⟨c,y,h1,h2,h3⟩:=hcell i hi;have:cells i=c:=by simp[cells,h1]
    rw[this];refine h n (by omega) c y h3 (zqf hwt.2 y.1 ?_)
    exact List.mem_map_of_mem (List.mem_of_getElem? h2)
   obtain⟨l,h1,h2,h3⟩:=zv5 hrd;have hl:l.length=len:=by rw[h1];simp[vs]
   refine⟨l,⟨by omega,h2⟩,.cons ?_ (.nil _)⟩
   have hfl:RVs (z7o P w) (l.map e).flatten vs.flatten:=zvu h1 fun i a v ha hv=>h3 i a v ha hv
   have hadr:a=⟨a.block,a.off,none⟩:=by cases a;simp_all
   rw[hadr];refine .sl (sz:=sz) (fun k=>vs.flatten.getD k undef) (by simp[hl]) (by unfold z17;omega) hlc (fun x hx=>by obtain⟨y,_,rfl⟩:=List.mem_map.1 hx;exact hlen y) (fun x hx=>?_) (fun k x hx=>?_) (fun k x hx=>?_)
   ·obtain⟨y,hy,hxy⟩:=List.mem_flatten.1 hx
    obtain⟨z,_,rfl⟩:=List.mem_map.1 hy;exact hone z x hxy
   ·obtain⟨v,hv,_⟩:=hfl.at hx
    have hv2:=hv;rw[yia hvl hpos]at hv2;obtain⟨c,hc1,hc2⟩:=Option.bind_eq_some_iff.1 hv2;have hki:k / sz<len:=by have:=(List.getElem?_eq_some_iff.1 hc1).1;simpa [vs] using this
    have hc3:c=cells (k / sz):=by simp[vs,hki]at hc1;exact hc1.symm
    obtain⟨_,h5,h6⟩:=World.cells?_some (hcs _ hki);have h7:=h6 (k % sz) (Nat.mod_lt _ hpos);rw[<- hc3,hc2,z8c hspot,z8c rfl]at h7;have:a.off+k / sz*sz+k % sz=a.off+k:=by
     have:=Nat.div_add_mod k sz;rw[Nat.mul_comm]at this;omega
    dsimp only at h7;rw[this]at h7;have h8:=yd1 (P:=P) h7;rw[h8];simp[hv]
   ·obtain⟨v,hv,hr⟩:=hfl.at hx
    simp[hv];exact hr
end
end Go.Ab
end
