/- What the law ConvSelf of layer 17 comes to, part 9. Conditions: none. -/
import Derived.Test.YthebfdakjfnpeaaGreatZeah
section
set_option linter.unusedVariables false
set_option linter.unusedSimpArgs false
namespace Go.Ab
open Go.RowKit
section
variable {T : Tab} {β : Type} {Q : Out → St → Option β} {σ : St}
theorem yhl(n:Nat)(k:FuncId)(first cap vs:List AV)(H:List AO):zdj T n (.fn (.func k) first cap) vs H=zdj T n (.fn (.func k) [] []) (first++vs++cap) H:=by
 cases n with
 |zero=>rfl
 |succ n=>unfold zdj;simp
theorem cfl_fn(k:FuncId)(first cap vs:List AV)(H:List AO):cfl T (.fn (.func k) first cap) vs H=fnF T k (first++vs++cap) H:=by
 unfold fnF cfl
 congr 1
 funext n
 exact yhl n k first cap vs H
@[go_sem] theorem z6v(k:FuncId)(vs:List AV)(H:List AO):cfl T (.fn (.func k) [] []) vs H=fnF T k vs H:=rfl
@[go_sem] theorem zgh(k:FuncId)(x:AV)(cap vs:List AV)(H:List AO):cfl T (.fn (.func k) [] (x::cap)) vs H=fnF T k (vs++x::cap) H:=by rw[cfl_fn];simp
theorem z1h{k:FuncId}{c:FC}{nt:Nat}{rs:List RS}{kp:Bool}(hk:T k=some (.code c nt rs kp)){vs:List AV}(hl:vs.length<=nt)(H:List AO):fnF T k vs H=aw T c (finG kp H rs) ⟨⟨nt,ini 0 vs⟩,[],H,[]⟩:=by
 apply zjl;intro r;refine zk8.trans ⟨fun⟨n,h⟩=>?_,fun h=>?_⟩
 ·cases n with
  |zero=>cases h
  |succ n=>
   unfold zdj at h;simp only[List.nil_append,List.append_nil,z43,hk,if_pos hl]at h;obtain⟨o,τ,h1,h2⟩:=zdb h;unfold aw;rw[zcl.2 ⟨n,h1⟩];exact h2
 ·obtain⟨o,τ,h1,h2⟩:=zdb h
  obtain⟨n,hn⟩:=zcl.1 h1;refine⟨n+1,?_⟩;unfold zdj;simp only[List.nil_append,List.append_nil,z43,hk,if_pos hl];rw[hn];exact h2
theorem ygs{k:FuncId}{c:FC}{nt:Nat}{rs:List RS}(hk:T k=some (.code c nt rs)){vs:List AV}(hl:vs.length<=nt)(H:List AO):fnF T k vs H=aw T c (zam H rs) ⟨⟨nt,ini 0 vs⟩,[],H,[]⟩:=z1h hk hl H
theorem ycm{k:FuncId}{c:FC}{nt:Nat}{rs:List RS}(hk:T k=some (.code c nt rs true)){vs:List AV}(hl:vs.length<=nt)(H:List AO):fnF T k vs H=aw T c (zjn H rs) ⟨⟨nt,ini 0 vs⟩,[],H,[]⟩:=z1h hk hl H
@[go_sem] theorem cfl_fk(k:FuncId)(vs:List AV)(H:List AO):cfl T (.fk k) vs H=fkF T k vs H:=rfl
theorem ygu{k:FuncId}{c:FC}{nt:Nat}{rs:List RS}(hk:T (k+1000000)=some (.ali c nt rs)){vs:List AV}(hl:vs.length<=nt)(H:List AO):fkF T k vs H=aw T c (zjn H rs) ⟨⟨nt,ini 0 vs⟩,[],H,[]⟩:=by
 apply zjl;intro r;refine zk8.trans ⟨fun⟨n,h⟩=>?_,fun h=>?_⟩
 ·cases n with
  |zero=>cases h
  |succ n=>
   unfold zdj at h;simp only[z44,hk,if_pos hl]at h;obtain⟨o,τ,h1,h2⟩:=zdb h;unfold aw;rw[zcl.2 ⟨n,h1⟩];exact h2
 ·obtain⟨o,τ,h1,h2⟩:=zdb h
  obtain⟨n,hn⟩:=zcl.1 h1;refine⟨n+1,?_⟩;unfold zdj;simp only[z44,hk,if_pos hl];rw[hn];exact h2
theorem fkF_ext{k:FuncId}{f:List AV->List AO->Option RH}(hk:T (k+1000000)=some (.alx f))(vs:List AV)(H:List AO):fkF T k vs H=f vs H:=by
 apply zjl;intro r;refine zk8.trans ⟨fun⟨n,h⟩=>?_,fun h=>⟨1,?_⟩⟩
 ·cases n with
  |zero=>cases h
  |succ n=>
   unfold zdj at h;simp only[z44,hk]at h;exact h
 ·unfold zdj
  simp only[z44,hk];exact h
theorem fnF_ext{k:FuncId}{f:List AV->List AO->Option RH}(hk:T k=some (.ext f))(vs:List AV)(H:List AO):fnF T k vs H=f vs H:=by
 apply zjl;intro r;refine zk8.trans ⟨fun⟨n,h⟩=>?_,fun h=>⟨1,?_⟩⟩
 ·cases n with
  |zero=>cases h
  |succ n=>
   unfold zdj at h;simp only[List.nil_append,List.append_nil,z43,hk]at h;exact h
 ·unfold zdj
  simp only[List.nil_append,List.append_nil,z43,hk];exact h
noncomputable def z9u(T:Tab)(H:List AO)(id:Nat)(body:FC)(σ:St):Option AO->Option RH
 |some (.slp .ready n t ps a b)=>aw T body (z1j H id) { σ with h:=σ.h.set id (.slp .busy n t ps a b) }
 |_=>none
@[go_sem] theorem yMidB_ready(H:List AO)(id:Nat)(body:FC)(σ:St)(n:Nat)(t:List (Nat×AV))(ps:List Nat)(a b:FC):z9u T H id body σ (some (.slp .ready n t ps a b))=aw T body (z1j H id) { σ with h:=σ.h.set id (.slp .busy n t ps a b) }:=rfl
noncomputable def yK(T:Tab)(H:List AO)(id:Nat)(body:FC):Out->St->Option RH
 |.normal,σ=>z9u T H id body σ σ.h[id]?
 |_,_=>none
@[go_sem] theorem z0h(H:List AO)(id:Nat)(body:FC)(σ:St):yK T H id body .normal σ=z9u T H id body σ σ.h[id]?:=rfl
theorem yjp{id:Nat}{vs:List AV}{H:List AO}{nn:Nat}{t:List (Nat×AV)}{ps:List Nat}{asg body:FC}(hH:H[id]?=some (.slp .ready nn t ps asg body))(hl:vs.length=ps.length)(ha:asg.okd=true)(hb:body.okd=true):
  cfl T (.yd id) vs H=aw T asg (yK T H id body) ⟨setPs ps vs ⟨nn,yek t⟩,[],H,[id]⟩:=by
 have mid:∀(n:Nat) (o:Out) (σ:St) (r:RH),(match o with
       |.normal=>match yMid id σ with
        |some τ=>bnd (run (zdj T n) n body τ) (z1j H id)
        |none=>none
       |_=>none)=some r->yK T H id body o σ=some r:=by
  intro n o σ r h
  cases o with
  |normal=>
   dsimp only at h;unfold yMid at h;rw[z0h];unfold z9u
   split at h
   ·rename_i τ hτ
    split at hτ
    ·rename_i hs
     cases hτ;rw[hs]
     obtain⟨o2,σ2,h3,h4⟩:=zdb h;dsimp only;unfold aw;rw[zcl.2 ⟨n,h3⟩];exact h4
    ·cases hτ
   ·cases h
  |exit i=>cases h
  |ret=>cases h
  |pan v=>cases h
 apply zjl;intro r;refine zk8.trans ⟨fun⟨n,h⟩=>?_,fun h=>?_⟩
 ·cases n with
  |zero=>cases h
  |succ n=>
   unfold zdj at h;simp only[z42,hH,hl,ha,hb,and_self,if_true]at h;obtain⟨o,τ,h1,h2⟩:=zdb h;unfold aw;rw[zcl.2 ⟨n,h1⟩];exact mid n o τ r h2
 ·obtain⟨o,τ,h1,h2⟩:=zdb h
  obtain⟨n,hn⟩:=zcl.1 h1
  cases o with
  |normal=>
   rw[z0h]at h2;unfold z9u at h2
   split at h2
   ·rename_i n1 t1 ps1 a1 b1 hs
    obtain⟨o2,σ2,h3,h4⟩:=zdb h2;obtain⟨m,hm⟩:=zcl.1 h3;refine⟨max n m+1,?_⟩;unfold zdj;simp only[z42,hH,hl,ha,hb,and_self,if_true];rw[show run (zdj T (max n m)) (max n m) asg _=_ from zr8 asg _ n (max n m) (by omega) _ hn]
    dsimp only[bnd];have:yMid id τ=some { τ with h:=τ.h.set id (.slp .busy n1 t1 ps1 a1 b1) }:=by unfold yMid;rw[hs]
    rw[this];dsimp only;rw[show run (zdj T (max n m)) (max n m) body _=_ from zr8 body _ m (max n m) (by omega) _ hm]
    exact h4
   ·cases h2
  |exit i=>cases h2
  |ret=>cases h2
  |pan v=>cases h2
theorem fnF_ok{P:Program}(hm:P.follows .mixedOrders=true)(hT:∀k e,T k=some e->zaf P k e){k:FuncId}{vs:List AV}{H:List AO}{r:Res}{H':List AO}(h:fnF T k vs H=some (r,H')):zo0 P k vs H fun q h=>q=r/\h=H':=by
 obtain⟨n,hn⟩:=zk8.1 h;have:=zrh hm hT n _ _ _ _ _ hn;simpa [CC] using this
theorem zaa{c d:FC}(h:c=d){β:Type}(Q:Out->St->Option β)(σ:St):aw T c Q σ=aw T d Q σ:=by rw[h]
@[go_sem] theorem wr_R(f:Nat->List AI)(n:Nat){β:Type}(Q:Out->St->Option β)(σ:St):wr T (R f n) Q σ=wr T (f n) Q σ:=rfl
@[go_sem] theorem wd_R(f:Nat->List AI)(n:Nat){β:Type}(Q:St->Option β)(σ:St):wd T (R f n) Q σ=wd T (f n) Q σ:=rfl
theorem ek{P:Program}{k:FuncId}{c:FC}{nt:Nat}{rs:List RS}{kp:Bool}{fn:Func}(hf:P.funcs[k]?=some fn)(hn:fn.ntmps=nt)(esc own:List Nat)
  (h : (c.okd, fn.name == "runtime.NumGoroutine", fn.body.bind (zl1 P esc own), zjm (z8j P) fn.results.toList) = (true, false, some c.ac, some rs)) : zaf P k (.code c nt rs kp) := by
 simp only[Prod.mk.injEq]at h;exact⟨h.1,fn,esc,own,hf,h.2.1,h.2.2.1,h.2.2.2,hn⟩
theorem ekA{P:Program}{k:FuncId}{c:FC}{nt:Nat}{rs:List RS}{fn:Func}(hf:P.funcs[k]?=some fn)(hn:fn.ntmps=nt)(esc own:List Nat)
  (h : (c.okd, fn.name == "runtime.NumGoroutine", fn.body.bind (zl1 P esc own), zjm (z8j P) fn.results.toList) = (true, false, some c.ac, some rs)) : zaf P (k + 1000000) (.ali c nt rs) := by
 simp only[Prod.mk.injEq]at h;exact⟨h.1,k,fn,esc,own,rfl,hf,h.2.1,h.2.2.1,h.2.2.2,hn⟩
attribute [go_sem] ydp nrm kpL kpl kpT
open Classical in
@[go_sem] theorem ycu{H X:List AO}{r:Res}:zez H r (H++X)=if LtR H.length r then some (r,H) else none:=by
 unfold zez;rw[List.take_left' rfl];by_cases h:LtR H.length r
 ·rw[if_pos h,if_pos ⟨h,fun id o ho hi=>.inl (by rw[List.getElem?_append_left hi]at ho;exact ho)⟩]
 ·rw[if_neg h,if_neg (fun k=>h k.1)]
open Classical in
@[go_sem] theorem fin1F_self{H:List AO}{r:Res}:zez H r H=if LtR H.length r then some (r,H) else none:=by
 have:=ycu (H:=H) (X:=[]) (r:=r)
 rwa [List.append_nil]at this
open Classical in
theorem zq7{H X:List AO}{r:Res}{id:Nat}{x:AO}(hx:LtO H.length x):zez H r (H.set id x++X)=if LtR H.length r then some (r,H.set id x) else none:=by
 unfold zez;rw[List.take_left' (by simp)]
 by_cases h:LtR H.length r
 ·have hc:∀(i:Nat) (o:AO),(H.set id x++X)[i]?=some o->i<H.length->H[i]?=some o\/LtO H.length o:=by
   intro i o ho hi;have hi':i<(H.set id x).length:=by simpa using hi
   rw[List.getElem?_append_left hi',List.getElem?_set]at ho;by_cases e:id=i
   ·rw[if_pos e]at ho
    split at ho
    ·injection ho with ho;subst ho;exact .inr hx
    ·cases ho
   ·rw[if_neg e]at ho;exact .inl ho
  rw[if_pos h,if_pos ⟨h,hc⟩]
 ·rw[if_neg h,if_neg (fun k=>h k.1)]
open Classical in
theorem z74{H:List AO}{r:Res}{id:Nat}{x:AO}(hx:LtO H.length x):zez H r (H.set id x)=if LtR H.length r then some (r,H.set id x) else none:=by
 have:=zq7 (H:=H) (X:=[]) (r:=r) (id:=id) hx
 rwa [List.append_nil]at this
variable {H : List AO} {rs : List RS} {t : Ts} {ls : List (Nat × List AV)} {h : List AO}
@[go_sem] theorem ygy:zam H rs .ret ⟨t,ls,h,[]⟩=match zi2 ⟨t,ls,h,[]⟩ rs with
  |some l=>zez H (.ret (z0c (zrm H.length l h).1)) (zrm H.length l h).2
  |none=>none:=rfl
@[go_sem] theorem z4c:zam H rs .normal ⟨t,ls,h,[]⟩=match zi2 ⟨t,ls,h,[]⟩ rs with
  |some l=>zez H (.ret (z0c (zrm H.length l h).1)) (zrm H.length l h).2
  |none=>none:=rfl
@[go_sem] theorem finKF_ret:zjn H rs .ret ⟨t,ls,h,[]⟩=match zi2 ⟨t,ls,h,[]⟩ rs with
  |some l=>some (.ret (z0c l),h)
  |none=>none:=rfl
@[go_sem] theorem yjk:zjn H rs .normal ⟨t,ls,h,[]⟩=match zi2 ⟨t,ls,h,[]⟩ rs with
  |some l=>some (.ret (z0c l),h)
  |none=>none:=rfl
@[go_sem] theorem finKF_pan(v:AV):zjn H rs (.pan v) ⟨t,ls,h,[]⟩=some (.pan v,h):=rfl
@[go_sem] theorem finF_pan(v:AV):zam H rs (.pan v) ⟨t,ls,h,[]⟩=zez H (.pan v) h:=rfl
theorem ygx(o:Out)(d:Nat)(ds:List Nat):zjn H rs o ⟨t,ls,h,d::ds⟩=if (∀i∈d::ds,H.length<=i)/\(d::ds).Nodup then zjn H rs o ⟨t,ls,zin h (d::ds),[]⟩ else none:=rfl
theorem ycs(o:Out)(d:Nat)(ds:List Nat):zam H rs o ⟨t,ls,h,d::ds⟩=if (∀i∈d::ds,H.length<=i)/\(d::ds).Nodup then zam H rs o ⟨t,ls,zin h (d::ds),[]⟩ else none:=rfl
theorem z5f{id:Nat}{st:LSt}{b:Bool}{n:Nat}{ts:List (Nat×AV)}{ps:List Nat}{x y:FC}(hs:h[id]?=some (.slp .busy n ts ps x y)):zrn H id st b h=zez H (.ret (.bool b)) (h.set id (.slp st n ts ps x y)):=by
 unfold zrn;rw[hs]
@[go_sem] theorem yjj(id:Nat)(σ:St):z1j H id .normal σ=zrn H id .ready true σ.h:=rfl
@[go_sem] theorem finYF_ret(id:Nat)(σ:St):z1j H id .ret σ=zrn H id (.done .ret) false σ.h:=rfl
@[go_sem] theorem finYF_exit(id i:Nat)(σ:St):z1j H id (.exit i) σ=zrn H id (.done (.exit i)) false σ.h:=rfl
def inRd1:Option AO->Bool
 |some (.slp _ _ _ _ _ _)=>true
 |_=>false
@[go_sem] theorem inRd_nil(h:List AO):yet h []=false:=rfl
@[go_sem] theorem inRd_two(h:List AO)(i j:Nat)(r:List Nat):yet h (i::j::r)=false:=rfl
attribute [go_sem] kpV setPs yek inRd1 yeu Jmp.out ycs ygx
end
end Go.Ab
end
