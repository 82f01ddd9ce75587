/- What the law ConvMany of layer 17 comes to, part 9. Conditions: none. -/
import Derived.Test.YthebfdakjfnpeaaGreatZdah
section
set_option linter.unusedVariables false
set_option linter.unusedSimpArgs false
namespace Go.Ab
open Go.RowKit
section
variable {T : Tab} {β : Type} {Q : Out → St → Option β} {σ : St}
theorem yh7(n:Nat)(k:FuncId)(first cap vs:List AV)(H:List AO):zc8 T n (.fn (.func k) first cap) vs H=zc8 T n (.fn (.func k) [] []) (first++vs++cap) H:=by
 cases n with
 |zero=>rfl
 |succ n=>unfold zc8;simp
theorem cfl_fn(k:FuncId)(first cap vs:List AV)(H:List AO):cfl T (.fn (.func k) first cap) vs H=fnF T k (first++vs++cap) H:=by
 unfold fnF cfl
 congr 1
 funext n
 exact yh7 n k first cap vs H
@[go_sem] theorem yef(k:FuncId)(vs:List AV)(H:List AO):cfl T (.fn (.func k) [] []) vs H=fnF T k vs H:=rfl
@[go_sem] theorem zgr(k:FuncId)(x:AV)(cap vs:List AV)(H:List AO):cfl T (.fn (.func k) [] (x::cap)) vs H=fnF T k (vs++x::cap) H:=by rw[cfl_fn];simp
theorem z15{k:FuncId}{c:FC}{nt:Nat}{rs:List RS}{kp:Bool}(hk:T k=some (.code c nt rs kp)){vs:List AV}(hl:vs.length<=nt)(H:List AO):fnF T k vs H=aw T c (finG kp H rs) ⟨⟨nt,ini 0 vs⟩,[],H,[]⟩:=by
 apply zj4;intro r;refine zlv.trans ⟨fun⟨n,h⟩=>?_,fun h=>?_⟩
 ·cases n with
  |zero=>cases h
  |succ n=>
   unfold zc8 at h;simp only[List.nil_append,List.append_nil,z5v,hk,if_pos hl]at h;obtain⟨o,τ,h1,h2⟩:=zcy h;unfold aw;rw[zcb.2 ⟨n,h1⟩];exact h2
 ·obtain⟨o,τ,h1,h2⟩:=zcy h
  obtain⟨n,hn⟩:=zcb.1 h1;refine⟨n+1,?_⟩;unfold zc8;simp only[List.nil_append,List.append_nil,z5v,hk,if_pos hl];rw[hn];exact h2
theorem yhl{k:FuncId}{c:FC}{nt:Nat}{rs:List RS}(hk:T k=some (.code c nt rs)){vs:List AV}(hl:vs.length<=nt)(H:List AO):fnF T k vs H=aw T c (zah H rs) ⟨⟨nt,ini 0 vs⟩,[],H,[]⟩:=z15 hk hl H
theorem ydj{k:FuncId}{c:FC}{nt:Nat}{rs:List RS}(hk:T k=some (.code c nt rs true)){vs:List AV}(hl:vs.length<=nt)(H:List AO):fnF T k vs H=aw T c (zi5 H rs) ⟨⟨nt,ini 0 vs⟩,[],H,[]⟩:=z15 hk hl H
@[go_sem] theorem cfl_fk(k:FuncId)(vs:List AV)(H:List AO):cfl T (.fk k) vs H=fkF T k vs H:=rfl
theorem yhm{k:FuncId}{c:FC}{nt:Nat}{rs:List RS}(hk:T (k+1000000)=some (.ali c nt rs)){vs:List AV}(hl:vs.length<=nt)(H:List AO):fkF T k vs H=aw T c (zi5 H rs) ⟨⟨nt,ini 0 vs⟩,[],H,[]⟩:=by
 apply zj4;intro r;refine zlv.trans ⟨fun⟨n,h⟩=>?_,fun h=>?_⟩
 ·cases n with
  |zero=>cases h
  |succ n=>
   unfold zc8 at h;simp only[z5w,hk,if_pos hl]at h;obtain⟨o,τ,h1,h2⟩:=zcy h;unfold aw;rw[zcb.2 ⟨n,h1⟩];exact h2
 ·obtain⟨o,τ,h1,h2⟩:=zcy h
  obtain⟨n,hn⟩:=zcb.1 h1;refine⟨n+1,?_⟩;unfold zc8;simp only[z5w,hk,if_pos hl];rw[hn];exact h2
theorem fkF_ext{k:FuncId}{f:List AV->List AO->Option RH}(hk:T (k+1000000)=some (.alx f))(vs:List AV)(H:List AO):fkF T k vs H=f vs H:=by
 apply zj4;intro r;refine zlv.trans ⟨fun⟨n,h⟩=>?_,fun h=>⟨1,?_⟩⟩
 ·cases n with
  |zero=>cases h
  |succ n=>
   unfold zc8 at h;simp only[z5w,hk]at h;exact h
 ·unfold zc8
  simp only[z5w,hk];exact h
theorem fnF_ext{k:FuncId}{f:List AV->List AO->Option RH}(hk:T k=some (.ext f))(vs:List AV)(H:List AO):fnF T k vs H=f vs H:=by
 apply zj4;intro r;refine zlv.trans ⟨fun⟨n,h⟩=>?_,fun h=>⟨1,?_⟩⟩
 ·cases n with
  |zero=>cases h
  |succ n=>
   unfold zc8 at h;simp only[List.nil_append,List.append_nil,z5v,hk]at h;exact h
 ·unfold zc8
  simp only[List.nil_append,List.append_nil,z5v,hk];exact h
noncomputable def yaf(T:Tab)(H:List AO)(id:Nat)(body:FC)(σ:St):Option AO->Option RH
 |some (.slp .ready n t ps a b)=>aw T body (z18 H id) { σ with h:=σ.h.set id (.slp .busy n t ps a b) }
 |_=>none
@[go_sem] theorem yMidB_ready(H:List AO)(id:Nat)(body:FC)(σ:St)(n:Nat)(t:List (Nat×AV))(ps:List Nat)(a b:FC):yaf T H id body σ (some (.slp .ready n t ps a b))=aw T body (z18 H id) { σ with h:=σ.h.set id (.slp .busy n t ps a b) }:=rfl
noncomputable def yK(T:Tab)(H:List AO)(id:Nat)(body:FC):Out->St->Option RH
 |.normal,σ=>yaf T H id body σ σ.h[id]?
 |_,_=>none
@[go_sem] theorem z02(H:List AO)(id:Nat)(body:FC)(σ:St):yK T H id body .normal σ=yaf T H id body σ σ.h[id]?:=rfl
theorem ykh{id:Nat}{vs:List AV}{H:List AO}{nn:Nat}{t:List (Nat×AV)}{ps:List Nat}{asg body:FC}(hH:H[id]?=some (.slp .ready nn t ps asg body))(hl:vs.length=ps.length)(ha:asg.okd=true)(hb:body.okd=true):
  cfl T (.yd id) vs H=aw T asg (yK T H id body) ⟨setPs ps vs ⟨nn,yfm t⟩,[],H,[id]⟩:=by
 have mid:∀(n:Nat) (o:Out) (σ:St) (r:RH),(match o with
       |.normal=>match yMid id σ with
        |some τ=>bnd (run (zc8 T n) n body τ) (z18 H id)
        |none=>none
       |_=>none)=some r->yK T H id body o σ=some r:=by
  intro n o σ r h
  cases o with
  |normal=>
   dsimp only at h;unfold yMid at h;rw[z02];unfold yaf
   split at h
   ·rename_i τ hτ
    split at hτ
    ·rename_i hs
     cases hτ;rw[hs]
     obtain⟨o2,σ2,h3,h4⟩:=zcy h;dsimp only;unfold aw;rw[zcb.2 ⟨n,h3⟩];exact h4
    ·cases hτ
   ·cases h
  |exit i=>cases h
  |ret=>cases h
  |pan v=>cases h
 apply zj4;intro r;refine zlv.trans ⟨fun⟨n,h⟩=>?_,fun h=>?_⟩
 ·cases n with
  |zero=>cases h
  |succ n=>
   unfold zc8 at h;simp only[z5u,hH,hl,ha,hb,and_self,if_true]at h;obtain⟨o,τ,h1,h2⟩:=zcy h;unfold aw;rw[zcb.2 ⟨n,h1⟩];exact mid n o τ r h2
 ·obtain⟨o,τ,h1,h2⟩:=zcy h
  obtain⟨n,hn⟩:=zcb.1 h1
  cases o with
  |normal=>
   rw[z02]at h2;unfold yaf at h2
   split at h2
   ·rename_i n1 t1 ps1 a1 b1 hs
    obtain⟨o2,σ2,h3,h4⟩:=zcy h2;obtain⟨m,hm⟩:=zcb.1 h3;refine⟨max n m+1,?_⟩;unfold zc8;simp only[z5u,hH,hl,ha,hb,and_self,if_true];rw[show run (zc8 T (max n m)) (max n m) asg _=_ from zss asg _ n (max n m) (by omega) _ hn]
    dsimp only[bnd];have:yMid id τ=some { τ with h:=τ.h.set id (.slp .busy n1 t1 ps1 a1 b1) }:=by unfold yMid;rw[hs]
    rw[this];dsimp only;rw[show run (zc8 T (max n m)) (max n m) body _=_ from zss body _ m (max n m) (by omega) _ hm]
    exact h4
   ·cases h2
  |exit i=>cases h2
  |ret=>cases h2
  |pan v=>cases h2
theorem fnF_ok{P:Program}(hm:P.follows .mixedOrders=true)(hT:∀k e,T k=some e->zae P k e){k:FuncId}{vs:List AV}{H:List AO}{r:Res}{H':List AO}(h:fnF T k vs H=some (r,H')):zpl P k vs H fun q h=>q=r/\h=H':=by
 obtain⟨n,hn⟩:=zlv.1 h;have:=zr3 hm hT n _ _ _ _ _ hn;simpa [CC] using this
theorem zaa{c d:FC}(h:c=d){β:Type}(Q:Out->St->Option β)(σ:St):aw T c Q σ=aw T d Q σ:=by rw[h]
@[go_sem] theorem wr_R(f:Nat->List AI)(n:Nat){β:Type}(Q:Out->St->Option β)(σ:St):wr T (R f n) Q σ=wr T (f n) Q σ:=rfl
@[go_sem] theorem wd_R(f:Nat->List AI)(n:Nat){β:Type}(Q:St->Option β)(σ:St):wd T (R f n) Q σ=wd T (f n) Q σ:=rfl
theorem ek{P:Program}{k:FuncId}{c:FC}{nt:Nat}{rs:List RS}{kp:Bool}{fn:Func}(hf:P.funcs[k]?=some fn)(hn:fn.ntmps=nt)(esc own:List Nat)
  (h : (c.okd, fn.name == "runtime.NumGoroutine", fn.body.bind (zmn P esc own), zj5 (z83 P) fn.results.toList) = (true, false, some c.ac, some rs)) : zae P k (.code c nt rs kp) := by
 simp only[Prod.mk.injEq]at h;exact⟨h.1,fn,esc,own,hf,h.2.1,h.2.2.1,h.2.2.2,hn⟩
theorem ekA{P:Program}{k:FuncId}{c:FC}{nt:Nat}{rs:List RS}{fn:Func}(hf:P.funcs[k]?=some fn)(hn:fn.ntmps=nt)(esc own:List Nat)
  (h : (c.okd, fn.name == "runtime.NumGoroutine", fn.body.bind (zmn P esc own), zj5 (z83 P) fn.results.toList) = (true, false, some c.ac, some rs)) : zae P (k + 1000000) (.ali c nt rs) := by
 simp only[Prod.mk.injEq]at h;exact⟨h.1,k,fn,esc,own,rfl,hf,h.2.1,h.2.2.1,h.2.2.2,hn⟩
attribute [go_sem] yem nrm kpL kpl kpT
open Classical in
@[go_sem] theorem ydr{H X:List AO}{r:Res}:ze4 H r (H++X)=if LtR H.length r then some (r,H) else none:=by
 unfold ze4;rw[List.take_left' rfl];by_cases h:LtR H.length r
 ·rw[if_pos h,if_pos ⟨h,fun id o ho hi=>.inl (by rw[List.getElem?_append_left hi]at ho;exact ho)⟩]
 ·rw[if_neg h,if_neg (fun k=>h k.1)]
open Classical in
@[go_sem] theorem fin1F_self{H:List AO}{r:Res}:ze4 H r H=if LtR H.length r then some (r,H) else none:=by
 have:=ydr (H:=H) (X:=[]) (r:=r)
 rwa [List.append_nil]at this
open Classical in
theorem z19{H X:List AO}{r:Res}{id:Nat}{x:AO}(hx:LtO H.length x):ze4 H r (H.set id x++X)=if LtR H.length r then some (r,H.set id x) else none:=by
 unfold ze4;rw[List.take_left' (by simp)]
 by_cases h:LtR H.length r
 ·have hc:∀(i:Nat) (o:AO),(H.set id x++X)[i]?=some o->i<H.length->H[i]?=some o\/LtO H.length o:=by
   intro i o ho hi;have hi':i<(H.set id x).length:=by simpa using hi
   rw[List.getElem?_append_left hi',List.getElem?_set]at ho;by_cases e:id=i
   ·rw[if_pos e]at ho
    split at ho
    ·injection ho with ho;subst ho;exact .inr hx
    ·cases ho
   ·rw[if_neg e]at ho;exact .inl ho
  rw[if_pos h,if_pos ⟨h,hc⟩]
 ·rw[if_neg h,if_neg (fun k=>h k.1)]
variable {H : List AO} {rs : List RS} {t : Ts} {ls : List (Nat × List AV)} {h : List AO}
@[go_sem] theorem yhq:zah H rs .ret ⟨t,ls,h,[]⟩=match zjj ⟨t,ls,h,[]⟩ rs with
  |some l=>ze4 H (.ret (z0y (zr8 H.length l h).1)) (zr8 H.length l h).2
  |none=>none:=rfl
@[go_sem] theorem z43:zah H rs .normal ⟨t,ls,h,[]⟩=match zjj ⟨t,ls,h,[]⟩ rs with
  |some l=>ze4 H (.ret (z0y (zr8 H.length l h).1)) (zr8 H.length l h).2
  |none=>none:=rfl
@[go_sem] theorem finKF_ret:zi5 H rs .ret ⟨t,ls,h,[]⟩=match zjj ⟨t,ls,h,[]⟩ rs with
  |some l=>some (.ret (z0y l),h)
  |none=>none:=rfl
@[go_sem] theorem ykc:zi5 H rs .normal ⟨t,ls,h,[]⟩=match zjj ⟨t,ls,h,[]⟩ rs with
  |some l=>some (.ret (z0y l),h)
  |none=>none:=rfl
@[go_sem] theorem finKF_pan(v:AV):zi5 H rs (.pan v) ⟨t,ls,h,[]⟩=some (.pan v,h):=rfl
@[go_sem] theorem finF_pan(v:AV):zah H rs (.pan v) ⟨t,ls,h,[]⟩=ze4 H (.pan v) h:=rfl
theorem yhp(o:Out)(d:Nat)(ds:List Nat):zi5 H rs o ⟨t,ls,h,d::ds⟩=if (∀i∈d::ds,H.length<=i)/\(d::ds).Nodup then zi5 H rs o ⟨t,ls,zi6 h (d::ds),[]⟩ else none:=rfl
theorem ydp(o:Out)(d:Nat)(ds:List Nat):zah H rs o ⟨t,ls,h,d::ds⟩=if (∀i∈d::ds,H.length<=i)/\(d::ds).Nodup then zah H rs o ⟨t,ls,zi6 h (d::ds),[]⟩ else none:=rfl
theorem z57{id:Nat}{st:LSt}{b:Bool}{n:Nat}{ts:List (Nat×AV)}{ps:List Nat}{x y:FC}(hs:h[id]?=some (.slp .busy n ts ps x y)):zsa H id st b h=ze4 H (.ret (.bool b)) (h.set id (.slp st n ts ps x y)):=by
 unfold zsa;rw[hs]
@[go_sem] theorem ykb(id:Nat)(σ:St):z18 H id .normal σ=zsa H id .ready true σ.h:=rfl
@[go_sem] theorem finYF_ret(id:Nat)(σ:St):z18 H id .ret σ=zsa H id (.done .ret) false σ.h:=rfl
@[go_sem] theorem finYF_exit(id i:Nat)(σ:St):z18 H id (.exit i) σ=zsa H id (.done (.exit i)) false σ.h:=rfl
def inRd1:Option AO->Bool
 |some (.slp _ _ _ _ _ _)=>true
 |_=>false
@[go_sem] theorem inRd_nil(h:List AO):yfs h []=false:=rfl
@[go_sem] theorem inRd_two(h:List AO)(i j:Nat)(r:List Nat):yfs h (i::j::r)=false:=rfl
attribute [go_sem] kpV setPs yfm inRd1 yft Jmp.out ydp yhp
end
end Go.Ab
end
