/- What the law ConvMany of layer 17 comes to, part 7. Conditions: none. -/
import Derived.Test.YthebfdakjfnpeaaGreatZdaf
import Derived.Test.YthebfdakjfnpeaaGreatZdae
section
set_option linter.unusedVariables false
set_option linter.unusedSimpArgs false
namespace Go.Ab
open Go.RowKit
def FC.okd:FC->Bool
 |.dreg is=>lexB is
 |.seq a b=>a.okd && b.okd
 |.cond _ a b=>a.okd && b.okd
 |.block _ c=>c.okd
 |.loop _ _ c=>c.okd
 |.rf _ _ _ a b=>a.okd && b.okd
 |_=>true
abbrev RH:=Res×List AO
abbrev zmp:=AV->List AV->List AO->Option RH
def z95(d:Option Nat)(σ:St):Option RH->Option (Out×St)
 |some (.ret v,h)=>some (.normal,{ σ with h:=h }.put d (.v v))
 |some (.pan v,h)=>some (.pan v,{ σ with h:=h })
 |none=>none
def zio(cf:zmp)(i:AI)(σ:St):Option (Out×St) :=
 match i.k with
 |.call f args|.callW f args _=>match σ.a f,σ.as args with
  |some c,some vs=>z95 i.d σ (cf c vs σ.h)
  |_,_=>none
 |.pan x=>match σ.a x with
  |some (.iface t v)=>some (.pan (.iface t v),σ)
  |_=>none
 |.isn x=>match σ.a x with
  |some a=>match elems σ a with
   |some (_::_)=>some (.normal,σ.put i.d (.v (.bool false)))
   |_=>none
  |none=>none
 |.o op=>match evo (i.d.getD 0) op σ with
  |some (x,σ')=>some (.normal,σ'.put i.d x)
  |none=>none
 |.fo op=>match evo (i.d.getD 0) op σ with
  |some (.v a,σ')=>match zxm 0 a σ'.h with
   |(a',h')=>some (.normal,{ σ' with h:=h' }.put i.d (.v a'))
  |_=>none
def thn{β:Type}(K:St->Option β)(Q:Out->St->Option β):Out->St->Option β
 |.normal,σ=>K σ
 |o,σ=>Q o σ
def bnd{β:Type}(x:Option (Out×St))(Q:Out->St->Option β):Option β :=
 match x with
 |some (o,σ)=>Q o σ
 |none=>none
def one(o:Out)(σ:St):Option (Out×St):=some (o,σ)
def zsf(cf:zmp):List AI->St->Option (Out×St)
 |[],σ=>some (.normal,σ)
 |i::r,σ=>match i.g with
  |none=>bnd (zio cf i σ) (thn (zsf cf r) one)
  |some (j,w)=>match tg j σ.t.l with
   |.v (.bool b)=>if b=w then bnd (zio cf i { σ with t:=σ.t.set j (.v (.bool w)) }) (thn (zsf cf r) one) else zsf cf r ({ σ with t:=σ.t.set j (.v (.bool (!w))) }.put i.d .und)
   |.und=>zsf cf r (σ.put i.d .und)
   |_=>none
open Classical in
noncomputable def ansD(d:Option Nat)(σ:St):Option RH->Option St
 |some (.ret v,h)=>if h=σ.h then some (σ.put d (.v v)) else none
 |_=>none
open Classical in
noncomputable def ansW(d:Option Nat)(σ:St)(bs:List TV):Option RH->Option St
 |some (.ret v,h)=>if kept σ.h h bs then some ({ σ with h:=h }.put d (.v v)) else none
 |_=>none
noncomputable def zg5(cf:zmp)(d:Option Nat)(k:AK)(σ:St):Option St :=
 match k with
 |.o op=>match evo (d.getD 0) op σ with
  |some (x,σ')=>some (σ'.put d x)
  |none=>none
 |.call f l=>match σ.a f,σ.as l with
  |some c,some vs=>ansD d σ (cf c vs σ.h)
  |_,_=>none
 |.callW f l bs=>match σ.a f,σ.as l with
  |some c,some vs=>ansW d σ (bs.map σ.x) (cf c vs σ.h)
  |_,_=>none
 |_=>none
noncomputable def zj7(cf:zmp):List AI->St->Option St
 |[],σ=>some σ
 |⟨d,k,none,_⟩::r,σ=>match zg5 cf d k σ with
  |some σ'=>zj7 cf r σ'
  |none=>none
 |⟨d,k,some (j,w),_⟩::r,σ=>match tg j σ.t.l with
  |.v (.bool b)=>if b=w then (match zg5 cf d k { σ with t:=σ.t.set j (.v (.bool w)) } with
   |some σ'=>zj7 cf r σ'
   |none=>none) else zj7 cf r ({ σ with t:=σ.t.set j (.v (.bool (!w))) }.put d .und)
  |.und=>zj7 cf r (σ.put d .und)
  |_=>none
def kpT(ls:List (Nat×List AV)):TV->TV
 |.lp d off=>match zb5 d ls with
  |some _=>.lp d off
  |none=>.junk
 |x=>x
def kpL:List Nat->List (Nat×List AV)->List (Nat×List AV)
 |[],_=>[]
 |d::r,ls=>match zb5 d ls with
  |some c=>(d,c)::kpL r ls
  |none=>kpL r ls
def kpl(ls:List (Nat×List AV))(t:List (Nat×TV)):List Nat->List (Nat×TV)
 |[]=>[]
 |i::r=>(i,kpT ls (tg i t))::kpl ls t r
def nrm(kt kl:List Nat)(σ:St):St:=⟨⟨σ.t.n,kpl (kpL kl σ.ls) σ.t.l kt⟩,kpL kl σ.ls,σ.h,σ.ds⟩
theorem zyv{d:Nat}{cs:List AV}:∀{kl:List Nat} {ls:List (Nat×List AV)},zb5 d (kpL kl ls)=some cs->zb5 d ls=some cs
 |[],_,h=>by cases h
 |e::r,ls,h=>by
  unfold kpL at h
  split at h
  ·rename_i c hc
   unfold zb5 at h
   split at h
   ·rename_i e;subst e;rw[hc];exact h
   ·exact zyv h
  ·exact zyv h
theorem yc2(ls:List (Nat×List AV))(t:List (Nat×TV))(i:Nat):∀(kt:List Nat),tg i (kpl ls t kt) = .junk\/tg i (kpl ls t kt)=kpT ls (tg i t)
 |[]=>.inl rfl
 |j::r=>by
  unfold kpl;rw[zj1]
  split
  ·rename_i e;subst e;exact .inr rfl
  ·exact yc2 ls t i r
theorem yj0(kt kl:List Nat)(σ:St):Wk σ (nrm kt kl σ):=by
 refine⟨⟨rfl,fun i=>?_⟩,fun d cs h=>zyv h,fun i d off h=>?_,rfl,rfl⟩
 ·show tg i (kpl _ _ kt)=_\/_
  rcases yc2 (kpL kl σ.ls) σ.t.l i kt with e|e
  ·exact .inl e
  ·dsimp only[nrm]
   rw[e]
   cases hx:tg i σ.t.l with
   |lp d off=>
    unfold kpT;dsimp only
    split
    ·exact .inr rfl
    ·exact .inl rfl
   |v a=>exact .inr rfl
   |ep a=>exact .inr rfl
   |op a b c d e=>exact .inr rfl
   |junk=>exact .inr rfl
   |und=>exact .inr rfl
 ·have h:tg i (kpl (kpL kl σ.ls) σ.t.l kt) = .lp d off:=h
  show zb5 d (kpL kl σ.ls)≠none;rcases yc2 (kpL kl σ.ls) σ.t.l i kt with e|e
  ·rw[e]at h;cases h
  ·rw[e]at h
   unfold kpT at h
   split at h
   ·split at h
    ·rename_i hl;cases h;rw[hl];simp
    ·cases h
   ·rename_i hn;exact absurd h (hn d off)
def itr(body:St->Option (Out×St))(kt kl:List Nat):Nat->St->Option (Out×St)
 |0,_=>none
 |m+1,σ=>bnd (body (nrm kt kl σ)) (thn (itr body kt kl m) one)
def ublk(id:Nat):Out->Out
 |.exit i=>if i=id then .normal else .exit i
 |o=>o
def kpV(l:List (Nat×TV)):List Nat->List (Nat×AV)
 |[]=>[]
 |i::r=>match tg i l with
  |.v a=>(i,a)::kpV l r
  |_=>kpV l r
theorem yc3{l:List (Nat×TV)}:∀{kt:List Nat},∀p∈kpV l kt,tg p.1 l = .v p.2
 |[],p,h=>by cases h
 |i::r,p,h=>by
  unfold kpV at h
  split at h
  ·rename_i a ha
   rcases List.mem_cons.1 h with rfl|h
   ·exact ha
   ·exact yc3 p h
  ·exact yc3 p h
def yft(h:List AO):List Nat->Bool
 |[]=>true
 |i::r=>match h[i]? with
  |some .dfr=>yft h r
  |_=>false
theorem ydy{h:List AO}:∀{ds:List Nat},yft h ds=true->∀i∈ds,h[i]?=some .dfr
 |[],_,i,hi=>by cases hi
 |j::ds,k,i,hi=>by
  unfold yft at k
  split at k
  ·rename_i hj
   rcases List.mem_cons.1 hi with rfl|hi
   ·exact hj
   ·exact ydy k i hi
  ·cases k
def yfs(h:List AO):List Nat->Bool
 |[i]=>match h[i]? with
  |some (.slp _ _ _ _ _ _)=>true
  |_=>false
 |_=>false
theorem inRd_ok{h:List AO}{ds:List Nat}(k:yfs h ds=true):∃i o,ds=[i]/\h[i]?=some o/\o.kd=2:=by
 unfold yfs at k
 split at k
 ·rename_i i
  split at k
  ·rename_i hi;exact⟨i,_,rfl,hi,rfl⟩
  ·cases k
 ·cases k
def rfA(σ:St)(id:Nat)(ds:List Nat):Option RH->Option (Out×St)
 |some (.pan v,h)=>some (.pan v,{ σ with h:=h,ds:=ds })
 |some (.ret _,h)=>match h[id]? with
  |some (.slp .ready _ _ _ _ _)=>some (.normal,{ σ with h:=h.set id .dead,ds:=ds })
  |some (.slp (.done j) _ _ _ _ _)=>some (j.out,{ σ with h:=h.set id .dead,ds:=ds })
  |_=>none
 |none=>none
def rfF(cf:zmp)(f:AX)(ps kt:List Nat)(asg body:FC)(σ:St):Option (Out×St) :=
 match σ.a f with
 |some (.fn (.func k) first cap)=>match yfs σ.h σ.ds with
  |true=>rfA σ σ.h.length σ.ds (cf (.fn (.func k) first cap) [.yd σ.h.length] (σ.h++[.slp .ready σ.t.n (kpV σ.t.l kt) ps asg body]))
  |false=>match yft σ.h σ.ds with
   |true=>rfA σ (σ.h.length+1) (σ.h.length::σ.ds) (cf (.fn (.func k) first cap) [.yd (σ.h.length+1)] (σ.h++[.dfr,.slp .ready σ.t.n (kpV σ.t.l kt) ps asg body]))
   |false=>none
 |_=>none
noncomputable def run(cf:zmp)(n:Nat):FC->St->Option (Out×St)
 |.skip,σ=>some (.normal,σ)
 |.reg is,σ=>zsf cf is σ
 |.dreg is,σ=>(zj7 cf is σ).map fun τ=>(.normal,τ)
 |.seq a b,σ=>bnd (run cf n a σ) (thn (run cf n b) one)
 |.cond x a b,σ=>match σ.a x with
  |some (.bool p)=>if p=true then run cf n a σ else run cf n b σ
  |_=>none
 |.block id c,σ=>(run cf n c σ).map fun p=>(ublk id p.1,p.2)
 |.loop kt kl c,σ=>itr (run cf n c) kt kl n σ
 |.rf f ps kt asg body,σ=>rfF cf f ps kt asg body σ
 |.exit id,σ=>some (.exit id,σ)
 |.ret,σ=>some (.ret,σ)
theorem zcy{β:Type}{x:Option (Out×St)}{Q:Out->St->Option β}{r:β}(h:bnd x Q=some r):∃o σ,x=some (o,σ)/\Q o σ=some r:=by
 unfold bnd at h
 split at h
 ·exact⟨_,_,rfl,h⟩
 ·cases h
def CFok(CC:zee)(cf:zmp):Prop:=∀f vs H r H',cf f vs H=some (r,H')->CC f vs H fun q h=>q=r/\h=H'
def Mono(CC:zee):Prop:=∀f vs H (Q Q':Res->List AO->Prop),(∀r h,Q r h->Q' r h)->CC f vs H Q->CC f vs H Q'
section
variable {CC : zee} {cf : zmp}
theorem yf7(hM:Mono CC)(hcf:CFok CC cf){i:AI}{σ:St}{o:Out}{σ':St}(h:zio cf i σ=some (o,σ')){k:St->Prop}{Q:Out->St->Prop}(hq:ztp k Q o σ'):zwi CC i k Q σ:=by
 obtain⟨d,ak,g,af⟩:=i;have call:∀(f:AX) (l:List AX),(match σ.a f,σ.as l with
   |some c,some vs=>z95 d σ (cf c vs σ.h)
   |_,_=>none)=some (o,σ')->(match σ.a f,σ.as l with
   |some c,some vs=>CC c vs σ.h (yj6 k Q d σ)
   |_,_=>False):=by
  intro f l h
  split at h
  ·rename_i c vs hc hl
   unfold z95 at h
   split at h
   ·rename_i v h1 e
    cases h;exact hM _ _ _ _ _ (fun r h2 hr=>by obtain⟨rfl,rfl⟩:=hr;exact hq) (hcf _ _ _ _ _ e)
   ·rename_i v h1 e
    cases h;exact hM _ _ _ _ _ (fun r h2 hr=>by obtain⟨rfl,rfl⟩:=hr;exact hq) (hcf _ _ _ _ _ e)
   ·cases h
  ·cases h
 unfold zio at h;unfold zwi
 cases ak with
 |call f l=>exact call f l h
 |callW f l bs=>exact call f l h
 |isn x=>
  dsimp only at h ⊢
  split at h
  ·rename_i a ha
   split at h
   ·rename_i e es he;cases h;rw[ha];dsimp only;rw[he];exact hq
   ·cases h
  ·cases h
 |pan x=>
  dsimp only at h ⊢
  split at h
  ·rename_i t v hv;cases h;rw[hv];exact hq
  ·cases h
 |o op=>
  dsimp only at h ⊢
  split at h
  ·rename_i x τ he;cases h;rw[he];exact hq
  ·cases h
 |fo op=>
  dsimp only at h ⊢
  split at h
  ·rename_i a τ he;cases h;rw[he];exact hq
  ·cases h
theorem z32{K:St->Option (Out×St)}{o:Out}{σ:St}{p:Out}{τ:St}(h:thn K one o σ=some (p,τ)):(o = .normal/\K σ=some (p,τ))\/(o ≠ .normal/\p=o/\τ=σ):=by
 unfold thn at h
 split at h
 ·exact .inl ⟨rfl,h⟩
 ·rename_i hn;cases h;exact .inr ⟨fun e=>hn e,rfl,rfl⟩
theorem zup{K:St->Prop}{Q:Out->St->Prop}{o:Out}{σ:St}(hn:o ≠ .normal):ztp K Q o σ=Q o σ:=by cases o <;> first|exact absurd rfl hn|rfl
theorem zyj(hM:Mono CC)(hcf:CFok CC cf):∀(is:List AI) (σ:St) (o:Out) (σ':St),zsf cf is σ=some (o,σ')->∀{Q:Out->St->Prop},Q o σ' -> awr CC is Q σ
 |[],σ,o,σ',h,Q,hq=>by cases h;exact hq
 |i::r,σ,o,σ',h,Q,hq=>by
  have step:∀τ,bnd (zio cf i τ) (thn (zsf cf r) one)=some (o,σ')->zwi CC i (awr CC r Q) Q τ:=by
   intro τ h;obtain⟨o1,σ1,h1,h2⟩:=zcy h;refine yf7 hM hcf h1 ?_;rcases z32 h2 with⟨rfl,h3⟩|⟨hn,rfl,rfl⟩
   ·exact zyj hM hcf r σ1 o σ' h3 hq
   ·rw[zup hn];exact hq
  unfold zsf at h;unfold awr
  split at h
  ·rename_i hg;rw[hg];exact step _ h
  ·rename_i j w hg
   rw[hg];dsimp only
   split at h
   ·rename_i b hb
    rw[hb];dsimp only
    split at h
    ·rename_i e;rw[if_pos e];exact step _ h
    ·rename_i e;rw[if_neg e];exact zyj hM hcf r _ o σ' h hq
   ·rename_i hb;rw[hb];exact zyj hM hcf r _ o σ' h hq
   ·cases h
theorem z6b(hM:Mono CC)(hcf:CFok CC cf){d:Option Nat}{k:AK}{af:List Nat}{σ σ':St}(h:zg5 cf d k σ=some σ'):z1c CC ⟨d,k,none,af⟩ σ σ':=by
 unfold zg5 at h;unfold z1c
 cases k with
 |o op=>
  dsimp only at h ⊢
  split at h
  ·rename_i x τ he;cases h;exact⟨x,τ,he,rfl⟩
  ·cases h
 |call f l=>
  dsimp only at h ⊢
  split at h
  ·rename_i c vs hc hl
   unfold ansD at h
   split at h
   ·rename_i v h1 e
    split at h
    ·rename_i e2;cases h
     exact⟨c,vs,v,hc,hl,hM _ _ _ _ _ (fun r h2 hr=>⟨hr.1,hr.2.trans e2⟩) (hcf _ _ _ _ _ e),rfl⟩
    ·cases h
   ·cases h
  ·cases h
 |callW f l bs=>
  dsimp only at h ⊢
  split at h
  ·rename_i c vs hc hl
   unfold ansW at h
   split at h
   ·rename_i v h1 e
    split at h
    ·rename_i hk
     cases h;exact⟨c,vs,v,h1,hc,hl,hcf _ _ _ _ _ e,hk,rfl⟩
    ·cases h
   ·cases h
  ·cases h
 |pan x=>cases h
 |isn x=>cases h
 |fo x=>cases h
theorem z5y:∀{is:List AI} {Q:St->Prop} {σ τ:St},Eqv σ τ->awl CC is (fun x=>∃y,Eqv x y/\Q y) σ->awl CC is (fun x=>∃y,Eqv x y/\Q y) τ
 |[],Q,σ,τ,e,⟨y,h1,h2⟩=>⟨y,e.symm.trans h1,h2⟩
 |i::r,Q,σ,τ,e,⟨σ',h1,h2⟩=>by
  obtain⟨τ',h3,h4⟩:=zur h1 e;exact⟨τ',h3,z5y h4 h2⟩
theorem Eqv.putD{σ τ:St}(e:Eqv σ τ)(d:Option Nat)(x:TV):Eqv (σ.put d x) (τ.put d x):=by
 cases d with
 |none=>exact e
 |some d=>
  refine⟨?_,fun i=>?_,e.ls,e.h,e.ds⟩
  ·show (σ.t.set d x).n=(τ.t.set d x).n
   have:=e.n;unfold Ts.set;rw[this]
   split <;> simp[this]
  ·show tg i (σ.t.set d x).l=tg i (τ.t.set d x).l
   have:=e.n;unfold Ts.set;rw[this]
   split
   ·dsimp only
    rw[zj1,zj1,e.t i]
   ·exact e.t i
theorem zux(hM:Mono CC)(hcf:CFok CC cf):∀(is:List AI) (σ σ':St),zj7 cf is σ=some σ' -> ∀{Q:St->Prop},Q σ' -> awl CC is (fun x=>∃y,Eqv x y/\Q y) σ
 |[],σ,σ',h,Q,hq=>by cases h;exact⟨_,.refl _,hq⟩
 |⟨d,k,g,af⟩::r,σ,σ',h,Q,hq=>by
  cases g with
  |none=>
   unfold zj7 at h
   split at h
   ·rename_i σ1 h1;exact⟨σ1,z6b hM hcf h1,zux hM hcf r σ1 σ' h hq⟩
   ·cases h
  |some jw=>
   obtain⟨j,w⟩:=jw;have key:∀h:(match tg j σ.t.l with
     |.v (.bool b)=>if b=w then (match zg5 cf d k { σ with t:=σ.t.set j (.v (.bool w)) } with
      |some σ'=>zj7 cf r σ'
      |none=>none) else zj7 cf r ({ σ with t:=σ.t.set j (.v (.bool (!w))) }.put d .und)
     |.und=>zj7 cf r (σ.put d .und)
     |_=>none)=some σ',awl CC (⟨d,k,some (j,w),af⟩::r) (fun x=>∃y,Eqv x y/\Q y) σ:=by
    intro h
    split at h
    ·rename_i b hb
     split at h
     ·rename_i e
      split at h
      ·rename_i σ1 h1
       have eq:=Eqv.same σ (j:=j) (x:=.v (.bool w)) (e ▸ hb);have st:zwh CC ⟨d,k,none,af⟩ { σ with t:=σ.t.set j (.v (.bool w)) } σ1:=z6b (af:=af) hM hcf h1;obtain⟨τ',h3,h4⟩:=zur st eq.symm;exact⟨τ',.inl ⟨e ▸ hb,h3⟩,z5y h4 (zux hM hcf r σ1 σ' h hq)⟩
      ·cases h
     ·rename_i e
      have eb:b = !w:=by cases b <;> cases w <;> simp_all
      have eq:=Eqv.same σ (j:=j) (x:=.v (.bool (!w))) (eb ▸ hb);exact⟨_,.inr ⟨.inl (eb ▸ hb),rfl⟩,z5y (eq.putD d .und).symm (zux hM hcf r _ σ' h hq)⟩
    ·rename_i hb;exact⟨_,.inr ⟨.inr hb,rfl⟩,zux hM hcf r _ σ' h hq⟩
    ·cases h
   exact key (by unfold zj7 at h;exact h)
theorem z7m{is:List AI}{Q:St->Prop}:∀{n:Nat} {l:Array Bool} {σ:St},zv8 CC is (fun x=>∃y,Eqv x y/\Q y) n l σ->zv8 CC is Q n l σ
 |0,l,σ,h=>by obtain⟨h1,ρ,h2,y,h3,h4⟩:=h;exact⟨h1,y,h2.trans h3,h4⟩
 |n+1,l,σ,h=>by
  refine⟨fun hr=>?_,fun i hi o ho=>?_⟩
  ·obtain⟨ρ,h2,y,h3,h4⟩:=h.1 hr;exact⟨y,h2.trans h3,h4⟩
  ·obtain⟨σ',h1,h2⟩:=h.2 i hi o ho;exact⟨σ',h1,z7m h2⟩
theorem z6i(hM:Mono CC)(hcf:CFok CC cf)(n:Nat):∀(c:FC),c.okd=true->∀(σ:St) (o:Out) (σ':St),run cf n c σ=some (o,σ')->∀{Q:Out->St->Prop},Q o σ' -> awp CC c.ac Q σ:=by
 intro c
 induction c with
 |skip=>intro _ σ o σ' h Q hq;cases h;exact hq
 |reg is=>intro _ σ o σ' h Q hq;exact zyj hM hcf is σ o σ' h hq
 |dreg is=>
  intro hd σ o σ' h Q hq;unfold run at h
  cases he:zj7 cf is σ with
  |none=>rw[he]at h;cases h
  |some τ=>
   rw[he]at h;cases h;intro hl;have:=yid (CC:=CC) (Q:=fun _ x=>∃y,Eqv x y/\Q .normal y) hd (zux hM hcf is σ _ he hq) hl
   exact z7m this
 |seq a b iha ihb=>
  intro hd σ o σ' h Q hq;simp only[FC.okd,Bool.and_eq_true]at hd;obtain⟨o1,σ1,h1,h2⟩:=zcy h;refine iha hd.1 σ o1 σ1 h1 ?_;rcases z32 h2 with⟨rfl,h3⟩|⟨hn,rfl,rfl⟩
  ·exact ihb hd.2 σ1 o σ' h3 hq
  ·rw[zup hn];exact hq
 |cond x a b iha ihb=>
  intro hd σ o σ' h Q hq;simp only[FC.okd,Bool.and_eq_true]at hd;unfold run at h;unfold FC.ac awp
  split at h
  ·rename_i p hp
   rw[hp];dsimp only
   split at h
   ·rename_i e;rw[if_pos e];exact iha hd.1 σ o σ' h hq
   ·rename_i e;rw[if_neg e];exact ihb hd.2 σ o σ' h hq
  ·cases h
 |block id c ih=>
  intro hd σ o σ' h Q hq;unfold run at h
  cases he:run cf n c σ with
  |none=>rw[he]at h;cases h
  |some p=>
   rw[he]at h;obtain⟨o1,σ1⟩:=p;cases h;refine ih hd σ o1 σ1 he ?_
   cases o1 with
   |exit i=>
    unfold blk;dsimp only[ublk]at hq ⊢;by_cases e:i=id
    ·rw[if_pos e]at hq ⊢;exact hq
    ·rw[if_neg e]at hq ⊢;exact hq
   |normal=>exact hq
   |ret=>exact hq
   |pan v=>exact hq
 |loop kt kl c ih=>
  intro hd σ o σ' h Q hq;refine⟨{ p:Nat×St // itr (run cf n c) kt kl p.1 p.2=some (o,σ') },fun p=>nrm kt kl p.1.2,fun p=>p.1.1,⟨(n,σ),h⟩,yj0 kt kl σ,?_⟩
  rintro ⟨⟨m,τ⟩,hp⟩
  dsimp only at hp ⊢
  cases m with
  |zero=>cases hp
  |succ m=>
   obtain⟨o1,σ1,h1,h2⟩:=zcy hp;refine ih hd _ o1 σ1 h1 ?_;rcases z32 h2 with⟨rfl,h3⟩|⟨hn,rfl,rfl⟩
   ·exact⟨⟨(m,σ1),h3⟩,Nat.lt_succ_self m,yj0 kt kl σ1⟩
   ·rw[zup hn];exact hq
 |rf f ps kt asg body=>
  intro hd σ o σ' h Q hq;have key:∀{id:Nat} {ds:List Nat} {c:AV} {vs:List AV} {H:List AO},rfA σ id ds (cf c vs H)=some (o,σ')->CC c vs H (rfK Q σ id ds):=by
   intro id ds c vs H e;unfold rfA at e
   split at e
   ·rename_i v h1 he
    cases e;exact hM _ _ _ _ _ (fun r h2 hr=>by obtain⟨rfl,rfl⟩:=hr;exact hq) (hcf _ _ _ _ _ he)
   ·rename_i v h1 he
    split at e
    ·rename_i hs
     cases e;exact hM _ _ _ _ _ (fun r h2 hr=>by obtain⟨rfl,rfl⟩:=hr;simp only[rfK,hs];exact hq) (hcf _ _ _ _ _ he)
    ·rename_i j _ _ _ _ _ hs
     cases e;exact hM _ _ _ _ _ (fun r h2 hr=>by obtain⟨rfl,rfl⟩:=hr;simp only[rfK,hs];exact hq) (hcf _ _ _ _ _ he)
    ·cases e
   ·cases e
  unfold run rfF at h
  split at h
  ·rename_i k first cap hc
   refine⟨asg,body,kpV σ.t.l kt,_,rfl,rfl,yc3,hc,⟨k,first,cap,rfl⟩,?_⟩
   split at h
   ·rename_i hr
    obtain⟨i,o',h1,h2,h3⟩:=inRd_ok hr;exact .inl ⟨i,o',h1,h2,h3,key h⟩
   ·split at h
    ·rename_i hr
     exact .inr ⟨ydy hr,key h⟩
    ·cases h
  ·cases h
 |exit id=>intro _ σ o σ' h Q hq;cases h;exact hq
 |ret=>intro _ σ o σ' h Q hq;cases h;exact hq
end
open Classical in
noncomputable def ze4(H:List AO)(r:Res)(h:List AO):Option RH :=
 if LtR H.length r/\∀(id:Nat) (o:AO),h[id]?=some o->id<H.length->H[id]?=some o\/LtO H.length o then some (r,h.take H.length) else none
noncomputable def finB(H:List AO)(rs:List RS)(o:Out)(σ:St):Option RH :=
 match o with
  |.exit _=>none
  |.pan v=>ze4 H (.pan v) σ.h
  |_=>match zjj σ rs with
   |some l=>ze4 H (.ret (z0y (zr8 H.length l σ.h).1)) (zr8 H.length l σ.h).2
   |none=>none
noncomputable def zah(H:List AO)(rs:List RS)(o:Out)(σ:St):Option RH :=
 match σ.ds with
 |_::_=>if (∀i∈σ.ds,H.length<=i)/\σ.ds.Nodup then finB H rs o { σ with h:=zi6 σ.h σ.ds,ds:=[] } else none
 |[]=>match o with
  |.exit _=>none
  |.pan v=>ze4 H (.pan v) σ.h
  |_=>match zjj σ rs with
   |some l=>ze4 H (.ret (z0y (zr8 H.length l σ.h).1)) (zr8 H.length l σ.h).2
   |none=>none
theorem zy7{H h:List AO}{r q:Res}{H':List AO}(e:ze4 H r h=some (q,H')):yds H (fun p k=>p=q/\k=H') r h:=by
 unfold ze4 at e;by_cases hc:LtR H.length r/\∀(id:Nat) (o:AO),h[id]?=some o->id<H.length->H[id]?=some o\/LtO H.length o
 ·rw[if_pos hc]at e
  cases e;exact⟨hc.1,hc.2,rfl,rfl⟩
 ·rw[if_neg hc]at e
  cases e
theorem ydq{H:List AO}{rs:List RS}{o:Out}{σ:St}{q:Res}{H':List AO}(e:finB H rs o σ=some (q,H')):fin2 H (fun p k=>p=q/\k=H') rs o σ:=by
 have hret:(match zjj σ rs with
   |some l=>ze4 H (.ret (z0y (zr8 H.length l σ.h).1)) (zr8 H.length l σ.h).2
   |none=>none)=some (q,H')->∃l,zjj σ rs=some l/\yds H (fun p k=>p=q/\k=H') (.ret (z0y (zr8 H.length l σ.h).1)) (zr8 H.length l σ.h).2:=by
  intro e
  split at e
  ·rename_i l hl;exact⟨l,hl,zy7 e⟩
  ·cases e
 unfold finB at e
 cases o with
 |exit i=>cases e
 |pan v=>exact zy7 e
 |normal=>exact hret e
 |ret=>exact hret e
theorem finF_ok{H:List AO}{rs:List RS}{o:Out}{σ:St}{q:Res}{H':List AO}(e:zah H rs o σ=some (q,H')):fin H (fun p k=>p=q/\k=H') rs o σ:=by
 unfold zah at e
 split at e
 ·split at e
  ·rename_i hc
   exact⟨hc.1,hc.2,ydq e⟩
  ·cases e
 ·rename_i hds
  have e:finB H rs o σ=some (q,H'):=e;unfold fin;rw[hds];refine⟨fun i hi=>(by cases hi),List.nodup_nil,?_⟩
  have:({ σ with h:=zi6 σ.h [],ds:=[] }:St)=σ:=by cases σ;cases hds;rfl
  rw[this];exact ydq e
noncomputable def finKB(rs:List RS):Out->St->Option RH
 |.exit _,_=>none
 |.pan v,σ=>some (.pan v,σ.h)
 |.normal,σ|.ret,σ=>match zjj σ rs with
  |some l=>some (.ret (z0y l),σ.h)
  |none=>none
noncomputable def zi5(H:List AO)(rs:List RS)(o:Out)(σ:St):Option RH :=
 match σ.ds with
 |d::ds=>if (∀i∈d::ds,H.length<=i)/\(d::ds).Nodup then finKB rs o { σ with h:=zi6 σ.h (d::ds),ds:=[] } else none
 |[]=>finKB rs o σ
theorem z7b{rs:List RS}{o:Out}{σ:St}{q:Res}{H':List AO}(e:finKB rs o σ=some (q,H')):fin2K (fun p k=>p=q/\k=H') rs o σ:=by
 have key:(match zjj σ rs with
   |some l=>some (Res.ret (z0y l),σ.h)
   |none=>none)=some (q,H')->∃l,zjj σ rs=some l/\Res.ret (z0y l)=q/\σ.h=H':=by
  intro e
  split at e
  ·rename_i l hl;cases e;exact⟨l,hl,rfl,rfl⟩
  ·cases e
 cases o with
 |exit i=>cases e
 |pan v=>cases e;exact⟨rfl,rfl⟩
 |normal=>exact key e
 |ret=>exact key e
theorem z7a{H:List AO}{rs:List RS}{o:Out}{σ:St}{q:Res}{H':List AO}(e:zi5 H rs o σ=some (q,H')):finK H (fun p k=>p=q/\k=H') rs o σ:=by
 unfold zi5 at e;unfold finK
 split at e
 ·rename_i d ds hds
  split at e
  ·rename_i hc
   rw[hds];exact⟨hc.1,hc.2,z7b e⟩
  ·cases e
 ·rename_i hds
  rw[hds];refine⟨fun i hi=>(by cases hi),List.nodup_nil,?_⟩
  have:({ σ with h:=zi6 σ.h [],ds:=[] }:St)=σ:=by cases σ;cases hds;rfl
  rw[this];exact z7b e
noncomputable def finG(kp:Bool)(H:List AO)(rs:List RS)(o:Out)(σ:St):Option RH :=
 match kp with
 |true=>zi5 H rs o σ
 |false=>zah H rs o σ
theorem finG_ok{kp:Bool}{H:List AO}{rs:List RS}{o:Out}{σ:St}{q:Res}{H':List AO}(e:finG kp H rs o σ=some (q,H')):finX kp H (fun p k=>p=q/\k=H') rs o σ:=by
 cases kp with
 |true=>exact z7a e
 |false=>exact finF_ok e
noncomputable def zsa(H:List AO)(id:Nat)(st:LSt)(b:Bool)(h:List AO):Option RH :=
 match h[id]? with
 |some (.slp .busy n t ps asg body)=>ze4 H (.ret (.bool b)) (h.set id (.slp st n t ps asg body))
 |_=>none
noncomputable def z18(H:List AO)(id:Nat):Out->St->Option RH
 |.normal,σ=>zsa H id .ready true σ.h
 |.ret,σ=>zsa H id (.done .ret) false σ.h
 |.exit i,σ=>zsa H id (.done (.exit i)) false σ.h
 |.pan _,_=>none
theorem zx6{H:List AO}{id:Nat}{st:LSt}{b:Bool}{h:List AO}{q:Res}{H':List AO}(e:zsa H id st b h=some (q,H')):yEnd H (fun p k=>p=q/\k=H') id st b h:=by
 unfold zsa at e;unfold yEnd
 split at e
 ·rename_i hs;rw[hs];exact zy7 e
 ·cases e
theorem yho{H:List AO}{id:Nat}{o:Out}{σ:St}{q:Res}{H':List AO}(e:z18 H id o σ=some (q,H')):finY H (fun p k=>p=q/\k=H') id o σ:=by
 cases o with
 |normal=>exact zx6 e
 |ret=>exact zx6 e
 |exit i=>exact zx6 e
 |pan v=>cases e
def yMid(id:Nat)(σ:St):Option St :=
 match σ.h[id]? with
 |some (.slp .ready n t ps a b)=>some { σ with h:=σ.h.set id (.slp .busy n t ps a b) }
 |_=>none
noncomputable def z5u(cf:zmp)(n:Nat)(id:Nat)(vs:List AV)(H:List AO):Option RH :=
 match H[id]? with
 |some (.slp .ready nn t ps asg body)=>if vs.length=ps.length/\asg.okd=true/\body.okd=true then
   bnd (run cf n asg ⟨setPs ps vs ⟨nn,yfm t⟩,[],H,[id]⟩) (fun o σ=>match o with
    |.normal=>match yMid id σ with
     |some τ=>bnd (run cf n body τ) (z18 H id)
     |none=>none
    |_=>none)
   else none
 |_=>none
inductive Ent where
 |code (c:FC) (nt:Nat) (rs:List RS) (kp:Bool:=false)
 |ext (f:List AV->List AO->Option RH)
 |ali (c:FC) (nt:Nat) (rs:List RS)
 |alx (f:List AV->List AO->Option RH)
abbrev Tab:=FuncId->Option Ent
noncomputable def z5v(T:Tab)(cf:zmp)(n:Nat)(k:FuncId)(vs:List AV)(H:List AO):Option RH :=
 match T k with
 |some (.code c nt rs kp)=>if vs.length<=nt then bnd (run cf n c ⟨⟨nt,ini 0 vs⟩,[],H,[]⟩) (finG kp H rs) else none
 |some (.ext f)=>f vs H
 |some (.ali _ _ _)|some (.alx _)=>none
 |none=>none
noncomputable def z5w(T:Tab)(cf:zmp)(n:Nat)(k:FuncId)(vs:List AV)(H:List AO):Option RH :=
 match T (k+1000000) with
 |some (.ali c nt rs)=>if vs.length<=nt then bnd (run cf n c ⟨⟨nt,ini 0 vs⟩,[],H,[]⟩) (zi5 H rs) else none
 |some (.alx f)=>f vs H
 |_=>none
noncomputable def zc8(T:Tab):Nat->zmp
 |0=>fun _ _ _=>none
 |n+1=>fun f vs H=>match f with
  |.fn (.func k) first cap=>z5v T (zc8 T n) n k (first++vs++cap) H
  |.yd id=>z5u (zc8 T n) n id vs H
  |.fk k=>z5w T (zc8 T n) n k vs H
  |_=>none
def zae(P:Program)(k:FuncId):Ent->Prop
 | .code c nt rs _ => c.okd = true ∧ ∃ (fn : Func) (esc own : List Nat), P.funcs[k]? = some fn ∧ (fn.name == "runtime.NumGoroutine") = false ∧ fn.body.bind (zmn P esc own) = some c.ac ∧ zj5 (z83 P) fn.results.toList = some rs ∧ fn.ntmps = nt
 |.ext f=>∀vs H r H',f vs H=some (r,H')->zpl P k vs H fun q h=>q=r/\h=H'
 | .ali c nt rs => c.okd = true ∧ ∃ (k0 : FuncId) (fn : Func) (esc own : List Nat), k = k0 + 1000000 ∧ P.funcs[k0]? = some fn ∧ (fn.name == "runtime.NumGoroutine") = false ∧ fn.body.bind (zmn P esc own) = some c.ac ∧ zj5 (z83 P) fn.results.toList = some rs ∧ fn.ntmps = nt
 |.alx f=>∃k0,k=k0+1000000/\∀vs H r H',f vs H=some (r,H')->zpl P k0 vs H fun q h=>q=r/\h=H'
theorem z0f(P:Program):Mono (CC P):=fun f vs H Q Q' h k=>CC.mono h k
theorem zr3{P:Program}(hm:P.follows .mixedOrders=true){T:Tab}(hT:∀k e,T k=some e->zae P k e):∀n,CFok (CC P) (zc8 T n)
 |0=>fun f vs H r H' h=>by cases h
 |n+1=>fun f vs H r H' h=>by
  unfold zc8 at h
  split at h
  ·rename_i k first cap
   show zpl P k (first++vs++cap) H _
   unfold z5v at h
   split at h
   ·rename_i c nt rs kp hk
    obtain⟨hd,fn,esc,own,hf,hname,hbc,hr,hn⟩:=hT _ _ hk
    split at h
    ·rename_i hl
     obtain⟨o,σ',h1,h2⟩:=zcy h;exact zr2 hf hname hbc hm hr hn kp (fun _ _=>.of (z6i (z0f P) (zr3 hm hT n) n c hd _ o σ' h1 (finG_ok h2))) hl
    ·cases h
   ·rename_i f hk;exact hT _ _ hk _ _ _ _ h
   ·cases h
   ·cases h
   ·cases h
  ·rename_i id
   show ye2 P id vs H _;unfold z5u at h
   split at h
   ·rename_i nn t ps asg body hH
    split at h
    ·rename_i hc
     obtain⟨o,σ1,h1,h2⟩:=zcy h;refine yae hm hH hc.1 (z6i (z0f P) (zr3 hm hT n) n asg hc.2.1 _ o σ1 h1 ?_)
     split at h2
     ·split at h2
      ·rename_i τ hτ
       obtain⟨o2,σ2,h3,h4⟩:=zcy h2;show yag _ _ _ _ _ _;unfold yMid at hτ;unfold yag
       split at hτ
       ·rename_i hs
        cases hτ;rw[hs]
        exact z6i (z0f P) (zr3 hm hT n) n body hc.2.2 _ o2 σ2 h3 (yho h4)
       ·cases hτ
      ·cases h2
     ·cases h2
    ·cases h
   ·cases h
  ·rename_i k
   show zpl P k vs H _;unfold z5w at h
   split at h
   ·rename_i c nt rs hk
    obtain⟨hd,k0,fn,esc,own,e,hf,hname,hbc,hr,hn⟩:=hT _ _ hk;have e:k=k0:=Nat.add_right_cancel e;subst e
    split at h
    ·rename_i hl
     obtain⟨o,σ',h1,h2⟩:=zcy h;exact zr2 hf hname hbc hm hr hn true (fun _ _=>.of (z6i (z0f P) (zr3 hm hT n) n c hd _ o σ' h1 (z7a h2))) hl
    ·cases h
   ·rename_i f hk
    obtain⟨k0,e,h2⟩:=hT _ _ hk;have e:k=k0:=Nat.add_right_cancel e;subst e;exact h2 _ _ _ _ h
   ·cases h
  ·cases h
end Go.Ab
end
