/- What the law ConvMany of layer 17 comes to, part 5. Conditions: none. -/
import Derived.Test.YthebfdakjfnpeaaGreatZdad
import Derived.RangeFuncLeaves
import Derived.RangeFuncCalls
import Derived.OrdersIn
import Derived.ControlIn
import Derived.RangeFuncNested
import Derived.Sort.LoopGhostIn
import Derived.Shelf.Abstract
section
set_option linter.unusedVariables false
set_option linter.unusedSimpArgs false
namespace Go.Ab
open Go.RowKit
variable {P : Program} {ro : Option Nat}
def Wf(ro:Option Nat):Fence:={ Fence.wide with round:=ro }
theorem zui{ro:Option Nat}{n:Nat}{f:FuncId}{args:Array Value}{w:World}{R:Ending->World->Prop}(h:CallsIn Fence.wide n P f args w R):CallsIn (Wf ro) n P f args w R:=by
 cases ro with
 |none=>exact h
 |some l=>exact CallsIn.inRound l h
def RawK(h h':List AO):Prop:=∀(i:Nat) (o:AO),o.kd≠0->h[i]?=some o->∃o',h'[i]?=some o' /\ o'.kd=o.kd
theorem RawK.refl(h:List AO):RawK h h:=fun i o _ x=>⟨o,x,rfl⟩
theorem RawK.trans{a b c:List AO}(h:RawK a b)(k:RawK b c):RawK a c:=fun i o l x=>by
 obtain⟨o1,h1,h2⟩:=h i o l x;obtain⟨o2,h3,h4⟩:=k i o1 (by rw[h2];exact l) h1
 exact⟨o2,h3,h4.trans h2⟩
theorem AO.kd1{o:AO}(h:o.kd=1):o = .dfr:=by cases o <;> simp[AO.kd]at h <;> rfl
theorem RawK.dfr{a b:List AO}(h:RawK a b){i:Nat}(x:a[i]?=some .dfr):b[i]?=some .dfr:=by
 obtain⟨o,h1,h2⟩:=h i .dfr (by simp[AO.kd]) x
 rw[AO.kd1 h2]at h1;exact h1
def RRes(g:G):Res->Ending->Prop
 |.ret a,e=>∃v,e = .returned v/\RV g a v
 |.pan a,e=>∃v,e = .panicked [{ v,recovered:=false }]/\RV g a v
def Behind(g:G)(H:List AO)(w:World)(Post:Res->List AO->Prop)(e:Ending)(w':World):Prop :=
 ∃g' res H',Ev g H w g' H' w' /\ Sat g' H' w' /\ RRes g' res e/\RawK H H' /\ Post res H'
def zpl(P:Program)(k:FuncId)(asz:List AV)(H:List AO)(Post:Res->List AO->Prop):Prop :=
 (∀args w,(callFunc k args).run P w = .ok (.enter k args) w) /\
 ∀g w vs,g.cm=Cm P->Sat g H w->RVs g asz vs->CallsIn Fence.wide 0 P k vs.toArray w (Behind g H w Post)
def ye2(P:Program)(id:Nat)(asz:List AV)(H:List AO)(Post:Res->List AO->Prop):Prop :=
 ∀g w vs l,g.cm=Cm P->Sat g H w->RVs g asz vs->g.bx id=some l->∃f tmps asg body,(Instr.yield l vs.toArray).run P w = .ok (.round l f tmps asg body) w/\RoundIn Fence.wide 0 P l f tmps asg body w (Behind g H w Post)
def CC(P:Program):zee:=fun f asz H Post=>
 match f with
 |.fn (.func k) first cap=>zpl P k (first++asz++cap) H Post
 |.yd id=>ye2 P id asz H Post
 |.fk k=>zpl P k asz H Post
 |_=>False
theorem Behind.mono{g:G}{H:List AO}{w:World}{Post Post':Res->List AO->Prop}(h:∀r H',Post r H' -> Post' r H'){e:Ending}{w':World}(k:Behind g H w Post e w'):Behind g H w Post' e w':=by
 obtain⟨g',res,H',h1,h2,h3,h4,h5⟩:=k;exact⟨g',res,H',h1,h2,h3,h4,h _ _ h5⟩
theorem CC.mono{f:AV}{asz:List AV}{H:List AO}{Post Post':Res->List AO->Prop}(h:∀r H',Post r H' -> Post' r H')(k:CC P f asz H Post):CC P f asz H Post':=by
 unfold CC at k ⊢
 split at k
 ·exact⟨k.1,fun g w vs c s r=>(k.2 g w vs c s r).mono fun e w'=>Behind.mono h⟩
 ·intro g w vs l c s r hl
  obtain⟨f,tmps,asg,body,h1,h2⟩:=k g w vs l c s r hl;exact⟨f,tmps,asg,body,h1,h2.mono fun e w'=>Behind.mono h⟩
 ·exact⟨k.1,fun g w vs c s r=>(k.2 g w vs c s r).mono fun e w'=>Behind.mono h⟩
 ·exact k.elim
def Mks(g:G)(h:List AO):List Nat->List Deferred->Prop
 |[],l=>l=[]
 |i::ds,l=>∃b r,l = { target:=.collected b,args:=#[] } :: r/\g.bx i=some b/\h[i]?=some .dfr/\Mks g h ds r
theorem Mks.mono{g g':G}{h h':List AO}(hg:g.Le g')(k:RawK h h'):∀{ds:List Nat} {l:List Deferred},Mks g h ds l->Mks g' h' ds l
 |[],_,x=>x
 |_::_,_,⟨b,r,e,hb,hi,x⟩=>⟨b,r,e,hg.bx _ _ hb,k.dfr hi,Mks.mono hg k x⟩
def Dfs(ro:Option Nat)(g:G)(h:List AO)(ds:List Nat)(l:List Deferred):Prop :=
 match ro with
 |none=>Mks g h ds l
 |some b=>l=[]/\∃i o,ds=[i]/\g.bx i=some b/\h[i]?=some o/\o.kd=2
theorem Dfs.mono{ro:Option Nat}{g g':G}{h h':List AO}(hg:g.Le g')(k:RawK h h'){ds:List Nat}{l:List Deferred}(x:Dfs ro g h ds l):Dfs ro g' h' ds l:=by
 cases ro with
 |none=>exact Mks.mono hg k x
 |some b=>
  obtain⟨h1,i,o,h2,h3,h4,h5⟩:=x;obtain⟨o',h6,h7⟩:=k i o (by rw[h5];simp) h4
  exact⟨h1,i,o',h2,hg.bx _ _ h3,h6,h7.trans h5⟩
structure Sim (P:Program) (ro:Option Nat) (g0:G) (h0:List AO) (w0:World) (g:G) (lb:Nat->Nat) (σ:St) (a:Act) (w:World):Prop where
 mid:Mid g0 h0 w0 g lb σ.ls σ.h w
 tm:Tm g lb σ.ls σ.t a.tmps
 df:Dfs ro g σ.h σ.ds a.defers
 rk:RawK h0 σ.h
 cm:g0.cm=Cm P
theorem Sim.gcm{g0 g:G}{h0:List AO}{w0 w:World}{lb:Nat->Nat}{σ:St}{a:Act}(s:Sim P ro g0 h0 w0 g lb σ a w):g.cm=Cm P:=s.mid.ev.le.cm.trans s.cm
def OutRel(g:G):Out->Exit->Prop
 |.normal,e=>e = .normal
 |.exit i,e=>e = .exit i
 |.ret,e=>e = .ret
 |.pan a,e=>∃v,e = .panic [{ v,recovered:=false }]/\RV g a v
def Lift(P:Program)(ro:Option Nat)(g0:G)(h0:List AO)(w0:World)(Q:Out->St->Prop)(e:Exit)(a:Act)(w:World):Prop :=
 ∃o σ g lb,OutRel g o e/\Sim P ro g0 h0 w0 g lb σ a w/\Q o σ
theorem Tm.put{g:G}{lb:Nat->Nat}{ls:List (Nat×List AV)}{t:Ts}{a:Act}(T:Tm g lb ls t a.tmps)(d:Option Nat){x:TV}{v:Value}(hx:RT g lb x v)(hl:∀k off,x = .lp k off->zb5 k ls≠none):
  Tm g lb ls (match d with|some d=>t.set d x|none=>t) (a.put d v).tmps:=by
 cases d with
 |none=>exact T
 |some d=>
  have e1:(a.put (some d) v).tmps=a.tmps.setIfInBounds d v:=rfl;rw[e1];unfold Ts.set;dsimp only;by_cases hd:d<t.n
  ·rw[if_pos hd]
   have hd2:d<a.tmps.size:=by rw[<- T.len];exact hd
   refine⟨by simp[T.len],fun i=>?_,fun i k off hi=>?_⟩
   ·rw[zj1]
    by_cases e:d=i
    ·subst e
     simp[hd2];exact hx
    ·rw[if_neg e]
     have:=T.at_ i;simp[Array.getD_eq_getD_getElem?,Array.getElem?_setIfInBounds_ne e]at this ⊢;exact this
   ·rw[zj1]at hi
    by_cases e:d=i
    ·rw[if_pos e]at hi;exact hl k off hi
    ·rw[if_neg e]at hi;exact T.live i k off hi
  ·rw[if_neg hd]
   have hd2:a.tmps.size<=d:=by rw[<- T.len];omega
   have:a.tmps.setIfInBounds d v=a.tmps:=by
    apply Array.ext (by simp)
    intro i h1 h2;rw[Array.getElem_setIfInBounds]
    split
    ·omega
    ·rfl
   rw[this];exact T
theorem Sim.put{g0 g:G}{h0:List AO}{w0 w:World}{lb:Nat->Nat}{σ:St}{a:Act}(s:Sim P ro g0 h0 w0 g lb σ a w)(d:Option Nat){x:TV}{v:Value}(hx:RT g lb x v)(hl:∀k off,x = .lp k off->zb5 k σ.ls≠none):Sim P ro g0 h0 w0 g lb (σ.put d x) (a.put d v) w:=by
 have T:=s.tm.put d hx hl
 cases d with
 |none=>exact s
 |some d=>exact⟨s.mid,T,by simpa [St.put,Act.put] using s.df,s.rk,s.cm⟩
theorem RawK.of{h h':List AO}(k:∀(i:Nat) (o:AO) (_:o.kd≠0),h[i]?=some o->h'[i]?=some o):RawK h h':=fun i o l x=>⟨o,k i o l x,rfl⟩
theorem evo_sim{esc own:List Nat}{o:Oper}{op:AOp}(hc:copA P esc own o=some op){σ σ1:St}{x:TV}(he:evo (o.dst.getD 0) op σ=some (x,σ1)){g0 g:G}{h0:List AO}{w0 w:World}{lb:Nat->Nat}{a:Act}(s:Sim P ro g0 h0 w0 g lb σ a w):
  ∃v w',((execOp a.eval o).run P w = .ok (.value v) w' \/ ((execOp a.eval o).run P w = .ok .skip w' /\ v=undef))/\∃g' lb',Sim P ro g0 h0 w0 g' lb' (σ1.put o.dst x) (a.put o.dst v) w':=by
 obtain⟨v,w',g',lb',h1,h2,h3,h4,h5,h6,h7⟩:=yjt hc he g0 h0 w0 g lb a w s.mid s.tm;refine⟨v,w',h1,g',lb',?_⟩;have rk:=RawK.of h3.raw;have s1:Sim P ro g0 h0 w0 g' lb' σ1 a w':=⟨h2,by rw[h6];exact s.tm.mono h3,by rw[h7];exact s.df.mono h3.le rk,s.rk.trans rk,s.cm⟩
 exact s1.put o.dst h4 h5
theorem zt3{ro:Option Nat}{ρ:Operand->Value}{o:Oper}(h:∀c,o.op ≠ .defer c):o.semAt ro ρ=execOp ρ o:=by
 unfold Oper.semAt
 split
 ·rename_i c hc;exact absurd hc (h c)
 ·rfl
theorem yd6{esc own:List Nat}{o:Oper}{op:AOp}(hc:copA P esc own o=some op):∀c,o.op ≠ .defer c:=by
 intro c e;unfold copA ygw copV copX cop at hc;rw[e]at hc;cases hc
def Cxs(l:List Operand)(axs:List AX):Prop:=cxs l=some axs\/cxns l=some axs\/∃sz,cxzs sz l=some axs
theorem as_rvsx{σ:St}{a:Act}{g:G}{lb:Nat->Nat}(T:Tm g lb σ.ls σ.t a.tmps){l:List Operand}{axs:List AX}(hx:Cxs l axs){ys:List AV}(h:σ.as axs=some ys):RVs g ys (l.map a.eval):=by
 rcases hx with hx|hx|⟨sz,hx⟩
 ·exact z7o T hx h
 ·exact yer T hx h
 ·exact yeq T hx h
def Cf(f0:Operand)(f:AX):Prop:=cx f0=some f\/cxk f0=some f
theorem a_rvf{σ:St}{a:Act}{g:G}{lb:Nat->Nat}(T:Tm g lb σ.ls σ.t a.tmps){x:Operand}{ax:AX}(hx:Cf x ax){y:AV}(h:σ.a ax=some y):RV g y (a.eval x):=by
 rcases hx with hx|hx
 ·exact zii T hx h
 ·unfold cxk at hx
  split at hx
  ·rename_i k
   cases hx;have h:some (AV.fk k)=some y:=h
   cases h;exact .fk k
  ·cases hx
theorem cak_inv{esc own:List Nat}{o:Oper}{k:AK}(hc:cak P esc own o=some k):
  (∃x ax,o.op = .panic x/\cx x=some ax/\k = .pan ax)\/(∃f0 args0 ats f args,o.op = .call { callee:=.value f0,args:=args0,argTypes:=ats } /\ Cf f0 f/\Cxs args0.toList args/\(k = .call f args\/∃bs,k = .callW f args bs))\/(∃op,copA P esc own o=some op/\(k = .o op\/k = .fo op))\/∃t e x ty ax,o.op = .binOp .eql t x (.const (.slice none 0 0)) ty/\P.underlying t=some (.slice e)/\cx x=some ax/\k = .isn ax:=by
 unfold cak at hc
 split at hc
 ·rename_i x ho
  obtain⟨ax,hx,rfl⟩:=map_some hc;exact .inl ⟨x,ax,ho,hx,rfl⟩
 ·rename_i t x ty ho
  split at hc
  ·rename_i e hel
   obtain⟨ax,hx,rfl⟩:=map_some hc;refine .inr (.inr (.inr ⟨t,e,x,ty,ax,ho,?_,hx,rfl⟩));unfold zbf at hel
   split at hel
   ·cases hel;assumption
   ·cases hel
  ·cases hc
 ·rename_i f l ts ho
  split at hc
  ·rename_i f' l' h1 h2
   cases hc;refine .inr (.inl ⟨f,l,ts,f',l',ho,(by split at h1;exact .inr h1;exact .inl h1),?_,?_⟩)
   ·split at h2
    ·exact .inr (.inr ⟨_,h2⟩)
    ·split at h2
     ·exact .inr (.inl h2)
     ·exact .inl h2
   split
   ·exact .inr ⟨_,rfl⟩
   ·exact .inl rfl
  ·cases hc
 ·obtain⟨op,hop,rfl⟩:=map_some hc
  refine .inr (.inr (.inl ⟨op,hop,?_⟩))
  split
  ·exact .inr rfl
  ·exact .inl rfl
theorem yf9{σ:St}{g:G}{w:World}(s:Sat g σ.h w){b:AV}{fs:List (List AV)}(he:elems σ b=some fs){v:Value}(hr:RV g b v):∃A n c,v = .slice A n c/\(fs≠[]->A.isNone=false):=by
 unfold elems at he
 split at he
 ·cases he
  cases hr with
  |sl0 A c=>exact⟨_,_,_,rfl,fun h=>absurd rfl h⟩
  |sl f hl hn hnc hz ho hf hr=>exact⟨_,_,_,rfl,fun _=>rfl⟩
 ·cases he;cases hr;exact⟨_,_,_,rfl,fun h=>absurd rfl h⟩
 ·split at he
  ·rename_i id ver v0 sz es hh
   split at he
   ·rename_i hv
    subst hv;cases he
    cases hr with
    |ol hd=>
     rcases s.obj _ _ hh with⟨h3,h4⟩|⟨b',cap,c',t',l1,l2,h3,_⟩
     ·exact⟨_,_,_,rfl,fun h=>absurd h3 h⟩
     ·rw[hd]at h3;cases h3;exact⟨_,_,_,rfl,fun _=>rfl⟩
   ·cases he
  ·cases he
 ·cases he;cases hr;exact⟨_,_,_,rfl,fun h=>absurd rfl h⟩
 ·split at he
  ·split at he
   ·rename_i hc
    cases he
    cases hr with
    |ov hd ha hn=>
     refine⟨_,_,_,rfl,fun h=>?_⟩
     rcases ha with rfl|⟨b,_,rfl⟩
     ·exact absurd (List.eq_nil_of_length_eq_zero (by rw[List.length_drop,List.length_take];omega)) h
     ·rfl
   ·cases he
  ·cases he
 ·cases he
theorem zyg{ro:Option Nat}{esc own:List Nat}{ops:Array Oper}{o:Oper}{i:AI}(hc:cak P esc own o=some i.k)(hd:i.d=o.dst){k:St->Prop}{Q:Out->St->Prop}{σ:St}(hr:zwi (CC P) i k Q σ)
  {g0 g:G} {h0:List AO} {w0 w:World} {lb:Nat->Nat} {a:Act} (s:Sim P ro g0 h0 w0 g lb σ a w) {K:Act->World->Prop} (hK:∀σ' g' lb' a' w',k σ' -> Sim P ro g0 h0 w0 g' lb' σ' a' w' -> K a' w') :
  o.wpIn (Wf ro) 0 P a w K (Lift P ro g0 h0 w0 Q):=by
 refine⟨fun _ _=>trivial,?_⟩
 rcases cak_inv hc with⟨x,ax,ho,hx,hk⟩|⟨f0,args0,ats,f,args,ho,hf,hargs,hk⟩|⟨op,hop,hk⟩|⟨t,e,x,ty,ax,ho,hu,hx,hk⟩
 ·rw[zt3 (fun c e=>by rw[ho]at e;cases e)]
  unfold zwi at hr;rw[hk]at hr;dsimp only at hr
  split at hr
  ·rename_i t v hv
   have h1:=zii s.tm hx hv;generalize hgx:a.eval x=xv at h1
   cases h1 with
   |iface h1=>
    rename_i u;have:(execOp a.eval o).run P w = .halt (.panic (.iface t u)) w:=by simp[execOp,ho,hgx,Instr.panic,goPanic,Sem.run]
    rw[this];exact⟨.pan (.iface t v),σ,g,lb,⟨_,rfl,.iface h1⟩,s,hr⟩
  ·exact hr.elim
 ·rw[zt3 (fun c e=>by rw[ho]at e;cases e)]
  have hr:(match σ.a f,σ.as args with
    |some c,some asz=>CC P c asz σ.h (yj6 k Q i.d σ)
    |_,_=>False):=by
   unfold zwi at hr;rcases hk with hk|⟨bs,hk⟩ <;> rw[hk]at hr <;> exact hr
  split at hr
  ·rename_i c asz hcv has
   have h1:=a_rvf s.tm hf hcv;have h2:=as_rvsx s.tm hargs has;generalize hgf:a.eval f0=fv at h1;unfold CC at hr;have cont:∀{e:Ending} {w':World},Behind g σ.h w (yj6 k Q i.d σ) e w' -> (match e,w' with
     |.returned v,w''=>K (a.put o.dst v) w''
     |.panicked chain,w''=>Lift P ro g0 h0 w0 Q (.panic chain) a w''
     |.outgrown,_=>LetsOut (Lift P ro g0 h0 w0 Q)):=by
    rintro e w' ⟨g',res,H',h3,h4,h5,h6,h7⟩
    have s1:Sim P ro g0 h0 w0 g' lb { σ with h:=H' } a w':=⟨s.mid.step h4 h3,s.tm.mono (ls':=σ.ls) (h:=[]) (h':=[]) ⟨h3.le,fun _ _=>rfl,fun _ h=>h,fun _ _ _ h=>h⟩,s.df.mono h3.le h6,s.rk.trans h6,s.cm⟩
    cases res with
    |ret y=>
     obtain⟨v,rfl,h8⟩:=h5;rw[<- hd];exact hK _ g' lb _ _ h7 (s1.put i.d h8 fun k off e=>by cases e)
    |pan y=>
     obtain⟨v,rfl,h8⟩:=h5;exact⟨.pan y,_,g',lb,⟨v,rfl,h8⟩,s1,h7⟩
   split at hr
   ·rename_i kf first cap
    cases h1 with
    |fn h8 h9 h10 h11=>
     rename_i vf vc;obtain⟨hent,hcalls⟩:=hr;have hargsR:RVs g (first++asz++cap) ((vf.toList++args0.toList.map a.eval)++vc.toList):=by
      refine RVs.append (RVs.append ⟨by simpa using h8,fun i a v ha hv=>h10 i a v ha (by simpa using hv)⟩ h2) ⟨by simpa using h9,fun i a v ha hv=>h11 i a v ha (by simpa using hv)⟩
     have hcall:=hcalls g w _ s.gcm s.mid.sat hargsR;have e1:((vf.toList++args0.toList.map a.eval)++vc.toList).toArray=vf++args0.map a.eval++vc:=by
      apply Array.ext';simp
     rw[e1]at hcall;have:(execOp a.eval o).run P w = .ok (.enter kf (vf++args0.map a.eval++vc)) w:=by
      simp[execOp,ho,resolve,Deferred.ofValue,hgf,invoke,hent]
     rw[this];exact⟨fun h=>by simp[Wf,Fence.wide]at h,(zui hcall).mono fun e w' hb=>by have:=cont hb;cases e <;> exact this⟩
   ·rename_i l
    cases h1 with
    |yd hb=>
     rename_i lb0;obtain⟨f',tmps,asg,body,h12,h13⟩:=hr g w _ lb0 s.gcm s.mid.sat h2 hb;have e1:(args0.toList.map a.eval).toArray=args0.map a.eval:=by apply Array.ext';simp
     rw[e1]at h12;have:(execOp a.eval o).run P w = .ok (.round lb0 f' tmps asg body) w:=by
      simp[execOp,ho,resolve,Deferred.ofValue,hgf,invoke,h12]
     rw[this];refine⟨fun h=>by simp[Wf,Fence.wide]at h,?_⟩
     have h14:RoundIn (Wf ro) (0 - 1) P lb0 f' tmps asg body w (Behind g σ.h w (yj6 k Q i.d σ)):=by
      cases ro with
      |none=>exact h13
      |some l0=>exact h13
     exact h14.mono fun e w' hb=>by have:=cont hb;cases e <;> exact this
   ·rename_i kf
    cases h1 with
    |fk=>
     obtain⟨hent,hcalls⟩:=hr;have hcall:=hcalls g w _ s.gcm s.mid.sat h2;have e1:(args0.toList.map a.eval).toArray=args0.map a.eval:=by apply Array.ext';simp
     rw[e1]at hcall;have:(execOp a.eval o).run P w = .ok (.enter kf (args0.map a.eval)) w:=by
      simp[execOp,ho,resolve,Deferred.ofValue,hgf,invoke,hent]
     rw[this];exact⟨fun h=>by simp[Wf,Fence.wide]at h,(zui hcall).mono fun e w' hb=>by have:=cont hb;cases e <;> exact this⟩
   ·exact hr.elim
  ·exact hr.elim
 ·rw[zt3 (yd6 hop)]
  unfold zwi at hr;rcases hk with hk|hk
  ·rw[hk]at hr
   dsimp only at hr
   split at hr
   ·rename_i x σ1 he
    rw[hd]at he hr;obtain⟨v,w',h1,g',lb',h2⟩:=evo_sim hop he s;rcases h1 with h1|⟨h1,rfl⟩
    ·rw[h1];exact hK _ g' lb' _ _ hr h2
    ·rw[h1];exact hK _ g' lb' _ _ hr h2
   ·exact hr.elim
  ·rw[hk]at hr
   dsimp only at hr
   split at hr
   ·rename_i x σ1 he
    rw[hd]at he hr;obtain⟨v,w',g',lb',h1,h2,h3,h4,h5,h6,h7⟩:=yjt hop he g0 h0 w0 g lb a w s.mid s.tm;obtain⟨g2,k1,k2⟩:=ydh h2.sat (show RV g' x v from h4) (show zxm 0 x σ1.h=((zxm 0 x σ1.h).1,(zxm 0 x σ1.h).2) from rfl)
    have rk:=RawK.of h3.raw;have rk2:=RawK.of k1.raw;have s1:Sim P ro g0 h0 w0 g2 lb' { σ1 with h:=(zxm 0 x σ1.h).2 } a w' :=
     ⟨h2.step k1.sat k1.ev,by rw[h6];exact (s.tm.mono h3).mono (ls':=σ1.ls) (h:=σ1.h) (h':=σ1.h) ⟨k1.ev.le,fun _ _=>rfl,fun _ h=>h,fun _ _ _ h=>h⟩,by rw[h7];exact (s.df.mono h3.le rk).mono k1.ev.le rk2,(s.rk.trans rk).trans rk2,s.cm⟩
    have s2:=s1.put o.dst (x:=.v (zxm 0 x σ1.h).1) (v:=v) k2 (fun k off e=>by cases e)
    rcases h1 with h1|⟨h1,rfl⟩
    ·rw[h1];exact hK _ g2 lb' _ _ hr s2
    ·rw[h1];exact hK _ g2 lb' _ _ hr s2
   ·exact hr.elim
 ·rw[zt3 (fun c e=>by rw[ho]at e;cases e)]
  unfold zwi at hr;rw[hk]at hr;dsimp only at hr
  split at hr
  ·rename_i y hy
   have h1:=zii s.tm hx hy;have run:∀{es:List (List AV)},elems σ y=some es->∃b:Bool,(es≠[]->b=false)/\(execOp a.eval o).run P w = .ok (.value (.bool b)) w:=by
    intro es he;obtain⟨A,n,c,hv,hA⟩:=yf9 s.mid.sat he h1;refine⟨A.isNone,hA,zbb (s:=do eqGuard .eql t x (.const (.slice none 0 0)) (.slice A n c) (.slice none 0 0);binOp .eql t (.slice A n c) (.slice none 0 0)) ?_ ?_⟩
    ·simp only[execOp,ho,hv];rfl
    ·have hg:(eqGuard .eql t x (.const (.slice none 0 0)) (.slice A n c) (.slice none 0 0)).run P w = .ok () w:=by simp[eqGuard]
     have hq:(Op.equal t (.slice A n c) (.slice none 0 0)).run P w = .ok A.isNone w:=by
      have key:∀d:Nat,(Op.equalIn (d+1) t (.slice A n c) (.slice none 0 0)).run P w = .ok A.isNone w:=fun d=>by cases A <;> simp[Op.equalIn,run_underlying hu]
      exact key 9999
     have hb:binOp .eql t (.slice A n c) (.slice none 0 0)=(do pure (.bool (<- Op.equal t (.slice A n c) (.slice none 0 0)))):=rfl;rw[hb];simp only[Sem.run_bind,hg,Result.andThen_ok,hq];rfl
   split at hr
   ·rename_i he
    obtain⟨b,_,h2⟩:=run he;rw[h2];exact hK _ g lb _ _ (hr b) (by rw[hd];exact s.put o.dst (x:=.v (.bool b)) (v:=.bool b) (.bool b) (fun k off e=>by cases e))
   ·rename_i e es he
    obtain⟨b,hb,h2⟩:=run he;rw[h2,hb (by simp)]
    exact hK _ g lb _ _ hr (by rw[hd];exact s.put o.dst (x:=.v (.bool false)) (v:=.bool false) (.bool false) (fun k off e=>by cases e))
   ·exact hr.elim
  ·exact hr.elim
end Go.Ab
set_option linter.unusedVariables false
set_option linter.unusedSimpArgs false
namespace Go.Ab
open Go.RowKit
variable {P : Program} {ro : Option Nat}
theorem Sim.same{g0 g:G}{h0:List AO}{w0 w:World}{lb:Nat->Nat}{σ:St}{a:Act}(s:Sim P ro g0 h0 w0 g lb σ a w){j:Nat}{x:TV}(h:tg j σ.t.l=x):Sim P ro g0 h0 w0 g lb { σ with t:=σ.t.set j x } a w:=by
 have key:∀i,tg i (σ.t.set j x).l=tg i σ.t.l:=fun i=>by
  unfold Ts.set
  split
  ·dsimp only
   rw[zj1]
   split
   ·rename_i e;subst e;exact h.symm
   ·rfl
  ·rfl
 have kn:(σ.t.set j x).n=σ.t.n:=by unfold Ts.set;split <;> rfl
 exact⟨s.mid,⟨kn.trans s.tm.len,fun i=>by rw[key];exact s.tm.at_ i,fun i d off hi=>s.tm.live i d off (by rw[<- key];exact hi)⟩,s.df,s.rk,s.cm⟩
theorem zoi{ops:Array Oper}{g:G}{lb:Nat->Nat}{ls:List (Nat×List AV)}{t:Ts}{tmps:Array Value}(T:Tm g lb ls t tmps){jj d:Nat}{p:Oper}(hp:ops[jj]?=some p)(hd:p.dst=some d){b:Bool}(hb:tg d t.l = .v (.bool b)):yielded ops tmps jj=some b:=by
 have h1:=T.at_ d;rw[hb]at h1;have h3:RV g (.bool b) (tmps.getD d undef):=h1;generalize hvv:tmps.getD d undef=vv at h3;cases h3;have h4:tmps[d]?=some (.bool b):=by
  rw[Array.getD_eq_getD_getElem?]at hvv
  cases hx:tmps[d]? with
  |none=>rw[hx]at hvv;cases hvv
  |some y=>rw[hx]at hvv;simp at hvv;rw[hvv]
 unfold yielded;rw[hp];simp only[Option.bind_some,hd,h4]
theorem zun{ops:Array Oper}{g:G}{lb:Nat->Nat}{ls:List (Nat×List AV)}{t:Ts}{tmps:Array Value}(T:Tm g lb ls t tmps){jj d:Nat}{p:Oper}(hp:ops[jj]?=some p)(hd:p.dst=some d)(hb:tg d t.l = .und):yielded ops tmps jj=none:=by
 have h1:=T.at_ d;rw[hb]at h1;have h3:tmps.getD d undef=undef:=h1;unfold yielded;rw[hp];simp only[Option.bind_some,hd];rw[Array.getD_eq_getD_getElem?]at h3
 cases hx:tmps[d]? with
 |none=>rfl
 |some y=>rw[hx]at h3;simp at h3;rw[h3];rfl
theorem runG_ok{ro:Option Nat}{esc own:List Nat}{dr:Bool}{ops:Array Oper}{o:Oper}{i:AI}(hc:cai P esc own dr ops o=some i){j:Nat}(hj:ops[j]?=some o){k:St->Prop}{Q:Out->St->Prop}{σ:St}(hr:runG (CC P) i k Q σ)
  {g0 g:G} {h0:List AO} {w0 w:World} {lb:Nat->Nat} {a:Act} (s:Sim P ro g0 h0 w0 g lb σ a w) {K:Act->World->Prop} (hK:∀σ' g' lb' a' w',k σ' -> Sim P ro g0 h0 w0 g' lb' σ' a' w' -> K a' w') :
  wpOpIn (Wf ro) 0 P ops (Lift P ro g0 h0 w0 Q) j K a w:=by
 unfold cai at hc
 split at hc
 ·rename_i ak gg hak hgg
  cases hc;unfold wpOpIn
  rw[hj];dsimp only;unfold runG at hr;unfold z40 at hgg
  cases hgd:o.guard with
  |none=>
   rw[hgd]at hgg;cases hgg;have hw:Region.wanted o (yielded ops a.tmps)=true:=by simp[Region.wanted,hgd]
   rw[if_pos hw];exact zyg (ops:=ops) (esc:=esc) (own:=own) (o:=o) (i:=⟨o.dst,ak,none,_⟩) hak rfl hr s hK
  |some jw=>
   obtain⟨jj,w'⟩:=jw;rw[hgd]at hgg;dsimp only at hgg
   split at hgg
   ·rename_i p hp
    split at hgg
    ·rename_i d hd
     cases hgg;dsimp only at hr
     split at hr
     ·rename_i b hb
      have hy:=zoi (ops:=ops) s.tm hp hd hb;by_cases e:b=w'
      ·subst e
       rw[if_pos rfl]at hr;have hw:Region.wanted o (yielded ops a.tmps)=true:=by simp[Region.wanted,hgd,hy]
       rw[if_pos hw];exact zyg (ops:=ops) (esc:=esc) (own:=own) (o:=o) (i:=⟨o.dst,ak,_,_⟩) hak rfl hr (s.same hb) hK
      ·rw[if_neg e]at hr
       have hw:¬ Region.wanted o (yielded ops a.tmps)=true:=by simp[Region.wanted,hgd,hy,e]
       rw[if_neg hw];have eb:b = !w':=by cases b <;> cases w' <;> simp_all
       exact⟨fun _ _=>trivial,hK _ g lb _ _ hr ((s.same (eb ▸ hb)).put o.dst rfl fun _ _ e=>by cases e)⟩
     ·rename_i hb
      have hy:=zun (ops:=ops) s.tm hp hd hb;have hw:¬ Region.wanted o (yielded ops a.tmps)=true:=by simp[Region.wanted,hgd,hy]
      rw[if_neg hw];exact⟨fun _ _=>trivial,hK _ g lb _ _ hr (s.put o.dst rfl fun _ _ e=>by cases e)⟩
     ·exact hr.elim
    ·cases hgg
   ·cases hgg
 ·cases hc
structure Comp (P:Program) (esc own:List Nat) (dr:Bool) (ops:Array Oper) (is:List AI):Prop where
 len:is.length=ops.size
 at_:∀(i:Nat) (o:Oper) (x:AI),ops[i]?=some o->is[i]?=some x->cai P esc own dr ops o=some x
theorem yib{CC:zee}{i:AI}{r:List AI}{Q:Out->St->Prop}{σ:St}(h:awr CC (i::r) Q σ):runG CC i (awr CC r Q) Q σ:=h
theorem ykk{ro:Option Nat}{esc own:List Nat}{dr:Bool}{ops:Array Oper}{is:List AI}(hc:Comp P esc own dr ops is){Q:Out->St->Prop}{g0:G}{h0:List AO}{w0:World}:
  ∀(r:List AI) (k n:Nat),k+r.length=n->is.drop k=r->∀(σ:St) (g:G) (lb:Nat->Nat) (a:Act) (w:World),awr (CC P) r Q σ->Sim P ro g0 h0 w0 g lb σ a w ->
   wpOpsIn (Wf ro) 0 P ops (Lift P ro g0 h0 w0 Q) (List.range' k r.length) a w
 |[],k,n,hn,hd,σ,g,lb,a,w,h,s=>⟨.normal,σ,g,lb,rfl,s,h⟩
 |i::r,k,n,hn,hd,σ,g,lb,a,w,h,s=>by
  have hi:is[k]?=some i:=by have:=congrArg (·[0]?) hd;simpa using this
  have hk:k<ops.size:=by rw[<- hc.len];exact (List.getElem?_eq_some_iff.1 hi).1
  have ho:=Array.getElem?_eq_getElem hk;have e:List.range' k (i::r).length=k::List.range' (k+1) r.length:=by simp[List.range'_succ]
  rw[e,wpOpsIn_cons];refine runG_ok (hc.at_ k _ i ho hi) ho (yib h) s fun σ' g' lb' a' w' hq s'=>?_
  refine ykk hc r (k+1) n (by simp at hn;omega) ?_ σ' g' lb' a' w' hq s'
  have:is.drop (k+1)=(is.drop k).drop 1:=by rw[List.drop_drop]
  rw[this,hd];rfl
 termination_by r=>r.length
theorem reg_ok{ro:Option Nat}{esc own:List Nat}{dr:Bool}{id:Nat}{ops:Array Oper}{is:List AI}(hc:Comp P esc own dr ops is){Q:Out->St->Prop}{g0:G}{h0:List AO}{w0:World}{σ:St}{g:G}{lb:Nat->Nat}{a:Act}{w:World}
  (h:awr (CC P) is Q σ) (s:Sim P ro g0 h0 w0 g lb σ a w):(Code.region id ops false).wpIn (Wf ro) 0 P (Lift P ro g0 h0 w0 Q) a w:=by
 refine wpIn_region ?_;have:=ykk (ro:=ro) hc is 0 _ rfl rfl σ g lb a w h s;rw[hc.len]at this
 rwa [List.range_eq_range']
theorem ya1{esc own:List Nat}{ops:Array Oper}{is:List AI}(hc:Comp P esc own true ops is)(listed:Array Bool):Region.ready .any ops listed=rdy is listed:=by
 unfold Region.ready rdy;rw[<- hc.len];apply List.filter_congr;intro i hi;have hi1:i<is.length:=List.mem_range.1 hi;have hi2:i<ops.size:=by rw[<- hc.len];exact hi1
 have h1:=Array.getElem?_eq_getElem hi2;have h2:=List.getElem?_eq_getElem hi1;rw[h1,h2];have h3:=hc.at_ i _ _ h1 h2;unfold cai at h3
 split at h3
 ·have h4:is[i].af=(ops[i].after.toList.filter (Region.binds .any)).map (·.on):=by
   have:=congrArg (Option.map AI.af) h3;simpa using this.symm
  simp only[Option.map_some,Option.getD_some];rw[h4,List.all_map,List.all_filter]
  congr 1
  rw[<- Array.all_toList];rfl
 ·cases h3
theorem Eqv.sim{σ τ:St}(k:Eqv σ τ){g0 g:G}{h0:List AO}{w0 w:World}{lb:Nat->Nat}{a:Act}(s:Sim P ro g0 h0 w0 g lb σ a w):Sim P ro g0 h0 w0 g lb τ a w:=by
 obtain⟨⟨l,m,e⟩,t,d,r,cm⟩:=s;have kl:∀{d cs},zb5 d τ.ls=some cs->zb5 d σ.ls=some cs:=fun h=>(k.ls _).trans h
 refine⟨⟨⟨fun d cs h=>l.ok d cs (kl h),fun d cs h=>l.new d cs (kl h),fun d cs h=>?_,fun d cs h=>l.fz d cs (kl h),fun d cs h=>l.fm d cs (kl h),fun d d' cs cs' h h'=>l.inj d d' cs cs' (kl h) (kl h')⟩,k.h ▸ m,k.h ▸ e⟩,⟨k.n ▸ t.len,fun i=>k.t i ▸ t.at_ i,fun i d off h=>?_⟩,?_,k.h ▸ r,cm⟩
 ·rw[<- k.h];exact l.own d cs (kl h)
 ·rw[<- k.ls];exact t.live i d off ((k.t i).trans h)
 ·rw[<- k.h,<- k.ds];exact d
theorem z1b{i:AI}{σ σ':St}(h:z1c (CC P) i σ σ'){k:St->Prop}{Q:Out->St->Prop}(hk:k σ'):zwi (CC P) i k Q σ:=by
 obtain⟨d,ak,g,af⟩:=i;unfold z1c at h;unfold zwi
 cases ak with
 |o op=>obtain⟨x,σ1,h1,rfl⟩:=h;dsimp only at h1 ⊢;rw[h1];exact hk
 |fo op=>exact h.elim
 |call f args=>
  obtain⟨c,asz,v,h1,h2,h3,rfl⟩:=h;dsimp only;rw[h1,h2];exact CC.mono (fun r H' e=>by obtain⟨rfl,rfl⟩:=e;exact hk) h3
 |callW f args bs=>
  obtain⟨c,asz,v,h,h1,h2,h3,_,rfl⟩:=h;dsimp only;rw[h1,h2];exact CC.mono (fun r H' e=>by obtain⟨rfl,rfl⟩:=e;exact hk) h3
 |pan x=>exact h.elim
 |isn x=>exact h.elim
theorem Eqv.same(σ:St){j:Nat}{x:TV}(h:tg j σ.t.l=x):Eqv σ { σ with t:=σ.t.set j x }:=by
 refine⟨?_,fun i=>?_,fun _=>rfl,rfl,rfl⟩
 ·show σ.t.n=(σ.t.set j x).n
  unfold Ts.set;split <;> rfl
 ·show tg i σ.t.l=tg i (σ.t.set j x).l
  unfold Ts.set
  split
  ·dsimp only
   rw[zj1]
   split
   ·rename_i e;subst e;exact h
   ·rfl
  ·rfl
theorem yf6{ro:Option Nat}{esc own:List Nat}{dr:Bool}{ops:Array Oper}{o:Oper}{i:AI}(hc:cai P esc own dr ops o=some i){j:Nat}(hj:ops[j]?=some o){σ σ':St}(hr:zwh (CC P) i σ σ')
  {g0 g:G} {h0:List AO} {w0 w:World} {lb:Nat->Nat} {a:Act} (s:Sim P ro g0 h0 w0 g lb σ a w) {Q:Out->St->Prop} {K:Act->World->Prop} (hK:∀g' lb' a' w',Sim P ro g0 h0 w0 g' lb' σ' a' w' -> K a' w') :
  wpOpIn (Wf ro) 0 P ops (Lift P ro g0 h0 w0 Q) j K a w:=by
 unfold cai at hc
 split at hc
 ·rename_i ak gg hak hgg
  cases hc;unfold wpOpIn
  rw[hj];dsimp only;unfold zwh at hr;unfold z40 at hgg
  cases hgd:o.guard with
  |none=>
   rw[hgd]at hgg;cases hgg;have hw:Region.wanted o (yielded ops a.tmps)=true:=by simp[Region.wanted,hgd]
   rw[if_pos hw];have hr2:=z1b hr (k:=fun τ=>τ=σ') (Q:=Q) rfl
   exact zyg (ops:=ops) (esc:=esc) (own:=own) (o:=o) hak rfl hr2 s fun τ g' lb' a' w' e s'=>hK g' lb' a' w' (e ▸ s')
  |some jw=>
   obtain⟨jj,w'⟩:=jw;rw[hgd]at hgg;dsimp only at hgg
   split at hgg
   ·rename_i p hp
    split at hgg
    ·rename_i d hd
     cases hgg;dsimp only at hr
     have skip:yielded ops a.tmps jj≠some w' -> σ' = σ.put o.dst .und->(if Region.wanted o (yielded ops a.tmps)=true then o.wpIn (Wf ro) 0 P a w K (Lift P ro g0 h0 w0 Q) else (∀f,o.about P w a.eval=some f->(Wf ro).fn f)/\K (a.put o.dst undef) w):=fun hy hr=>by
      have hw:¬ Region.wanted o (yielded ops a.tmps)=true:=by simpa [Region.wanted,hgd] using hy
      rw[if_neg hw];exact⟨fun _ _=>trivial,hK g lb _ _ (hr ▸ s.put o.dst rfl fun _ _ e=>by cases e)⟩
     rcases hr with⟨hb,hr⟩|⟨hb|hb,hr⟩
     ·have hy:=zoi (ops:=ops) s.tm hp hd hb
      have hw:Region.wanted o (yielded ops a.tmps)=true:=by simp[Region.wanted,hgd,hy]
      rw[if_pos hw];have hr2:=z1b hr (k:=fun τ=>τ=σ') (Q:=Q) rfl
      exact zyg (ops:=ops) (esc:=esc) (own:=own) (o:=o) hak rfl hr2 s fun τ g' lb' a' w' e s'=>hK g' lb' a' w' (e ▸ s')
     ·have hy:=zoi (ops:=ops) s.tm hp hd hb
      exact skip (by rw[hy];simp) hr
     ·have hy:=zun (ops:=ops) s.tm hp hd hb
      exact skip (by rw[hy];simp) hr
    ·cases hgg
   ·cases hgg
 ·cases hc
theorem z7l{ro:Option Nat}{esc own:List Nat}{ops:Array Oper}{is:List AI}(hc:Comp P esc own true ops is){Q:Out->St->Prop}{g0:G}{h0:List AO}{w0:World}:
  ∀(n:Nat) (l:Array Bool) (σ:St) (g:G) (lb:Nat->Nat) (a:Act) (w:World),zv8 (CC P) is (Q .normal) n l σ->Sim P ro g0 h0 w0 g lb σ a w ->
   wpAnyIn (Wf ro) 0 P .any ops (Lift P ro g0 h0 w0 Q) n l a w
 |0,l,σ,g,lb,a,w,h,s=>⟨by rw[ya1 hc];exact h.1,by obtain⟨τ,h1,h2⟩:=h.2;exact⟨.normal,τ,g,lb,rfl,h1.sim s,h2⟩⟩
 |n+1,l,σ,g,lb,a,w,h,s=>by
  refine⟨fun hr=>?_,fun i hi=>?_⟩
  ·obtain⟨τ,h1,h2⟩:=h.1 (by rw[<- ya1 hc];exact hr)
   exact⟨.normal,τ,g,lb,rfl,h1.sim s,h2⟩
  ·rw[ya1 hc]at hi
   have hi1:i<is.length:=by unfold rdy at hi;exact List.mem_range.1 (List.mem_filter.1 hi).1
   have hi2:i<ops.size:=by rw[<- hc.len];exact hi1
   have h1:=Array.getElem?_eq_getElem hi2;have h2:=List.getElem?_eq_getElem hi1;obtain⟨σ',h3,h4⟩:=h.2 i hi _ h2;exact yf6 (hc.at_ i _ _ h1 h2) h1 h3 s fun g' lb' a' w' s'=>z7l hc n _ σ' g' lb' a' w' h4 s'
theorem Sim.drew{g0 g:G}{h0:List AO}{w0 w:World}{lb:Nat->Nat}{σ:St}{a:Act}(s:Sim P ro g0 h0 w0 g lb σ a w):Sim P ro g0 h0 w0 g lb σ a { w with drawn:=w.drawn+1 }:=by
 refine⟨s.mid.step (w':={ w with drawn:=w.drawn+1 }) (s.mid.sat.heap fun _ _ _=>rfl) ?_,s.tm,s.df,s.rk,s.cm⟩
 exact⟨.refl g,Nat.le_refl _,Nat.le_refl _,rfl,rfl,rfl,fun _ _ _=>rfl,fun _ h=>.inl h,fun _ _ h=>.inl h,fun _ h=>.inl h⟩
theorem dreg_ok{ro:Option Nat}{esc own:List Nat}{id:Nat}{ops:Array Oper}{is:List AI}(hm:P.follows .mixedOrders=true)(hc:Comp P esc own true ops is){Q:Out->St->Prop}{g0:G}{h0:List AO}{w0:World}{σ:St}{g:G}{lb:Nat->Nat}{a:Act}{w:World}
  (h:z3t σ->zv8 (CC P) is (Q .normal) is.length (Array.replicate is.length false) σ) (s:Sim P ro g0 h0 w0 g lb σ a w):(Code.region id ops true).wpIn (Wf ro) 0 P (Lift P ro g0 h0 w0 Q) a w:=by
 refine wpIn_region_any hm ?_;rw[<- hc.len];exact z7l hc _ _ σ g lb a _ (h s.tm.live) s.drew
end Go.Ab
set_option linter.unusedVariables false
set_option linter.unusedSimpArgs false
namespace Go.Ab
open Go.RowKit
variable {P : Program} {ro : Option Nat}
def ztp(K:St->Prop)(Q:Out->St->Prop):Out->St->Prop
 |.normal,σ=>K σ
 |o,σ=>Q o σ
def blk(id:Nat)(Q:Out->St->Prop):Out->St->Prop
 |.exit i,σ=>if i=id then Q .normal σ else Q (.exit i) σ
 |o,σ=>Q o σ
structure Wk (σ τ:St):Prop where
 t:τ.t.n=σ.t.n/\∀(i:Nat),tg i τ.t.l = .junk\/tg i τ.t.l=tg i σ.t.l
 ls:∀d cs,zb5 d τ.ls=some cs->zb5 d σ.ls=some cs
 live:∀(i d off:Nat),tg i τ.t.l = .lp d off->zb5 d τ.ls≠none
 h:τ.h=σ.h
 ds:τ.ds=σ.ds
theorem Wk.sim{σ τ:St}(k:Wk σ τ){g0 g:G}{h0:List AO}{w0 w:World}{lb:Nat->Nat}{a:Act}(s:Sim P ro g0 h0 w0 g lb σ a w):Sim P ro g0 h0 w0 g lb τ a w:=by
 obtain⟨⟨l,m,e⟩,t,d,r,cm⟩:=s;refine⟨⟨⟨fun d cs h=>l.ok d cs (k.ls d cs h),fun d cs h=>l.new d cs (k.ls d cs h),fun d cs h=>?_,fun d cs h=>l.fz d cs (k.ls d cs h),fun d cs h=>l.fm d cs (k.ls d cs h),fun d d' cs cs' h h'=>l.inj d d' cs cs' (k.ls d cs h) (k.ls d' cs' h')⟩,k.h ▸ m,k.h ▸ e⟩,⟨by rw[k.t.1,t.len],fun i=>?_,k.live⟩,?_,k.h ▸ r,cm⟩
 ·rw[k.h];exact l.own d cs (k.ls d cs h)
 ·rcases k.t.2 i with h|h
  ·rw[h];trivial
  ·rw[h];exact t.at_ i
 ·rw[k.h,k.ds];exact d
def Jmp.out:Jmp->Out
 |.ret=>.ret
 |.exit i=>.exit i
def rfK(Q:Out->St->Prop)(σ:St)(id:Nat)(ds:List Nat):Res->List AO->Prop
 |.pan v,h=>Q (.pan v) { σ with h:=h,ds:=ds }
 |.ret _,h=>match h[id]? with
  |some (.slp .ready _ _ _ _ _)=>Q .normal { σ with h:=h.set id .dead,ds:=ds }
  |some (.slp (.done j) _ _ _ _ _)=>Q j.out { σ with h:=h.set id .dead,ds:=ds }
  |_=>False
def rfP(CC:zee)(f:AX)(ps:List Nat)(asg body:AC)(Q:Out->St->Prop)(σ:St):Prop :=
 ∃(fa fb:FC) (t:List (Nat×AV)) (c:AV),fa.ac=asg/\fb.ac=body/\(∀p∈t,tg p.1 σ.t.l = .v p.2)/\σ.a f=some c/\(∃k first cap,c = .fn (.func k) first cap) /\
  ((∃i o,σ.ds=[i]/\σ.h[i]?=some o/\o.kd=2/\CC c [.yd σ.h.length] (σ.h++[.slp .ready σ.t.n t ps fa fb]) (rfK Q σ σ.h.length σ.ds)) \/
   ((∀i∈σ.ds,σ.h[i]?=some .dfr)/\CC c [.yd (σ.h.length+1)] (σ.h++[.dfr,.slp .ready σ.t.n t ps fa fb]) (rfK Q σ (σ.h.length+1) (σ.h.length::σ.ds))))
def awp(CC:zee):AC->(Out->St->Prop)->St->Prop
 |.skip,Q,σ=>Q .normal σ
 |.reg is,Q,σ=>awr CC is Q σ
 |.dreg is,Q,σ=>z3t σ->zv8 CC is (Q .normal) is.length (Array.replicate is.length false) σ
 |.seq a b,Q,σ=>awp CC a (ztp (awp CC b Q) Q) σ
 |.cond x a b,Q,σ=>match σ.a x with
  |some (.bool p)=>if p=true then awp CC a Q σ else awp CC b Q σ
  |_=>False
 |.block id c,Q,σ=>awp CC c (blk id Q) σ
 |.loop c,Q,σ=>∃(ι:Type) (I:ι->St) (μ:ι->Nat) (i0:ι),Wk σ (I i0)/\∀i,awp CC c (ztp (fun σ1=>∃j,μ j<μ i/\Wk σ1 (I j)) Q) (I i)
 |.rf f ps asg body,Q,σ=>rfP CC f ps asg body Q σ
 |.exit id,Q,σ=>Q (.exit id) σ
 |.ret,Q,σ=>Q .ret σ
theorem Lift.then{g0:G}{h0:List AO}{w0:World}{K:St->Prop}{Q:Out->St->Prop}{K':Act->World->Prop}
  (hK:∀σ g lb a w,K σ->Sim P ro g0 h0 w0 g lb σ a w->K' a w) (e:Exit) (a:Act) (w:World) (h:Lift P ro g0 h0 w0 (ztp K Q) e a w):Exit.then K' (Lift P ro g0 h0 w0 Q) e a w:=by
 obtain⟨o,σ,g,lb,h1,h2,h3⟩:=h
 cases o with
 |normal=>cases (show e = .normal from h1);exact hK _ _ _ _ _ h3 h2
 |exit i=>cases (show e = .exit i from h1);exact⟨.exit i,σ,g,lb,rfl,h2,h3⟩
 |ret=>cases (show e = .ret from h1);exact⟨.ret,σ,g,lb,rfl,h2,h3⟩
 |pan v=>obtain⟨u,rfl,h4⟩:=h1;exact⟨.pan v,σ,g,lb,⟨u,rfl,h4⟩,h2,h3⟩
theorem Lift.blk{g0:G}{h0:List AO}{w0:World}{Q:Out->St->Prop}{id:Nat}(e:Exit)(a:Act)(w:World)(h:Lift P ro g0 h0 w0 (blk id Q) e a w):Exit.inBlock id (Lift P ro g0 h0 w0 Q) e a w:=by
 obtain⟨o,σ,g,lb,h1,h2,h3⟩:=h
 cases o with
 |normal=>cases (show e = .normal from h1);exact⟨.normal,σ,g,lb,rfl,h2,h3⟩
 |exit i=>
  cases (show e = .exit i from h1)
  simp only[Go.Ab.blk]at h3;by_cases hi:i=id
  ·subst hi
   rw[if_pos rfl]at h3;simp only[Exit.inBlock,if_true];exact⟨.normal,σ,g,lb,rfl,h2,h3⟩
  ·rw[if_neg hi]at h3
   simp only[Exit.inBlock,hi,if_false];exact⟨.exit i,σ,g,lb,rfl,h2,h3⟩
 |ret=>cases (show e = .ret from h1);exact⟨.ret,σ,g,lb,rfl,h2,h3⟩
 |pan v=>obtain⟨u,rfl,h4⟩:=h1;exact⟨.pan v,σ,g,lb,⟨u,rfl,h4⟩,h2,h3⟩
theorem RawK.push(h:List AO)(x:List AO):RawK h (h++x):=fun i o _ hi=>⟨o,by rw[List.getElem?_append_left (List.getElem?_eq_some_iff.1 hi).1];exact hi,rfl⟩
theorem RawK.setN{h h':List AO}(k:RawK h h'){id:Nat}(hid:h.length<=id)(x:AO):RawK h (h'.set id x):=fun i o l hi=>by
 obtain⟨o',h1,h2⟩:=k i o l hi;have:=(List.getElem?_eq_some_iff.1 hi).1;exact⟨o',by rw[List.getElem?_set_ne (by omega)];exact h1,h2⟩
theorem Mks.lt{g:G}{h:List AO}:∀{ds:List Nat} {l:List Deferred},Mks g h ds l->∀i∈ds,h[i]?=some .dfr
 |[],_,_,_,hi=>by simp at hi
 |j::ds,_,⟨b,r,e,hb,hj,k⟩,i,hi=>by
  rcases List.mem_cons.1 hi with rfl|hi
  ·exact hj
  ·exact k.lt i hi
theorem Sat.pushSlp{g:G}{h:List AO}{w:World}(s:Sat g h w)(r:Loop){n:Nat}{t:List (Nat×AV)}{ps:List Nat}{asg body:FC}(h1:r.state = .ready)(h2:r.pending=none)(h3:r.tmps.size=n)(h4:r.params.toList=ps)(h5:g.cm r.assign asg.ac)(h6:g.cm r.body body.ac)
  (h7:∀p∈t,RV g p.2 (r.tmps.getD p.1 undef)) :
  Sat (g.addBx h.length w.heap.size) (h++[.slp .ready n t ps asg body]) (w.alloc (.loop r))/\Ev g h w (g.addBx h.length w.heap.size) (h++[.slp .ready n t ps asg body]) (w.alloc (.loop r))/\(g.addBx h.length w.heap.size).bx h.length=some w.heap.size:=by
 have hp:=s.past h.length (Nat.le_refl _);have hle:=G.le_addBx (g:=g) (i:=h.length) (b:=w.heap.size) hp.1;have hb:(g.addBx h.length w.heap.size).bx h.length=some w.heap.size:=by simp[G.addBx]
 have:=s.push (g':=g.addBx h.length w.heap.size) (o:=.slp .ready n t ps asg body) hle rfl rfl (fun i hi=>by simp[G.addBx,hi]) (fun _ _=>rfl) (Wd.alloc w (.loop r) _)
  ⟨w.heap.size,r,hb,World.alloc_heap_new w _,by rw[h1,h2];rfl,h3,h4,by rw[hle.cm];exact h5,by rw[hle.cm];exact h6,fun p hp=>(h7 p hp).mono hle⟩
  (fun b h1=>by have h2:(g.addBx h.length w.heap.size).bx h.length=some b:=h1;rw[hb]at h2;injection h2 with e;omega) (fun ver sz es e=>by cases e)
 exact⟨this.1,this.2,hb⟩
theorem Sat.pushDfr{g:G}{h:List AO}{w:World}(s:Sat g h w):
  Sat (g.addBx h.length w.heap.size) (h++[.dfr]) (w.alloc (.deferred (some [])))/\Ev g h w (g.addBx h.length w.heap.size) (h++[.dfr]) (w.alloc (.deferred (some [])))/\(g.addBx h.length w.heap.size).bx h.length=some w.heap.size:=by
 have hp:=s.past h.length (Nat.le_refl _);have hle:=G.le_addBx (g:=g) (i:=h.length) (b:=w.heap.size) hp.1;have hb:(g.addBx h.length w.heap.size).bx h.length=some w.heap.size:=by simp[G.addBx]
 have:=s.push (g':=g.addBx h.length w.heap.size) (o:=.dfr) hle rfl rfl (fun i hi=>by simp[G.addBx,hi]) (fun _ _=>rfl) (Wd.alloc w (.deferred (some [])) _)
  ⟨w.heap.size,hb,World.alloc_heap_new w _⟩
  (fun b h1=>by have h2:(g.addBx h.length w.heap.size).bx h.length=some b:=h1;rw[hb]at h2;injection h2 with e;omega) (fun ver sz es e=>by cases e)
 exact⟨this.1,this.2,hb⟩
theorem z1j{g0 g:G}{h0:List AO}{w0 w:World}{lb:Nat->Nat}{Q:Out->St->Prop}{σ:St}{a a':Act}{g1:G}{h1:List AO}{w1:World}{id l:Nat}{ds:List Nat}(s:Sim P ro g0 h0 w0 g lb σ a w)(ht:a'.tmps=a.tmps)
  (ev1:Ev g σ.h w g1 h1 w1) (rk1:RawK σ.h h1) (hid:σ.h.length<=id) (hb:g1.bx id=some l)
  (hdf:∀g' h',g1.Le g' -> RawK h1 h' -> Dfs ro g' h' ds a'.defers) (hdf2:∀g' h' x,g1.Le g' -> RawK h1 h' -> Dfs ro g' (h'.set id x) ds a'.defers)
  {e:Ending} {w3:World} (hB:Behind g1 h1 w1 (rfK Q σ id ds) e w3):rangePost (Wf ro) 0 P l (Lift P ro g0 h0 w0 Q) a' e w3:=by
 obtain⟨g',res,H',h3,h4,h5,h6,h7⟩:=hB;have evT:Ev g σ.h w g' H' w3:=ev1.trans h3;have tmm:Tm g' lb σ.ls σ.t a'.tmps:=by rw[ht];exact s.tm.mono (ls':=σ.ls) (h:=[]) (h':=[]) ⟨evT.le,fun _ _=>rfl,fun _ h=>h,fun _ _ _ h=>h⟩
 have rkT:RawK σ.h H':=rk1.trans h6
 cases res with
 |pan y=>
  obtain⟨v,rfl,h8⟩:=h5;exact⟨.pan y,{ σ with h:=H',ds:=ds },g',lb,⟨v,rfl,h8⟩,⟨s.mid.step h4 evT,tmm,hdf g' H' h3.le h6,s.rk.trans rkT,s.cm⟩,h7⟩
 |ret y=>
  obtain⟨v,rfl,h8⟩:=h5;have fin:∀{st n t ps fa fb},H'[id]?=some (.slp st n t ps fa fb)->st.st.1 ≠ .busy->∃w4,(Instr.endLoop l).run P w3 = .ok st.st.2 w4/\Sim P ro g0 h0 w0 g' lb { σ with h:=H'.set id .dead,ds:=ds } a' w4:=by
   intro st n t ps fa fb hs hnb;obtain⟨b,r,k1,k2,k3,_⟩:=h4.obj _ _ hs;rw[h3.le.bx _ _ hb]at k1;cases k1;have e1:r.state=st.st.1:=congrArg Prod.fst k3;have e2:r.pending=st.st.2:=congrArg Prod.snd k3;have hr:=run_endLoop (P:=P) k2 (by rw[e1];exact hnb)
   rw[e2]at hr;obtain⟨s1,ev2⟩:=h4.upd (g':=g') (w':=w3.putObj l (.loop { r with state:=.exhausted })) (o':=.dead) hs (.refl g') rfl rfl rfl (fun _ _=>rfl) (Wd.putObj w3 l _ (h3.le.bx _ _ hb)) trivial (fun _ h=>h.elim) (fun _ _ _ h=>by cases h)
   refine⟨_,by rw[<- e2]at hr ⊢;exact hr,⟨s.mid.step s1 (evT.trans ev2),tmm,hdf2 g' H' .dead h3.le h6,?_,s.cm⟩⟩
   exact s.rk.trans (rkT.setN hid _)
  simp only[rfK]at h7
  split at h7
  ·rename_i hs
   obtain⟨w4,k1,k2⟩:=fin hs (by simp[LSt.st])
   exact⟨none,w4,k1,⟨.normal,_,g',lb,rfl,k2,h7⟩⟩
  ·rename_i j _ _ _ _ _ hs
   obtain⟨w4,k1,k2⟩:=fin hs (by simp[LSt.st])
   refine⟨some j.code,w4,k1,?_⟩
   cases j with
   |ret=>exact wpIn_ret ⟨.ret,_,g',lb,rfl,k2,h7⟩
   |exit i=>exact wpIn_exit ⟨.exit i,_,g',lb,rfl,k2,h7⟩
  ·exact h7.elim
theorem comp_of{esc own:List Nat}{dr:Bool}{ops:Array Oper}{is:List AI}(h:zj5 (cai P esc own dr ops) ops.toList=some is):Comp P esc own dr ops is:=by
 obtain⟨h1,h2⟩:=zva h;exact⟨by simpa using h1,fun i o x ho hx=>h2 i o x (by simpa using ho) hx⟩
theorem yel{ro:Option Nat}(hm:P.follows .mixedOrders=true){esc own:List Nat}{g0:G}{h0:List AO}{w0:World}:∀(c:Code) (ac:AC),zmn P esc own c=some ac->∀(Q:Out->St->Prop) (σ:St) (g:G) (lb:Nat->Nat) (a:Act) (w:World),
  awp (CC P) ac Q σ->Sim P ro g0 h0 w0 g lb σ a w->c.wpIn (Wf ro) 0 P (Lift P ro g0 h0 w0 Q) a w:=by
 intro c
 induction c with
 |skip=>intro ac hc Q σ g lb a w h s;cases hc;exact wpIn_skip ⟨.normal,σ,g,lb,rfl,s,h⟩
 |label l=>intro ac hc Q σ g lb a w h s;cases hc;exact wpIn_label ⟨.normal,σ,g,lb,rfl,s,h⟩
 |region id ops draw=>
  intro ac hc Q σ g lb a w h s;obtain⟨is,h1,h2⟩:=map_some hc;have hcomp:=comp_of h1
  cases draw with
  |true=>subst h2;exact dreg_ok hm hcomp h s
  |false=>subst h2;exact reg_ok hcomp h s
 |seq x y ihx ihy=>
  intro ac hc Q σ g lb a w h s;simp only[zmn]at hc
  split at hc
  ·rename_i ax ay h1 h2
   cases hc;exact wpIn_seq (wpIn_mono (ihx _ h1 _ σ g lb a w h s) (Lift.then fun σ' g' lb' a' w' h' s'=>ihy _ h2 _ σ' g' lb' a' w' h' s'))
  ·cases hc
 |cond x b c ihb ihc=>
  intro ac hc Q σ g lb a w h s;simp only[zmn]at hc
  split at hc
  ·rename_i ax ab' ac' h1 h2 h3
   cases hc;unfold awp at h
   split at h
   ·rename_i p hp
    have hv:=zii s.tm h1 hp;generalize hgx:a.eval x=xv at hv
    cases hv with
    |bool=>
     cases p with
     |true=>exact wpIn_cond_true hgx (ihb _ h2 _ σ g lb a w (by rw[if_pos rfl]at h;exact h) s)
     |false=>exact wpIn_cond_false hgx (ihc _ h3 _ σ g lb a w (by rw[if_neg (by simp)]at h;exact h) s)
   ·exact h.elim
  ·cases hc
 |block id c ih=>
  intro ac hc Q σ g lb a w h s;obtain⟨ac',h1,h2⟩:=map_some hc;subst h2;exact wpIn_block (wpIn_mono (ih _ h1 _ σ g lb a w h s) Lift.blk)
 |loop c ih=>
  intro ac hc Q σ g lb a w h s;obtain⟨ac',h1,h2⟩:=map_some hc;subst h2;obtain⟨ι,I,μ,i0,hw,hr⟩:=h;refine wpIn_loop_ghost (fun n a w=>∃i g lb,μ i=n/\Sim P ro g0 h0 w0 g lb (I i) a w) (μ i0) ⟨i0,g,lb,rfl,hw.sim s⟩ ?_
  rintro n a w ⟨i,g,lb,rfl,s⟩
  refine wpIn_mono (ih _ h1 _ (I i) g lb a w (hr i) s) (Lift.then fun σ' g' lb' a' w' h' s'=>?_)
  obtain⟨j,hj,hw⟩:=h';exact⟨μ j,hj,j,g',lb',rfl,hw.sim s'⟩
 |rangeFunc f ps asg body iha ihb=>
  intro ac hc Q σ g lb a w h s;simp only[zmn]at hc
  split at hc
  ·rename_i fx aa ab e1 e2 e3
   cases hc;obtain⟨fa,fb,t,c,rfl,rfl,htm,hcv,⟨k,first,cap,rfl⟩,h⟩:=h
   have ca:g.cm asg fa.ac:=by rw[s.gcm];exact⟨esc,own,e2⟩
   have cb:g.cm body fb.ac:=by rw[s.gcm];exact⟨esc,own,e3⟩
   have hv:=zii s.tm e1 hcv;generalize hgx:a.eval f=fv at hv
   cases hv with
   |fn k1 k2 k3 k4=>
    rename_i vf vc;have htr:∀p∈t,RV g p.2 (a.tmps.getD p.1 undef):=fun p hp=>by
     have:=s.tm.at_ p.1;rw[htm p hp]at this;exact this
    have args_eq:∀{b:Nat},((vf.toList++[Value.func (.yield b) #[] #[]])++vc.toList).toArray=vf ++ #[Value.func (.yield b) #[] #[]]++vc:=by
     intro b;apply Array.ext';simp
    have args:∀{g1:G} {id b:Nat},g.Le g1->g1.bx id=some b->RVs g1 (first++[.yd id]++cap) ((vf.toList++[Value.func (.yield b) #[] #[]])++vc.toList):=fun {g1 id b} hle hb=>by
     have r1:RVs g1 first vf.toList:=⟨k1.trans Array.length_toList.symm,fun i a v ha hv=>(k3 i a v ha (by simpa using hv)).mono hle⟩
     have r2:RVs g1 cap vc.toList:=⟨k2.trans Array.length_toList.symm,fun i a v ha hv=>(k4 i a v ha (by simpa using hv)).mono hle⟩
     exact (r1.append (RVs.cons (.yd hb) (.nil _))).append r2
    refine wpIn_rangeFunc fun fn hfn=>?_
    rcases h with⟨i,o,hds,hio,hkd,hcall⟩|⟨hds,hcall⟩
    ·
     have hdf:=s.df
     cases ro with
     |none=>
      rw[hds]at hdf;have:=Mks.lt hdf i (by simp)
      rw[hio]at this;cases this;simp[AO.kd]at hkd
     |some l0=>
      obtain⟨hdn,i',o',hds',hb',ho',hkd'⟩:=hdf;obtain⟨r0,hr0⟩:∃r0,w.heap[l0]?=some (.loop r0):=by
       cases o' with
       |slp st n' t' ps' a' b'=>
        obtain⟨b,r,q1,q2,_⟩:=s.mid.sat.obj _ _ ho';rw[hb']at q1;cases q1;exact⟨r,q2⟩
       |_=>simp[AO.kd]at hkd'
      obtain⟨s1,ev1,hb1⟩:=s.mid.sat.pushSlp (n:=σ.t.n) (t:=t) (ps:=ps.toList) { state:=.ready,pending:=none,fn:=fn,tmps:=a.tmps,params:=ps,assign:=asg,body:=body,defers:=r0.defers } rfl rfl s.tm.len.symm rfl ca cb htr;obtain⟨hent,hcalls⟩:=hcall;have hc1:=hcalls _ _ _ (ev1.le.cm.trans s.gcm) s1 (args ev1.le hb1);refine⟨w.heap.size,[],(w.alloc (.loop { state:=.ready,pending:=none,fn:=fn,tmps:=a.tmps,params:=ps,assign:=asg,body:=body,defers:=r0.defers })),{ target:=.fn (.func k) vc,args:=vf ++ #[.func (.yield w.heap.size) #[] #[]] },(w.alloc (.loop { state:=.ready,pending:=none,fn:=fn,tmps:=a.tmps,params:=ps,assign:=asg,body:=body,defers:=r0.defers })),k,vf ++ #[.func (.yield w.heap.size) #[] #[]]++vc,(w.alloc (.loop { state:=.ready,pending:=none,fn:=fn,tmps:=a.tmps,params:=ps,assign:=asg,body:=body,defers:=r0.defers })),run_enterLoop_inner hr0 _ _ _ _ _,?_,fun _ _=>trivial,?_,fun h=>by simp[Wf,Fence.wide]at h,?_⟩
      ·simp[resolve,hgx,Deferred.ofValue];rfl
      ·simp[invoke,hent]
      ·refine (zui (args_eq ▸ hc1)).mono fun e w3 hB=>?_
       refine z1j (a':={ a with defers:=[]++a.defers }) s rfl ev1 (.push _ _) (Nat.le_refl _) hb1 (fun g' h' hle rk=>?_) (fun g' h' x hle rk=>?_) hB
       ·exact s.df.mono (ev1.le.trans hle) ((RawK.push _ _).trans rk)
       ·exact s.df.mono (ev1.le.trans hle) (((RawK.push _ _).trans rk).setN (Nat.le_refl _) x)
    ·
     have hdf:=s.df
     cases ro with
     |some l0=>
      obtain⟨hdn,i',o',hds',hb',ho',hkd'⟩:=hdf;have:=hds i' (by rw[hds'];simp)
      rw[ho']at this;cases this;simp[AO.kd]at hkd'
     |none=>
      obtain⟨s1,ev1,hb1⟩:=s.mid.sat.pushDfr;obtain⟨s2,ev2,hb2⟩:=s1.pushSlp (n:=σ.t.n) (t:=t) (ps:=ps.toList) (asg:=fa) (body:=fb) { state:=.ready,pending:=none,fn:=fn,tmps:=a.tmps,params:=ps,assign:=asg,body:=body,defers:=w.heap.size } rfl rfl s.tm.len.symm rfl
       (by rw[ev1.le.cm];exact ca) (by rw[ev1.le.cm];exact cb) (fun p hp=>(htr p hp).mono ev1.le)
      have evT:=ev1.trans ev2;have eH:σ.h++[.dfr]++[.slp .ready σ.t.n t ps.toList fa fb]=σ.h++[.dfr,.slp .ready σ.t.n t ps.toList fa fb]:=by simp
      have eL:(σ.h++[AO.dfr]).length=σ.h.length+1:=by simp
      have eW:(w.alloc (.deferred (some []))).heap.size=w.heap.size+1:=World.size_alloc ..;rw[eH]at s2 evT;rw[eL,eW]at hb2 s2 evT;obtain⟨hent,hcalls⟩:=hcall;have hc1:=hcalls _ _ _ (evT.le.cm.trans s.gcm) s2 (args evT.le hb2);refine⟨w.heap.size+1,[{ target:=.collected w.heap.size,args:=#[] }],((w.alloc (.deferred (some []))).alloc (.loop { state:=.ready,pending:=none,fn:=fn,tmps:=a.tmps,params:=ps,assign:=asg,body:=body,defers:=w.heap.size })),{ target:=.fn (.func k) vc,args:=vf ++ #[.func (.yield (w.heap.size+1)) #[] #[]] },((w.alloc (.deferred (some []))).alloc (.loop { state:=.ready,pending:=none,fn:=fn,tmps:=a.tmps,params:=ps,assign:=asg,body:=body,defers:=w.heap.size })),k,vf ++ #[.func (.yield (w.heap.size+1)) #[] #[]]++vc,((w.alloc (.deferred (some []))).alloc (.loop { state:=.ready,pending:=none,fn:=fn,tmps:=a.tmps,params:=ps,assign:=asg,body:=body,defers:=w.heap.size })),run_enterLoop_outer _ _ _ _ _,?_,fun _ _=>trivial,?_,fun h=>by simp[Wf,Fence.wide]at h,?_⟩
      ·simp[resolve,hgx,Deferred.ofValue];rfl
      ·simp[invoke,hent]
      ·refine (zui (args_eq ▸ hc1)).mono fun e w3 hB=>?_
       have hbD:∀{g':G},((g.addBx σ.h.length w.heap.size).addBx (σ.h.length+1) (w.heap.size+1)).Le g' -> g'.bx σ.h.length=some w.heap.size:=fun hle=>hle.bx _ _ (by simp[G.addBx])
       have hD:(σ.h++[AO.dfr,.slp .ready σ.t.n t ps.toList fa fb])[σ.h.length]?=some .dfr:=by simp
       refine z1j (a':={ a with defers:=[{ target:=.collected w.heap.size,args:=#[] }]++a.defers }) s rfl evT (.push _ _) (by omega) hb2 (fun g' h' hle rk=>?_) (fun g' h' x hle rk=>?_) hB
       ·exact⟨_,_,rfl,hbD hle,rk.dfr hD,s.df.mono (evT.le.trans hle) ((RawK.push _ _).trans rk)⟩
       ·exact⟨_,_,rfl,hbD hle,by rw[List.getElem?_set_ne (by omega)];exact rk.dfr hD,s.df.mono (evT.le.trans hle) (((RawK.push _ _).trans rk).setN (by omega) x)⟩
  ·cases hc
 |exit id=>intro ac hc Q σ g lb a w h s;cases hc;exact wpIn_exit ⟨.exit id,σ,g,lb,rfl,s,h⟩
 |ret=>intro ac hc Q σ g lb a w h s;cases hc;exact wpIn_ret ⟨.ret,σ,g,lb,rfl,s,h⟩
 |scope c _=>intro ac hc;cases hc
 |goto l=>intro ac hc;cases hc
 |refuse y=>intro ac hc;cases hc
end Go.Ab
set_option linter.unusedVariables false
set_option linter.unusedSimpArgs false
namespace Go.Ab
open Go.RowKit
variable {P : Program} {ro : Option Nat}
inductive Lt (n:Nat):AV->Prop
 |bool (b:Bool):Lt n (.bool b)
 |int (k:IntKind) (m:Int):Lt n (.int k m)
 |str (s:ByteArray):Lt n (.str s)
 |nilp:Lt n .nilp
 |ptr {id off:Nat} (h:id<n):Lt n (.ptr id off)
 |nils (sz:Nat):Lt n (.nils sz)
 |sl {es:List (List AV)} (h:∀a∈es.flatten,Lt n a):Lt n (.sl es)
 |ol {id ver:Nat} (h:id<n):Lt n (.ol id ver)
 |nilm:Lt n .nilm
 |fmap {es:List (AV×AV)} (hk:∀p∈es,Lt n p.1) (hv:∀p∈es,Lt n p.2):Lt n (.fmap es)
 |mp {id:Nat} (h:id<n):Lt n (.mp id)
 |fn {f:Fn} {a b:List AV} (ha:∀x∈a,Lt n x) (hb:∀x∈b,Lt n x):Lt n (.fn f a b)
 |nilf:Lt n .nilf
 |agg {cs:List AV} (h:∀x∈cs,Lt n x):Lt n (.agg cs)
 |tup {cs:List AV} (h:∀x∈cs,Lt n x):Lt n (.tup cs)
 |iface {t:TypeId} {a:AV} (h:Lt n a):Lt n (.iface t a)
 |nili:Lt n .nili
 |fp {cs:List AV} (h:∀x∈cs,Lt n x):Lt n (.fp cs)
 |yd {id:Nat} (h:id<n):Lt n (.yd id)
 |ze:Lt n .ze
 |ov {id ver sz lo m:Nat} (h:id<n):Lt n (.ov id ver sz lo m)
 |fk (k:Nat):Lt n (.fk k)
 |junk:Lt n .junk
def G.trunc(g:G)(n:Nat):G:={ g with bx:=fun i=>if i<n then g.bx i else none,hd:=fun i v=>if i<n then g.hd i v else none }
theorem zox{α:Type}{l:List α}{i:Nat}{a:α}(h:l[i]?=some a):a∈l:=List.mem_of_getElem? h
theorem RV.trunc{g:G}{n:Nat}{a:AV}{v:Value}(h:RV g a v):Lt n a->RV (g.trunc n) a v:=by
 induction h with
 |bool b=>intro;exact .bool b
 |int k m=>intro;exact .int k m
 |str s=>intro;exact .str s
 |nilp=>intro;exact .nilp
 |ptr h=>intro l;cases l with|ptr l=>exact .ptr (by simp[G.trunc,l,h])
 |nils sz=>intro;exact .nils sz
 |sl0 a c=>intro;exact .sl0 a c
 |sl f hl hn hnc hz ho hf hr ih=>intro l;cases l with|sl l=>exact .sl f hl hn hnc hz ho hf fun k a h=>ih k a h (l a (zox h))
 |ol h=>intro l;cases l with|ol l=>exact .ol (by simp[G.trunc,l,h])
 |nilm=>intro;exact .nilm
 |fmap h hl hk hv ihk ihv=>intro l;cases l with|fmap l1 l2=>exact .fmap h hl (fun i p e hp he=>ihk i p e hp he (l1 p (zox hp))) (fun i p e hp he=>ihv i p e hp he (l2 p (zox hp)))
 |mp h=>intro l;cases l with|mp l=>exact .mp (by simp[G.trunc,l,h])
 |fn h1 h2 hf hc ihf ihc=>intro l;cases l with|fn l1 l2=>exact .fn h1 h2 (fun i a v ha hv=>ihf i a v ha hv (l1 a (zox ha))) (fun i a v ha hv=>ihc i a v ha hv (l2 a (zox ha)))
 |nilf=>intro;exact .nilf
 |agg hl h ih=>intro l;cases l with|agg l=>exact .agg hl fun i a v ha hv=>ih i a v ha hv (l a (zox ha))
 |tup hl h ih=>intro l;cases l with|tup l=>exact .tup hl fun i a v ha hv=>ih i a v ha hv (l a (zox ha))
 |iface h ih=>intro l;cases l with|iface l=>exact .iface (ih l)
 |nili=>intro;exact .nili
 |fp f hf hr ih=>intro l;cases l with|fp l=>exact .fp f hf fun k a h=>ih k a h (l a (zox h))
 |yd h=>intro l;cases l with|yd l=>exact .yd (by simp[G.trunc,l,h])
 |ze a=>intro;exact .ze a
 |ov h ha hn=>intro l;cases l with|ov l=>exact .ov (by simp only[G.trunc,if_pos l];exact h) ha hn
 |fk k=>intro;exact .fk k
 |junk v=>intro;exact .junk v
def G.Below(g:G)(n:Nat):Prop:=(∀id b,g.bx id=some b->id<n)/\∀id v x,g.hd id v=some x->id<n
theorem Sat.below{g:G}{h:List AO}{w:World}(s:Sat g h w):g.Below h.length:=by
 refine⟨fun id b e=>?_,fun id v x e=>?_⟩
 ·rcases Nat.lt_or_ge id h.length with k|k
  ·exact k
  ·rw[(s.past id k).1]at e;cases e
 ·rcases Nat.lt_or_ge id h.length with k|k
  ·exact k
  ·rw[(s.past id k).2 v]at e;cases e
theorem zj3{α:Type}{l:List α}{n:Nat}(h:l.length=n){a:α}(ha:a∈l):∃i,i<n/\l[i]?=some a:=by
 obtain⟨i,hi⟩:=List.mem_iff_getElem?.1 ha;exact⟨i,by rw[<- h];exact (List.getElem?_eq_some_iff.1 hi).1,hi⟩
theorem RV.lt{g:G}{n:Nat}(hb:g.Below n){a:AV}{v:Value}(h:RV g a v):Lt n a:=by
 induction h with
 |bool b=>exact .bool b
 |int k m=>exact .int k m
 |str s=>exact .str s
 |nilp=>exact .nilp
 |ptr h=>exact .ptr (hb.1 _ _ h)
 |nils sz=>exact .nils sz
 |sl0 a c=>exact .sl fun a h=>by simp at h
 |sl f hl hn hnc hz ho hf hr ih=>exact .sl fun a h=>by obtain⟨i,hi⟩:=List.mem_iff_getElem?.1 h;exact ih i a hi
 |ol h=>exact .ol (hb.2 _ _ _ h)
 |nilm=>exact .nilm
 |fmap h hl hk hv ihk ihv=>
  exact .fmap (fun p hp=>by obtain⟨i,hi,he⟩:=zj3 hl.len hp;obtain⟨e,hx⟩:=hl.fore he;exact ihk i p _ he hx) (fun p hp=>by obtain⟨i,hi,he⟩:=zj3 hl.len hp;obtain⟨e,hx⟩:=hl.fore he;exact ihv i p _ he hx)
 |mp h=>exact .mp (hb.1 _ _ h)
 |fn h1 h2 hf hc ihf ihc=>exact .fn (fun p hp=>by obtain⟨i,hi,he⟩:=zj3 h1 hp;exact ihf i p _ he (Array.getElem?_eq_getElem hi)) (fun p hp=>by obtain⟨i,hi,he⟩:=zj3 h2 hp;exact ihc i p _ he (Array.getElem?_eq_getElem hi))
 |nilf=>exact .nilf
 |agg hl h ih=>exact .agg fun p hp=>by obtain⟨i,hi,he⟩:=zj3 hl hp;exact ih i p _ he (Array.getElem?_eq_getElem hi)
 |tup hl h ih=>exact .tup fun p hp=>by obtain⟨i,hi,he⟩:=zj3 hl hp;exact ih i p _ he (Array.getElem?_eq_getElem hi)
 |iface h ih=>exact .iface ih
 |nili=>exact .nili
 |fp f hf hr ih=>exact .fp fun a h=>by obtain⟨i,hi⟩:=List.mem_iff_getElem?.1 h;exact ih i a hi
 |yd h=>exact .yd (hb.1 _ _ h)
 |ze a=>exact .ze
 |ov h ha hn=>exact .ov (hb.2 _ _ _ h)
 |fk k=>exact .fk k
 |junk v=>exact .junk
theorem RVs.lt{g:G}{n:Nat}(hb:g.Below n){asz:List AV}{vs:List Value}(h:RVs g asz vs):∀a∈asz,Lt n a:=by
 intro a ha;obtain⟨i,hi,he⟩:=zj3 h.1 ha;exact (h.2 i a _ he (List.getElem?_eq_getElem hi)).lt hb
theorem RVs.trunc{g:G}{n:Nat}{asz:List AV}{vs:List Value}(h:RVs g asz vs)(hl:∀a∈asz,Lt n a):RVs (g.trunc n) asz vs :=
 ⟨h.1,fun i a v ha hv=>(h.2 i a v ha hv).trunc (hl a (zox ha))⟩
def LtO(n:Nat):AO->Prop
 |.dead=>True
 |.box cs=>∀a∈cs,Lt n a
 |.lst _ _ es=>∀a∈es.flatten,Lt n a
 |.mapo es=>(∀p∈es,Lt n p.1)/\∀p∈es,Lt n p.2
 |.dfr=>True
 |.slp _ _ t _ _ _=>∀p∈t,Lt n p.2
theorem ObjOk.ltO{g:G}{n:Nat}(hb:g.Below n){w:World}{id:Nat}{o:AO}(h:ObjOk g w id o):LtO n o:=by
 cases o with
 |dead=>trivial
 |box cs=>obtain⟨b,c,t,h1,h2,h3⟩:=h;exact h3.lt hb
 |lst ver sz es=>
  rcases h with⟨h1,h2⟩|⟨b,cap,c,t,l1,l2,h1,h2,h3,h4,h5,h6,h7,h8,h9,h10⟩
  ·subst h1;intro a ha;simp at ha
  ·exact h9.lt hb
 |mapo es=>
  obtain⟨b,m,ck,f,h1,h2,h3,h4,h5⟩:=h;exact⟨fun p hp=>by obtain⟨i,hi,he⟩:=zj3 h3.len hp;obtain⟨e,hx⟩:=h3.fore he;exact (h4 i p _ he hx).lt hb,fun p hp=>by obtain⟨i,hi,he⟩:=zj3 h3.len hp;obtain⟨e,hx⟩:=h3.fore he;exact (h5 i p _ he hx).lt hb⟩
 |dfr=>trivial
 |slp st m t ps asg body=>obtain⟨b,r,h1,h2,h3,h4,h5,h6,h7,h8⟩:=h;exact fun p hp=>(h8 p hp).lt hb
theorem ObjOk.trunc{g:G}{n:Nat}{w:World}{id:Nat}{o:AO}(h:ObjOk g w id o)(hi:id<n)(hl:LtO n o):ObjOk (g.trunc n) w id o:=by
 have bx:∀{b},g.bx id=some b->(g.trunc n).bx id=some b:=fun h=>by simp[G.trunc,hi,h]
 have hd:∀{v x},g.hd id v=some x->(g.trunc n).hd id v=some x:=fun h=>by simp[G.trunc,hi,h]
 cases o with
 |dead=>trivial
 |box cs=>obtain⟨b,c,t,h1,h2,h3⟩:=h;exact⟨b,c,t,bx h1,h2,h3.trunc hl⟩
 |lst ver sz es=>
  rcases h with⟨h1,h2⟩|⟨b,cap,c,t,l1,l2,h1,h2,h3,h4,h5,h6,h7,h8,h9,h10⟩
  ·exact .inl ⟨h1,hd h2⟩
  ·exact .inr ⟨b,cap,c,t,l1,l2,hd h1,h2,h3,h4,h5,h6,h7,h8,h9.trunc hl,h10⟩
 |mapo es=>
  obtain⟨b,m,ck,f,h1,h2,h3,h4,h5⟩:=h;exact⟨b,m,ck,f,bx h1,h2,h3,fun i p e hp he=>(h4 i p e hp he).trunc (hl.1 p (zox hp)),fun i p e hp he=>(h5 i p e hp he).trunc (hl.2 p (zox hp))⟩
 |dfr=>obtain⟨b,h1,h2⟩:=h;exact⟨b,bx h1,h2⟩
 |slp st m t ps asg body=>obtain⟨b,r,h1,h2,h3,h4,h5,h6,h7,h8⟩:=h;exact⟨b,r,bx h1,h2,h3,h4,h5,h6,h7,fun p hp=>(h8 p hp).trunc (hl p hp)⟩
theorem OwnAt.untrunc{g:G}{n id b:Nat}{o:AO}(h:OwnAt (g.trunc n) id b o):OwnAt g id b o:=by
 have bx:(g.trunc n).bx id=some b->g.bx id=some b:=fun h=>by unfold G.trunc at h;dsimp only at h;split at h;exact h;cases h
 cases o with
 |dead=>exact h
 |box cs=>exact bx h
 |lst ver sz es=>obtain⟨m,c,h⟩:=h;unfold G.trunc at h;dsimp only at h;split at h;exact⟨m,c,h⟩;cases h
 |mapo es=>exact bx h
 |dfr=>exact bx h
 |slp _ _ _ _ _ _=>exact bx h
theorem zsb{α:Type}{l:List α}{n i:Nat}{a:α}(h:(l.take n)[i]?=some a):i<n/\l[i]?=some a:=by
 rw[List.getElem?_take]at h
 split at h
 ·rename_i hi;exact⟨hi,h⟩
 ·cases h
theorem Sat.trunc{g:G}{h:List AO}{w:World}(s:Sat g h w){n:Nat}(hn:n<=h.length)(hl:∀(id:Nat) (o:AO),h[id]?=some o->id<n->LtO n o):Sat (g.trunc n) (h.take n) w where
 fz:=s.fz
 fm:=s.fm
 obj id o ho:=by obtain⟨h1,h2⟩:=zsb ho;exact (s.obj id o h2).trunc h1 (hl id o h2 h1)
 past id hi:=by
  have:¬ id<n:=by simp at hi;omega
  exact⟨by simp[G.trunc,this],fun v=>by simp[G.trunc,this]⟩
 inj i j x y b hx hy ox oy:=s.inj i j x y b (zsb hx).2 (zsb hy).2 ox.untrunc oy.untrunc
 apart b hb:=by obtain⟨id,o,h1,h2⟩:=hb;exact s.apart b ⟨id,o,(zsb h1).2,h2.untrunc⟩
 ver id ver sz es hv v hlt:=by have:=s.ver id ver sz es (zsb hv).2 v hlt;simp[G.trunc,this]
theorem Ev.trunc{g0 g:G}{h0 h:List AO}{w0 w:World}(e:Ev g0 h0 w0 g h w)(hb:g0.Below h0.length):Ev g0 h0 w0 (g.trunc h0.length) (h.take h0.length) w where
 le:=⟨e.le.fz,e.le.fm,fun i b x=>by simp[G.trunc,hb.1 i b x,e.le.bx i b x],fun i v y x=>by simp[G.trunc,hb.2 i v y x,e.le.hd i v y x],e.le.cm⟩
 len:=by have:=e.len;rw[List.length_take];omega
 size:=e.size
 os:=e.os
 tape:=e.tape
 output:=e.output
 kept:=e.kept
 own b hx:=by obtain⟨id,o,h1,h2⟩:=hx;exact e.own b ⟨id,o,(zsb h1).2,h2.untrunc⟩
 fzn:=e.fzn
 fmn:=e.fmn
inductive RS where
 |t (i:Nat)
 |c (n:Nat) (ag:Bool) (i:Nat)
def z83(P:Program):ResultVar->Option RS
 |.tmp t=>some (.t t)
 |.cell a t=>match zj0 P t,z0o P t with
  |some n,some ag=>some (.c n ag a)
  |_,_=>none
def yjf(σ:St):RS->Option AV
 |.t i=>σ.a (.t i)
 |.c n ag i=>match σ.x (.t i) with
  |.lp k off=>match zb5 k σ.ls with
   |some cs=>match rd n ag (cs.drop off) with
    |some (.v y)=>some y
    |_=>none
   |none=>none
  |.v (.ptr id off)=>match σ.h[id]? with
   |some (.box cs)=>match rd n ag (cs.drop off) with
    |some (.v y)=>some y
    |_=>none
   |_=>none
  |.op id ver 1 0 0=>match σ.h[id]? with
   |some (.lst v sz es)=>if v=ver/\sz=1/\es.length=n/\ag=true then some (.agg es.flatten) else none
   |_=>none
  |_=>none
def zjj(σ:St):List RS->Option (List AV)
 |[]=>some []
 |r::l=>match yjf σ r with
  |some a=>match zjj σ l with
   |some asz=>some (a::asz)
   |none=>none
  |none=>none
def z0y:List AV->AV
 |[a]=>a
 |l=>.tup l
theorem rval_ok{g0 g:G}{h0:List AO}{w0 w:World}{lb:Nat->Nat}{σ:St}{a:Act}(s:Sim P ro g0 h0 w0 g lb σ a w){rv:ResultVar}{r:RS}(hc:z83 P rv=some r){y:AV}(h:yjf σ r=some y)
  (f:ResultVar->Sem Value) (hf:∀u,f (.tmp u)=pure (a.tmps.getD u undef)) (hcell:∀p t,f (.cell p t)=(do loadVar t (<- asAddr (a.tmps.getD p undef)))):∃v,(f rv).run P w = .ok v w/\RV g y v:=by
 cases rv with
 |tmp t=>
  cases hc;refine⟨a.tmps.getD t undef,by rw[hf];simp,?_⟩
  have:=zii s.tm (x:=.tmp t) (ax:=.t t) rfl h;exact this
 |cell p t=>
  simp only[z83]at hc
  split at hc
  ·rename_i n ag hn hag
   cases hc;have hrt:=zj6 s.tm (x:=.tmp p) (ax:=.t p) rfl
   have ev:a.eval (.tmp p)=a.tmps.getD p undef:=rfl;rw[ev]at hrt;have key:∀{b off:Nat} {us:List Value} {cs:List AV},a.tmps.getD p undef = .pointer (some ⟨b,off,none⟩)->(∀(j:Nat) (u:Value),us[j]?=some u->w.cell? ⟨b,off+j,none⟩=some u)->RVs g cs us->rd n ag cs=some (.v y) ->
     ∃v,(f (.cell p t)).run P w = .ok v w/\RV g y v:=by
    intro b off us cs hp hus hr hrd;obtain⟨v,y',h1,h2,h3⟩:=zpq hn hag hus hr hrd;cases h2;refine⟨v,?_,h3⟩;rw[hcell,hp];simpa [Instr.loadAt,Instr.sureAddr,asAddr] using h1
   simp only[yjf]at h
   split at h
   ·rename_i k off hq
    split at h
    ·rename_i cs hl
     split at h
     ·rename_i y' hrd
      cases h;rw[hq]at hrt
      obtain⟨c,t',h3,h4⟩:=s.mid.lok.ok k cs hl;exact key (us:=c.toList.drop off) hrt (fun j u hj=>by
       rw[zbh h3];rw[List.getElem?_drop]at hj;simpa using hj) (h4.drop off) hrd
     ·cases h
    ·cases h
   ·rename_i id off hq
    split at h
    ·rename_i cs hl
     split at h
     ·rename_i y' hrd
      cases h;rw[hq]at hrt
      obtain⟨b,c,t',h2,h3,h4⟩:=s.mid.sat.obj _ _ hl;have hrt:RV g (.ptr id off) (a.tmps.getD p undef):=hrt;generalize hgv:a.tmps.getD p undef=vv at hrt
      cases hrt with
      |ptr hbx=>
       rw[h2]at hbx;cases hbx;exact key (us:=c.toList.drop off) hgv (fun j u hj=>by
        rw[zbh h3];rw[List.getElem?_drop]at hj;simpa using hj) (h4.drop off) hrd
     ·cases h
    ·cases h
   ·rename_i id ver hq
    split at h
    ·rename_i v sz es hes
     split at h
     ·rename_i hc
      obtain⟨rfl,rfl,hlen,rfl⟩:=hc;cases h;obtain⟨b,n',c,h3,h4⟩:=x_op s.tm (x:=.tmp p) (ax:=.t p) rfl hq;obtain⟨cs,t',l1,l2,h5,h6,h7,h8,h9,h10,h11,h12,h13,h14⟩:=znb s.mid.sat hes h3;have hfl:es.flatten.length=n:=by rw[za4 h11];omega
      exact key (us:=l1) (by rw[<- ev];exact h4) (fun j u hj=>by
       rw[Nat.zero_add,zbh h5];have:cs.toList[j]?=some u:=by rw[h12,List.getElem?_append_left (List.getElem?_eq_some_iff.1 hj).1];exact hj
       simpa using this) h13 (by simp[rd,hfl,List.take_of_length_le (Nat.le_of_eq hfl)])
     ·cases h
    ·cases h
   ·cases h
  ·cases hc
theorem z6h{g0 g:G}{h0:List AO}{w0 w:World}{lb:Nat->Nat}{σ:St}{a:Act}(s:Sim P ro g0 h0 w0 g lb σ a w)(f:ResultVar->Sem Value)(hf:∀u,f (.tmp u)=pure (a.tmps.getD u undef))(hcell:∀p t,f (.cell p t)=(do loadVar t (<- asAddr (a.tmps.getD p undef)))):
  ∀{rvs:List ResultVar} {rs:List RS},zj5 (z83 P) rvs=some rs->∀{ys:List AV},zjj σ rs=some ys->∃vs,(rvs.mapM f).run P w = .ok vs w/\RVs g ys vs
 |[],rs,hc,ys,h=>by cases hc;cases h;exact⟨[],by simp,.nil g⟩
 |rv::rvs,rs,hc,ys,h=>by
  simp only[zj5]at hc
  split at hc
  ·rename_i r hr
   split at hc
   ·rename_i l hl
    cases hc;simp only[zjj]at h
    split at h
    ·rename_i y hy
     split at h
     ·rename_i ys' hys
      cases h;obtain⟨v,h1,h2⟩:=rval_ok s hr hy f hf hcell
      obtain⟨vs,h3,h4⟩:=z6h s f hf hcell hl hys;exact⟨v::vs,by simp[List.mapM_cons,h1,h3],.cons h2 h4⟩
     ·cases h
    ·cases h
   ·cases hc
  ·cases hc
def oneV(vs:List Value):Value:=match vs with
 |[v]=>v
 |l=>.tuple l.toArray
theorem ybe{g:G}{ys:List AV}{vs:List Value}(h:RVs g ys vs):RV g (z0y ys) (oneV vs):=by
 match ys,vs,h with
 |[],[],h=>exact RV.tup_iff.2 h
 |[y],[v],h=>exact h.2 0 y v rfl rfl
 |_::_::_,_::_::_,h=>exact RV.tup_iff.2 (by simpa using h)
 |[],_::_,h=>have:=h.1;simp at this
 |_::_,[],h=>have:=h.1;simp at this
 |[_],_::_::_,h=>have:=h.1;simp at this
 |_::_::_,[_],h=>have:=h.1;simp at this
theorem zw8{fn:Func}{rs:List RS}(hc:zj5 (z83 P) fn.results.toList=some rs){g0 g:G}{h0:List AO}{w0 w:World}{lb:Nat->Nat}{σ:St}{a:Act}(s:Sim P ro g0 h0 w0 g lb σ a w){ys:List AV}(h:zjj σ rs=some ys):
  ∃vs,(results fn a.tmps).run P w = .ok (oneV vs) w/\RVs g ys vs:=by
 have key2:∀f:ResultVar->Sem Value,(∀u,f (.tmp u)=pure (a.tmps.getD u undef))->(∀p t,f (.cell p t)=(do loadVar t (<- asAddr (a.tmps.getD p undef)))) ->
   ∃vs,(do let vs <- fn.results.mapM f;pure (if h:vs.size=1 then vs[0] else .tuple vs):Sem Value).run P w = .ok (oneV vs) w/\RVs g ys vs:=by
  intro f hf hcell;obtain⟨vs,h1,h2⟩:=z6h s f hf hcell hc h;refine⟨vs,?_,h2⟩;have e:fn.results=fn.results.toList.toArray:=by simp
  rw[e,List.mapM_toArray,Sem.run_bind];simp only[Sem.run_map];rw[h1]
  match vs with
  |[]=>rfl
  |[v]=>rfl
  |_::_::_=>simp[oneV]
 unfold results;exact key2 _ (fun u=>rfl) (fun p t=>rfl)
end Go.Ab
set_option linter.unusedVariables false
set_option linter.unusedSimpArgs false
namespace Go.Ab
open Go.RowKit
variable {P : Program} {ro : Option Nat}
def LtR(n:Nat):Res->Prop
 |.ret a=>Lt n a
 |.pan a=>Lt n a
def zi6:List AO->List Nat->List AO
 |h,[]=>h
 |h,i::ds=>zi6 (h.set i .dead) ds
def yds(H:List AO)(Post:Res->List AO->Prop)(r:Res)(h:List AO):Prop :=
 LtR H.length r/\(∀(id:Nat) (o:AO),h[id]?=some o->id<H.length->H[id]?=some o\/LtO H.length o)/\Post r (h.take H.length)
def fin2(H:List AO)(Post:Res->List AO->Prop)(rs:List RS):Out->St->Prop
 |.normal,σ|.ret,σ=>∃l,zjj σ rs=some l/\yds H Post (.ret (z0y (zr8 H.length l σ.h).1)) (zr8 H.length l σ.h).2
 |.pan v,σ=>yds H Post (.pan v) σ.h
 |.exit _,_=>False
def fin(H:List AO)(Post:Res->List AO->Prop)(rs:List RS)(o:Out)(σ:St):Prop :=
 (∀i∈σ.ds,H.length<=i)/\σ.ds.Nodup/\fin2 H Post rs o { σ with h:=zi6 σ.h σ.ds,ds:=[] }
theorem Mks.set{g:G}{h:List AO}{i:Nat}(x:AO):∀{ds:List Nat} {l:List Deferred},i ∉ ds->Mks g h ds l->Mks g (h.set i x) ds l
 |[],_,_,k=>k
 |j::ds,_,hn,⟨b,r,e,hb,hj,k⟩=>⟨b,r,e,hb,by rw[List.getElem?_set_ne (by rintro rfl;simp at hn)];exact hj,Mks.set x (by simp at hn;exact hn.2) k⟩
theorem zjt{fn:Func}{tmps:Array Value}{u:FrameMode}(hu:u ≠ .run){R:Ending->World->Prop}{g0:G}{h0:List AO}{w0:World}:
  ∀(ds:List Nat) (σ:St) (g:G) (lb:Nat->Nat) (a:Act) (w:World),σ.ds=ds->Sim P none g0 h0 w0 g lb σ a w->a.tmps=tmps->ds.Nodup->(∀i∈ds,h0.length<=i) ->
   (∀(a':Act) (w':World),Sim P none g0 h0 w0 g lb { σ with h:=zi6 σ.h ds,ds:=[] } a' w' -> a'.tmps=tmps->LeavesInM Fence.wide 0 P fn tmps R [] u w')->LeavesInM Fence.wide 0 P fn tmps R a.defers u w
 |[],σ,g,lb,a,w,hd,s,ht,_,_,hf=>by
  have h1:Mks g σ.h σ.ds a.defers:=s.df;rw[hd]at h1;rw[show a.defers=[] from h1]
  refine hf a w ?_ ht;have:({ σ with h:=zi6 σ.h [],ds:=[] }:St)=σ:=by cases σ;cases hd;rfl
  rw[this];exact s
 |i::ds,σ,g,lb,a,w,hd,s,ht,hn,hi,hf=>by
  have h1:Mks g σ.h σ.ds a.defers:=s.df;rw[hd]at h1;obtain⟨b,r,e,hgb,hb,hr⟩:=h1;rw[e];obtain⟨b',ho1,ho2⟩:=s.mid.sat.obj _ _ hb;rw[hgb]at ho1;cases ho1;refine⟨hu,.inl ⟨b,w.putObj b (.deferred none),rfl,run_takeDeferred ho2,?_⟩⟩;obtain⟨s1,e1⟩:=s.mid.sat.upd (g':=g) (w':=w.putObj b (.deferred none)) (o':=.dead) hb (.refl g) rfl rfl rfl (fun _ _=>rfl) (Wd.putObj w b _ hgb) trivial (fun _ h=>h.elim) (fun _ _ _ h=>by cases h)
  have hil:h0.length<=i:=hi i (by simp)
  have s2:Sim P none g0 h0 w0 g lb { σ with h:=σ.h.set i .dead,ds:=ds } { a with defers:=r } (w.putObj b (.deferred none)) :=
   ⟨s.mid.step s1 e1,s.tm,Mks.set _ (List.nodup_cons.1 hn).1 hr,s.rk.setN hil _,s.cm⟩
  exact zjt hu ds _ g lb _ _ rfl s2 ht (List.nodup_cons.1 hn).2 (fun j hj=>hi j (by simp[hj])) hf
theorem z44{g0 g:G}{H h:List AO}{w0 w:World}(hs0:Sat g0 H w0)(st:Sat g h w)(ev:Ev g0 H w0 g h w)(rk:RawK H h){Post:Res->List AO->Prop}{r:Res}(hf:yds H Post r h){e:Ending}(hr:RRes g r e):
  Behind g0 H w0 Post e w:=by
 obtain⟨h1,h2,h5⟩:=hf;have hb:=hs0.below;have hLtO:∀(id:Nat) (o:AO),h[id]?=some o->id<H.length->LtO H.length o:=fun id o ho hi=>by
  rcases h2 id o ho hi with k|k
  ·exact (hs0.obj id o k).ltO hb
  ·exact k
 refine⟨_,r,_,ev.trunc hb,st.trunc ev.len hLtO,?_,fun i b l x=>?_,h5⟩
 ·cases r with
  |ret y=>obtain⟨v,he,hv⟩:=hr;exact⟨v,he,hv.trunc h1⟩
  |pan y=>obtain⟨v,he,hv⟩:=hr;exact⟨v,he,hv.trunc h1⟩
 ·obtain⟨o',k1,k2⟩:=rk i b l x
  exact⟨o',by rw[List.getElem?_take,if_pos (List.getElem?_eq_some_iff.1 x).1];exact k1,k2⟩
theorem fin_ok{fn:Func}{g0:G}{H:List AO}{w0:World}(hs0:Sat g0 H w0){rs:List RS}(hc:zj5 (z83 P) fn.results.toList=some rs){Post:Res->List AO->Prop}(e:Exit)(a:Act)(w:World)
  (h:Lift P none g0 H w0 (fin H Post rs) e a w):bodyPostM Fence.wide 0 P fn (Behind g0 H w0 Post) e a w:=by
 obtain⟨o,σ,g,lb,h1,s,h2,h3,h4⟩:=h;have ret:(∃l,zjj { σ with h:=zi6 σ.h σ.ds,ds:=[] } rs=some l/\yds H Post (.ret (z0y (zr8 H.length l (zi6 σ.h σ.ds)).1)) (zr8 H.length l (zi6 σ.h σ.ds)).2)->LeavesInM Fence.wide 0 P fn a.tmps (Behind g0 H w0 Post) a.defers .returning w:=by
  rintro ⟨l,hl,hf⟩
  refine zjt (by simp) σ.ds σ g lb a w rfl s rfl h3 h2 fun a' w' s' ht=>?_
  obtain⟨vs,hv,hr⟩:=zw8 hc s' hl;rw[ht]at hv;obtain⟨g2,k1,k2⟩:=ydg s'.mid.sat hr (show zr8 H.length l (zi6 σ.h σ.ds)=((zr8 H.length l (zi6 σ.h σ.ds)).1,(zr8 H.length l (zi6 σ.h σ.ds)).2) from rfl)
  exact⟨_,hv,z44 hs0 k1.sat (s'.mid.ev.trans k1.ev) (s'.rk.trans (RawK.of k1.raw)) hf ⟨_,rfl,ybe k2⟩⟩
 cases o with
 |normal=>cases (show e = .normal from h1);exact ret h4
 |ret=>cases (show e = .ret from h1);exact ret h4
 |exit i=>exact h4.elim
 |pan y=>
  obtain⟨v,rfl,hv⟩:=h1;have h4:yds H Post (.pan y) (zi6 σ.h σ.ds):=h4;exact zjt (by simp) σ.ds σ g lb a w rfl s rfl h3 h2 fun a' w' s' ht=>z44 hs0 s'.mid.sat s'.mid.ev s'.rk h4 ⟨v,rfl,hv⟩
def fin2K(Post:Res->List AO->Prop)(rs:List RS):Out->St->Prop
 |.normal,σ|.ret,σ=>∃l,zjj σ rs=some l/\Post (.ret (z0y l)) σ.h
 |.pan v,σ=>Post (.pan v) σ.h
 |.exit _,_=>False
def finK(H:List AO)(Post:Res->List AO->Prop)(rs:List RS)(o:Out)(σ:St):Prop :=
 (∀i∈σ.ds,H.length<=i)/\σ.ds.Nodup/\fin2K Post rs o { σ with h:=zi6 σ.h σ.ds,ds:=[] }
theorem finK_ok{fn:Func}{g0:G}{H:List AO}{w0:World}(hs0:Sat g0 H w0){rs:List RS}(hc:zj5 (z83 P) fn.results.toList=some rs){Post:Res->List AO->Prop}(e:Exit)(a:Act)(w:World)
  (h:Lift P none g0 H w0 (finK H Post rs) e a w):bodyPostM Fence.wide 0 P fn (Behind g0 H w0 Post) e a w:=by
 obtain⟨o,σ,g,lb,h1,s,h2,h3,h4⟩:=h;have ret:(∃l,zjj { σ with h:=zi6 σ.h σ.ds,ds:=[] } rs=some l/\Post (.ret (z0y l)) (zi6 σ.h σ.ds))->LeavesInM Fence.wide 0 P fn a.tmps (Behind g0 H w0 Post) a.defers .returning w:=by
  rintro ⟨l,hl,hf⟩
  refine zjt (by simp) σ.ds σ g lb a w rfl s rfl h3 h2 fun a' w' s' ht=>?_
  obtain⟨vs,hv,hr⟩:=zw8 hc s' hl;rw[ht]at hv;exact⟨_,hv,_,.ret (z0y l),_,s'.mid.ev,s'.mid.sat,⟨_,rfl,ybe hr⟩,s'.rk,hf⟩
 cases o with
 |normal=>cases (show e = .normal from h1);exact ret h4
 |ret=>cases (show e = .ret from h1);exact ret h4
 |exit i=>exact h4.elim
 |pan y=>
  obtain⟨v,rfl,hv⟩:=h1;have h4:Post (.pan y) (zi6 σ.h σ.ds):=h4;exact zjt (by simp) σ.ds σ g lb a w rfl s rfl h3 h2 fun a' w' s' ht=>⟨_,.pan y,_,s'.mid.ev,s'.mid.sat,⟨v,rfl,hv⟩,s'.rk,h4⟩
def finX(kp:Bool)(H:List AO)(Post:Res->List AO->Prop)(rs:List RS):Out->St->Prop:=if kp then finK H Post rs else fin H Post rs
inductive Bd:AV->Prop
 |sl {es:List (List AV)} (hl:es.length<=z3y) (h:∀a∈es.flatten,Bd a):Bd (.sl es)
 |agg {cs:List AV} (h:∀x∈cs,Bd x):Bd (.agg cs)
 |tup {cs:List AV} (h:∀x∈cs,Bd x):Bd (.tup cs)
 |other {a:AV} (h:(match a with|.sl _|.agg _|.tup _=>false|_=>true)=true):Bd a
theorem RV.bd{g:G}{a:AV}{v:Value}(h:RV g a v):Bd a:=by
 induction h with
 |sl0 a c=>exact .sl (by simp) fun a h=>by simp at h
 |sl f hl hn hnc hz ho hf hr ih=>exact .sl (by omega) fun a h=>by obtain⟨i,hi⟩:=List.mem_iff_getElem?.1 h;exact ih i a hi
 |agg hl h ih=>exact .agg fun p hp=>by obtain⟨i,hi,he⟩:=zj3 hl hp;exact ih i p _ he (Array.getElem?_eq_getElem hi)
 |tup hl h ih=>exact .tup fun p hp=>by obtain⟨i,hi,he⟩:=zj3 hl hp;exact ih i p _ he (Array.getElem?_eq_getElem hi)
 |_=>exact .other rfl
theorem RVs.bd{g:G}{l:List AV}{vs:List Value}(h:RVs g l vs):∀a∈l,Bd a:=by
 intro a ha;obtain⟨i,hi,he⟩:=zj3 h.1 ha;exact (h.2 i a _ he (List.getElem?_eq_getElem hi)).bd
theorem Bd.agg_iff{cs:List AV}:Bd (.agg cs) ↔ ∀a∈cs,Bd a:=by
 refine⟨fun h=>?_,.agg⟩
 cases h with
 |agg h=>exact h
 |other h=>cases h
def ini:Nat->List AV->List (Nat×TV)
 |_,[]=>[]
 |k,a::r=>(k,.v a)::ini (k+1) r
theorem z08:∀(l:List AV) (k i:Nat),tg (k+i) (ini k l)=match l[i]? with|some a=>.v a|none=>.junk
 |[],_,_=>rfl
 |a::r,k,0=>by rw[ini,zj1,if_pos (by omega)];rfl
 |a::r,k,i+1=>by rw[ini,zj1,if_neg (by omega),show k+(i+1)=(k+1)+i from by omega,z08 r (k+1) i];simp
theorem yjd(l:List AV)(i:Nat):tg i (ini 0 l)=match l[i]? with|some a=>.v a|none=>.junk:=by
 have:=z08 l 0 i
 rwa [Nat.zero_add]at this
@[irreducible] def Run(CC:zee)(c:AC)(Q:Out->St->Prop)(σ:St):Prop:=awp CC c Q σ
theorem Run.of{CC:zee}{c:AC}{Q:Out->St->Prop}{σ:St}(h:awp CC c Q σ):Run CC c Q σ:=by unfold Run;exact h
theorem Run.out{CC:zee}{c:AC}{Q:Out->St->Prop}{σ:St}(h:Run CC c Q σ):awp CC c Q σ:=by unfold Run at h;exact h
theorem zr2 {k : FuncId} {fn : Func} {ac : AC} {esc own : List Nat} {rs : List RS} {nt : Nat} (hf : P.funcs[k]? = some fn) (hname : (fn.name == "runtime.NumGoroutine") = false) (hbc : fn.body.bind (zmn P esc own) = some ac) (hm : P.follows .mixedOrders = true)
  (hr:zj5 (z83 P) fn.results.toList=some rs) (hn:fn.ntmps=nt) {xs:List AV} {H:List AO} {Post:Res->List AO->Prop}
  (kp:Bool) (h:(∀a∈xs,Bd a)->(∀a∈xs,Lt H.length a)->Run (CC P) ac (finX kp H Post rs) ⟨⟨nt,ini 0 xs⟩,[],H,[]⟩) (hx:xs.length<=nt:=by simp):zpl P k xs H Post:=by
 obtain⟨c,hb,hc⟩:∃c,fn.body=some c/\zmn P esc own c=some ac:=by
  cases hb:fn.body with
  |none=>rw[hb]at hbc;cases hbc
  |some c=>rw[hb]at hbc;exact⟨c,rfl,hbc⟩
 refine⟨fun args w=>Proofs.enters_of hf hname hb args w,fun g w vs hcm s r=>callsIn_of_wp_marks hf hb trivial ?_⟩
 refine wpIn_mono (yel (ro:=none) hm c ac hc (finX kp H Post rs) ⟨⟨nt,ini 0 xs⟩,[],H,[]⟩ g (fun _=>0) _ w (h r.bd (r.lt s.below)).out ?_) (by cases kp;exact fin_ok s hr;exact finK_ok s hr)
 refine⟨⟨⟨by (intro d cs h;cases h),by (intro d cs h;cases h),by (intro d cs h;cases h),by (intro d cs h;cases h),by (intro d cs h;cases h),by (intro d d' cs cs' h;cases h)⟩,s,.refl g H w⟩,⟨?_,fun i=>?_,fun i d off hi=>?_⟩,rfl,.refl H,hcm⟩
 ·have:=r.1
  simp[hn,this];omega
 ·dsimp only
  rw[yjd]
  cases ha:xs[i]? with
  |none=>trivial
  |some y=>
   obtain⟨v,hv,hr⟩:=r.at ha;have hl:i<vs.length:=(List.getElem?_eq_some_iff.1 hv).1;have:(vs.toArray++Array.replicate (fn.ntmps - vs.toArray.size) undef).getD i undef=v:=by
    rw[Array.getD_eq_getD_getElem?,Array.getElem?_append_left (by simpa using hl)]
    simp[hv]
   rw[this];exact hr
 ·dsimp only at hi
  rw[yjd]at hi
  cases ha:xs[i]? with
  |none=>rw[ha]at hi;cases hi
  |some y=>rw[ha]at hi;cases hi
def O(d:Nat)(o:AOp):AI:=⟨some d,.o o,none,[]⟩
def Og(d j:Nat)(w:Bool)(o:AOp):AI:=⟨some d,.o o,some (j,w),[]⟩
def C(d:Nat)(f:AX)(l:List AX):AI:=⟨some d,.call f l,none,[]⟩
def N(n:Int):AX:=.c (.int .i64 n)
def B(b:Bool):AX:=.c (.bool b)
abbrev Mv(d s:Nat):AI:=O d (.mv (.t s))
abbrev Mn(d:Nat)(n:Int):AI:=O d (.mv (N n))
abbrev Mb(d:Nat)(b:Bool):AI:=O d (.mv (B b))
abbrev L1(d s:Nat):AI:=O d (.ld 1 false (.t s))
abbrev Lk(d n s:Nat):AI:=O d (.ld n true (.t s))
abbrev Fa(d n s:Nat):AI:=O d (.fa n (.t s))
abbrev Pf(d a b:Nat):AI:=O d (.pick (.t a) (.t b) (B false))
abbrev Pt(d a b:Nat):AI:=O d (.pick (.t a) (B true) (.t b))
abbrev Bt(d:Nat)(o:BinOp)(a b:Nat):AI:=O d (.bin o (.t a) (.t b))
abbrev Bn(d:Nat)(o:BinOp)(a:Nat)(n:Int):AI:=O d (.bin o (.t a) (N n))
abbrev Nc(d s:Nat):AI:=O d (.nilc (.t s))
abbrev Ex(d s n:Nat):AI:=O d (.ext (.t s) n)
abbrev Le(d s:Nat):AI:=O d (.len (.t s))
abbrev Ia(d n a b:Nat):AI:=O d (.ia n (.t a) (.t b))
abbrev Bx(d s:Nat):AI:=O d (.bx (.t s))
abbrev Gm(d j:Nat)(w:Bool)(s:Nat):AI:=Og d j w (.mv (.t s))
abbrev Gl(d j:Nat)(w:Bool)(s:Nat):AI:=Og d j w (.ld 1 false (.t s))
abbrev Gf(d j:Nat)(w:Bool)(n s:Nat):AI:=Og d j w (.fa n (.t s))
abbrev D(d:Nat)(af:List Nat)(o:AOp):AI:=⟨some d,.o o,none,af⟩
abbrev Dm(d:Nat)(af:List Nat)(s:Nat):AI:=D d af (.mv (.t s))
abbrev Dl(d:Nat)(af:List Nat)(s:Nat):AI:=D d af (.ld 1 false (.t s))
abbrev Df(d:Nat)(af:List Nat)(n s:Nat):AI:=D d af (.fa n (.t s))
abbrev Di(d:Nat)(af:List Nat)(n a b:Nat):AI:=D d af (.ia n (.t a) (.t b))
abbrev Dk(d:Nat)(af:List Nat)(n s:Nat):AI:=D d af (.ld n true (.t s))
abbrev Dn(d:Nat)(af:List Nat)(s:Nat):AI:=D d af (.nilc (.t s))
abbrev Dg(d:Nat)(af:List Nat)(j:Nat)(w:Bool)(o:AOp):AI:=⟨some d,.o o,some (j,w),af⟩
abbrev Sx(n a b:Nat)(af:List Nat):AI:=⟨none,.o (.st n (.t a) (.t b)),none,af⟩
abbrev Ck(d:Nat)(f:FuncId)(l:List AX):AI:=C d (.c (.fn (.func f) [] [])) l
abbrev Dc(d:Nat)(af:List Nat)(f:FuncId)(l:List AX):AI:=⟨some d,.call (.c (.fn (.func f) [] [])) l,none,af⟩
abbrev Gc(d:Nat)(af:List Nat)(j:Nat)(w:Bool)(f:FuncId)(l:List AX):AI:=⟨some d,.call (.c (.fn (.func f) [] [])) l,some (j,w),af⟩
abbrev Dw(d:Nat)(af:List Nat)(f:FuncId)(l bs:List AX):AI:=⟨some d,.callW (.c (.fn (.func f) [] [])) l bs,none,af⟩
abbrev Gw(d:Nat)(af:List Nat)(j:Nat)(w:Bool)(f:FuncId)(l bs:List AX):AI:=⟨some d,.callW (.c (.fn (.func f) [] [])) l bs,some (j,w),af⟩
abbrev rg(n:Nat):List Nat:=List.range n
def R(f:Nat->List AI)(n:Nat):List AI:=f n
abbrev A(f:Nat->List AI)(n:Nat)(c:FC):FC:=.seq (.reg (R f n)) c
abbrev E(f:Nat->List AI)(n:Nat)(c:FC):FC:=.seq (.dreg (R f n)) c
abbrev zT:List AV:=[.int .i64 0,.int .i64 0,.nils 3,.nils 4]
abbrev zL:List AV:=[.int .i64 0,.int .i64 0,.nils 3]
abbrev zD:List AV:=[.int .i64 0,.nils 6,.int .i64 0,.int .i64 0,.nils 3,.nils 4,.bool false,.int .i64 0,.int .i64 0,.nils 3,.nils 4]
abbrev zG:List AV:=[.nils 11,.int .i64 0,.int .i64 0,.nils 6,.int .i64 0]
attribute [go_sem] zT zL zD zG ini
end Go.Ab
set_option linter.unusedVariables false
set_option linter.unusedSimpArgs false
namespace Go.Ab
open Go.RowKit
variable {P : Program}
def yfm(t:List (Nat×AV)):List (Nat×TV):=t.map fun p=>(p.1,.v p.2)
def setPs:List Nat->List AV->Ts->Ts
 |p::ps,a::xs,T=>setPs ps xs (T.set p (.v a))
 |_,_,T=>T
def yEnd(H:List AO)(Post:Res->List AO->Prop)(id:Nat)(st:LSt)(b:Bool)(h:List AO):Prop :=
 match h[id]? with
 |some (.slp .busy n t ps asg body)=>yds H Post (.ret (.bool b)) (h.set id (.slp st n t ps asg body))
 |_=>False
def finY(H:List AO)(Post:Res->List AO->Prop)(id:Nat):Out->St->Prop
 |.normal,σ=>yEnd H Post id .ready true σ.h
 |.ret,σ=>yEnd H Post id (.done .ret) false σ.h
 |.exit i,σ=>yEnd H Post id (.done (.exit i)) false σ.h
 |.pan _,_=>False
def yag(CC:zee)(H:List AO)(Post:Res->List AO->Prop)(id:Nat)(body:FC)(σ:St):Prop :=
 match σ.h[id]? with
 |some (.slp .ready n t ps a b)=>awp CC body.ac (finY H Post id) { σ with h:=σ.h.set id (.slp .busy n t ps a b) }
 |_=>False
theorem z33{g:G}{lb:Nat->Nat}{tmps:Array Value}:∀{t:List (Nat×AV)},(∀p∈t,RV g p.2 (tmps.getD p.1 undef))->∀i,RT g lb (tg i (yfm t)) (tmps.getD i undef)/\∀d off,tg i (yfm t) ≠ .lp d off
 |[],_,i=>⟨trivial,fun _ _ e=>by cases e⟩
 |(k,a)::t,h,i=>by
  have ih:=z33 (g:=g) (lb:=lb) (tmps:=tmps) (t:=t) (fun p hp=>h p (List.mem_cons_of_mem _ hp)) i
  rw[yfm,List.map_cons,zj1]
  split
  ·rename_i e;subst e
   exact⟨h (k,a) (List.mem_cons_self ..),fun _ _ e=>by cases e⟩
  ·exact ih
theorem Tm.setPs{g:G}{lb:Nat->Nat}{ls:List (Nat×List AV)}:∀{ps:List Nat} {xs:List AV} {vs:List Value} {T:Ts} {tmps:Array Value},RVs g xs vs->Tm g lb ls T tmps ->
  Tm g lb ls (Ab.setPs ps xs T) ((ps.zip vs).foldl (fun ts (p:Nat×Value)=>ts.setIfInBounds p.1 p.2) tmps)
 |[],_,_,_,_,_,k=>by simpa [Ab.setPs] using k
 |_::_,[],vs,_,_,r,k=>by rw[r.inv_nil];simpa [Ab.setPs] using k
 |p::ps,a::xs,l,T,tmps,r,k=>by
  obtain⟨v,vs,rfl,h1,h2⟩:=r.inv;rw[Ab.setPs,List.zip_cons_cons,List.foldl_cons];exact Tm.setPs h2 (Tm.put (a:={ tmps:=tmps,defers:=[] }) k (some p) (x:=.v a) h1 (fun _ _ e=>by cases e))
theorem yae(hm:P.follows .mixedOrders=true){id:Nat}{xs:List AV}{H:List AO}{Post:Res->List AO->Prop}{n:Nat}{t:List (Nat×AV)}{ps:List Nat}{asg body:FC}(hH:H[id]?=some (.slp .ready n t ps asg body))(hl:xs.length=ps.length)
  (h:awp (CC P) asg.ac (ztp (yag (CC P) H Post id body) (fun _ _=>False)) ⟨setPs ps xs ⟨n,yfm t⟩,[],H,[id]⟩):ye2 P id xs H Post:=by
 intro g w vs l hcm hs hr hb;obtain⟨b,r,h1,h2,h3,h4,h5,h6,h7,h8⟩:=hs.obj _ _ hH;rw[hb]at h1;cases h1;have hst:r.state = .ready:=congrArg Prod.fst h3;refine⟨r.fn,_,r.assign,r.body,run_yield h2 (by have:=hr.1;have h5':=congrArg List.length h5;simp at h5' ⊢;omega),?_⟩
 obtain⟨esc,own,ea⟩:Cm P r.assign asg.ac:=by rw[<- hcm];exact h6
 obtain⟨escb,ownb,eb⟩:Cm P r.body body.ac:=by rw[<- hcm];exact h7
 have hT:Tm g (fun _=>0) [] ⟨n,yfm t⟩ r.tmps:=⟨h4.symm,fun i=>(z33 h8 i).1,fun i d off e=>absurd e ((z33 (lb:=fun _=>0) h8 i).2 d off)⟩
 have eT:(r.params.zip vs.toArray).foldl (fun tmps (x:Nat×Value)=>tmps.setIfInBounds x.1 x.2) r.tmps=(ps.zip vs).foldl (fun ts (p:Nat×Value)=>ts.setIfInBounds p.1 p.2) r.tmps:=by
  rw[<- Array.foldl_toList,Array.toList_zip,h5]
 have s0:Sim P (some l) g H w g (fun _=>0) ⟨setPs ps xs ⟨n,yfm t⟩,[],H,[id]⟩ { tmps:=(r.params.zip vs.toArray).foldl (fun tmps (x:Nat×Value)=>tmps.setIfInBounds x.1 x.2) r.tmps,defers:=[] } w :=
  ⟨⟨⟨by (intro d cs h;cases h),by (intro d cs h;cases h),by (intro d cs h;cases h),by (intro d cs h;cases h),by (intro d cs h;cases h),by (intro d d' cs cs' h;cases h)⟩,hs,.refl g H w⟩,by dsimp only;rw[eT];exact Tm.setPs hr hT,
   ⟨rfl,id,_,rfl,hb,hH,rfl⟩,.refl H,hcm⟩
 refine roundIn_of_wpIn trivial ?_;refine wpIn_mono (yel (ro:=some l) hm r.assign asg.ac ea _ _ g _ _ w h s0) ?_
 rintro e a1 w1 ⟨o,σ1,g1,lb1,ho,s1,hq⟩
 cases o with
 |normal=>
  cases (show e = .normal from ho)
  have hq:yag (CC P) H Post id body σ1:=hq;unfold yag at hq
  split at hq
  ·rename_i n1 t1 ps1 asg1 body1 hs1
   obtain⟨b1,r1,q1,q2,q3,q4⟩:=s1.mid.sat.obj _ _ hs1;rw[s1.mid.ev.le.bx _ _ hb]at q1;cases q1;have e1:r1.state = .ready:=congrArg Prod.fst q3;have e2:r1.pending=none:=congrArg Prod.snd q3;refine⟨_,run_beginRound q2 e1,?_⟩;have hbx1:=s1.mid.ev.le.bx _ _ hb;obtain⟨t1',ev1⟩:=s1.mid.sat.upd (g':=g1) (w':=w1.putObj l (.loop { r1 with state:=.busy })) (o':=.slp .busy n1 t1 ps1 asg1 body1) hs1 (.refl g1) rfl rfl rfl (fun _ _=>rfl) (Wd.putObj w1 l _ hbx1)
    ⟨l,{ r1 with state:=.busy },hbx1,World.putObj_heap_same (Array.getElem?_eq_some_iff.1 q2).1,by simp[LSt.st,e2],q4⟩ (fun _ h=>.inl h) (fun _ _ _ h=>by cases h)
   have kset:∀{h:List AO} {st st':LSt} {n t ps a b n' t' ps' a' b'},h[id]?=some (.slp st n t ps a b)->RawK h (h.set id (.slp st' n' t' ps' a' b')):=fun {h st st' n t ps a b n' t' ps' a' b'} hh i o l hi=>by
    by_cases e:i=id
    ·subst e
     rw[hh]at hi;cases hi;exact⟨.slp st' n' t' ps' a' b',by rw[List.getElem?_set_self (List.getElem?_eq_some_iff.1 hh).1],rfl⟩
    ·exact⟨o,by rw[List.getElem?_set_ne (fun x=>e x.symm)];exact hi,rfl⟩
   have s2:Sim P (some l) g H w g1 lb1 { σ1 with h:=σ1.h.set id (.slp .busy n1 t1 ps1 asg1 body1) } a1 (w1.putObj l (.loop { r1 with state:=.busy })) :=
    ⟨s1.mid.step t1' ev1,s1.tm,s1.df.mono (.refl g1) (kset hs1),s1.rk.trans (kset hs1),s1.cm⟩
   refine wpIn_mono (yel (ro:=some l) hm r.body body.ac eb _ _ g1 lb1 _ _ hq s2) ?_
   rintro e a3 w3 ⟨o,σ3,g3,lb3,ho,s3,hq⟩
   have fin:∀{jump:Option Code} {st:LSt},yEnd H Post id st jump.isNone σ3.h->st.st=(if jump.isNone then .ready else .done,jump)->∃v w',(Instr.endRound l jump).run P w3 = .ok v w' /\ Behind g H w Post (.returned v) w':=by
    intro jump st hy hst;unfold yEnd at hy
    split at hy
    ·rename_i n3 t3 ps3 asg3 body3 hs3
     obtain⟨b3,r3,p1,p2,p3,p4⟩:=s3.mid.sat.obj _ _ hs3;have hbx3:=s3.mid.ev.le.bx _ _ hb;rw[hbx3]at p1;cases p1;refine⟨_,_,run_endRound jump p2,?_⟩;obtain⟨t4,ev4⟩:=s3.mid.sat.upd (g':=g3) (w':=w3.putObj l (.loop { r3 with state:=if jump.isNone then .ready else .done,pending:=jump })) (o':=.slp st n3 t3 ps3 asg3 body3) hs3 (.refl g3) rfl rfl rfl (fun _ _=>rfl) (Wd.putObj w3 l _ hbx3)
      ⟨l,{ r3 with state:=if jump.isNone then .ready else .done,pending:=jump },hbx3,World.putObj_heap_same (Array.getElem?_eq_some_iff.1 p2).1,hst.symm,p4⟩ (fun _ h=>.inl h) (fun _ _ _ h=>by cases h)
     exact z44 hs t4 (s3.mid.ev.trans ev4) (s3.rk.trans (kset hs3)) hy ⟨_,rfl,.bool _⟩
    ·exact hy.elim
   cases o with
   |normal=>cases (show e = .normal from ho);exact fin (jump:=none) (st:=.ready) hq rfl
   |ret=>cases (show e = .ret from ho);exact fin (jump:=some .ret) (st:=.done .ret) hq rfl
   |exit i=>cases (show e = .exit i from ho);exact fin (jump:=some (.exit i)) (st:=.done (.exit i)) hq rfl
   |pan y=>exact hq.elim
  ·exact hq.elim
 |exit i=>exact hq.elim
 |ret=>exact hq.elim
 |pan v=>exact hq.elim
end Go.Ab
end
