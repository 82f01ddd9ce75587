/- What the law ConvMany of layer 17 comes to, part 3. Conditions: none. -/
import Derived.Test.YthebfdakjfnpeaaGreatZdab
import Derived.Laws.AppendOwn
import Derived.Laws.MakeOwn
section
set_option linter.unusedVariables false
set_option linter.unusedSimpArgs false
namespace Go.Ab
open Go.RowKit
variable {P : Program}
theorem znv{w:World}{b:Nat}{old cs:Array Value}{t:TypeId}{fr:Nat×Nat}(h:w.heap[b]?=some (.cells old t fr)):w.setRow b cs=w.putObj b (.cells cs t fr):=by
 obtain⟨hlt,hb⟩:=Array.getElem?_eq_some_iff.1 h;unfold World.setRow World.putObj
 congr 1
 apply Array.ext_getElem?;intro i;rw[Array.getElem?_modify,Array.getElem?_setIfInBounds];by_cases e:b=i
 ·subst e;simp[hlt,hb]
 ·simp[e]
theorem tl_(a:Array Value):a.toList.length=a.size:=Array.length_toList
theorem z1l{g:G}{z:List AV}{vs:List Value}(h:RVs g z vs):∀n,RVs g (List.replicate n z).flatten (List.replicate n vs).flatten
 |0=>.nil g
 |n+1=>by rw[List.replicate_succ,List.replicate_succ,List.flatten_cons,List.flatten_cons];exact h.append (z1l h n)
theorem zyi{z:List AV}(h:∀a∈z,a.one=true)(n:Nat):∀a∈(List.replicate n z).flatten,a.one=true:=by
 intro a ha;obtain⟨l,hl,hal⟩:=List.mem_flatten.1 ha;rw[List.eq_of_mem_replicate hl]at hal;exact h a hal
theorem znw{t:TypeId}{n:Nat}(hn:zj0 P t=some n){v:Value}(hv:v.cells.size=n)(h1:∀u∈v.cells.toList,u.oneCell' = true){w:World}{b off:Nat}{c:Array Value}{t':TypeId}(hb:w.heap[b]?=some (.cells c t' (0,0)))(hfit:off+n<=c.size):
  (Instr.storeAt t (.pointer (some ⟨b,off,none⟩)) v).run P w = .ok () (w.putObj b (.cells (over c.toList off v.cells.toList).toArray t' (0,0))):=by
 have hl:v.cells.toList.length=n:=by simpa using hv
 have hs:=run_storeCells_at P b off t' v.cells.toList 0 c w hb (by simpa [hl] using hfit) h1
 rw[znv hb]at hs;simp only[Nat.add_zero]at hs;rw[<- zg9 _ _ _ (by rw[hl];simpa using hfit)]at hs
 simp[Instr.storeAt,Instr.sureAddr,storeVar,zct hn,hv,hs]
theorem OkAt.skip{o:Oper}{σ σ1:St}(ht:σ1.t=σ.t)(hls:σ1.ls=σ.ls)(hds:σ1.ds=σ.ds)
  (h:∀g lb (act:Act) (w:World),Sat g σ.h w->Tm g lb σ.ls σ.t act.tmps->∃g' w',Sat g' σ1.h w' /\ Ev g σ.h w g' σ1.h w' /\ (execOp act.eval o).run P w = .ok .skip w') (hraw:∀(i:Nat) (b:AO) (_:b.kd≠0),σ.h[i]?=some b->σ1.h[i]?=some b):OkAt P o .junk σ σ1:=by
 intro g0 h0 w0 g lb act w m T;obtain⟨g',w',h1,h2,h3⟩:=h g lb act w m.sat T;exact⟨undef,w',g',lb,.inr ⟨h3,rfl⟩,by rw[hls];exact m.step h1 h2,by rw[hls];exact⟨h2.le,fun _ _=>rfl,fun _ h=>h,hraw⟩,trivial,fun k off e=>(by cases e),ht,hds⟩
theorem OkAt.val{o:Oper}{y:AV}{σ σ1:St}(ht:σ1.t=σ.t)(hls:σ1.ls=σ.ls)(hds:σ1.ds=σ.ds)
  (h:∀g lb (act:Act) (w:World),Sat g σ.h w->Tm g lb σ.ls σ.t act.tmps->∃g' w' v,Sat g' σ1.h w' /\ Ev g σ.h w g' σ1.h w' /\ RV g' y v/\(execOp act.eval o).run P w = .ok (.value v) w') (hraw:∀(i:Nat) (b:AO) (_:b.kd≠0),σ.h[i]?=some b->σ1.h[i]?=some b):OkAt P o (.v y) σ σ1:=by
 intro g0 h0 w0 g lb act w m T;obtain⟨g',w',v,h1,h2,h3,h4⟩:=h g lb act w m.sat T;exact⟨v,w',g',lb,.inl h4,by rw[hls];exact m.step h1 h2,by rw[hls];exact⟨h2.le,fun _ _=>rfl,fun _ h=>h,hraw⟩,h3,fun k off e=>(by cases e),ht,hds⟩
theorem zfu{h:List AO}{id:Nat}{o o':AO}(hid:h[id]?=some o)(hne:o.kd=0){i:Nat}{b:AO}(ob:b.kd≠0)(hi:h[i]?=some b):(h.set id o')[i]?=some b:=by
 rw[List.getElem?_set];by_cases e:id=i
 ·subst e;rw[hid]at hi;injection hi with hi;subst hi;exact absurd hne ob
 ·simp[e,hi]
theorem zl6{α:Type}{sz:Nat}:∀{es:List (List α)},(∀e∈es,e.length=sz)->∀{i:Nat} {e:List α},es[i]?=some e->∀(off:Nat) (cs:List α),off+cs.length<=e.length->(es.set i (over e off cs)).flatten=over es.flatten (i*sz+off) cs
 |[],_,i,e,h,_,_,_=>by simp at h
 |x::es,hz,i,e,h,off,cs,hle=>by
  have hx:x.length=sz:=hz x (by simp)
  have hfl:=za4 (es:=es) (fun e he=>hz e (List.mem_cons_of_mem _ he))
  cases i with
  |zero=>
   simp at h;subst h;rw[zg9 _ _ _ hle,zg9 _ _ _ (by simp;omega)]
   simp only[List.set_cons_zero,List.flatten_cons,Nat.zero_mul,Nat.zero_add];rw[List.take_append_of_le_length (by omega),List.drop_append_of_le_length (by omega)]
   simp
  |succ i=>
   have ih:=zl6 (es:=es) (fun e he=>hz e (List.mem_cons_of_mem _ he)) (by simpa using h) off cs hle
   have hi:i<es.length:=by have:=(List.getElem?_eq_some_iff.1 h).1;simpa using this
   have he:e.length=sz:=hz e (List.mem_of_getElem? h);have hb:i*sz+sz<=es.length*sz:=by rw[<- Nat.succ_mul];exact Nat.mul_le_mul_right _ hi
   have e1:(i+1)*sz+off=x.length+(i*sz+off):=by rw[hx,Nat.succ_mul];omega
   rw[List.set_cons_succ,List.flatten_cons,ih,List.flatten_cons,e1,zg9 _ _ _ (by omega),zg9 _ _ _ (by rw[List.length_append];omega)]
   rw[List.take_length_add_append,Nat.add_assoc x.length,List.drop_length_add_append];simp
theorem z6s{α:Type}(l1 l2:List α)(off:Nat)(cs:List α)(h:off+cs.length<=l1.length):over (l1++l2) off cs=over l1 off cs++l2:=by
 rw[zg9 _ _ _ (by rw[List.length_append];omega),zg9 _ _ _ h,List.take_append_of_le_length (by omega),List.drop_append_of_le_length (by omega)]
 simp
theorem zrh{α:Type}{Q:α->Prop}:∀{as1 cs:List α},(∀a∈cs,Q a)->(∀a∈as1,Q a)->∀(off:Nat),∀a∈over cs off as1,Q a
 |[],cs,h,_,off=>h
 |x::as1,cs,h,k,off=>zrh (as1:=as1) (fun a ha=>by
   rcases List.mem_or_eq_of_mem_set ha with h' | h'
   ·exact h a h'
   ·subst h';exact k _ (by simp)) (fun a ha=>k a (List.mem_cons_of_mem _ ha)) (off+1)
theorem zsm:∀{z:List AV},(∀a∈z,a.one=true)->∀a∈noz z,a.one=true
 |[],h=>h
 |x::z,h=>by
  have ih:=zsm (z:=z) fun a ha=>h a (List.mem_cons_of_mem _ ha)
  have hx:=h x (by simp)
  intro a ha
  cases x <;>
   (simp only[noz,List.mem_cons]at ha
    rcases ha with ha|ha
    ·subst ha
     first|exact hx|rfl
    ·exact ih a ha)
theorem z6e{α:Type}{sz:Nat}{es:List (List α)}(hz:∀e∈es,e.length=sz){i:Nat}{e:List α}(he:e.length=sz):∀x∈es.set i e,x.length=sz:=by
 intro x hx;rcases List.mem_or_eq_of_mem_set hx with h|h
 ·exact hz x h
 ·subst h;exact he
theorem ygy{o:Oper}{t:TypeId}{n:Nat}{x y:Operand}{ax ay:AX}(ho:o.op = .store t x y)(hn:zj0 P t=some n)(h1:cx x=some ax)(h2:cx y=some ay){σ σ1:St}{z:TV}{d:Nat}(he:evo d (.st n ax ay) σ=some (z,σ1)):OkAt P o z σ σ1:=by
 simp only[evo]at he
 split at he
 ·rename_i yv hy
  split at he
  ·rename_i cs hc
   obtain⟨rfl,hcn,hone⟩:=znn hc;have val:∀{g lb} {act:Act},Tm g lb σ.ls σ.t act.tmps->RVs g yv.cells (act.eval y).cells.toList/\(∀u∈(act.eval y).cells.toList,u.oneCell' = true)/\(act.eval y).cells.size=n:=by
    intro g lb act T;obtain⟨h3,h4⟩:=zp0 (zii T h2 hy) hone;exact⟨h3,h4,by have:=h3.1;have:=tl_ (act.eval y).cells;omega⟩
   split at he
   ·rename_i k off hq
    split at he
    ·rename_i c0 hl
     split at he
     ·rename_i hle
      cases he;intro g0 h0 w0 g lb act w m T
      obtain⟨h3,h4,h5⟩:=val T;have hv:=zj6 T h1;rw[hq]at hv;have hv:act.eval x = .pointer (some ⟨lb k,off,none⟩):=hv;obtain⟨c,t',h6,h7⟩:=m.lok.ok k c0 hl;have hst:=znw (P:=P) hn h5 h4 h6 (off:=off) (by have:=h7.1;have:=tl_ c;omega)
      obtain⟨h8,h9⟩:=m.write hl (cs:=over c0 off yv.cells) (c:=(over c.toList off (act.eval y).cells.toList).toArray) t' (by simpa using RVs.over_ h3 h7 off)
      exact⟨undef,_,g,lb,.inr ⟨zxt (s:=Instr.storeAt t (act.eval x) (act.eval y)) (by simp only[execOp,ho]) (by rw[hv];exact hst),rfl⟩,h8,h9,trivial,fun k off e=>(by cases e),rfl,rfl⟩
     ·cases he
    ·cases he
   ·rename_i id off hq
    split at he
    ·rename_i c0 hh
     split at he
     ·rename_i hle
      cases he;refine .skip rfl rfl rfl (fun g lb act w s T=>?_) (fun i b ob hi=>zfu hh rfl ob hi)
      obtain⟨h3,h4,h5⟩:=val T;have hv:=zj6 T h1;rw[hq]at hv;have hv:RV g (.ptr id off) (act.eval x):=hv;generalize hgx:act.eval x=vx at hv
      cases hv with
      |ptr hb=>
       obtain⟨b,c,t',h6,h7,h8⟩:=s.obj _ _ hh;rw[hb]at h6;cases h6;have hlt:=(Array.getElem?_eq_some_iff.1 h7).1;have hst:=znw (P:=P) hn h5 h4 h7 (off:=off) (by have:=h8.1;have:=tl_ c;omega)
       obtain⟨h9,h10⟩:=s.upd (g':=g) hh (.refl g) rfl rfl rfl (fun _ _=>rfl) (o':=.box (over c0 off yv.cells)) (Wd.putObj w _ (.cells (over c.toList off (act.eval y).cells.toList).toArray t' (0,0)) (P:=fun b'=>OwnAt g id b' (.box c0)) hb)
        ⟨_,(over c.toList off (act.eval y).cells.toList).toArray,t',hb,World.putObj_heap_same hlt,by simpa using RVs.over_ h3 h8 off⟩ (fun b' h=>.inl h) (fun _ _ _ e=>by cases e)
       exact⟨g,_,h9,h10,zxt (s:=Instr.storeAt t (act.eval x) (act.eval y)) (by simp only[execOp,ho]) (by rw[hgx];exact hst)⟩
     ·cases he
    ·cases he
   ·rename_i id ver sz i off hq
    split at he
    ·rename_i v0 sz' es hh
     split at he
     ·rename_i hvs
      obtain⟨rfl,rfl⟩:=hvs
      split at he
      ·rename_i e hes
       split at he
       ·rename_i hle
        cases he;refine .skip rfl rfl rfl (fun g lb act w s T=>?_) (fun i b ob hi=>zfu hh rfl ob hi)
        obtain⟨h3,h4,h5⟩:=val T;have hv:=zj6 T h1;rw[hq]at hv;obtain⟨b,n0,c0,hd,hp⟩:=hv;obtain⟨c,t',l1,l2,h7,h8,h9,h10,h11,h12,hz,hl,hr,hoo⟩:=znb s hh hd;have hlt:=(Array.getElem?_eq_some_iff.1 h7).1;have hfl:=za4 hz;have he':e.length=sz':=hz e (List.mem_of_getElem? hes);have hi:i<es.length:=(List.getElem?_eq_some_iff.1 hes).1;have hb:i*sz' + sz' <= es.length*sz':=by rw[<- Nat.succ_mul];exact Nat.mul_le_mul_right _ hi
        have hl1:l1.length=es.length*sz':=by rw[<- hr.1,hfl]
        have hcl:c.size=l1.length+l2.length:=by have:=congrArg List.length hl;simpa using this
        have hul:(act.eval y).cells.toList.length=n:=by simpa using h5
        have hst:=znw (P:=P) hn h5 h4 h7 (off:=i*sz' + off) (by omega)
        have hov:over c.toList (i*sz' + off) (act.eval y).cells.toList=over l1 (i*sz' + off) (act.eval y).cells.toList++l2:=by
         rw[hl];exact z6s _ _ _ _ (by omega)
        obtain⟨h13,h14⟩:=s.upd (g':=g) hh (.refl g) rfl rfl rfl (fun _ _=>rfl) (o':=.lst v0 sz' (es.set i (over e off yv.cells))) (Wd.putObj w _ (.cells (over c.toList (i*sz' + off) (act.eval y).cells.toList).toArray t' (0,0)) (P:=fun b'=>OwnAt g id b' (.lst v0 sz' es)) ⟨_,_,hd⟩)
         (.inr ⟨b,c0,(over c.toList (i*sz' + off) (act.eval y).cells.toList).toArray,t',over l1 (i*sz' + off) (act.eval y).cells.toList,l2,by rw[hd,h12];simp,World.putObj_heap_same hlt,by simp[zkd,h8],h9,by simpa using h10,by simpa using h11,
          z6e hz (by rw[zkd];exact he'),by simpa using hov,by
           rw[zl6 hz hes off yv.cells (by omega)]
           exact RVs.over_ h3 hr _,by
           rw[zl6 hz hes off yv.cells (by omega)]
           exact zrh hoo (fun a ha=>List.all_eq_true.1 hone a ha) _⟩) (fun b' h=>.inl h) (fun ver sz es e v hv=>by injection e with e1 _ _;subst e1;exact s.ver _ _ _ _ hh v hv)
        exact⟨g,_,h13,h14,zxt (s:=Instr.storeAt t (act.eval x) (act.eval y)) (by simp only[execOp,ho]) (by rw[hp];exact hst)⟩
       ·cases he
      ·cases he
     ·cases he
    ·cases he
   ·cases he
  ·cases he
 ·cases he
theorem ok_mkm{o:Oper}{t:TypeId}(ho:o.op = .makeMap t none){σ σ1:St}{z:TV}{d:Nat}(he:evo d .mkm σ=some (z,σ1)):OkAt P o z σ σ1:=by
 simp only[evo]at he;cases he;refine .val rfl rfl rfl (fun g lb act w s T=>?_) (fun i b ob hi=>zf8 hi)
 have hp:=s.past σ.h.length (Nat.le_refl _);have hle:=G.le_addBx (g:=g) (i:=σ.h.length) (b:=w.heap.size) hp.1;have hb:(g.addBx σ.h.length w.heap.size).bx σ.h.length=some w.heap.size:=by simp[G.addBx]
 obtain⟨h1,h2⟩:=s.push (g':=g.addBx σ.h.length w.heap.size) (o:=.mapo []) hle rfl rfl (fun i hi=>by simp[G.addBx,hi]) (fun _ _=>rfl) (Wd.alloc w (.map #[] 0) _)
  ⟨w.heap.size,#[],0,id,hb,World.alloc_heap_new w _,⟨rfl,fun i j p q hp=>by simp at hp,fun i hi=>by simp at hi,fun i hi=>by simp at hi⟩,fun i p e hp=>by simp at hp,fun i p e hp=>by simp at hp⟩
  (fun b h1=>by have h2:(g.addBx σ.h.length w.heap.size).bx σ.h.length=some b:=h1;rw[hb]at h2;injection h2 with e;omega) (fun ver sz es e=>by cases e)
 exact⟨_,_,.map (some w.heap.size),h1,h2,.mp hb,zbb (s:=Instr.makeMap t none) (by simp only[execOp,ho];rfl) rfl⟩
def z1d(f:Nat->Nat)(n:Nat):Nat->Nat:=fun i=>if i=n then n else f i
theorem Mpd.snoc{es:List (AV×AV)}{ms:Array MapEntry}{f:Nat->Nat}(M:Mpd es ms f){x:AV×AV}{e:MapEntry}(hx:∀(i:Nat) (p:AV×AV),es[i]?=some p->p.1≠x.1):Mpd (es++[x]) (ms.push e) (z1d f es.length) where
 len:=by simp[M.len]
 dist i j p q hp hq e:=by
  have at_:∀{i:Nat} {p:AV×AV},(es++[x])[i]?=some p->(i<es.length/\es[i]?=some p)\/(i=es.length/\p=x):=by
   intro i p h;rcases Nat.lt_trichotomy i es.length with hi|hi|hi
   ·rw[List.getElem?_append_left hi]at h;exact .inl ⟨hi,h⟩
   ·subst hi;simp at h;exact .inr ⟨rfl,h.symm⟩
   ·rw[List.getElem?_eq_none (by simp;omega)]at h;cases h
  rcases at_ hp with⟨h1,h2⟩|⟨rfl,rfl⟩ <;> rcases at_ hq with⟨h3,h4⟩|⟨rfl,rfl⟩
  ·exact M.dist i j p q h2 h4 e
  ·exact absurd e (hx i p h2)
  ·exact absurd e.symm (hx j q h4)
  ·rfl
 rng i hi:=by
  unfold z1d;simp at hi ⊢
  split
  ·omega
  ·have:=M.rng i (by omega);omega
 sur j hj:=by
  simp at hj;by_cases e:j=es.length
  ·exact⟨es.length,by simp,by simp[z1d,e]⟩
  ·obtain⟨i,hi,hf⟩:=M.sur j (by omega)
   exact⟨i,by simp;omega,by unfold z1d;rw[if_neg (by omega)];exact hf⟩
theorem Mpd.snoc_get{es:List (AV×AV)}{ms:Array MapEntry}{f:Nat->Nat}(M:Mpd es ms f){x:AV×AV}{y:MapEntry}{i:Nat}{p:AV×AV}{e:MapEntry}(hp:(es++[x])[i]?=some p)(he:(ms.push y)[z1d f es.length i]?=some e):
  (es[i]?=some p/\ms[f i]?=some e)\/(p=x/\e=y):=by
 rcases Nat.lt_trichotomy i es.length with hi|hi|hi
 ·rw[List.getElem?_append_left hi]at hp
  unfold z1d at he;rw[if_neg (by omega),Array.getElem?_push,if_neg (by have:=M.rng i hi;have:=M.len;omega)]at he
  exact .inl ⟨hp,he⟩
 ·subst hi
  unfold z1d at he;rw[if_pos rfl,Array.getElem?_push,if_pos M.len]at he;simp at hp he;exact .inr ⟨hp.symm,he.symm⟩
 ·rw[List.getElem?_eq_none (by simp;omega)]at hp;cases hp
theorem yjx{o:Oper}{t kt et:TypeId}{ik:IntKind}{m k v:Operand}{am ak av:AX}(ho:o.op = .insert t m k v\/o.op = .mapUpdate t m k v)(ht:P.underlying t=some (.map kt et))(hk:P.underlying kt=some (.int ik))(h1:cx m=some am)(h2:cx k=some ak)(h3:cx v=some av)
  {σ σ1:St} {z:TV} {d:Nat} (he:evo d (.ins am ak av) σ=some (z,σ1)):OkAt P o z σ σ1:=by
 simp only[evo]at he
 split at he
 ·rename_i id kk n y e1 e2 e3
  split at he
  ·rename_i es hh
   split at he
   ·rename_i hki
    split at he
    ·rename_i hf
     cases he;refine .skip rfl rfl rfl (fun g lb act w s T=>?_) (fun i b ob hi=>zfu hh rfl ob hi)
     have hm:=zii T h1 e1;have hkk:=zii T h2 e2;have hy:=zii T h3 e3;generalize hgm:act.eval m=vm at hm;generalize hgk:act.eval k=vk at hkk;generalize hgv:act.eval v=vv at hy;cases hkk
     cases hm with
     |mp hb=>
      obtain⟨b,ms,ck,f,h6,h7,h8,h9,h10⟩:=s.obj _ _ hh;rw[hb]at h6;cases h6;have hlt:=(Array.getElem?_eq_some_iff.1 h7).1;have h11:=zy5 (ik:=ik) h8 h9 hki hf;dsimp only at h11;have hfk:(Instr.findKey kt (.int kk n) ms.toList).run P w = .ok none w:=by simp[Instr.findKey,run_underlying hk,h11]
      have hM:=h8.snoc (x:=(AV.int kk n,y)) (e:={ key:=.int kk n,val:=vv,born:=ck }) (fun i p hp=>zsv hki hf hp)
      have get:=@Mpd.snoc_get es ms f h8 (AV.int kk n,y) { key:=.int kk n,val:=vv,born:=ck };obtain⟨h12,h13⟩:=s.upd (g':=g) hh (.refl g) rfl rfl rfl (fun _ _=>rfl) (o':=.mapo (es++[(.int kk n,y)])) (Wd.putObj w _ (.map (ms.push { key:=.int kk n,val:=vv,born:=ck }) (ck+1)) (P:=fun b'=>OwnAt g id b' (.mapo es)) hb)
       ⟨_,ms.push { key:=.int kk n,val:=vv,born:=ck },ck+1,z1d f es.length,hb,World.putObj_heap_same hlt,hM,
        fun i p e hp he=>by
         rcases get hp he with⟨h,h'⟩|⟨rfl,rfl⟩
         ·exact h9 i p e h h'
         ·exact .int _ _,
        fun i p e hp he=>by
         rcases get hp he with⟨h,h'⟩|⟨rfl,rfl⟩
         ·exact h10 i p e h h'
         ·exact hy⟩ (fun b' h=>.inl h) (fun _ _ _ e=>by cases e)
      refine⟨g,_,h12,h13,zxt (s:=Instr.mapUpdate t (act.eval m) (act.eval k) (act.eval v)) (by rcases ho with ho|ho <;> simp only[execOp,ho]) ?_⟩
      rw[hgm,hgk,hgv];simp[Instr.mapUpdate,run_underlying ht,zqg h7,zjk hk,hfk,setObj,Sem.run,h7,World.putObj]
    ·cases he
   ·cases he
  ·cases he
 ·cases he
theorem zrr{α:Type}[Inhabited α](z:Array α)(n:Nat)(h:0<z.size):((Array.range (n*z.size)).map (z[· % z.size]!)).toList=(List.replicate n z.toList).flatten:=by
 apply List.ext_getElem?;intro i;have hlen:(List.replicate n z.toList).flatten.length=n*z.size:=by simp
 by_cases hi:i<n*z.size
 ·have hm:i % z.size<z.size:=Nat.mod_lt _ h
  have hd:i / z.size<n:=by rw[Nat.div_lt_iff_lt_mul h];exact hi
  have h1:(List.replicate n z.toList)[i / z.size]?=some z.toList:=by simp[hd]
  have h2:z.toList[i % z.size]?=some z[i % z.size]:=by simp[hm]
  have h3:=znc (sz:=z.size) (es:=List.replicate n z.toList) (fun e he=>by rw[List.eq_of_mem_replicate he];simp) h1 h2
  rw[Nat.mul_comm,Nat.div_add_mod]at h3;rw[h3];simp[hi,hm]
 ·rw[List.getElem?_eq_none (by simp;omega),List.getElem?_eq_none (by rw[hlen];omega)]
theorem z7c{σ:St}{act:Act}{g:G}{lb:Nat->Nat}(T:Tm g lb σ.ls σ.t act.tmps){sz:Nat}(hsz:0<sz):∀{ps:List (Nat×Operand)} {l:List (Nat×AX)},zj5 (fun p=>match cx p.2 with
        |some x=>some (p.1,x)
        |none=>none) ps=some l->∀{z es:List (List AV)} {zc:Array Value},RVs g z.flatten zc.toList->(∀e∈z,e.length=sz)->zwl σ sz z l=some es ->
  ∃cells,Instr.fill (fun i=>some (i*sz,sz)) zc (ps.map fun p=>(p.1,act.eval p.2))=some cells/\RVs g es.flatten cells.toList/\(∀e∈es,e.length=sz)/\es.length=z.length/\((∀a∈z.flatten,a.one=true)->∀a∈es.flatten,a.one=true)
 |[],l,h,z,es,zc,hz,hl,hf=>by simp[zj5]at h;subst h;simp only[zwl]at hf;cases hf;exact⟨zc,rfl,hz,hl,rfl,fun h=>h⟩
 |(i,x)::ps,l,h,z,es,zc,hz,hl,hf=>by
  simp only[zj5]at h
  cases hx:cx x with
  |none=>simp only[hx]at h;cases h
  |some ax=>
   simp only[hx]at h
   cases hr:zj5 (fun p:Nat×Operand=>match cx p.2 with
    |some x=>some (p.1,x)
    |none=>none) ps with
   |none=>rw[hr]at h;cases h
   |some r=>
    rw[hr]at h;cases h;simp only[zwl]at hf
    cases ha:σ.a ax with
    |none=>simp only[ha]at hf;cases hf
    |some a=>
     simp only[ha]at hf
     cases hc:a.cellsN sz with
     |none=>simp only[hc]at hf;cases hf
     |some c1=>
      simp only[hc]at hf
      split at hf
      ·rename_i hlt
       obtain⟨rfl,h1,h2⟩:=znn hc;obtain⟨h3,_⟩:=zp0 (zii T hx ha) h2;have hs:(act.eval x).cells.size=sz:=by have h6:=h3.1;rw[h1,Array.length_toList]at h6;exact h6.symm
       have hzl:=za4 hl;have hz2:zc.size=z.length*sz:=by have h6:=hz.1;have h7:zc.toList.length=zc.size:=Array.length_toList;omega
       have hb:i*sz+sz<=z.length*sz:=by rw[<- Nat.succ_mul];exact Nat.mul_le_mul_right _ hlt
       obtain⟨e,he⟩:∃e,z[i]?=some e:=⟨z[i],by simp[hlt]⟩
       have hel:e.length=sz:=hl e (List.mem_of_getElem? he);have hfo:(z.set i a.cells).flatten=over z.flatten (i*sz) a.cells:=by
        have:=zl6 hl he 0 a.cells (by omega)
        rw[Nat.add_zero]at this;rw[<- this]
        congr 2
        rw[zg9 _ _ _ (by omega)]
        simp[h1,<- hel]
       obtain⟨cells,h4,h5,h6,h7,h8⟩:=z7c T hsz hr (z:=z.set i a.cells) (zc:=(over zc.toList (i*sz) (act.eval x).cells.toList).toArray) (by rw[hfo];simpa using RVs.over_ h3 hz (i*sz)) (z6e hl h1) hf
       refine⟨cells,?_,h5,h6,by rw[h7];simp,fun hzo=>h8 (by rw[hfo];exact zrh hzo (fun a ha=>List.all_eq_true.1 h2 a ha) _)⟩
       rw[List.map_cons,z2b (off:=i*sz) (size:=sz) (hp:=rfl) (hs:=hs) (hf:=by omega)]
       exact h4
      ·cases hf
theorem zqh{t:TypeId}{sz:Nat}(h:esz P t=some sz):∃e i z,P.underlying t=some (.slice e)/\zbf P t=some e/\P.info? e=some i/\i.zero=some z/\z.cells.size=sz/\i.size=sz/\0<sz/\i.bytes<=65536:=by
 unfold esz at h
 split at h
 ·rename_i e he
  split at h
  ·rename_i i hi
   split at h
   ·rename_i z hz
    split at h
    ·rename_i h1
     split at h
     ·rename_i h2
      split at h
      ·rename_i h3
       cases h;refine⟨e,i,z,?_,he,hi,hz,h1,rfl,h2,h3⟩
       unfold zbf at he
       split at he
       ·cases he;assumption
       ·cases he
      ·cases h
     ·cases h
    ·cases h
   ·cases h
  ·cases h
 ·cases h
theorem yeg{o:Oper}{t e:TypeId}{n sz:Nat}{ps:Array (Nat×Operand)}{z:List AV}{l:List (Nat×AX)}(ho:o.op = .buildSlice t n ps)(hs:esz P t=some sz)(hel:zbf P t=some e)(hz:zet P e=some z)
  (hl:zj5 (fun p=>match cx p.2 with
    |some x=>some (p.1,x)
    |none=>none) ps.toList=some l) (hn:n≠0) {σ:St} {es:List (List AV)} (hf:zwl σ sz (List.replicate n (noz z)) l=some es) (hc:(noz z).length=sz/\0<sz/\n<=1024/\sz<=1024)
  {g:G} {lb:Nat->Nat} {act:Act} (w:World) (T:Tm g lb σ.ls σ.t act.tmps) :
  ∃cells,(execOp act.eval o).run P w = .ok (.value (.slice (some ⟨w.heap.size,0,none⟩) n n)) (w.alloc (.cells cells e))/\RVs g es.flatten cells.toList/\(∀e∈es,e.length=sz)/\es.length=n/\(∀a∈es.flatten,a.one=true):=by
 obtain⟨e',i,zv,hu,he',hi,hzv,hzs,his,hpos,_⟩:=zqh hs;rw[hel]at he';cases he';obtain⟨i',v',hi',hv',hr,hzone⟩:=zd2 hz;rw[hi]at hi';cases hi';rw[hzv]at hv';cases hv';obtain⟨hc1,hc2,hc3,hc4⟩:=hc;have hmul:n*sz<=1024*1024:=Nat.mul_le_mul hc3 hc4;have hnp:0<n*sz:=Nat.mul_pos (by omega) hc2
 have hrep:RVs g (List.replicate n (noz z)).flatten ((Array.range (n*sz)).map (zv.cells[· % zv.cells.size]!)).toList:=by
  have e1:=zrr zv.cells n (by omega)
  rw[hzs]at e1;rw[hzs,e1];exact z1l (zl3 (hr g)) n
 obtain⟨cells,h4,h5,h6,h7,h8⟩:=z7c T hc2 hl (z:=List.replicate n (noz z)) hrep (fun e he=>by rw[List.eq_of_mem_replicate he];exact hc1) hf
 refine⟨cells,zbb (s:=Instr.buildSlice t n (ps.map fun (i,x)=>(i,act.eval x))) (by simp only[execOp,ho]) (run_buildSlice w t e n _ cells i zv hu hi hzv (by rw[his];omega) (by rw[his];omega) ?_),h5,h6,by rw[h7];simp,h8 (zyi (zsm hzone) n)⟩
 rw[his,Array.toList_map];exact h4
theorem ok_bsl{o:Oper}{t e:TypeId}{n sz:Nat}{ps:Array (Nat×Operand)}{z:List AV}{l:List (Nat×AX)}(ho:o.op = .buildSlice t n ps)(hs:esz P t=some sz)(hel:zbf P t=some e)(hz:zet P e=some z)
  (hl:zj5 (fun p=>match cx p.2 with
    |some x=>some (p.1,x)
    |none=>none) ps.toList=some l) (hn:n≠0) {σ σ1:St} {x:TV} {d:Nat} (he:evo d (.bsl sz n z l) σ=some (x,σ1)):OkAt P o x σ σ1:=by
 simp only[evo]at he
 split at he
 ·rename_i es hf
  split at he
  ·rename_i hc
   cases he;refine .val rfl rfl rfl (fun g lb act w s T=>?_) (fun i b ob hi=>hi)
   obtain⟨cells,h1,h2,h3,h4,hoo⟩:=yeg ho hs hel hz hl hn hf hc w T;obtain⟨h5,h6⟩:=s.freeze cells e;refine⟨_,_,_,h5,h6,?_,h1⟩;refine .sl (fun k=>(cells[k]?).getD undef) h4 (by have:=hc.2.2.1;unfold z3y;omega) (Nat.le_refl _) h3 hoo (fun k a ha=>?_) (fun k a ha=>?_)
   ·obtain⟨v,hv,_⟩:=h2.at ha
    have hv:cells[k]?=some v:=by simpa using hv
    simp[G.addFz,hv]
   ·obtain⟨v,hv,hr⟩:=h2.at ha
    have hv:cells[k]?=some v:=by simpa using hv
    rw[hv];exact hr.mono h6.le
  ·cases he
 ·cases he
theorem ok_bxF{o:Oper}{t:TypeId}{x:Operand}{ax:AX}(ho:o.op = .box t x)(h1:cx x=some ax){σ σ1:St}{y:TV}{d:Nat}(he:evo d (.bxF ax) σ=some (y,σ1)):OkAt P o y σ σ1:=by
 simp only[evo]at he
 split at he
 ·rename_i a ha
  split at he
  ·rename_i cs hc
   cases he;obtain⟨rfl,_,h3⟩:=znn hc
   refine .val rfl rfl rfl (fun g lb act w s T=>?_) (fun i b ob hi=>hi)
   have h2:=(zp0 (zii T h1 ha) h3).1;obtain⟨h5,h6⟩:=s.freeze (act.eval x).cells t;refine⟨_,_,_,h5,h6,?_,zbb (s:=Instr.box t (act.eval x)) (by simp only[execOp,ho]) (zra t _ w)⟩
   refine .fp (fun k=>((act.eval x).cells[k]?).getD undef) (fun k a ha=>?_) (fun k a ha=>?_)
   ·obtain⟨v,hv,_⟩:=h2.at ha
    have hv:(act.eval x).cells[k]?=some v:=by simpa using hv
    simp[G.addFz,hv]
   ·obtain⟨v,hv,hr⟩:=h2.at ha
    have hv:(act.eval x).cells[k]?=some v:=by simpa using hv
    rw[hv];exact hr.mono h6.le
  ·cases he
 ·cases he
theorem Sat.pushLst{g:G}{h:List AO}{w w1:World}(s:Sat g h w){sz cap:Nat}{es:List (List AV)}{c:Array Value}{l1 l2:List Value}(t:TypeId)(hw:Wd w w1 fun _=>False)(hb:w1.heap[w.heap.size]?=some (.cells c t (0,0)))(hc:c.size=cap*sz)(hpos:0<sz)(hle:es.length<=cap)(hmax:es.length<=z3y)
  (hz:∀e∈es,e.length=sz) (hl:c.toList=l1++l2) (hr:RVs g es.flatten l1) (hoo:∀a∈es.flatten,a.one=true) :
  let g':=g.addHd h.length 0 (some ⟨w.heap.size,0,none⟩,es.length,cap)
  Sat g' (h++[.lst 0 sz es]) w1/\Ev g h w g' (h++[.lst 0 sz es]) w1/\RV g' (.ol h.length 0) (.slice (some ⟨w.heap.size,0,none⟩) es.length cap):=by
 intro g';have hp:=s.past h.length (Nat.le_refl _);have hle':g.Le g':=G.le_addHd (hp.2 0);have hh:g'.hd h.length 0=some (some ⟨w.heap.size,0,none⟩,es.length,cap):=by simp[g',G.addHd]
 have:=s.push (g':=g') (o:=.lst 0 sz es) (w':=w1) hle' rfl rfl (fun _ _=>rfl) (fun i hi=>by funext v;simp[g',G.addHd,hi]) hw
  (.inr ⟨w.heap.size,cap,c,t,l1,l2,hh,hb,hc,hpos,hle,hmax,hz,hl,hr.mono hle',hoo⟩)
  (fun b ⟨n,c,hb⟩=>by rw[hh]at hb;injection hb with hb;injection hb with hb _;injection hb with hb;injection hb with hb;omega) (fun ver sz' es e v hv=>by injection e with e1 _ _;subst e1;simp[g',G.addHd];rw[if_neg (by omega)];exact hp.2 v)
 exact⟨this.1,this.2,.ol hh⟩
theorem ok_bslO{o:Oper}{t e:TypeId}{n sz:Nat}{ps:Array (Nat×Operand)}{z:List AV}{l:List (Nat×AX)}(ho:o.op = .buildSlice t n ps)(hs:esz P t=some sz)(hel:zbf P t=some e)(hz:zet P e=some z)
  (hl:zj5 (fun p=>match cx p.2 with
    |some x=>some (p.1,x)
    |none=>none) ps.toList=some l) (hn:n≠0) {σ σ1:St} {x:TV} {d:Nat} (he:evo d (.bslO sz n z l) σ=some (x,σ1)):OkAt P o x σ σ1:=by
 simp only[evo]at he
 split at he
 ·rename_i es hf
  split at he
  ·rename_i hc
   cases he;refine .val rfl rfl rfl (fun g lb act w s T=>?_) (fun i b ob hi=>zf8 hi)
   obtain⟨cells,h1,h2,h3,h4,hoo⟩:=yeg ho hs hel hz hl hn hf hc w T;have hfl:=za4 h3;have hcs:cells.size=n*sz:=by have h6:=h2.1;have h7:cells.toList.length=cells.size:=Array.length_toList;rw[h4]at hfl;omega
   obtain⟨h5,h6,h7⟩:=s.pushLst (es:=es) (cap:=n) (sz:=sz) (c:=cells) (l1:=cells.toList) (l2:=[]) e (Wd.alloc w (.cells cells e) _) (World.alloc_heap_new w _) hcs hc.2.1 (by omega) (by have:=hc.2.2.1;unfold z3y;omega) h3 (by simp) h2 hoo
   rw[h4]at h5 h6 h7;exact⟨_,_,_,h5,h6,h7,h1⟩
  ·cases he
 ·cases he
theorem z6g{l c:Operand}(h:yaq l c=true)(a:Act):a.eval c=a.eval l:=by
 unfold yaq at h
 split at h
 ·simp at h;subst h;rfl
 ·simp at h;obtain⟨rfl,rfl⟩:=h;rfl
 ·cases h
theorem ok_mks{o:Oper}{t e:TypeId}{sz:Nat}{l c:Operand}{al:AX}{z:List AV}(ho:o.op = .makeSlice t l c)(hlc:yaq l c=true)(hs:esz P t=some sz)(hel:zbf P t=some e)(hx:cx l=some al)(hz:zet P e=some z)
  {σ σ1:St} {x:TV} {d:Nat} (he:evo d (.mks sz z al) σ=some (x,σ1)):OkAt P o x σ σ1:=by
 simp only[evo]at he
 split at he
 ·rename_i k n e1
  split at he
  ·rename_i hc
   obtain⟨hc1,hc2,hc3,hc4,hc5⟩:=hc;cases he;obtain⟨e',i,zv,hu,he',hi,hzv,hzs,his,hpos,hby⟩:=zqh hs;rw[hel]at he';cases he';obtain⟨i',v',hi',hv',hr,hzone⟩:=zd2 hz;rw[hi]at hi';cases hi';rw[hzv]at hv';cases hv';refine .val rfl rfl rfl (fun g lb act w s T=>?_) (fun i b ob hi=>zf8 hi)
   have hlv:=zii T hx e1;generalize hgl:act.eval l=lv at hlv;cases hlv;have hcv:=z6g hlc act;rw[hgl]at hcv;have hby':(i.bytes:Int)*n<=281474976710656:=by
    have h1:(i.bytes:Int)*n<=65536*1073741824:=Int.mul_le_mul (by omega) hc2 hc1 (by omega)
    omega
   have hrun:=run_make (P:=P) w t e i zv hu hi hzv k k n n hc1 (Int.le_refl _) hby' (by omega)
   rw[his]at hrun;have hrep:RVs g (List.replicate n.toNat (noz z)).flatten (madeCells zv.cells (n.toNat*sz)).toList:=by
    have e1:=zrr zv.cells n.toNat (by omega)
    rw[hzs]at e1;unfold madeCells;rw[hzs,e1];exact z1l (zl3 (hr g)) n.toNat
   obtain⟨h5,h6,h7⟩:=s.pushLst (es:=List.replicate n.toNat (noz z)) (cap:=n.toNat) (sz:=sz) (c:=madeCells zv.cells (n.toNat*sz)) (l1:=(madeCells zv.cells (n.toNat*sz)).toList) (l2:=[]) e (Wd.alloc w (.cells (madeCells zv.cells (n.toNat*sz)) e) _) (World.alloc_heap_new w _)
    (size_madeCells _ _) hc4 (by simp) (by simp[z3y];omega) (fun e he=>by rw[List.eq_of_mem_replicate he];exact hc3) (by simp) hrep (zyi (zsm hzone) n.toNat)
   rw[List.length_replicate]at h5 h6 h7;exact⟨_,_,_,h5,h6,h7,zbb (s:=Instr.makeSlice t (act.eval l) (act.eval c)) (by simp only[execOp,ho]) (by rw[hgl,hcv];exact hrun)⟩
  ·cases he
 ·cases he
theorem ok_mkz{o:Oper}{t e:TypeId}{sz:Nat}{l c:Operand}{al:AX}{z:List AV}(ho:o.op = .makeSlice t l c)(hlc:yaq l c=true)(hs:esz P t=some sz)(hel:zbf P t=some e)(hx:cx l=some al)(hz:zet P e=some z)
  {σ σ1:St} {x:TV} {d:Nat} (he:evo d (.mkz sz z al) σ=some (x,σ1)):OkAt P o x σ σ1:=by
 simp only[evo]at he
 split at he
 ·rename_i k n e1
  split at he
  ·rename_i hc
   obtain⟨hc1,hc2,hc3,hc4,hc5⟩:=hc;cases he;obtain⟨e',i,zv,hu,he',hi,hzv,hzs,his,hpos,hby⟩:=zqh hs;rw[hel]at he';cases he';obtain⟨i',v',hi',hv',hr,hzone⟩:=zd2 hz;rw[hi]at hi';cases hi';rw[hzv]at hv';cases hv';refine .val rfl rfl rfl (fun g lb act w s T=>?_) (fun i b ob hi=>hi)
   have hlv:=zii T hx e1;generalize hgl:act.eval l=lv at hlv;cases hlv;have hcv:=z6g hlc act;rw[hgl]at hcv;have hby':(i.bytes:Int)*n<=281474976710656:=by
    have h1:(i.bytes:Int)*n<=65536*1073741824:=Int.mul_le_mul (by omega) hc2 hc1 (by omega)
    omega
   have hrun:=run_make (P:=P) w t e i zv hu hi hzv k k n n hc1 (Int.le_refl _) hby' (by omega)
   rw[his]at hrun;have hrep:RVs g (List.replicate n.toNat (noz z)).flatten (madeCells zv.cells (n.toNat*sz)).toList:=by
    have e1:=zrr zv.cells n.toNat (by omega)
    rw[hzs]at e1;unfold madeCells;rw[hzs,e1];exact z1l (zl3 (hr g)) n.toNat
   have hsz:(madeCells zv.cells (n.toNat*sz)).toList.length=(madeCells zv.cells (n.toNat*sz)).size:=Array.length_toList;obtain⟨h5,h6⟩:=s.freeze (madeCells zv.cells (n.toNat*sz)) e;refine⟨_,_,_,h5,h6,?_,zbb (s:=Instr.makeSlice t (act.eval l) (act.eval c)) (by simp only[execOp,ho]) (by rw[hgl,hcv];exact hrun)⟩
   refine .sl (sz:=sz) (fun k=>((madeCells zv.cells (n.toNat*sz))[k]?).getD undef) (by simp) (by unfold z3y;omega) (Nat.le_refl _) (fun e he=>by rw[List.eq_of_mem_replicate he];exact hc3) (zyi (zsm hzone) n.toNat) (fun k a ha=>?_) (fun k a ha=>?_)
   ·obtain⟨v,hv,_⟩:=hrep.at ha
    have hv:(madeCells zv.cells (n.toNat*sz))[k]?=some v:=by simpa using hv
    simp[G.addFz,hv]
   ·obtain⟨v,hv,hr⟩:=hrep.at ha
    have hv:(madeCells zv.cells (n.toNat*sz))[k]?=some v:=by simpa using hv
    rw[hv];exact hr.mono h6.le
  ·cases he
 ·cases he
end Go.Ab
set_option linter.unusedVariables false
set_option linter.unusedSimpArgs false
namespace Go.Ab
open Go.RowKit
variable {P : Program}
theorem z3f{w w':World}(h:w'.heap=w.heap)(a:Addr):w'.cell? a=w.cell? a:=by simp[World.cell?,h]
theorem z17{g:G}{h:List AO}{w:World}(s:Sat g h w){σ:St}(hσ:σ.h=h){b:AV}{fs:List (List AV)}(he:elems σ b=some fs){v:Value}(hr:RV g b v){sz:Nat}(hz:∀e∈fs,e.length=sz):
  ∃A c news,v = .slice A fs.length c/\RVs g fs.flatten news/\(∀w' m,w'.heap=w.heap->m<=fs.length->(Builtin.firstCells sz m v).run P w' = .ok (news.take (m*sz)).toArray w')/\(∀u∈news,u.oneCell' = true)/\(∀a∈fs.flatten,a.one=true):=by
 have one:∀{news:List Value},RVs g fs.flatten news->∀u∈news,(∀a∈fs.flatten,a.one=true)->u.oneCell' = true:=by
  intro news hn u hu ha;obtain⟨i,hi⟩:=List.getElem?_of_mem hu;have hl:i<fs.flatten.length:=by rw[hn.1];exact (List.getElem?_eq_some_iff.1 hi).1
  exact (hn.2 i _ u (by simp[hl]) hi).oneCell (ha _ (List.getElem_mem hl))
 have nil:fs=[]->∀{A c},v = .slice A 0 c->∃A c news,v = .slice A fs.length c/\RVs g fs.flatten news/\(∀w' m,w'.heap=w.heap->m<=fs.length->(Builtin.firstCells sz m v).run P w' = .ok (news.take (m*sz)).toArray w')/\(∀u∈news,u.oneCell' = true)/\(∀a∈fs.flatten,a.one=true):=by
  intro hf A c hv;subst hf;refine⟨A,c,[],hv,.nil g,fun w' m _ hm=>?_,fun u hu=>by simp at hu,fun a ha=>by simp at ha⟩
  subst hv;obtain rfl:m=0:=by simpa using hm
  cases A <;> simp[Builtin.firstCells,loadCells,loadCellsFrom]
 have full:∀{ad:Addr} {c:Nat} {news:List Value},v = .slice (some ad) fs.length c->RVs g fs.flatten news->(∀a∈fs.flatten,a.one=true)->(∀(j:Nat) (u:Value),news[j]?=some u->w.cell? (ad.add j)=some u) ->
   ∃A c news,v = .slice A fs.length c/\RVs g fs.flatten news/\(∀w' m,w'.heap=w.heap->m<=fs.length->(Builtin.firstCells sz m v).run P w' = .ok (news.take (m*sz)).toArray w')/\(∀u∈news,u.oneCell' = true)/\(∀a∈fs.flatten,a.one=true):=by
  intro ad c news hv hn hoo hc;refine⟨_,c,news,hv,hn,fun w' m hw hm=>?_,fun u hu=>one hn u hu hoo,hoo⟩
  subst hv;have hl:news.length=fs.length*sz:=by rw[<- hn.1,za4 hz]
  have:=run_loadCells_list (P:=P) w' ad (news.take (m*sz)) (fun j u hj=>by
   rw[List.getElem?_take]at hj
   split at hj
   ·rw[z3f hw];exact hc j u hj
   ·cases hj)
  rw[List.length_take,Nat.min_eq_left (by rw[hl];exact Nat.mul_le_mul_right _ hm)]at this
  simpa [Builtin.firstCells] using this
 unfold elems at he
 split at he
 ·cases he
  cases hr with
  |sl0 A c=>exact nil rfl rfl
  |sl f hl hn hnc hz' hoo hf hr=>
   rename_i bb o n c sz';subst hl;refine full (news:=(List.range fs.flatten.length).map f) rfl ⟨by simp,fun i a u ha hu=>?_⟩ hoo (fun j u hj=>?_)
   ·have hi:i<fs.flatten.length:=(List.getElem?_eq_some_iff.1 ha).1
    rw[List.getElem?_map,List.getElem?_range hi]at hu;simp at hu;subst hu;exact hr i a ha
   ·rw[List.getElem?_map]at hj
    by_cases hl:j<fs.flatten.length
    ·rw[List.getElem?_range hl]at hj
     simp at hj;subst hj;obtain⟨c',t',fr,h7,h8⟩:=s.fz _ _ _ (hf j fs.flatten[j] (by simp[hl]))
     rw[Addr.add_lit,zbh h7];exact h8
    ·rw[List.getElem?_eq_none (by simpa using hl)]at hj;cases hj
 ·cases he
  cases hr;exact nil rfl rfl
 ·rename_i id ver
  split at he
  ·rename_i v0 sz' es hh
   split at he
   ·rename_i hv0
    subst hv0;cases he;rw[hσ]at hh
    cases hr with
    |ol hd=>
     rename_i A n c;rcases s.obj _ _ hh with⟨h3,h4⟩|⟨b',cap,c',t,l1,l2,h1,h2,h3,h4,h5,h6,h7,h8,h9⟩
     ·subst h3;rw[hd]at h4;cases h4;exact nil rfl rfl
     ·rw[hd]at h1;cases h1
      refine full rfl h9.1 h9.2 (fun j u hj=>?_)
      rw[Addr.add_lit,zbh h2,Nat.zero_add];have:c'.toList[j]?=some u:=by rw[h8,List.getElem?_append_left (List.getElem?_eq_some_iff.1 hj).1];exact hj
      simpa using this
   ·cases he
  ·cases he
 ·cases he
  cases hr;exact nil rfl rfl
 ·rename_i id ver sz2 lo n
  split at he
  ·rename_i v0 sz' es hh
   split at he
   ·rename_i hc
    obtain⟨rfl,rfl,hle⟩:=hc;cases he;rw[hσ]at hh;have hlen:((es.take (lo+n)).drop lo).length=n:=by rw[List.length_drop,List.length_take];omega
    cases hr with
    |ov hd ha hn=>
     rename_i m k c A a;rcases Nat.eq_zero_or_pos n with h0|h0
     ·subst h0
      exact nil (List.eq_nil_of_length_eq_zero hlen) rfl
     ·rcases ha with ha|⟨b,rfl,rfl⟩
      ·omega
      ·rcases s.obj _ _ hh with⟨h3,h4⟩|⟨b',cap,c',t,l1,l2,h1,h2,h3,h4,h5,h6,h7,h8,h9⟩
       ·subst h3;simp at hle;omega
       ·rw[hd]at h1;cases h1
        have hfl:((es.take (lo+n)).drop lo).flatten=(es.flatten.drop (lo*sz')).take (n*sz'):=by
         rw[zl7 (sz:=sz') (fun e he=>h7 e (List.mem_of_mem_take he)),zhj h7,List.drop_take]
         congr 1;rw[Nat.add_mul];omega
        refine full (news:=(l1.drop (lo*sz')).take (n*sz')) (by rw[hlen]) (by rw[hfl];exact (h9.1.drop _).take _) (fun a ha=>h9.2 a (by
         rw[hfl]at ha;exact List.mem_of_mem_drop (List.mem_of_mem_take ha))) (fun j u hj=>?_)
        rw[Addr.add_lit,zbh h2];rw[List.getElem?_take]at hj
        split at hj
        ·rw[List.getElem?_drop]at hj
         have:c'.toList[lo*sz' + j]?=some u:=by rw[h8,List.getElem?_append_left (List.getElem?_eq_some_iff.1 hj).1];exact hj
         simpa using this
        ·cases hj
   ·cases he
  ·cases he
 ·cases he
theorem zy4{g:G}{h:List AO}{w:World}(s:Sat g h w){σ:St}(hσ:σ.h=h){b:AV}{fs:List (List AV)}(he:elems σ b=some fs){v:Value}(hr:RV g b v){sz:Nat}(hz:∀e∈fs,e.length=sz):
  ∃A c news,v = .slice A fs.length c/\RVs g fs.flatten news/\(∀w',w'.heap=w.heap->(Builtin.firstCells sz fs.length v).run P w' = .ok news.toArray w')/\(∀u∈news,u.oneCell' = true)/\(∀a∈fs.flatten,a.one=true):=by
 obtain⟨A,c,news,h1,h2,h3,h4⟩:=z17 (P:=P) s hσ he hr hz;refine⟨A,c,news,h1,h2,fun w' hw=>?_,h4⟩
 rw[h3 w' fs.length hw (Nat.le_refl _),List.take_of_length_le (by rw[<- h2.1,za4 hz];exact Nat.le_refl _)]
theorem yeu{t e ty:TypeId}{i:TypeInfo}(ht:P.underlying t=some (.slice e))(hi:P.info? e=some i){w:World}{b n cap m:Nat}{cur:Array Value}{t':TypeId}(hb:w.heap[b]?=some (.cells cur t' (0,0))){A:Option Addr}{c:Nat}{news:List Value}
  (hf:(Builtin.firstCells i.size m (.slice A m c)).run P w = .ok news.toArray w) (h1:∀u∈news,u.oneCell' = true) (hroom:n+m<=cap) (hfit:n*i.size+news.length<=cur.size) :
  (Builtin.append_ #[t,t] ty #[.slice (some ⟨b,0,none⟩) n cap,.slice A m c]).run P w = .ok (.slice (some ⟨b,0,none⟩) (n+m) cap) (w.putObj b (.cells (over cur.toList (n*i.size) news).toArray t' (0,0))):=by
 have hst:=run_storeCells_at P b (n*i.size) t' news 0 cur w hb (by simpa using hfit) h1
 rw[znv hb]at hst;simp only[Nat.add_zero]at hst;rw[<- zg9 _ _ _ (by simpa using hfit)]at hst
 simp[Builtin.append_,run_underlying ht,sizeOf,typeInfo,hi,Builtin.lenOf,hroom,hf,Addr.add_lit,hst]
theorem z0k{t e ty:TypeId}{i:TypeInfo}(ht:P.underlying t=some (.slice e))(hi:P.info? e=some i){w:World}{A:Option Addr}{c:Nat}{news:List Value}
  (hf:(Builtin.firstCells i.size 0 (.slice A 0 c)).run P w = .ok news.toArray w) :
  (Builtin.append_ #[t,t] ty #[.slice none 0 0,.slice A 0 c]).run P w = .ok (.slice none 0 0) w:=by
 simp[Builtin.append_,run_underlying ht,sizeOf,typeInfo,hi,Builtin.lenOf,hf]
theorem z3n{t e ty:TypeId}{i:TypeInfo}(ht:P.underlying t=some (.slice e))(hi:P.info? e=some i){w:World}{B A:Option Addr}{c:Nat}{news:List Value}
  (hf:(Builtin.firstCells i.size 0 (.slice A 0 c)).run P w = .ok news.toArray w) (hn:news=[]) :
  (Builtin.append_ #[t,t] ty #[.slice B 0 0,.slice A 0 c]).run P w = .ok (.slice B 0 0) w:=by
 subst hn
 cases B <;> simp[Builtin.append_,run_underlying ht,sizeOf,typeInfo,hi,Builtin.lenOf,hf,storeCells]
theorem zx0{t e ty:TypeId}{i:TypeInfo}{z:Value}(ht:P.underlying t=some (.slice e))(hi:P.info? e=some i)(hz:i.zero=some z){w:World}{n cap m:Nat}{B A:Option Addr}{c:Nat}{olds news:List Value}
  (hfo:(Builtin.firstCells i.size n (.slice B n cap)).run P w.drew = .ok olds.toArray w.drew) (hf:(Builtin.firstCells i.size m (.slice A m c)).run P w.drew = .ok news.toArray w.drew)
  (hg:cap<n+m) (h63:((n+m:Nat):Int)<=9223372036854775807) (hfit:Builtin.nextslicecap (n+m) cap*i.bytes<=281474976710656) :
  (Builtin.append_ #[t,t] ty #[.slice B n cap,.slice A m c]).run P w = .ok (.slice (some ⟨w.heap.size,0,none⟩) (n+m) (grownCap w (n+m) cap e))
   (w.drew.alloc (.cells (olds.toArray++news.toArray++Builtin.zeroCells z.cells (grownCap w (n+m) cap e - (n+m))) e)):=by
 have hn:¬ (n+m<=cap):=by omega
 have h63':¬ (9223372036854775807<((n:Int)+(m:Int))):=by omega
 have h48':¬ (281474976710656<Builtin.nextslicecap (n+m) cap*i.bytes):=by omega
 simp[Builtin.append_,run_underlying ht,sizeOf,typeInfo,zeroValue,hi,hz,Builtin.lenOf,hn,h63',h48',Question.forced,hf,hfo,newRow,grownCap]
 congr 2
 apply Array.ext';simp[List.append_assoc]
theorem ok_app{o:Oper}{t:TypeId}{sz:Nat}{x y:Operand}{ax ay:AX}(ho:o.op = .call { callee:=.builtin .append,args:=#[x,y],argTypes:=#[t,t] })(hs:esz P t=some sz)(h1:cxn x=some ax)(h2:cx y=some ay){σ σ1:St}{z:TV}{d:Nat}
  (he:evo d (.app sz ax ay) σ=some (z,σ1)):OkAt P o z σ σ1:=by
 obtain⟨e,i,zv,hu,_,hi,hzv,hzs,his,hpos,hby⟩:=zqh hs;simp only[evo]at he
 split at he
 ·rename_i id ver b e1 e2
  split at he
  ·rename_i v0 sz' es fs hh hfs
   split at he
   ·rename_i hc
    obtain⟨rfl,rfl,_,_,hmax,hlen⟩:=hc;cases he;refine .val rfl rfl rfl (fun g lb act w s T=>?_) (fun i b ob hi=>zfu hh rfl ob hi)
    have hx:=ye1 T h1 e1;have hy:=zii T h2 e2;generalize hgx:act.eval x=vx at hx;generalize hgy:act.eval y=vy at hy;obtain⟨A,c,news,hvy,hrn,hfn,hones,hoo⟩:=zy4 (P:=P) s rfl hfs hy hlen;subst hvy;have hfl:=za4 hlen;have hnl:news.length=fs.length*sz':=by rw[<- hrn.1,hfl]
    have hver:=s.ver _ _ _ _ hh
    cases hx with
    |ol hd=>
     rename_i B n cap;have fin:∀{w':World} {B':Option Addr} {cap':Nat},Wd w w' (fun b'=>OwnAt g id b' (.lst v0 sz' es))->(∀b',B' = some ⟨b',0,none⟩->OwnAt g id b' (.lst v0 sz' es)\/w.heap.size<=b') ->
       (∀g',g.Le g' -> g'.hd id (v0+1)=some (B',es.length+fs.length,cap')->ObjOk g' w' id (.lst (v0+1) sz' (es++fs))) ->
       (Builtin.append_ #[t,t] o.type #[.slice B n cap,.slice A fs.length c]).run P w = .ok (.slice B' (es.length+fs.length) cap') w' ->
       ∃g' w' v,Sat g' (σ.h.set id (.lst (v0+1) sz' (es++fs))) w' /\ Ev g σ.h w g' (σ.h.set id (.lst (v0+1) sz' (es++fs))) w' /\ RV g' (.ol id (v0+1)) v/\(execOp act.eval o).run P w = .ok (.value v) w':=by
      intro w' B' cap' hw hB hok hrun;have hle:g.Le (g.addHd id (v0+1) (B',es.length+fs.length,cap')):=G.le_addHd (hver _ (Nat.lt_succ_self _));have hh':(g.addHd id (v0+1) (B',es.length+fs.length,cap')).hd id (v0+1)=some (B',es.length+fs.length,cap'):=by simp[G.addHd]
      obtain⟨h5,h6⟩:=s.upd hh hle rfl rfl rfl (fun i hi=>by funext v;simp[G.addHd,hi]) hw (hok _ hle hh') (fun b' ⟨n',c',hb'⟩=>by
       rw[hh']at hb';injection hb' with hb';injection hb' with hb' _;exact hB b' hb') (fun ver sz es2 e v hv=>by
       injection e with e1 _ _;subst e1;have:(g.addHd id (v0+1) (B',es.length+fs.length,cap')).hd id v=g.hd id v:=by simp[G.addHd];intro h;omega
       rw[this];exact hver v (by omega))
      refine⟨_,w',_,h5,h6,.ol hh',?_⟩;simp[execOp,ho,resolve,invoke,builtin,hgx,hgy,hrun]
     have hsum:es.length+fs.length<=1073741824:=hmax;have hbytes:(es.length+fs.length)*i.bytes<=140737488355328:=by
      have:(es.length+fs.length)*i.bytes<=1073741824*65536:=Nat.mul_le_mul hsum hby;omega
     have grow:∀{olds:List Value},cap<n+fs.length->n=es.length->(∀e∈es,e.length=sz')->RVs g es.flatten olds->(∀a∈es.flatten,a.one=true)->(Builtin.firstCells sz' n (.slice B n cap)).run P w.drew = .ok olds.toArray w.drew ->
       ∃g' w' v,Sat g' (σ.h.set id (.lst (v0+1) sz' (es++fs))) w' /\ Ev g σ.h w g' (σ.h.set id (.lst (v0+1) sz' (es++fs))) w' /\ RV g' (.ol id (v0+1)) v/\(execOp act.eval o).run P w = .ok (.value v) w':=by
      intro olds hcap hn hz hro hoe hfo;subst hn;have hge:=grownCap_ge w (es.length+fs.length) cap e;have hrun:=zx0 (P:=P) (ty:=o.type) hu hi hzv (w:=w) (by rw[his];exact hfo) (by rw[his];exact hfn w.drew rfl) hcap (by omega) (growslice_fits hcap hbytes)
      have hol:olds.length=es.length*sz':=by rw[<- hro.1,za4 hz]
      refine fin (w':=w.drew.alloc (.cells (olds.toArray++news.toArray++Builtin.zeroCells zv.cells (grownCap w (es.length+fs.length) cap e - (es.length+fs.length))) e)) ((Wd.drew w _).trans (Wd.alloc _ _ _)) (fun b' hb'=>.inr (by injection hb' with hb';injection hb' with hb';omega)) (fun g' hg hh'=>?_) hrun
      refine .inr ⟨w.heap.size,grownCap w (es.length+fs.length) cap e,_,e,olds++news,(Builtin.zeroCells zv.cells (grownCap w (es.length+fs.length) cap e - (es.length+fs.length))).toList,by rw[hh',List.length_append],World.alloc_heap_new w.drew _,?_,hpos,by rw[List.length_append];exact hge,by rw[List.length_append];unfold z3y;omega,
       fun x hx=>by
        rcases List.mem_append.1 hx with h|h
        ·exact hz x h
        ·exact hlen x h,by simp,by rw[List.flatten_append];exact (hro.mono hg).append (hrn.mono hg),by
         rw[List.flatten_append];intro a ha;rcases List.mem_append.1 ha with h|h
         ·exact hoe a h
         ·exact hoo a h⟩
      simp only[Array.size_append,List.size_toArray,size_zeroCells,hzs,hol,hnl,<- Nat.add_mul]
      congr 1
      omega
     rcases s.obj _ _ hh with⟨h3,h4⟩|⟨b',cap',c',t',l1,l2,h3,h4,h5,h6,h7,h8,h9,h10,h11,hoe⟩
     ·subst h3
      rw[hd]at h4;cases h4;by_cases hf0:fs.length=0
      ·have hfs0:fs=[]:=List.eq_nil_of_length_eq_zero hf0
       subst hfs0;refine fin (w':=w) (B':=none) (cap':=0) (.refl w _) (fun b' h=>by cases h) (fun g' hg hh'=>.inl ⟨rfl,by simpa using hh'⟩) ?_
       exact z0k (P:=P) hu hi (by rw[his];exact hfn w rfl)
      ·exact grow (olds:=[]) (by omega) rfl (fun e he=>by simp at he) (.nil g) (fun a ha=>by simp at ha) (by simp[Builtin.firstCells])
     ·rw[hd]at h3;cases h3
      have hfo:∀w',w'.heap=w.heap->(Builtin.firstCells sz' es.length (.slice (some ⟨b',0,none⟩) es.length cap)).run P w' = .ok l1.toArray w':=by
       intro w' hw;have hl:l1.length=es.length*sz':=by rw[<- h11.1,za4 h9]
       have:=run_loadCells_list (P:=P) w' ⟨b',0,none⟩ l1 (fun j u hj=>by
        rw[z3f hw,Addr.add_lit,zbh h4,Nat.zero_add];have:c'.toList[j]?=some u:=by rw[h10,List.getElem?_append_left (List.getElem?_eq_some_iff.1 hj).1];exact hj
        simpa using this)
       rw[hl]at this;simpa [Builtin.firstCells] using this
      by_cases hroom:es.length+fs.length<=cap
      ·have hl1:l1.length=es.length*sz':=by rw[<- h11.1,za4 h9]
       have hcl:c'.size=l1.length+l2.length:=by have:=congrArg List.length h10;simpa using this
       have hmul:(es.length+fs.length)*sz' <= cap*sz':=Nat.mul_le_mul_right _ hroom;rw[Nat.add_mul]at hmul;have hlt:=(Array.getElem?_eq_some_iff.1 h4).1
       ·have hrun:=yeu (P:=P) (ty:=o.type) hu hi h4 (by rw[his];exact hfn w rfl) hones hroom (by rw[his,hnl];omega)
        rw[his]at hrun;have hov:over c'.toList (es.length*sz') news=(l1++news)++l2.drop news.length:=by
         rw[h10,zg9 _ _ _ (by simp;omega),<- hl1,List.take_left',List.drop_length_add_append]
         rfl
        refine fin (w':=w.putObj b' (.cells (over c'.toList (es.length*sz') news).toArray t' (0,0))) (Wd.putObj w b' _ ⟨_,_,hd⟩) (fun b'' hb=>.inl (by injection hb with hb;injection hb with hb;subst hb;exact⟨_,_,hd⟩)) (fun g' hg hh'=>?_) hrun
        refine .inr ⟨b',cap,_,t',l1++news,l2.drop news.length,by rw[hh',List.length_append],World.putObj_heap_same hlt,by simp[zkd,h5],hpos,by rw[List.length_append];exact hroom,by rw[List.length_append];unfold z3y;omega,
         fun x hx=>by
          rcases List.mem_append.1 hx with h|h
          ·exact h9 x h
          ·exact hlen x h,by simpa using hov,by rw[List.flatten_append];exact (h11.mono hg).append (hrn.mono hg),by
         rw[List.flatten_append];intro a ha;rcases List.mem_append.1 ha with h|h
         ·exact hoe a h
         ·exact hoo a h⟩
      ·exact grow (olds:=l1) (by omega) rfl h9 h11 hoe (hfo _ rfl)
   ·cases he
  ·cases he
 ·rename_i b e1 e2
  split at he
  ·rename_i fs hfs
   split at he
   ·cases he
    refine zdk fun g0 h0 w0 g lb act w m T=>?_
    have hx:=ye1 T h1 e1;have hy:=zii T h2 e2;generalize hgx:act.eval x=vx at hx;generalize hgy:act.eval y=vy at hy;obtain⟨A,c,news,hvy,hrn,hfn,hones,hoo⟩:=zy4 (P:=P) (sz:=sz) m.sat rfl hfs hy (by simp)
    subst hvy;have hnn:news=[]:=RVs.inv_nil hrn
    cases hx with
    |ze B=>
     refine⟨.slice B 0 0,?_,.ze B⟩;have hrun:=z3n (P:=P) (ty:=o.type) (B:=B) hu hi (by rw[his];exact hfn w rfl) hnn
     simp[execOp,ho,resolve,invoke,builtin,hgx,hgy,hrun]
   ·rename_i f fs
    split at he
    ·rename_i hc
     obtain⟨_,_,hmax,hlen⟩:=hc;cases he;refine .val rfl rfl rfl (fun g lb act w s T=>?_) (fun i b ob hi=>zf8 hi)
     have hx:=ye1 T h1 e1;have hy:=zii T h2 e2;generalize hgx:act.eval x=vx at hx;generalize hgy:act.eval y=vy at hy;obtain⟨A,c,news,hvy,hrn,hfn,hones,hoo⟩:=zy4 (P:=P) s rfl hfs hy hlen;subst hvy;have hfl:=za4 hlen;have hnl:news.length=(f::fs).length*sz:=by rw[<- hrn.1,hfl]
     cases hx with
     |ze B=>
      have hlen1:(f::fs).length=fs.length+1:=by simp
      have hbytes:(0+(f::fs).length)*i.bytes<=140737488355328:=by
       have:(0+(f::fs).length)*i.bytes<=1073741824*65536:=Nat.mul_le_mul (by omega) hby
       omega
      have hge:=grownCap_ge w (0+(f::fs).length) 0 e;have hcap:0<0+(f::fs).length:=by omega
      have hrun:=zx0 (P:=P) (ty:=o.type) (n:=0) (cap:=0) (B:=B) (olds:=[]) hu hi hzv (w:=w) (by cases B <;> simp[Builtin.firstCells,loadCells,loadCellsFrom]) (by rw[his];exact hfn w.drew rfl) hcap (by omega) (growslice_fits hcap hbytes)
      simp only[Nat.zero_add]at hge hrun;generalize hK:grownCap w (f::fs).length 0 e=K at hge hrun;obtain⟨h5,h6,h7⟩:=s.pushLst (es:=f::fs) (cap:=K) (sz:=sz) (c:=(([]:List Value).toArray++news.toArray++Builtin.zeroCells zv.cells (K - (f::fs).length))) (l1:=news) (l2:=(Builtin.zeroCells zv.cells (K - (f::fs).length)).toList) e
       ((Wd.drew w _).trans (Wd.alloc _ _ _)) (World.alloc_heap_new w.drew _) (by
        simp only[Array.size_append,List.size_toArray,size_zeroCells,hzs,hnl,List.length_nil,Nat.zero_add,<- Nat.add_mul]
        congr 1
        omega) hpos hge (by unfold z3y;omega) hlen (by simp) hrn hoo
      exact⟨_,_,_,h5,h6,h7,zbb (s:=Builtin.append_ #[t,t] o.type #[act.eval x,act.eval y]) (by simp[execOp,ho,resolve,invoke,builtin]) (by rw[hgx,hgy];exact hrun)⟩
    ·cases he
  ·cases he
 ·cases he
theorem z3m{t u e ty:TypeId}{i:TypeInfo}{z:Value}{ku k:IntKind}(ht:P.underlying t=some (.slice e))(hku:P.underlying u=some (.int ku))(hi:P.info? e=some i)(hz:i.zero=some z){w:World}{B:Option Addr}{n:Int}
  (h0:0<n) (hn:n<=1073741824) (hby:i.bytes<=65536) (hs:0<i.size) :
  (Builtin.append_ #[t,u] ty #[.slice B 0 0,.int k n]).run P w = .ok (.slice (some ⟨w.heap.size,0,none⟩) n.toNat (grownCap w n.toNat 0 e))
   (w.drew.alloc (.cells (Builtin.zeroCells z.cells n.toNat++Builtin.zeroCells z.cells (grownCap w n.toNat 0 e - n.toNat)) e)):=by
 have hw:IntKind.wrap .i64 n=n:=by
  simp only[IntKind.wrap,IntKind.bits,IntKind.signed]
  first|omega|(split <;> omega)|(simp;omega)
 have hl0:¬ (n<0):=by omega
 have hb1:n*(i.bytes:Int)<=1073741824*65536:=Int.mul_le_mul hn (by omega) (by omega) (by omega)
 have hb2:¬ (n*(i.bytes:Int) > 2 ^ 48):=by
  have:(2:Int) ^ 48=281474976710656:=by decide
  omega
 have hb2':¬ (281474976710656<n*(i.bytes:Int)):=by omega
 have hn0:¬ (n.toNat<=0):=by omega
 have h63':¬ (9223372036854775807<(n.toNat:Int)):=by omega
 have hb3:n.toNat*i.bytes<=1073741824*65536:=Nat.mul_le_mul (by omega) hby
 have hfit:=growslice_fits (need:=n.toNat) (old:=0) (bytes:=i.bytes) (by omega) (by omega)
 have h48':¬ (281474976710656<Builtin.nextslicecap n.toNat 0*i.bytes):=by omega
 have hz0:¬ (n.toNat*i.size=0):=by
  have:=Nat.mul_pos (show 0<n.toNat by omega) hs
  omega
 have hn1:n.toNat≠0:=by omega
 have hs1:i.size≠0:=by omega
 have hn2:¬ n<=0:=by omega
 have hmx:¬ (9223372036854775807<max n 0):=by omega
 cases B <;> simp[hmx,Builtin.append_,run_underlying ht,run_underlying hku,sizeOf,typeInfo,zeroValue,hi,hz,asInt,asIntOf,hw,hl0,hb2,hb2',hn0,hn1,hn2,hs1,h63',h48',hz0,Question.forced,Builtin.firstCells,loadCells,loadCellsFrom,newRow,grownCap]
theorem ok_apz{o:Oper}{t u e:TypeId}{ku:IntKind}{sz:Nat}{x y:Operand}{ax ay:AX}{z:List AV}(ho:o.op = .call { callee:=.builtin .append,args:=#[x,y],argTypes:=#[t,u] })(hku:P.underlying u=some (.int ku))(hs:esz P t=some sz)(hel:zbf P t=some e)(h1:cxn x=some ax)(h2:cx y=some ay)(hz:zet P e=some z){σ σ1:St}{q:TV}{d:Nat}
  (he:evo d (.apz sz z ax ay) σ=some (q,σ1)):OkAt P o q σ σ1:=by
 obtain⟨e',i,zv,hu,he',hi,hzv,hzs,his,hpos,hby⟩:=zqh hs;rw[hel]at he';cases he';obtain⟨i',v',hi',hv',hr,hzone⟩:=zd2 hz;rw[hi]at hi';cases hi';rw[hzv]at hv';cases hv';simp only[evo]at he
 split at he
 ·rename_i k n e1 e2
  split at he
  ·rename_i hc
   obtain⟨hc1,hc2,hc3,hc4,hc5⟩:=hc;cases he;refine .val rfl rfl rfl (fun g lb act w s T=>?_) (fun i b ob hi=>zf8 hi)
   have hx:=ye1 T h1 e1;have hy:=zii T h2 e2;generalize hgx:act.eval x=vx at hx;generalize hgy:act.eval y=vy at hy;cases hy
   cases hx with
   |ze B=>
    have hge:=grownCap_ge w n.toNat 0 e;have hrun:=z3m (P:=P) (ty:=o.type) (B:=B) (k:=k) hu hku hi hzv (w:=w) hc1 hc2 hby (by omega)
    generalize hK:grownCap w n.toNat 0 e=K at hge hrun;have e1:=zrr zv.cells n.toNat (by omega)
    have hrep:RVs g (List.replicate n.toNat (noz z)).flatten (Builtin.zeroCells zv.cells n.toNat).toList:=by
     unfold Builtin.zeroCells;rw[e1];exact z1l (zl3 (hr g)) n.toNat
    obtain⟨h5,h6,h7⟩:=s.pushLst (es:=List.replicate n.toNat (noz z)) (cap:=K) (sz:=sz) (c:=(Builtin.zeroCells zv.cells n.toNat++Builtin.zeroCells zv.cells (K - n.toNat))) (l1:=(Builtin.zeroCells zv.cells n.toNat).toList) (l2:=(Builtin.zeroCells zv.cells (K - n.toNat)).toList) e
     ((Wd.drew w _).trans (Wd.alloc _ _ _)) (World.alloc_heap_new w.drew _) (by
      simp only[Array.size_append,size_zeroCells,hzs,<- Nat.add_mul]
      congr 1
      omega) hc4 (by simpa using hge) (by simp[z3y];omega) (fun e he=>by rw[List.eq_of_mem_replicate he];exact hc3) (by simp) hrep (zyi (zsm hzone) n.toNat)
    rw[List.length_replicate]at h5 h6 h7;exact⟨_,_,_,h5,h6,h7,zbb (s:=Builtin.append_ #[t,u] o.type #[act.eval x,act.eval y]) (by simp[execOp,ho,resolve,invoke,builtin]) (by rw[hgx,hgy];exact hrun)⟩
  ·cases he
 ·cases he
end Go.Ab
set_option linter.unusedVariables false
set_option linter.unusedSimpArgs false
namespace Go.Ab
open Go.RowKit
variable {P : Program}
theorem zz9{t e:TypeId}(h:P.underlying t=some (.slice e)):P.elem t=e:=by simp[Program.elem,h]
theorem zfg{t e:TypeId}(h:P.underlying t=some (.slice e)):P.underlying t=some (.slice (P.elem t)):=by rw[zz9 h];exact h
theorem RV.part{g:G}{es:List (List AV)}{A:Option Addr}{n c sz l h:Nat}(hr:RV g (.sl es) (.slice A n c))(hsz:∀e∈es,e.length=sz)(hlh:l<=h)(hh:h<=es.length):RV g (.sl ((es.take h).drop l)) (sliced A l h c sz):=by
 have hnil:h=l->(es.take h).drop l=[]:=fun e=>by subst e;simp
 unfold sliced
 cases hr with
 |sl0 A c=>
  have h0:h=0:=by simpa using hh
  have l0:l=0:=by omega
  subst h0;subst l0;exact .sl0 _ _
 |sl f hl hn hnc hz ho hf hrr=>
  rename_i b o sz';by_cases hcl:c=l
  ·have:h=l:=by omega
   rw[hnil this,this,Nat.sub_self];exact .sl0 _ _
  ·rw[if_neg hcl]
   simp only[Option.map_some,Addr.add_lit];have hpart:∀(k:Nat) (a:AV),((es.take h).drop l).flatten[k]?=some a->es.flatten[l*sz+k]?=some a:=by
    intro k a ha;rw[zl7 (sz:=sz) (fun e he=>hsz e (List.mem_of_mem_take he)),zhj hsz,List.getElem?_drop,List.getElem?_take]at ha
    split at ha
    ·exact ha
    ·cases ha
   refine .sl (fun k=>f (l*sz+k)) (by simp;omega) (by omega) (by omega) (fun e he=>hsz e (List.mem_of_mem_take (List.mem_of_mem_drop he))) (fun a ha=>?_) (fun k a ha=>by rw[Nat.add_assoc];exact hf _ a (hpart k a ha)) (fun k a ha=>hrr _ a (hpart k a ha))
   obtain⟨x,hx,hax⟩:=List.mem_flatten.1 ha;exact ho a (List.mem_flatten.2 ⟨x,List.mem_of_mem_take (List.mem_of_mem_drop hx),hax⟩)
theorem z6u{o:Oper}{t:TypeId}{sz:Nat}{x:Operand}{lo hi:Option Operand}{ax:AX}{al ah:Option AX}(ho:o.op = .slice t x lo hi none)(hs:esz P t=some sz)(h1:cx x=some ax)
  (hlo:(lo=none/\al=none)\/∃y ay,lo=some y/\al=some ay/\cx y=some ay) (hhi:(hi=none/\ah=none)\/∃y ay,hi=some y/\ah=some ay/\cx y=some ay)
  {σ σ1:St} {z:TV} {d:Nat} (he:evo d (.slc sz ax al ah) σ=some (z,σ1)):OkAt P o z σ σ1:=by
 obtain⟨e,i,zv,hu,_,hi',hzv,hzs,his,hpos,hby⟩:=zqh hs;have hsl:∀w:World,(sizeOf (P.elem t)).run P w = .ok sz w:=fun w=>zct (by rw[zz9 hu];simp[zj0,hi',his]) w
 have hat:∀(v:Value) (a b:Option Value) (w:World),(Instr.sliceAt t v a b none).run P w=(Instr.slice t v a b none).run P w:=fun v a b w=>run_sliceAt_slice w t v a b none (zfg hu)
 simp only[evo]at he
 split at he
 ·rename_i es e1
  split at he
  ·rename_i l h hl hh
   split at he
   ·rename_i hc
    obtain⟨h0,hlh,hhl,hsz⟩:=hc;cases he;refine zdk fun g0 h0' w0 g lb act w m T=>?_
    have hx:=zii T h1 e1;generalize hgx:act.eval x=vx at hx;obtain⟨A,n,c,rfl,hn,hnc⟩:∃A n c,vx = .slice A n c/\es.length=n/\n<=c:=by
     cases hx with
     |sl0 A c=>exact⟨A,0,c,rfl,rfl,Nat.zero_le _⟩
     |sl f hl hn hnc=>exact⟨_,_,_,rfl,hl,hnc⟩
    subst hn;refine⟨sliced A l.toNat h.toNat c sz,zbb (s:=Instr.sliceAt t (act.eval x) (lo.map act.eval) (hi.map act.eval) none) (by simp only[execOp,ho];rfl) ?_,hx.part hsz (by omega) (by omega)⟩
    rw[hgx,hat];rcases hlo with⟨rfl,rfl⟩|⟨ol,al',rfl,rfl,hcl⟩ <;> rcases hhi with⟨rfl,rfl⟩|⟨oh,ah',rfl,rfl,hch⟩
    ·cases hl;cases hh
     rw[Option.map_none,run_slice_all w t A es.length c (zfg hu),hsl];simp
    ·cases hl
     simp only at hh
     split at hh
     ·rename_i k n e2
      cases hh;have hy:=zii T hch e2
      generalize hgy:act.eval oh=vy at hy;cases hy;rw[Option.map_none,Option.map_some,hgy,run_slice_h w t A es.length c (zfg hu) k h (by omega) (by omega),hsl];simp
     ·cases hh
    ·cases hh
     simp only at hl
     split at hl
     ·rename_i k n e2
      cases hl;have hy:=zii T hcl e2
      generalize hgy:act.eval ol=vy at hy;cases hy;rw[Option.map_none,Option.map_some,hgy,run_slice_l w t A es.length c (zfg hu) k l h0 (by omega),hsl];simp
     ·cases hl
    ·simp only at hl hh
     split at hl
     ·rename_i k n e2
      split at hh
      ·rename_i k' n' e3
       cases hl;cases hh
       have hy:=zii T hcl e2;have hy':=zii T hch e3;generalize hgy:act.eval ol=vy at hy;generalize hgy':act.eval oh=vy' at hy'
       cases hy;cases hy'
       rw[Option.map_some,Option.map_some,hgy,hgy',run_slice_lh w t A es.length c (zfg hu) k k' l h h0 hlh (by omega),hsl];simp
      ·cases hh
     ·cases hl
   ·cases he
  ·cases he
 ·rename_i id ver e1
  split at he
  ·rename_i y
   split at he
   ·rename_i k n v0 sz' es e2 hh
    split at he
    ·rename_i hc
     obtain⟨rfl,rfl,_,h0,hle⟩:=hc;cases he;rcases hlo with⟨rfl,_⟩|⟨_,_,_,h,_⟩
     ·rcases hhi with⟨_,h⟩|⟨oy,ay,rfl,h,hcy⟩
      ·cases h
      ·cases h
       refine .val rfl rfl rfl (fun g lb act w s T=>?_) (fun i b ob hi=>zfu hh rfl ob hi)
       have hx:=zii T h1 e1;have hy:=zii T hcy e2;generalize hgx:act.eval x=vx at hx;generalize hgy:act.eval oy=vy at hy;cases hy;have hver:=s.ver _ _ _ _ hh
       cases hx with
       |ol hd=>
        rename_i B m cap;have hle':g.Le (g.addHd id (v0+1) (B,n.toNat,cap)):=G.le_addHd (hver _ (Nat.lt_succ_self _));have hh':(g.addHd id (v0+1) (B,n.toNat,cap)).hd id (v0+1)=some (B,n.toNat,cap):=by simp[G.addHd]
        have fin:ObjOk (g.addHd id (v0+1) (B,n.toNat,cap)) w id (.lst (v0+1) sz' (es.take n.toNat))->(∀b',B=some ⟨b',0,none⟩->OwnAt g id b' (.lst v0 sz' es))->(n<=(cap:Int))->(B=none\/∃b,B=some ⟨b,0,none⟩) ->
          ∃g' w' v,Sat g' (σ.h.set id (.lst (v0+1) sz' (es.take n.toNat))) w' /\ Ev g σ.h w g' (σ.h.set id (.lst (v0+1) sz' (es.take n.toNat))) w' /\ RV g' (.ol id (v0+1)) v/\(execOp act.eval o).run P w = .ok (.value v) w':=by
         intro hok hB hnc hBf;obtain⟨h5,h6⟩:=s.upd hh hle' rfl rfl rfl (fun i hi=>by funext v;simp[G.addHd,hi]) (.refl w _) hok (fun b' ⟨n',c',hb'⟩=>by
          rw[hh']at hb';injection hb' with hb';injection hb' with hb' _;exact .inl (hB b' hb')) (fun ver sz es2 e v hv=>by
          injection e with e1 _ _;subst e1;have:(g.addHd id (v0+1) (B,n.toNat,cap)).hd id v=g.hd id v:=by simp[G.addHd];intro h;omega
          rw[this];exact hver v (by omega))
         refine⟨_,w,.slice B n.toNat cap,h5,h6,.ol hh',zbb (s:=Instr.sliceAt t (act.eval x) none (some (act.eval oy)) none) (by simp only[execOp,ho];rfl) ?_⟩
         rw[hgx,hgy,hat,run_slice_h w t B m cap (zfg hu) k n h0 hnc,hsl];simp only[Result.andThen_ok,sliced,Nat.sub_zero,Nat.zero_mul]
         congr 1
         rcases hBf with rfl|⟨b,rfl⟩
         ·simp
         ·simp[Addr.add]
        rcases s.obj _ _ hh with⟨h3,h4⟩|⟨b',cap',c',t',l1,l2,h3,h4,h5,h6,h7,h8,h9,h10,h11,h12⟩
        ·subst h3
         rw[hd]at h4;cases h4;have hn0:n.toNat=0:=by simp at hle;omega
         rw[hn0]at fin hh' ⊢;exact fin (.inl ⟨by simp,hh'⟩) (fun b' h=>by cases h) (by simp at hle;omega) (.inl rfl)
        ·rw[hd]at h3;cases h3
         have hfl:=zhj h9 n.toNat;have hn:n.toNat<=es.length:=by omega
         refine fin (.inr ⟨b',cap,c',t',l1.take (n.toNat*sz'),l1.drop (n.toNat*sz')++l2,by rw[hh',List.length_take,Nat.min_eq_left hn],h4,h5,h6,by rw[List.length_take];omega,by rw[List.length_take];omega,fun x hx=>h9 x (List.mem_of_mem_take hx),by rw[h10,<- List.append_assoc,List.take_append_drop],?_,?_⟩) (fun b'' h=>by injection h with h;injection h with h;subst h;exact⟨_,_,hd⟩) (by omega) (.inr ⟨_,rfl⟩)
         ·rw[hfl];exact (h11.mono hle').take _
         ·rw[hfl];intro a ha;exact h12 a (List.mem_of_mem_take ha)
     ·cases h
    ·cases he
   ·cases he
  ·cases he
 ·rename_i e1
  split at he
  ·rename_i y
   split at he
   ·rename_i k n e2
    split at he
    ·rename_i hn
     subst hn;cases he;rcases hlo with⟨rfl,_⟩|⟨_,_,_,h,_⟩
     ·rcases hhi with⟨_,h⟩|⟨oy,ay,rfl,h,hcy⟩
      ·cases h
      ·cases h
       refine zdk fun g0 h0' w0 g lb act w m T=>?_
       have hx:=zii T h1 e1;have hy:=zii T hcy e2;generalize hgx:act.eval x=vx at hx;generalize hgy:act.eval oy=vy at hy;cases hy
       cases hx with
       |ze B=>
        refine⟨.slice B 0 0,zbb (s:=Instr.sliceAt t (act.eval x) none (some (act.eval oy)) none) (by simp only[execOp,ho];rfl) ?_,.ze B⟩
        rw[hgx,hgy,hat,run_slice_h w t B 0 0 (zfg hu) k 0 (by omega) (by omega),hsl]
        simp[sliced]
     ·cases h
    ·cases he
   ·cases he
  ·cases he
 ·cases he
theorem ok_cap{o:Oper}{t e:TypeId}{x:Operand}{ax:AX}(ho:o.op = .call { callee:=.builtin .cap,args:=#[x],argTypes:=#[t] })(ht:P.underlying t=some (.slice e))(h1:cx x=some ax){σ σ1:St}{z:TV}{d:Nat}(he:evo d (.cap ax) σ=some (z,σ1)):OkAt P o z σ σ1:=by
 simp only[evo]at he
 split at he
 ·rename_i e1
  cases he;refine zdk fun g0 h0' w0 g lb act w m T=>?_
  have hx:=zii T h1 e1;generalize hgx:act.eval x=vx at hx
  cases hx with
  |ze B=>exact⟨.int .i64 0,by simp[execOp,ho,resolve,invoke,builtin,Builtin.cap_,hgx,run_underlying ht,goInt],.int _ _⟩
 ·cases he
theorem yj7{x:Operand}(h:isZ x=true):∃k,x = .const (.int k 0):=by
 unfold isZ at h
 split at h
 ·exact⟨_,rfl⟩
 ·cases h
theorem ok_slz{o:Oper}{t:TypeId}{sz:Nat}{x h m:Operand}{ax:AX}(ho:o.op = .slice t x none (some h) (some m))(hh:isZ h=true)(hm:isZ m=true)(hs:esz P t=some sz)(h1:cx x=some ax){σ σ1:St}{z:TV}{d:Nat}(he:evo d (.slz ax) σ=some (z,σ1)):OkAt P o z σ σ1:=by
 obtain⟨e,i,zv,hu,_,hi',hzv,hzs,his,hpos,hby⟩:=zqh hs;have hsl:∀w:World,(sizeOf (P.elem t)).run P w = .ok sz w:=fun w=>zct (by rw[zz9 hu];simp[zj0,hi',his]) w
 obtain⟨k1,rfl⟩:=yj7 hh;obtain⟨k2,rfl⟩:=yj7 hm;simp only[evo]at he
 split at he
 ·rename_i a e1
  split at he
  ·rename_i es e2
   cases he;refine zdk fun g0 h0' w0 g lb act w m T=>?_
   have hx:=zii T h1 e1;generalize hgx:act.eval x=vx at hx;have key:∃A n c,vx = .slice A n c:=by
    unfold elems at e2
    split at e2 <;> first
     |(cases e2;done)
     |(cases hx <;> exact⟨_,_,_,rfl⟩)
   obtain⟨A,n,c,rfl⟩:=key;have hr:=run_slice_hm w t A n c (zfg hu) k1 k2 0 0 (by omega) (by omega) (by omega)
   refine⟨(sliced A 0 0 0 sz),zbb (s:=Instr.sliceAt t (act.eval x) none (some (act.eval (.const (.int k1 0)))) (some (act.eval (.const (.int k2 0))))) (by simp only[execOp,ho];rfl) ?_,?_⟩
   ·rw[hgx,show act.eval (.const (.int k1 0)) = .int k1 0 from rfl,show act.eval (.const (.int k2 0)) = .int k2 0 from rfl,run_sliceAt_slice w t _ _ _ _ (zfg hu),hr,hsl]
    rfl
   ·simp only[sliced,Nat.sub_self];exact .ze _
  ·cases he
 ·cases he
end Go.Ab
set_option linter.unusedVariables false
set_option linter.unusedSimpArgs false
namespace Go.Ab
open Go.RowKit
structure Gs (g:G) (h:List AO) (w:World) (g':G) (h':List AO):Prop where
 sat:Sat g' h' w
 ev:Ev g h w g' h' w
 raw:∀(i:Nat) (o:AO) (_:o.kd≠0),h[i]?=some o->h'[i]?=some o
theorem Gs.refl{g:G}{h:List AO}{w:World}(s:Sat g h w):Gs g h w g h:=⟨s,.refl _ _ _,fun _ _ _ h=>h⟩
theorem Gs.trans{g g1 g2:G}{h h1 h2:List AO}{w:World}(a:Gs g h w g1 h1)(b:Gs g1 h1 w g2 h2):Gs g h w g2 h2 :=
 ⟨b.sat,a.ev.trans b.ev,fun i x o k=>b.raw i x o (a.raw i x o k)⟩
theorem yd2{g g':G}{h:List AO}{w:World}(s:Sat g h w){id ver sz:Nat}{es:List (List AV)}(hi:h[id]?=some (.lst ver sz es))(hle:g.Le g')(hbx:g'.bx=g.bx)(hhd:g'.hd=g.hd)(hfm:g'.fm=g.fm)
  (hfz:∀b o v,g'.fz b o=some v->g.fz b o=some v\/(OwnAt g id b (.lst ver sz es)/\∃c t fr,w.heap[b]?=some (.cells c t fr)/\c[o]?=some v)):Gs g h w g' (h.set id .dead):=by
 have hlt:id<h.length:=(List.getElem?_eq_some_iff.1 hi).1;have get:∀(i:Nat) (x:AO),(h.set id .dead)[i]?=some x->(i=id/\x = .dead)\/(i≠id/\h[i]?=some x):=by
  intro i x hx;rw[List.getElem?_set]at hx;by_cases e:id=i
  ·subst e;simp[hlt]at hx;exact .inl ⟨rfl,hx.symm⟩
  ·simp[e]at hx;exact .inr ⟨fun h=>e h.symm,hx⟩
 have ow:∀(i:Nat) (x:AO) (b:Nat),OwnAt g' i b x->OwnAt g i b x:=by
  intro i x b hx
  cases x with
  |dead=>exact hx
  |box cs=>show g.bx i=some b;rw[<- hbx];exact hx
  |lst v sz es=>obtain⟨n,c,hx⟩:=hx;exact⟨n,c,hhd ▸ hx⟩
  |mapo es=>show g.bx i=some b;rw[<- hbx];exact hx
  |dfr=>show g.bx i=some b;rw[<- hbx];exact hx
  |slp _ _ _ _ _ _=>show g.bx i=some b;rw[<- hbx];exact hx
 have own:∀b,znq g' (h.set id .dead) b->∃i x,i≠id/\h[i]?=some x/\OwnAt g i b x:=by
  rintro b ⟨i,x,hx,hb⟩
  rcases get i x hx with⟨rfl,rfl⟩|⟨hne,hx⟩
  ·exact hb.elim
  ·exact⟨i,x,hne,hx,ow i x b hb⟩
 refine⟨⟨fun b o v hv=>?_,fun b m hv=>s.fm b m (hfm ▸ hv),fun i x hx=>?_,fun i hl=>?_,fun i j x y b hx hy ox oy=>?_,fun b hb=>?_,fun i v sz' es' hx u hu=>?_⟩,⟨hle,by simp,Nat.le_refl _,rfl,rfl,rfl,fun _ _ _=>rfl,fun b hb=>?_,fun b o hv=>?_,fun b hv=>?_⟩,fun i b o hx=>?_⟩
 ·rcases hfz b o v hv with k|⟨_,k⟩
  ·exact s.fz b o v k
  ·exact k
 ·rcases get i x hx with⟨rfl,rfl⟩|⟨hne,hx⟩
  ·trivial
  ·exact (s.obj i x hx).mono hle
 ·rw[hbx,hhd];exact s.past i (by simpa using hl)
 ·rcases get i x hx with⟨rfl,rfl⟩|⟨_,hx⟩
  ·exact ox.elim
  ·rcases get j y hy with⟨rfl,rfl⟩|⟨_,hy⟩
   ·exact oy.elim
   ·exact s.inj i j x y b hx hy (ow _ _ _ ox) (ow _ _ _ oy)
 ·obtain⟨i,x,hne,hx,ox⟩:=own b hb
  have ha:=s.apart b ⟨i,x,hx,ox⟩;refine⟨fun o=>?_,by rw[hfm];exact ha.2⟩
  cases hv:g'.fz b o with
  |none=>rfl
  |some v=>
   rcases hfz b o v hv with k|⟨k,_⟩
   ·rw[ha.1 o]at k;cases k
   ·exact absurd (s.inj i id x _ b hx hi ox k) hne
 ·rcases get i _ hx with⟨_,e⟩|⟨_,hx⟩
  ·cases e
  ·rw[hhd];exact s.ver i v sz' es' hx u hu
 ·obtain⟨i,x,hne,hx,ox⟩:=own b hb
  exact .inl ⟨i,x,hx,ox⟩
 ·cases hv2:g'.fz b o with
  |none=>exact absurd hv2 hv
  |some v=>
   rcases hfz b o v hv2 with k|⟨k,_⟩
   ·exact .inl (by simp[k])
   ·exact .inr (.inl ⟨id,_,hi,k⟩)
 ·rw[hfm]at hv;exact .inl hv
 ·rw[List.getElem?_set]
  by_cases e:id=i
  ·subst e;rw[hi]at hx;cases hx;exact absurd rfl o
  ·simp[e];exact hx
theorem yh5{g g':G}{h:List AO}{w:World}(s:Sat g h w){id bm:Nat}{m:Array MapEntry}{es:List (AV×AV)}(hi:h[id]?=some (.mapo es))(hown:g.bx id=some bm)(hm:∃ck,w.heap[bm]?=some (.map m ck))(hle:g.Le g')(hbx:g'.bx=g.bx)(hhd:g'.hd=g.hd)(hfm:∀b,g'.fm b=if b=bm then some m else g.fm b)
  (hfz:g'.fz=g.fz):Gs g h w g' (h.set id .dead):=by
 have hlt:id<h.length:=(List.getElem?_eq_some_iff.1 hi).1;have get:∀(i:Nat) (x:AO),(h.set id .dead)[i]?=some x->(i=id/\x = .dead)\/(i≠id/\h[i]?=some x):=by
  intro i x hx;rw[List.getElem?_set]at hx;by_cases e:id=i
  ·subst e;simp[hlt]at hx;exact .inl ⟨rfl,hx.symm⟩
  ·simp[e]at hx;exact .inr ⟨fun h=>e h.symm,hx⟩
 have ow:∀(i:Nat) (x:AO) (b:Nat),OwnAt g' i b x->OwnAt g i b x:=by
  intro i x b hx
  cases x with
  |dead=>exact hx
  |box cs=>show g.bx i=some b;rw[<- hbx];exact hx
  |lst v sz es=>obtain⟨n,c,hx⟩:=hx;exact⟨n,c,hhd ▸ hx⟩
  |mapo es=>show g.bx i=some b;rw[<- hbx];exact hx
  |dfr=>show g.bx i=some b;rw[<- hbx];exact hx
  |slp _ _ _ _ _ _=>show g.bx i=some b;rw[<- hbx];exact hx
 have own:∀b,znq g' (h.set id .dead) b->∃i x,i≠id/\h[i]?=some x/\OwnAt g i b x:=by
  rintro b ⟨i,x,hx,hb⟩
  rcases get i x hx with⟨rfl,rfl⟩|⟨hne,hx⟩
  ·exact hb.elim
  ·exact⟨i,x,hne,hx,ow i x b hb⟩
 refine⟨⟨fun b o v hv=>?_,fun b m' hv=>?fm,fun i x hx=>?_,fun i hl=>?_,fun i j x y b hx hy ox oy=>?_,fun b hb=>?_,fun i v sz' es' hx u hu=>?_⟩,⟨hle,by simp,Nat.le_refl _,rfl,rfl,rfl,fun _ _ _=>rfl,fun b hb=>?_,fun b o hv=>?_,fun b hv=>?_⟩,fun i b o hx=>?_⟩
 case fm=>
  rw[hfm]at hv
  split at hv
  ·rename_i e;subst e;cases hv;exact hm
  ·exact s.fm b m' hv
 ·rw[hfz]at hv;exact s.fz b o v hv
 ·rcases get i x hx with⟨rfl,rfl⟩|⟨hne,hx⟩
  ·trivial
  ·exact (s.obj i x hx).mono hle
 ·rw[hbx,hhd];exact s.past i (by simpa using hl)
 ·rcases get i x hx with⟨rfl,rfl⟩|⟨_,hx⟩
  ·exact ox.elim
  ·rcases get j y hy with⟨rfl,rfl⟩|⟨_,hy⟩
   ·exact oy.elim
   ·exact s.inj i j x y b hx hy (ow _ _ _ ox) (ow _ _ _ oy)
 ·obtain⟨i,x,hne,hx,ox⟩:=own b hb
  have ha:=s.apart b ⟨i,x,hx,ox⟩;refine⟨fun o=>by rw[hfz];exact ha.1 o,?_⟩
  rw[hfm,if_neg]
  ·exact ha.2
  ·rintro rfl
   exact absurd (s.inj i id x _ b hx hi ox hown) hne
 ·rcases get i _ hx with⟨_,e⟩|⟨_,hx⟩
  ·cases e
  ·rw[hhd];exact s.ver i v sz' es' hx u hu
 ·obtain⟨i,x,hne,hx,ox⟩:=own b hb
  exact .inl ⟨i,x,hx,ox⟩
 ·rw[hfz]at hv;exact .inl hv
 ·rw[hfm]at hv
  split at hv
  ·rename_i e;subst e;exact .inr (.inl ⟨id,_,hi,hown⟩)
  ·exact .inl hv
 ·rw[List.getElem?_set]
  by_cases e:id=i
  ·subst e;rw[hi]at hx;cases hx;exact absurd rfl o
  ·simp[e];exact hx
theorem ydi{n:Nat}{g:G}{h:List AO}{w:World}(s:Sat g h w){a:AV}{v:Value}(hr:RV g a v){a':AV}{h':List AO}(e:z42 n a h=(a',h')):∃g',Gs g h w g' h' /\ RV g' a' v:=by
 have same:(a,h)=(a',h')->∃g',Gs g h w g' h' /\ RV g' a' v:=fun e=>by cases e;exact⟨g,.refl s,hr⟩
 unfold z42 at e
 split at e
 ·rename_i id ver
  split at e
  ·split at e
   ·rename_i ver' sz es hi
    split at e
    ·rename_i hv
     subst hv;cases e
     cases hr with
     |ol hd=>
      rename_i ad m c;rcases s.obj _ _ hi with⟨h1,h2⟩|⟨b,cap,cs,t,l1,l2,h1,h2,h3,h4,h5,h6,h7,h8,h9,h10⟩
      ·subst h1
       rw[hd]at h2;cases h2;exact⟨g,yd2 s hi (.refl g) rfl rfl rfl (fun _ _ _ h=>.inl h),.sl0 _ _⟩
      ·rw[hd]at h1
       cases h1;have hown:OwnAt g id b (.lst ver' sz es):=⟨_,_,hd⟩
       have hnone:=(s.apart b ⟨id,_,hi,hown⟩).1;have hle:g.Le (g.addFz b l1.toArray):=by
        refine⟨fun b' o v hv=>?_,fun _ _ h=>h,fun _ _ h=>h,fun _ _ _ h=>h,rfl⟩
        unfold G.addFz;dsimp only;rw[if_neg (by rintro rfl;rw[hnone o]at hv;cases hv)]
        exact hv
       refine⟨g.addFz b l1.toArray,yd2 s hi hle rfl rfl rfl fun b' o v hv=>?_,?_⟩
       ·unfold G.addFz at hv
        dsimp only at hv
        split at hv
        ·rename_i e
         subst e;refine .inr ⟨hown,cs,t,_,h2,?_⟩;have:cs.toList[o]?=some v:=by
          have hl:l1[o]?=some v:=by simpa using hv
          rw[h8,List.getElem?_append_left (List.getElem?_eq_some_iff.1 hl).1];exact hl
         simpa using this
        ·exact .inl hv
       ·refine .sl (b:=b) (o:=0) (sz:=sz) (fun k=>l1.getD k undef) rfl h6 h5 h7 h10 (fun k a hk=>?_) (fun k a hk=>?_)
        ·obtain⟨u,hu,_⟩:=h9.at hk
         simp[G.addFz,hu]
        ·obtain⟨u,hu,hru⟩:=h9.at hk
         simp[hu];exact hru.mono hle
    ·exact same e
   ·exact same e
  ·exact same e
 ·rename_i id
  split at e
  ·split at e
   ·rename_i es hi
    cases e
    cases hr with
    |mp hb=>
     rename_i bm;obtain⟨b',m,ck,f,h1,h2,h3,h4,h5⟩:=s.obj _ _ hi;rw[hb]at h1;cases h1;have hap:=s.apart bm ⟨id,_,hi,hb⟩;have hle:g.Le { g with fm:=fun b=>if b=bm then some m else g.fm b }:=by
      refine⟨fun _ _ _ h=>h,fun b m' hv=>?_,fun _ _ h=>h,fun _ _ _ h=>h,rfl⟩
      dsimp only;rw[if_neg (by rintro rfl;rw[hap.2]at hv;cases hv)]
      exact hv
     refine⟨{ g with fm:=fun b=>if b=bm then some m else g.fm b },yh5 s hi hb ⟨ck,h2⟩ hle rfl rfl (fun _=>rfl) rfl,?_⟩
     exact .fmap (b:=bm) (m:=m) (by simp) h3 (fun i p e hp he=>(h4 i p e hp he).mono hle) (fun i p e hp he=>(h5 i p e hp he).mono hle)
   ·exact same e
  ·exact same e
 ·cases e
  cases hr;exact⟨g,.refl s,.sl0 _ _⟩
 ·exact same e
theorem z41{n:Nat}{w:World}:∀{cs:List AV} {g:G} {h:List AO} {vs:List Value},Sat g h w->RVs g cs vs->∀{cs':List AV} {h':List AO},zuc n cs h=(cs',h')->∃g',Gs g h w g' h' /\ RVs g' cs' vs
 |[],g,h,vs,s,hr,cs',h',e=>by cases e;exact⟨g,.refl s,hr⟩
 |a::r,g,h,vs,s,hr,cs',h',e=>by
  obtain⟨v,vs',rfl,h1,h2⟩:=hr.inv;simp only[zuc]at e;cases e;obtain⟨g1,k1,k2⟩:=ydi s h1 (show z42 n a h=((z42 n a h).1,(z42 n a h).2) from rfl)
  obtain⟨g2,k3,k4⟩:=z41 k1.sat (h2.mono k1.ev.le) (show zuc n r (z42 n a h).2=((zuc n r (z42 n a h).2).1,(zuc n r (z42 n a h).2).2) from rfl)
  exact⟨g2,k1.trans k3,.cons (k2.mono k3.ev.le) k4⟩
theorem ydh{n:Nat}{g:G}{h:List AO}{w:World}(s:Sat g h w){a:AV}{v:Value}(hr:RV g a v){a':AV}{h':List AO}(e:zxm n a h=(a',h')):∃g',Gs g h w g' h' /\ RV g' a' v:=by
 unfold zxm at e
 split at e
 ·rename_i cs
  cases e
  cases hr with
  |agg hl hr=>
   rename_i vs;obtain⟨g1,k1,k2⟩:=z41 s (RV.agg_iff.1 (.agg hl hr)) (show zuc n cs h=((zuc n cs h).1,(zuc n cs h).2) from rfl)
   exact⟨g1,k1,RV.agg_iff.2 k2⟩
 ·exact ydi s hr e
theorem ydg{n:Nat}{w:World}:∀{cs:List AV} {g:G} {h:List AO} {vs:List Value},Sat g h w->RVs g cs vs->∀{cs':List AV} {h':List AO},zr8 n cs h=(cs',h')->∃g',Gs g h w g' h' /\ RVs g' cs' vs
 |[],g,h,vs,s,hr,cs',h',e=>by cases e;exact⟨g,.refl s,hr⟩
 |a::r,g,h,vs,s,hr,cs',h',e=>by
  obtain⟨v,vs',rfl,h1,h2⟩:=hr.inv;simp only[zr8]at e;cases e;obtain⟨g1,k1,k2⟩:=ydh s h1 (show zxm n a h=((zxm n a h).1,(zxm n a h).2) from rfl)
  obtain⟨g2,k3,k4⟩:=ydg k1.sat (h2.mono k1.ev.le) (show zr8 n r (zxm n a h).2=((zr8 n r (zxm n a h).2).1,(zr8 n r (zxm n a h).2).2) from rfl)
  exact⟨g2,k1.trans k3,.cons (k2.mono k3.ev.le) k4⟩
theorem Mid.swap{g0 g:G}{h0 h:List AO}{w0 w:World}{lb:Nat->Nat}{ls:List (Nat×List AV)}(m:Mid g0 h0 w0 g lb ls h w){d:Nat}{c0 cs:List AV}(hd:zb5 d ls=some c0){c:Array Value}{t:TypeId}(h1:w.heap[lb d]?=some (.cells c t (0,0)))(hc:RVs g cs c.toList):
  Mid g0 h0 w0 g lb (put d cs ls) h w:=by
 have hget:∀k c',zb5 k (put d cs ls)=some c' -> (k=d/\c' = cs)\/(k≠d/\zb5 k ls=some c'):=by
  intro k c' hk;rw[zfh]at hk;by_cases e:k=d
  ·subst e;rw[if_pos rfl,hd]at hk;simp at hk;exact .inl ⟨rfl,hk.symm⟩
  ·rw[if_neg e]at hk;exact .inr ⟨e,hk⟩
 have hsome:∀k c',zb5 k (put d cs ls)=some c' -> ∃c'',zb5 k ls=some c'':=fun k c' hk=>by
  rcases hget k c' hk with⟨rfl,_⟩|⟨_,h⟩
  ·exact⟨_,hd⟩
  ·exact⟨_,h⟩
 refine⟨⟨fun k c' hk=>?_,fun k c' hk=>?_,fun k c' hk=>?_,fun k c' hk=>?_,fun k c' hk=>?_,fun k k' c1 c2 hk hk'=>?_⟩,m.sat,m.ev⟩
 ·rcases hget k c' hk with⟨rfl,rfl⟩|⟨_,h⟩
  ·exact⟨c,t,h1,hc⟩
  ·exact m.lok.ok k c' h
 ·obtain⟨c'',h⟩:=hsome k c' hk;exact m.lok.new k c'' h
 ·obtain⟨c'',h⟩:=hsome k c' hk;exact m.lok.own k c'' h
 ·obtain⟨c'',h⟩:=hsome k c' hk;exact m.lok.fz k c'' h
 ·obtain⟨c'',h⟩:=hsome k c' hk;exact m.lok.fm k c'' h
 ·obtain⟨c3,h⟩:=hsome k c1 hk
  obtain⟨c4,h'⟩:=hsome k' c2 hk';exact m.lok.inj k k' c3 c4 h h'
theorem ok_ldz{P:Program}{o:Oper}{t:TypeId}{n:Nat}{ag:Bool}{x:Operand}{ax:AX}(ho:o.op = .load t x)(hn:zj0 P t=some n)(hag:z0o P t=some ag)(h1:cx x=some ax){σ σ1:St}{z:TV}{d:Nat}(he:evo d (.ldz n ag ax) σ=some (z,σ1)):OkAt P o z σ σ1:=by
 simp only[evo]at he
 split at he
 ·rename_i k off hq
  split at he
  ·rename_i cs hl
   generalize hf:zuc 0 cs σ.h=ff at he;obtain⟨cs',h'⟩:=ff;dsimp only at he
   split at he
   ·rename_i y hrd
    cases he;intro g0 h0 w0 g lb act w m T
    have hv:=zj6 T h1;rw[hq]at hv;have hv:act.eval x = .pointer (some ⟨lb k,off,none⟩):=hv;obtain⟨c,t',h3,h4⟩:=m.lok.ok k cs hl;obtain⟨g',k1,k2⟩:=z41 m.sat h4 hf;have m2:=(m.step k1.sat k1.ev).swap hl h3 k2;obtain⟨v,y',h5,rfl,h6⟩:=zpq (b:=lb k) (o:=off) hn hag (us:=c.toList.drop off) (fun j u hj=>by
     rw[zbh h3];rw[List.getElem?_drop]at hj;simpa using hj) (k2.drop off) hrd
    refine⟨v,w,g',lb,.inl (zbb (s:=Instr.loadAt t (act.eval x)) (by simp only[execOp,ho]) (by rw[hv];exact h5)),m2,⟨k1.ev.le,fun _ _=>rfl,fun d hd=>?_,k1.raw⟩,h6,fun k off e=>(by cases e),rfl,rfl⟩
    rw[zfh]
    split
    ·rename_i e;subst e;rw[hl];simp
    ·exact hd
   ·cases he
  ·cases he
 ·cases he
end Go.Ab
set_option linter.unusedVariables false
set_option linter.unusedSimpArgs false
namespace Go.Ab
open Go.RowKit
variable {P : Program}
theorem map_some{α β:Type}{f:α->β}{x:Option α}{y:β}(h:x.map f=some y):∃a,x=some a/\y=f a:=by
 cases x with
 |none=>cases h
 |some a=>cases h;exact⟨a,rfl,rfl⟩
theorem yg3{α:Type}{a:Array α}{x:α}(h:a.toList=[x]):a = #[x]:=by
 apply Array.ext';simpa using h
theorem z1t{α:Type}{a:Array α}{x y:α}(h:a.toList=[x,y]):a = #[x,y]:=by
 apply Array.ext';simpa using h
theorem evo_ldh{d n:Nat}{ag:Bool}{a:AX}{σ σ1:St}{x:TV}(h:evo d (.ldh n ag a) σ=some (x,σ1)):evo d (.ld n ag a) σ=some (x,σ1):=by
 simp only[evo]at h ⊢
 split at h
 ·rename_i id off e;rw[e];exact h
 ·cases h
theorem evo_stl{d n:Nat}{a y:AX}{σ σ1:St}{x:TV}(h:evo d (.stl n a y) σ=some (x,σ1)):evo d (.st n a y) σ=some (x,σ1):=by
 simp only[evo]at h ⊢
 split at h
 ·rename_i e0
  split at h
  ·rename_i e1
   split at h
   ·rename_i k off e;rw[e];exact h
   ·cases h
  ·cases h
 ·cases h
theorem evo_sto{d n:Nat}{a y:AX}{σ σ1:St}{x:TV}(h:evo d (.sto n a y) σ=some (x,σ1)):evo d (.st n a y) σ=some (x,σ1):=by
 simp only[evo]at h ⊢
 split at h
 ·rename_i e0
  split at h
  ·rename_i e1
   split at h
   ·rename_i e;rw[e];exact h
   ·cases h
  ·cases h
 ·cases h
theorem evo_stp{d n:Nat}{a y:AX}{σ σ1:St}{x:TV}(h:evo d (.stp n a y) σ=some (x,σ1)):evo d (.st n a y) σ=some (x,σ1):=by
 simp only[evo]at h ⊢
 split at h
 ·rename_i e0
  split at h
  ·rename_i e1
   split at h
   ·rename_i e;rw[e];exact h
   ·cases h
  ·cases h
 ·cases h
theorem evo_iao{d sz:Nat}{a y:AX}{σ σ1:St}{x:TV}(h:evo d (.iao sz a y) σ=some (x,σ1)):evo d (.ia sz a y) σ=some (x,σ1):=by
 simp only[evo]at h ⊢
 split at h
 ·rename_i e0
  split at h
  ·rename_i e;first|(rw[e];exact h)|(rw[e0,e];exact h)|exact h
  ·cases h
 ·cases h
set_option maxHeartbeats 1000000 in
theorem op_ok{esc own:List Nat}{o:Oper}{op:AOp}(hc:cop P esc own o=some op){σ σ1:St}{x:TV}(he:evo (o.dst.getD 0) op σ=some (x,σ1)):OkAt P o x σ σ1:=by
 unfold cop at hc
 split at hc
 ·rename_i y ho
  split at hc
  ·rename_i hh
   obtain⟨sz,_,rfl⟩:=map_some hc;exact yjw (.inl ho) (by simp at hh;exact hh.2) he
  ·obtain⟨ax,hx,rfl⟩:=map_some hc
   simp only[evo]at he;cases he;exact ok_mv (.inl ho) hx σ
 ·rename_i y ho
  split at hc
  ·rename_i hh
   obtain⟨sz,_,rfl⟩:=map_some hc;exact yjw (.inr ho) (by simp at hh;exact hh.2) he
  ·obtain⟨ax,hx,rfl⟩:=map_some hc
   simp only[evo]at he;cases he;exact ok_mv (.inr ho) hx σ
 ·rename_i c a b ho
  split at hc
  ·rename_i ac aa ab h1 h2 h3
   cases hc;simp only[evo]at he
   split at he
   ·rename_i p hp
    have:=ok_pick ho h1 h2 h3 hp (P:=P)
    cases p <;> (simp only at he;cases he;simpa using this)
   ·cases he
  ·cases hc
 ·rename_i e ho
  obtain⟨z,hz,rfl⟩:=map_some hc
  split at he
  ·split at he
   ·exact ygz ho hz he
   ·exact ok_alcH ho hz he
  ·split at he
   ·exact ok_alcO ho hz he
   ·exact ok_alc ho hz he
 ·rename_i t y ho
  obtain⟨ax,hx,rfl⟩:=map_some hc
  split at he
  ·exact ok_bxH ho hx he
  ·split at he
   ·exact ok_bxF ho hx he
   ·exact ok_bx ho hx he
 ·rename_i t ps ho
  split at hc
  ·rename_i z fs hz hu
   split at hc
   ·rename_i places hp
    obtain⟨l,hl,rfl⟩:=map_some hc
    split at he
    ·exact ok_bldO ho hu hz hp hl he
    ·exact ok_bld ho hu hz hp hl he
   ·cases hc
  ·cases hc
 ·rename_i t n ps ho
  split at hc
  ·rename_i sz e hs hel
   split at hc
   ·rename_i z l hz hl
    split at hc
    ·cases hc
    ·rename_i hn
     cases hc
     split at he
     ·exact ok_bslO ho hs hel hz hl hn he
     ·exact ok_bsl ho hs hel hz hl hn he
   ·cases hc
  ·cases hc
 ·rename_i t m k v ho
  split at hc
  ·rename_i kt et hu
   split at hc
   ·rename_i ik hk
    split at hc
    ·rename_i am ak av h1 h2 h3
     cases hc;exact yjx (.inl ho) hu hk h1 h2 h3 he
    ·cases hc
   ·cases hc
  ·cases hc
 ·rename_i t m k v ho
  split at hc
  ·rename_i kt et hu
   split at hc
   ·rename_i ik hk
    split at hc
    ·rename_i am ak av h1 h2 h3
     cases hc;exact yjx (.inr ho) hu hk h1 h2 h3 he
    ·cases hc
   ·cases hc
  ·cases hc
 ·rename_i t a ho
  split at hc
  ·rename_i n ag ax h1 h2 h3
   cases hc
   split at he
   ·exact z8e ho h1 h2 h3 (evo_ldh he)
   split at he
   ·exact ok_ldl ho h1 h2 h3 he
   ·split at he
    ·exact ok_ldz ho h1 h2 h3 he
    ·exact z8e ho h1 h2 h3 he
  ·cases hc
 ·rename_i t a v ho
  split at hc
  ·rename_i n ax ay h1 h2 h3
   cases hc
   split at he
   ·exact ygy ho h1 h2 h3 (evo_stl he)
   split at he
   ·exact ygy ho h1 h2 h3 (evo_sto he)
   split at he
   ·exact ygy ho h1 h2 h3 (evo_stp he)
   exact ygy ho h1 h2 h3 he
  ·cases hc
 ·rename_i y ho
  obtain⟨ax,hx,rfl⟩:=map_some hc;exact ok_nilc ho hx he
 ·rename_i bop t y z yt ho
  split at hc
  ·rename_i ax ay h1 h2
   split at hc
   ·rename_i hu
    cases hc;exact yjy (neg:=false) ho hu h1 h2 he
   ·rename_i hu
    cases hc;exact yjy (neg:=true) ho hu h1 h2 he
   ·cases hc
   ·cases hc
   ·cases hc
    exact ok_bin ho h1 h2 he
  ·cases hc
 ·rename_i t y ho
  obtain⟨ax,hx,rfl⟩:=map_some hc;exact ok_not ho hx he
 ·rename_i s t y ho
  split at hc
  ·rename_i sd k hs ht
   obtain⟨ax,hx,rfl⟩:=map_some hc;exact ok_cv ho hs ht hx he
  ·cases hc
 ·rename_i s y f ho
  split at hc
  ·rename_i fs hs
   split at hc
   ·rename_i fd hf
    split at hc
    ·rename_i n hn
     split at hc
     ·cases hc
     ·rename_i hn0
      obtain⟨ax,hx,rfl⟩:=map_some hc;exact ok_fa ho hs hf hn hn0 hx he
    ·cases hc
   ·cases hc
  ·cases hc
 ·rename_i t y f ho
  split at hc
  ·rename_i fs hs
   split at hc
   ·rename_i fd hf
    split at hc
    ·rename_i n ag hn hag
     obtain⟨ax,hx,rfl⟩:=map_some hc;exact ok_fld ho hs hf hn hag hx he
    ·cases hc
   ·cases hc
  ·cases hc
 ·rename_i t y i ho
  split at hc
  ·rename_i e hel
   split at hc
   ·rename_i sz ax ai hsz h1 h2
    cases hc;have he:evo (o.dst.getD 0) (.ia sz ax ai) σ=some (x,σ1):=by
     split at he
     ·exact evo_iao he
     ·exact he
    refine ok_ia ho ?_ hsz h1 h2 he;unfold zbf at hel
    split at hel
    ·cases hel;assumption
    ·cases hel
   ·cases hc
  ·cases hc
 ·rename_i t y i ok ho
  split at hc
  ·rename_i kt et hu
   split at hc
   ·rename_i ik hk
    split at hc
    ·rename_i z ag ax ai hz hag h1 h2
     obtain⟨inf,zv,hi,hzv,hr,hone⟩:=zd2 hz
     split at hc
     ·cases hc
      refine ok_lk ho hu hk hi hzv (fun g=>?_) h1 h2 he
      have hcell:=zl3 (hr g);unfold zul at hag;rw[hi]at hag;dsimp only at hag;rw[hzv]at hag
      cases zv <;> first
       |exact RV.agg_iff.2 hcell
       |cases hag
     ·rename_i a
      split at hc
      ·rename_i a' r' hno
       cases hc;refine ok_lk ho hu hk hi hzv (fun g=>?_) h1 h2 he
       have hcell:=zl3 (hr g);rw[hno]at hcell;unfold zul at hag;rw[hi]at hag;dsimp only at hag;rw[hzv]at hag;obtain⟨u,us,hu1,hu2,_⟩:=hcell.inv
       cases zv <;> first
        |(cases hag;done)
        |(simp[Value.cells]at hu1;obtain⟨rfl,_⟩:=hu1;exact hu2)
      ·cases hc
     ·cases hc
    ·cases hc
   ·cases hc
  ·cases hc
 ·rename_i t i ho
  obtain⟨ax,hx,rfl⟩:=map_some hc;exact ok_ext ho hx he
 ·rename_i fn first cap ho
  split at hc
  ·rename_i a b h1 h2
   cases hc;exact ok_mkf ho h1 h2 he
  ·cases hc
 ·rename_i t ho
  cases hc;exact ok_mkm ho he
 ·rename_i t l c ho
  split at hc
  ·rename_i sz e al hlc hs hel hx
   obtain⟨z,hz,rfl⟩:=map_some hc
   split at he
   ·exact ok_mks ho hlc hs hel hx hz he
   ·exact ok_mkz ho hlc hs hel hx hz he
  ·cases hc
 ·rename_i t y lo hi ho
  split at hc
  ·rename_i sz ax hs h1
   split at hc
   ·cases hc
    exact z6u ho hs h1 (.inl ⟨rfl,rfl⟩) (.inl ⟨rfl,rfl⟩) he
   ·rename_i l
    obtain⟨al,hl,rfl⟩:=map_some hc;exact z6u ho hs h1 (.inr ⟨_,_,rfl,rfl,hl⟩) (.inl ⟨rfl,rfl⟩) he
   ·rename_i h
    obtain⟨ah,hh,rfl⟩:=map_some hc;exact z6u ho hs h1 (.inl ⟨rfl,rfl⟩) (.inr ⟨_,_,rfl,rfl,hh⟩) he
   ·rename_i l h
    split at hc
    ·rename_i al ah hl hh
     cases hc;exact z6u ho hs h1 (.inr ⟨_,_,rfl,rfl,hl⟩) (.inr ⟨_,_,rfl,rfl,hh⟩) he
    ·cases hc
  ·cases hc
 ·rename_i t y h m ho
  split at hc
  ·rename_i sz hz hs
   obtain⟨ax,hx,rfl⟩:=map_some hc;rw[Bool.and_eq_true]at hz;exact ok_slz ho hz.1 hz.2 hs hx he
  ·cases hc
 ·rename_i t y ho
  split at hc
  ·cases hc
  ·cases hc
  ·rename_i d hne hu
   obtain⟨ax,hx,rfl⟩:=map_some hc;refine ok_ifc ho ?_ hx he;unfold Program.concrete;rw[hu]
   cases d <;> first
    |rfl
    |exact absurd rfl (hne _)
 ·rename_i c ho
  obtain⟨callee,args,argTypes⟩:=c
  split at hc
  ·rename_i y hcal hargs
   split at hc
   ·rename_i t hts
    split at hc
    ·rename_i e hu
     obtain⟨ax,hx,rfl⟩:=map_some hc;dsimp only at hcal hargs hts;rw[hcal,yg3 hargs,yg3 hts]at ho;exact ok_len ho hu hx he
    ·cases hc
   ·cases hc
  ·rename_i y hcal hargs
   split at hc
   ·rename_i t hts
    split at hc
    ·rename_i e hu
     obtain⟨ax,hx,rfl⟩:=map_some hc;dsimp only at hcal hargs hts;rw[hcal,yg3 hargs,yg3 hts]at ho;exact ok_cap ho hu hx he
    ·cases hc
   ·cases hc
  ·rename_i y z hcal hargs
   split at hc
   ·rename_i t u hts
    split at hc
    ·rename_i htu
     subst htu
     split at hc
     ·rename_i sz ax ay hs h1 h2
      cases hc;dsimp only at hcal hargs hts
      rw[hcal,z1t hargs,z1t hts]at ho;exact ok_app ho hs h1 h2 he
     ·cases hc
    ·split at hc
     ·rename_i ik sz e ax ay hu hs hel h1 h2
      obtain⟨z,hz,rfl⟩:=map_some hc;dsimp only at hcal hargs hts;rw[hcal,z1t hargs,z1t hts]at ho;exact ok_apz ho hu hs hel h1 h2 hz he
     ·cases hc
   ·cases hc
  ·rename_i y z hcal hargs
   split at hc
   ·rename_i ax ay h1 h2
    cases hc;dsimp only at hcal hargs
    rw[hcal,z1t hargs]at ho;exact ok_mx ho h1 h2 he
   ·cases hc
  ·cases hc
 ·cases hc
end Go.Ab
end
