/- What the law ConvMany of layer 17 comes to, part 4. Conditions: none. -/
import Derived.Test.YthebfdakjfnpeaaGreatZdac
import Derived.ChangeKeysEq
section
set_option linter.unusedVariables false
set_option linter.unusedSimpArgs false
namespace Go.Ab
open Go.RowKit
variable {P : Program}
theorem zyf{kt:TypeId}{ik:IntKind}(hk:P.underlying kt=some (.int ik))(b:Bool)(k:IntKind)(n:Int)(w:World):(Instr.checkKey b 9999 kt (.int k n)).run P w = .ok () w:=by
 have key:∀d:Nat,(Instr.checkKey b (d+1) kt (.int k n)).run P w = .ok () w:=fun d=>by simp[Instr.checkKey,run_underlying hk]
 exact key 9998
theorem zni{d:Nat}{xo:XOp}{l:List AX}{σ σ1:St}{z:TV}(he:evo d (.xo xo l) σ=some (z,σ1)):∃h,evX xo (l.map σ.x) σ.h=some (z,h)/\σ1 = { σ with h:=h }:=by
 simp only[evo]at he
 split at he
 ·rename_i x h hx;cases he;exact⟨h,hx,rfl⟩
 ·cases he
theorem zmo{t:TypeId}{n:Nat}{k:IntKind}(h:z9g P t=some (n,k)):∃e,P.underlying t=some (.array n e)/\P.underlying e=some (.int k)/\zj0 P e=some 1/\zj0 P t=some n/\P.eqGuardType P.depth t=false:=by
 unfold z9g at h
 split at h
 ·rename_i m e hu
  split at h
  ·rename_i k' hk
   split at h
   ·rename_i hs
    split at h
    ·rename_i hn
     split at h
     ·rename_i hg;cases h;exact⟨e,hu,hk,hs,hn,hg⟩
     ·cases h
    ·cases h
   ·cases h
  ·cases h
 ·cases h
theorem zs6{σ:St}{act:Act}{g:G}{lb:Nat->Nat}(T:Tm g lb σ.ls σ.t act.tmps){x:Operand}{ax:AX}(hx:cx x=some ax){y:AV}(h:σ.x ax = .v y):RV g y (act.eval x):=by
 have:=zj6 T hx
 rwa [h]at this
theorem x_op{σ:St}{act:Act}{g:G}{lb:Nat->Nat}(T:Tm g lb σ.ls σ.t act.tmps){x:Operand}{ax:AX}(hx:cx x=some ax){id ver:Nat}(h:σ.x ax = .op id ver 1 0 0):∃b n c,g.hd id ver=some (some ⟨b,0,none⟩,n,c)/\act.eval x = .pointer (some ⟨b,0,none⟩):=by
 have:=zj6 T hx;rw[h]at this;obtain⟨b,n,c,h1,h2⟩:=this;exact⟨b,n,c,h1,h2⟩
theorem z12{k:IntKind}{g:G}{a:Int}{v:Value}(h:RV g (.int k a) v):v = .int k a:=by cases h;rfl
theorem z6v{o:Oper}{op:BinOp}(hop:op = .and\/op = .or\/op = .xor\/op = .andNot){t yt:TypeId}{x y:Operand}{ax ay:AX}(ho:o.op = .binOp op t x y yt)(h1:cx x=some ax)(h2:cx y=some ay){σ σ1:St}{z:TV}{d:Nat}
  (he:evo d (.xo (.bit op) [ax,ay]) σ=some (z,σ1)):OkAt P o z σ σ1:=by
 obtain⟨h,he',rfl⟩:=zni he;clear he;have he:=he';clear he';simp only[evX,List.map_cons,List.map_nil]at he
 split at he
 ·rename_i k a k' b hl
  simp only[List.cons.injEq,and_true]at hl
  split at he
  ·rename_i hk
   subst hk
   split at he
   ·rename_i r hr
    cases he;refine zdk fun g0 h0 w0 g lb act w m T=>?_
    have hx:=z12 (zs6 T h1 hl.1);have hy:=z12 (zs6 T h2 hl.2);refine⟨.int k r,zbb (s:=do eqGuard op t x y (.int k a) (.int k b);binOp op t (.int k a) (.int k b)) (by simp only[execOp,ho,hx,hy]) ?_,.int _ _⟩
    rcases hop with rfl|rfl|rfl|rfl <;> (simp only[bitI,Option.some.injEq]at hr;subst hr;simp[zho,binOp,Op.intBits])
   ·cases he
  ·cases he
 ·cases he
theorem ok_sh{o:Oper}{l:Bool}{t yt:TypeId}{x y:Operand}{ax ay:AX}(ho:o.op = .binOp (if l then .shl else .shr) t x y yt)(h1:cx x=some ax)(h2:cx y=some ay){σ σ1:St}{z:TV}{d:Nat}
  (he:evo d (.xo (.sh l) [ax,ay]) σ=some (z,σ1)):OkAt P o z σ σ1:=by
 obtain⟨h,he',rfl⟩:=zni he;clear he;have he:=he';clear he';simp only[evX,List.map_cons,List.map_nil]at he
 split at he
 ·rename_i k a k' b hl
  simp only[List.cons.injEq,and_true]at hl
  split at he
  ·rename_i hb
   cases he;refine zdk fun g0 h0 w0 g lb act w m T=>?_
   have hx:=z12 (zs6 T h1 hl.1);have hy:=z12 (zs6 T h2 hl.2);have hb':¬ b<0:=by omega
   cases l
   ·exact⟨_,zbb (s:=do eqGuard .shr t x y (.int k a) (.int k' b);binOp .shr t (.int k a) (.int k' b)) (by simp only[execOp,ho,hx,hy];rfl) (by simp[zho,binOp,Op.shift,hb',shI]),.int _ _⟩
   ·exact⟨_,zbb (s:=do eqGuard .shl t x y (.int k a) (.int k' b);binOp .shl t (.int k a) (.int k' b)) (by simp only[execOp,ho,hx,hy];rfl) (by simp[zho,binOp,Op.shift,hb',shI]),.int _ _⟩
  ·cases he
 ·cases he
theorem ok_mn{o:Oper}{x y:Operand}{ax ay:AX}{at_:Array TypeId}(ho:o.op = .call { callee:=.builtin .min,args:=#[x,y],argTypes:=at_ })(h1:cx x=some ax)(h2:cx y=some ay){σ σ1:St}{z:TV}{d:Nat}
  (he:evo d (.xo .mn [ax,ay]) σ=some (z,σ1)):OkAt P o z σ σ1:=by
 obtain⟨h,he',rfl⟩:=zni he;clear he;have he:=he';clear he';simp only[evX,List.map_cons,List.map_nil]at he
 split at he
 ·rename_i k a k' b hl
  simp only[List.cons.injEq,and_true]at hl
  split at he
  ·rename_i hk
   subst hk;cases he;refine zdk fun g0 h0 w0 g lb act w m T=>?_
   have hx:=z12 (zs6 T h1 hl.1);have hy:=z12 (zs6 T h2 hl.2);refine⟨.int k (if b<a then b else a),?_,.int _ _⟩;simp[execOp,ho,resolve,invoke,builtin,Builtin.min_,Builtin.min2,hx,hy]
  ·cases he
 ·cases he
theorem z89{e:TypeId}(h:zj0 P e=some 1):P.cellsOf e=1:=by
 unfold zj0 at h
 cases hi:P.info? e with
 |none=>rw[hi]at h;cases h
 |some i=>rw[hi]at h;simp at h;simp[Program.cellsOf,hi,h]
theorem zuy{e:TypeId}{k:IntKind}(h:P.underlying e=some (.int k)):P.plainKey e=true:=by simp[Program.plainKey,h]
theorem ydx{xs:Array Value}{s:Nat}{v:Value}{vs:List Value}(h:xs.toList.drop s=v::vs):xs[s]?=some v/\xs.toList.drop (s+1)=vs:=by
 refine⟨?_,?_⟩
 ·have:(xs.toList.drop s)[0]?=some v:=by rw[h];rfl
  simpa [List.getElem?_drop] using this
 ·have:(xs.toList.drop s).drop 1=vs:=by rw[h];rfl
  rw[List.drop_drop]at this;exact this
theorem z1e{g:G}{e:TypeId}{k0:IntKind}(hu:P.underlying e=some (.int k0))(hc:P.cellsOf e=1)(d:Nat)(xs ys:Array Value)(w:World):∀(m s:Nat) (cs ds:List AV) (b:Bool),cs.length=m->ds.length=m->RVs g cs (xs.toList.drop s)->RVs g ds (ys.toList.drop s)->eqI cs ds=some b ->
  (Op.eqItems (d+1) e (P.cellsOf e) xs ys (List.range' s m)).run P w = .ok b w
 |0,s,cs,ds,b,h1,h2,_,_,h=>by
  have:cs=[]:=List.eq_nil_of_length_eq_zero h1;have:ds=[]:=List.eq_nil_of_length_eq_zero h2
  subst_vars
  simp[eqI]at h;subst h;simp[Op.eqItems]
 |m+1,s,c::cs,d' :: ds,b,h1,h2,r1,r2,h=>by
  obtain⟨v,vs,e1,q1,q2⟩:=r1.inv;obtain⟨u,us,e2,q3,q4⟩:=r2.inv;obtain⟨a1,a2⟩:=ydx e1;obtain⟨a3,a4⟩:=ydx e2;unfold eqI at h
  split at h
  ·rename_i h3;cases h3
  ·rename_i k a r k' b' r' h3 h4
   injection h3 with h3 h3';injection h4 with h4 h4';subst h3;subst h4;subst h3';subst h4';have e5:=z12 q1;have e6:=z12 q3;subst e5;subst e6
   split at h
   ·rename_i hk
    subst hk;have p1:=run_part_plain w (zuy hu) (xs:=xs) (off:=s) a1;have p2:=run_part_plain w (zuy hu) (xs:=ys) (off:=s) a3;have p3:=run_equalIn_int w d e k k0 a b' hu;simp only[List.range'_succ,Op.eqItems,hc,Nat.mul_one,Sem.run_bind,p1,p2,p3,Result.andThen_ok]
    split at h
    ·rename_i hab
     subst hab;have:=z1e hu hc d xs ys w m (s+1) cs ds b (by simpa using h1) (by simpa using h2) (by rw[a2];exact q2) (by rw[a4];exact q4) h
     rw[hc]at this;simpa using this
    ·rename_i hab
     cases h;have:(a == b')=false:=by simpa using hab
     simp[this]
   ·cases h
  ·cases h
theorem eqk{t e:TypeId}{n:Nat}{k:IntKind}(hu:P.underlying t=some (.array n e))(he:P.underlying e=some (.int k))(hs:zj0 P e=some 1){g:G}{cs ds:List AV}{xs ys:Array Value}(h1:cs.length=n)(h2:ds.length=n)(r1:RVs g cs xs.toList)(r2:RVs g ds ys.toList){b:Bool}(h:eqI cs ds=some b)(w:World):
  (Op.equal t (.agg xs) (.agg ys)).run P w = .ok b w:=by
 have hc:=z89 hs;have hi:∃i,P.info? e=some i:=by
  unfold zj0 at hs
  cases hi:P.info? e with
  |none=>rw[hi]at hs;cases hs
  |some i=>exact⟨i,rfl⟩
 obtain⟨i,hi⟩:=hi;show (Op.equalIn (9999+1) t (.agg xs) (.agg ys)).run P w=_;rw[run_equalIn_array w 9999 xs ys hu hi,List.range_eq_range'];exact z1e he hc 9998 xs ys w n 0 cs ds b h1 h2 (by simpa using r1) (by simpa using r2) h
theorem zop{op:BinOp}{t:TypeId}{x y:Operand}{xs ys:Array Value}(hg:P.eqGuardType P.depth t=false)(w:World):(eqGuard op t x y (.agg xs) (.agg ys)).run P w = .ok () w:=by
 cases op <;> simp[eqGuard,program,hg,Sem.run]
theorem yjz{o:Oper}{n:Nat}{neg:Bool}{t yt e:TypeId}{k:IntKind}{x y:Operand}{ax ay:AX}(ho:o.op = .binOp (if neg then .neq else .eql) t x y yt)(hu:P.underlying t=some (.array n e))(hk:P.underlying e=some (.int k))(hs:zj0 P e=some 1)(hg:P.eqGuardType P.depth t=false)
  (h1:cx x=some ax) (h2:cx y=some ay) {σ σ1:St} {z:TV} {d:Nat} (he:evo d (.xo (.eqA n neg) [ax,ay]) σ=some (z,σ1)):OkAt P o z σ σ1:=by
 obtain⟨h,he',rfl⟩:=zni he;clear he;have he:=he';clear he';simp only[evX,List.map_cons,List.map_nil]at he
 split at he
 ·rename_i cs ds hl
  simp only[List.cons.injEq,and_true]at hl
  split at he
  ·rename_i hlen
   split at he
   ·rename_i b hb
    cases he;refine zdk fun g0 h0 w0 g lb act w m T=>?_
    have hx:=zs6 T h1 hl.1;have hy:=zs6 T h2 hl.2;generalize hgx:act.eval x=vx at hx;generalize hgy:act.eval y=vy at hy;obtain⟨xs,rfl⟩:∃xs,vx = .agg xs:=by cases hx;exact⟨_,rfl⟩
    obtain⟨ys,rfl⟩:∃ys,vy = .agg ys:=by cases hy;exact⟨_,rfl⟩
    have hq:=eqk hu hk hs hlen.1 hlen.2 (RV.agg_iff.1 hx) (RV.agg_iff.1 hy) hb w;have hq:(Op.equalIn 10000 t (.agg xs) (.agg ys)).run P w = .ok b w:=hq;cases neg
    ·exact⟨.bool b,zbb (s:=do eqGuard .eql t x y (.agg xs) (.agg ys);binOp .eql t (.agg xs) (.agg ys)) (by simp[execOp,ho,hgx,hgy]) (by simp[zop hg,run_eql_struct,hq]),.bool _⟩
    ·exact⟨.bool (!b),zbb (s:=do eqGuard .neq t x y (.agg xs) (.agg ys);binOp .neq t (.agg xs) (.agg ys)) (by simp[execOp,ho,hgx,hgy]) (by simp[zop hg,run_neq_struct,hq]),.bool _⟩
   ·cases he
  ·cases he
 ·cases he
theorem OkAt.op{o:Oper}{id ver sz i off:Nat}{σ σ1:St}(ht:σ1.t=σ.t)(hls:σ1.ls=σ.ls)(hds:σ1.ds=σ.ds)
  (h:∀g lb (act:Act) (w:World),Sat g σ.h w->Tm g lb σ.ls σ.t act.tmps->∃g' w' b n c,Sat g' σ1.h w' /\ Ev g σ.h w g' σ1.h w' /\ g'.hd id ver=some (some ⟨b,0,none⟩,n,c)/\(execOp act.eval o).run P w = .ok (.value (.pointer (some ⟨b,i*sz+off,none⟩))) w') (hraw:∀(i:Nat) (b:AO) (_:b.kd≠0),σ.h[i]?=some b->σ1.h[i]?=some b):OkAt P o (.op id ver sz i off) σ σ1:=by
 intro g0 h0 w0 g lb act w m T;obtain⟨g',w',b,n,c,h1,h2,h3,h4⟩:=h g lb act w m.sat T;exact⟨_,w',g',lb,.inl h4,by rw[hls];exact m.step h1 h2,by rw[hls];exact⟨h2.le,fun _ _=>rfl,fun _ h=>h,hraw⟩,⟨b,n,c,h3,rfl⟩,fun k off e=>(by cases e),ht,hds⟩
theorem zon{α:Type}:∀(cs:List α),(cs.map fun a=>[a]).flatten=cs
 |[]=>rfl
 |a::r=>by rw[List.map_cons,List.flatten_cons,zon r];rfl
theorem z6d{α:Type}(cs:List α):∀e∈(cs.map fun a=>[a]),e.length=1:=by
 intro e he;obtain⟨a,_,rfl⟩:=List.mem_map.1 he;rfl
theorem Sat.pushArr{g:G}{h:List AO}{w:World}(s:Sat g h w)(t:TypeId){cs:List AV}{c:Array Value}(hr:RVs g cs c.toList)(hone:∀a∈cs,a.one=true)(hm:cs.length<=z3y):
  let g':=g.addHd h.length 0 (some ⟨w.heap.size,0,none⟩,cs.length,cs.length)
  Sat g' (h++[.lst 0 1 (cs.map fun a=>[a])]) (w.alloc (.cells c t))/\Ev g h w g' (h++[.lst 0 1 (cs.map fun a=>[a])]) (w.alloc (.cells c t))/\g'.hd h.length 0=some (some ⟨w.heap.size,0,none⟩,cs.length,cs.length):=by
 have hsz:c.size=cs.length:=by have:=hr.1;simpa using this.symm
 have:=s.pushLst (es:=cs.map fun a=>[a]) (cap:=cs.length) (sz:=1) (c:=c) (l1:=c.toList) (l2:=[]) t (Wd.alloc w (.cells c t) _) (World.alloc_heap_new w _) (by omega) (by omega) (by simp) (by simpa using hm) (z6d cs) (by simp) (by rw[zon];exact hr) (by rw[zon];exact hone)
 rw[List.length_map]at this;exact⟨this.1,this.2.1,by simp[G.addHd]⟩
theorem ok_bxA{o:Oper}{n:Nat}{t:TypeId}{x:Operand}{ax:AX}(ho:o.op = .box t x)(h1:cx x=some ax){σ σ1:St}{z:TV}{d:Nat}(he:evo d (.xo (.bxA n) [ax]) σ=some (z,σ1)):OkAt P o z σ σ1:=by
 obtain⟨h,he',rfl⟩:=zni he;clear he;simp only[evX,List.map_cons,List.map_nil]at he'
 split at he'
 ·rename_i cs hl
  simp only[List.cons.injEq,and_true]at hl
  split at he'
  ·rename_i hc
   cases he'
   refine .op rfl rfl rfl (fun g lb act w s T=>?_) (fun i b ob hi=>zf8 hi)
   have hx:=zs6 T h1 hl;generalize hgx:act.eval x=vx at hx;obtain⟨xs,rfl⟩:∃xs,vx = .agg xs:=by cases hx;exact⟨_,rfl⟩
   obtain⟨h5,h6,h7⟩:=s.pushArr t (cs:=cs) (c:=xs) (RV.agg_iff.1 hx) (fun a ha=>List.all_eq_true.1 hc.2.2 a ha) (by have:=hc.1;have:=hc.2.1;unfold z3y;omega)
   exact⟨_,_,_,_,_,h5,h6,h7,zbb (s:=Instr.box t (act.eval x)) (by simp only[execOp,ho]) (by rw[hgx];exact zra t _ w)⟩
  ·cases he'
 ·cases he'
theorem ok_bxN{o:Oper}{t:TypeId}{x:Operand}{ax:AX}(ho:o.op = .box t x)(h1:cx x=some ax){σ σ1:St}{z:TV}{d:Nat}(he:evo d (.xo .bxN [ax]) σ=some (z,σ1)):OkAt P o z σ σ1:=by
 obtain⟨h,he',rfl⟩:=zni he;clear he;simp only[evX,List.map_cons,List.map_nil]at he'
 split at he'
 ·rename_i sz hl
  simp only[List.cons.injEq,and_true]at hl
  cases he'
  intro g0 h0 w0 g lb act w m T;have hx:=zs6 T h1 hl;have hgx:act.eval x = .slice none 0 0:=by
   generalize hgv:act.eval x=vv at hx;cases hx;rfl
  obtain⟨a1,a2,a3⟩:=m.sat.pushNil sz;obtain⟨h8,h9,h10⟩:=a1.pushBox t (cs:=[.ol σ.h.length 0]) (c:=(Value.slice none 0 0).cells) (by show RVs _ _ [Value.slice none 0 0];exact .cons a3 (.nil _))
  have hx2:(execOp act.eval o).run P w = .ok (.value (.pointer (some ⟨w.heap.size,0,none⟩))) (w.alloc (.cells (Value.slice none 0 0).cells t)):=zbb (s:=Instr.box t (act.eval x)) (by simp only[execOp,ho]) (by rw[hgx];exact zra t _ w)
  have e:σ.h++[AO.lst 0 sz [],.box [.ol σ.h.length 0]]=(σ.h++[.lst 0 sz []])++[.box [.ol σ.h.length 0]]:=by simp
  have el:(σ.h++[AO.lst 0 sz []]).length=σ.h.length+1:=by simp
  rw[el]at h8 h9 h10;refine⟨_,_,_,lb,.inl hx2,?_,?_,.ptr h10,(fun k off e=>by cases e),rfl,rfl⟩
  ·show Mid _ _ _ _ _ _ (σ.h++[AO.lst 0 sz [],.box [.ol σ.h.length 0]]) _
   rw[e];exact m.step h8 (a2.trans h9)
  ·show Ee _ _ _ _ _ _ _ (σ.h++[AO.lst 0 sz [],.box [.ol σ.h.length 0]])
   rw[e];exact⟨(a2.trans h9).le,fun _ _=>rfl,fun _ h=>h,fun i b o hi=>zf8 (zf8 hi)⟩
 ·cases he'
theorem ok_alA{o:Oper}{t:TypeId}{zz:List AV}(ho:o.op = .alloc t)(hz:zet P t=some zz){σ σ1:St}{z:TV}{d:Nat}(he:evo d (.xo (.alA (noz zz)) []) σ=some (z,σ1)):OkAt P o z σ σ1:=by
 obtain⟨h,he',rfl⟩:=zni he;clear he;simp only[evX,List.map_nil]at he'
 split at he'
 ·rename_i hc
  cases he'
  refine .op rfl rfl rfl (fun g lb act w s T=>?_) (fun i b ob hi=>zf8 hi)
  obtain⟨inf,v,hi,hv,hr,hone⟩:=zd2 hz;obtain⟨h5,h6,h7⟩:=s.pushArr t (cs:=noz zz) (c:=v.cells) (zl3 (hr g)) (zsm hone) (by unfold z3y;omega)
  exact⟨_,_,_,_,_,h5,h6,h7,zbb (s:=Instr.alloc t true (.tuple #[])) (by simp only[execOp,ho]) (zmu hi hv w)⟩
 ·cases he'
theorem ok_iaA{o:Oper}{n:Nat}{t e:TypeId}{x i:Operand}{ax ai:AX}(ho:o.op = .indexAddr t x i)(hu:P.underlying t=some (.array n e))(hs:zj0 P e=some 1)(h1:cx x=some ax)(h2:cx i=some ai){σ σ1:St}{z:TV}{d:Nat}
  (he:evo d (.xo (.iaA n) [ax,ai]) σ=some (z,σ1)):OkAt P o z σ σ1:=by
 obtain⟨h,he',rfl⟩:=zni he;clear he;simp only[evX,List.map_cons,List.map_nil]at he'
 split at he'
 ·rename_i id ver k m hl
  simp only[List.cons.injEq,and_true]at hl
  split at he'
  ·rename_i v sz es hh
   split at he'
   ·rename_i hc
    obtain⟨rfl,rfl,hn,h0,hm⟩:=hc
    cases he'
    refine .op rfl rfl rfl (fun g lb act w s T=>?_) (fun i b ob hi=>hi)
    obtain⟨b,n',c,h3,h4⟩:=x_op T h1 hl.1;have h5:=z12 (zs6 T h2 hl.2);refine⟨g,w,b,n',c,s,.refl _ _ _,h3,zbb (s:=Instr.indexAt t (act.eval x) (act.eval i)) (by simp only[execOp,ho]) ?_⟩
    rw[h4,h5];simp[Instr.indexAt,run_underlying hu,asIntOf,Instr.sureAddr,h0,hm,zct hs,Addr.add_lit]
   ·cases he'
  ·cases he'
 ·cases he'
theorem arr_und{t e:TypeId}{n:Nat}(hu:P.underlying t=some (.array n e)):P.arrayLen t=n/\P.elem t=e/\P.underlying t=some (.array (P.arrayLen t) (P.elem t)):=by
 have h1:P.arrayLen t=n:=by simp[Program.arrayLen,hu]
 have h2:P.elem t=e:=by simp[Program.elem,hu]
 exact⟨h1,h2,by rw[h1,h2];exact hu⟩
theorem zut{g:G}{id ver b m c n l u:Nat}(h3:g.hd id ver=some (some ⟨b,0,none⟩,m,c))(hl:l=0)(hu:u<=n):RV g (.ov id ver 1 0 u) (slicedAt ⟨b,0,none⟩ l u n 1):=by
 subst hl;unfold slicedAt;refine .ov h3 (.inr ⟨b,rfl,?_⟩) (by omega)
 split <;> simp[Addr.add_lit]
theorem yki{len l u:Nat}{x:TV}(h:z94 false true len [x]=some (l,u)):∃k n,x = .v (.int k n)/\0<=n/\l=0/\u=n.toNat:=by
 unfold z94 at h
 split at h
 ·rename_i e;cases e
 ·rename_i k n e
  simp only[List.cons.injEq,and_true]at e
  split at h
  ·rename_i h0
   simp at h;exact⟨k,n,e,h0,h.1.symm,h.2.symm⟩
  ·cases h
 ·rename_i e;cases e
 ·cases h
theorem bnds_l{len l u:Nat}{x:TV}(h:z94 true false len [x]=some (l,u)):∃k n,x = .v (.int k n)/\0<=n/\l=n.toNat/\u=len:=by
 unfold z94 at h
 split at h
 ·rename_i e;cases e
 ·rename_i k n e
  simp only[List.cons.injEq,and_true]at e
  split at h
  ·rename_i h0
   simp at h;exact⟨k,n,e,h0,h.1.symm,h.2.symm⟩
  ·cases h
 ·rename_i e;cases e
 ·cases h
theorem bnds_lh{len l u:Nat}{x y:TV}(h:z94 true true len [x,y]=some (l,u)):∃k n k' n',x = .v (.int k n)/\y = .v (.int k' n')/\0<=n/\0<=n' /\ l=n.toNat/\u=n'.toNat:=by
 unfold z94 at h
 split at h
 ·rename_i e;cases e
 ·rename_i e;cases e
 ·rename_i k n k' n' e
  simp only[List.cons.injEq,and_true]at e
  split at h
  ·rename_i h0
   simp at h;exact⟨k,n,k',n',e.1,e.2,h0.1,h0.2.1,h.1.symm,h.2.symm⟩
  ·cases h
 ·cases h
theorem bnds_0{len l u:Nat}(h:z94 false false len []=some (l,u)):l=0/\u=len:=by
 simp[z94]at h;exact⟨h.1.symm,h.2.symm⟩
theorem yju{o:Oper}{n:Nat}{hi:Bool}{t e:TypeId}{x:Operand}{oh:Option Operand}{ax:AX}{r:List AX}(ho:o.op = .slice t x none oh none)(hu:P.underlying t=some (.array n e))(hs:zj0 P e=some 1)(h1:cx x=some ax)
  (hh:(oh=none/\hi=false/\r=[])\/∃y ay,oh=some y/\hi=true/\r=[ay]/\cx y=some ay) {σ σ1:St} {z:TV} {d:Nat} (he:evo d (.xo (.slA n hi) (ax::r)) σ=some (z,σ1)):OkAt P o z σ σ1:=by
 obtain⟨h,he',rfl⟩:=zni he;clear he;obtain⟨e1,e2,e3⟩:=arr_und hu;simp only[evX,List.map_cons]at he'
 split at he'
 ·rename_i id ver r' hl
  simp only[List.cons.injEq]at hl;obtain⟨hl,rfl⟩:=hl
  split at he'
  ·rename_i v sz es hes
   split at he'
   ·rename_i hc
    obtain⟨rfl,rfl,hn⟩:=hc
    split at he'
    ·rename_i l u hb
     split at he'
     ·rename_i hun
      cases he'
      refine zdk fun g0 h0 w0 g lb act w m T=>?_
      obtain⟨b,n',c,h3,h4⟩:=x_op T h1 hl;rcases hh with⟨rfl,rfl,rfl⟩|⟨y,ay,rfl,rfl,rfl,hy⟩
      ·simp[z94]at hb
       obtain⟨rfl,rfl⟩:=hb;refine⟨_,zbb (s:=Instr.sliceAt t (act.eval x) none none none) (by simp only[execOp,ho];rfl) ?_,zut h3 rfl (Nat.le_refl _)⟩
       rw[h4,run_sliceAt_array_all w t _ e3,e2,zct hs,e1];rfl
      ·simp only[List.map_cons,List.map_nil]at hb
       obtain⟨k,q,hq,hq0,rfl,rfl⟩:=yki hb;have h5:=z12 (zs6 T hy hq);refine⟨_,zbb (s:=Instr.sliceAt t (act.eval x) none (some (act.eval y)) none) (by simp only[execOp,ho];rfl) ?_,zut h3 rfl hun⟩
       rw[h4,h5,run_sliceAt_array_h w t _ e3 k q hq0 (by rw[e1];omega),e2,zct hs,e1]
       rfl
     ·cases he'
    ·cases he'
   ·cases he'
  ·cases he'
 ·cases he'
theorem yiq{t e:TypeId}{n:Nat}(hu:P.underlying t=some (.array n e)):z0o P t=some true:=by simp[z0o,hu]
theorem ok_ldA{o:Oper}{n:Nat}{t e:TypeId}{x:Operand}{ax:AX}(ho:o.op = .load t x)(hu:P.underlying t=some (.array n e))(hs:zj0 P t=some n)(h1:cx x=some ax){σ σ1:St}{z:TV}{d:Nat}
  (he:evo d (.xo (.ldA n) [ax]) σ=some (z,σ1)):OkAt P o z σ σ1:=by
 obtain⟨h,he',rfl⟩:=zni he;clear he;simp only[evX,List.map_cons,List.map_nil]at he'
 split at he'
 ·rename_i id ver hl
  simp only[List.cons.injEq,and_true]at hl
  split at he'
  ·rename_i v sz es hes
   split at he'
   ·rename_i hc
    obtain⟨rfl,rfl,hn⟩:=hc
    cases he'
    refine zdk fun g0 h0 w0 g lb act w m T=>?_
    obtain⟨b,n',c,h3,h4⟩:=x_op T h1 hl;obtain⟨cs,t',l1,l2,h5,h6,h7,h8,h9,h10,h11,h12,h13,h14⟩:=znb m.sat hes h3;have hfl:es.flatten.length=n:=by rw[za4 h11];omega
    obtain⟨vv,y,h15,h16,h17⟩:=zpq (b:=b) (o:=0) hs (yiq hu) (us:=l1) (fun j u hj=>by
     rw[Nat.zero_add,zbh h5];have:cs.toList[j]?=some u:=by rw[h12,List.getElem?_append_left (List.getElem?_eq_some_iff.1 hj).1];exact hj
     simpa using this) h13 (x:=.v (.agg es.flatten)) (by simp[rd,hfl,List.take_of_length_le (Nat.le_of_eq hfl)])
    cases h16;exact⟨vv,zbb (s:=Instr.loadAt t (act.eval x)) (by simp only[execOp,ho]) (by rw[h4];exact h15),h17⟩
   ·cases he'
  ·cases he'
 ·cases he'
theorem over0{α:Type}:∀(l cs:List α),cs.length<=l.length->over l 0 cs=cs++l.drop cs.length:=by
 intro l cs h;rw[zg9 _ _ _ (by simpa using h)]
 simp
theorem ok_stA{o:Oper}{n:Nat}{t e:TypeId}{x y:Operand}{ax ay:AX}(ho:o.op = .store t x y)(hu:P.underlying t=some (.array n e))(hs:zj0 P t=some n)(h1:cx x=some ax)(h2:cx y=some ay){σ σ1:St}{z:TV}{d:Nat}
  (he:evo d (.xo (.stA n) [ax,ay]) σ=some (z,σ1)):OkAt P o z σ σ1:=by
 obtain⟨h,he',rfl⟩:=zni he;clear he;simp only[evX,List.map_cons,List.map_nil]at he'
 split at he'
 ·rename_i id ver ds hl
  simp only[List.cons.injEq,and_true]at hl
  split at he'
  ·rename_i v sz es hes
   split at he'
   ·rename_i hc
    obtain⟨rfl,rfl,hn,hn2,hone⟩:=hc
    cases he'
    refine .skip rfl rfl rfl (fun g lb act w s T=>?_) (fun i b ob hi=>zfu hes rfl ob hi)
    obtain⟨b,n',c,h3,h4⟩:=x_op T h1 hl.1;have hy:=zs6 T h2 hl.2;generalize hgy:act.eval y=vy at hy;obtain⟨ys,rfl⟩:∃ys,vy = .agg ys:=by cases hy;exact⟨_,rfl⟩
    have hy:=RV.agg_iff.1 hy;obtain⟨cs,t',l1,l2,h5,h6,h7,h8,h9,h10,h11,h12,h13,h14⟩:=znb s hes h3;have hlt:=(Array.getElem?_eq_some_iff.1 h5).1;have hys:ys.toList.length=n:=by rw[<- hy.1];exact hn2
    have hcs:cs.toList.length=c:=by rw[Array.length_toList];omega
    have hall:∀a∈ds,a.one=true:=fun a ha=>List.all_eq_true.1 hone a ha
    have hst:=znw (P:=P) hs (v:=.agg ys) (by show ys.size=n;simpa using hys) (by
     intro u hu;obtain⟨i,hi⟩:=List.getElem?_of_mem hu;have hl:i<ds.length:=by rw[hy.1];exact (List.getElem?_eq_some_iff.1 hi).1
     exact (hy.2 i _ u (by simp[hl]) hi).oneCell (hall _ (List.getElem_mem hl))) h5 (off:=0) (by rw[Nat.zero_add];omega)
    obtain⟨h15,h16⟩:=s.upd (g':=g) hes (.refl g) rfl rfl rfl (fun _ _=>rfl) (o':=.lst v 1 (ds.map fun a=>[a])) (Wd.putObj w _ (.cells (over cs.toList 0 ys.toList).toArray t' (0,0)) (P:=fun b'=>OwnAt g id b' (.lst v 1 es)) ⟨_,_,h3⟩)
     (.inr ⟨b,c,(over cs.toList 0 ys.toList).toArray,t',ys.toList,cs.toList.drop n,by rw[h3,List.length_map,h10,hn,hn2],World.putObj_heap_same hlt,by simp[zkd,h6],h7,by rw[List.length_map];omega,by rw[List.length_map];omega,z6d ds,by
      rw[over0 _ _ (by omega),hys],by rw[zon];exact hy,by rw[zon];exact hall⟩) (fun b' h=>.inl h) (fun ver sz es e v hv=>by injection e with e1 _ _;subst e1;exact s.ver _ _ _ _ hes v hv)
    exact⟨g,_,h15,h16,zxt (s:=Instr.storeAt t (act.eval x) (act.eval y)) (by simp only[execOp,ho]) (by rw[h4,hgy];exact hst)⟩
   ·cases he'
  ·cases he'
 ·cases he'
theorem elems_H(σ:St)(a:AV):elems σ a=zjw σ.h a:=by cases a <;> rfl
theorem z6t{o:Oper}{sz:Nat}{lo hi:Bool}{t:TypeId}{x:Operand}{ol oh:Option Operand}{ax:AX}{r:List AX}(ho:o.op = .slice t x ol oh none)(hs:esz P t=some sz)(h1:cx x=some ax)
  (hh:(ol=none/\oh=none/\lo=false/\hi=false/\r=[])\/(∃y ay,ol=some y/\oh=none/\lo=true/\hi=false/\r=[ay]/\cx y=some ay)\/(∃y ay,ol=none/\oh=some y/\lo=false/\hi=true/\r=[ay]/\cx y=some ay) \/
   ∃y ay y' ay',ol=some y/\oh=some y' /\ lo=true/\hi=true/\r=[ay,ay']/\cx y=some ay/\cx y' = some ay') {σ σ1:St} {z:TV} {d:Nat} (he:evo d (.xo (.slv sz lo hi) (ax::r)) σ=some (z,σ1)):OkAt P o z σ σ1:=by
 obtain⟨h,he',rfl⟩:=zni he;clear he;obtain⟨e,i,zv,hu,_,hi',hzv,hzs,his,hpos,hby⟩:=zqh hs;have hsl:∀w:World,(sizeOf (P.elem t)).run P w = .ok sz w:=fun w=>zct (by rw[zz9 hu];simp[zj0,hi',his]) w
 have hat:∀(v:Value) (a b:Option Value) (w:World),(Instr.sliceAt t v a b none).run P w=(Instr.slice t v a b none).run P w:=fun v a b w=>run_sliceAt_slice w t v a b none (zfg hu)
 simp only[evX,List.map_cons]at he'
 split at he'
 ·rename_i id ver r' hl
  simp only[List.cons.injEq]at hl;obtain⟨hl,rfl⟩:=hl
  split at he'
  ·rename_i v sz' es hes
   split at he'
   ·rename_i hc
    obtain⟨rfl,rfl⟩:=hc
    split at he'
    ·rename_i l u hb
     split at he'
     ·rename_i hun
      cases he'
      refine zdk fun g0 h0 w0 g lb act w m T=>?_
      have hx:=zs6 T h1 hl;generalize hgx:act.eval x=vx at hx
      cases hx with
      |ol hd=>
       rename_i A n c;have hn:n=es.length/\n<=c/\(es.length=0\/∃b,A=some ⟨b,0,none⟩):=by
        rcases m.sat.obj _ _ hes with⟨h3,h4⟩|⟨b',cap,c',t',l1,l2,h3,h4,h5,h6,h7,_⟩
        ·subst h3;rw[hd]at h4;cases h4;exact⟨rfl,Nat.le_refl _,.inl rfl⟩
        ·rw[hd]at h3;cases h3;exact⟨rfl,h7,.inr ⟨_,rfl⟩⟩
       obtain⟨rfl,hnc,hA⟩:=hn;have rv:RV g (.ov id v sz' l (u - l)) (sliced A l u c sz'):=by
        unfold sliced;refine .ov hd ?_ (by omega)
        by_cases e0:u - l=0
        ·exact .inl e0
        ·rcases hA with hA|⟨b,rfl⟩
         ·omega
         ·refine .inr ⟨b,rfl,?_⟩
          rw[if_neg (by omega)]
          simp[Addr.add_lit]
       have fin:∀(p q:Option Value),ol.map act.eval=p->oh.map act.eval=q->(∀w:World,(Instr.slice t (.slice A es.length c) p q none).run P w = .ok (sliced A l u c sz') w)->∃v',(execOp act.eval o).run P w = .ok (.value v') w/\RV g (.ov id v sz' l (u - l)) v':=by
        intro p q hp hq hr;refine⟨_,zbb (s:=Instr.sliceAt t (act.eval x) (ol.map act.eval) (oh.map act.eval) none) (by simp only[execOp,ho];rfl) ?_,rv⟩
        rw[hgx,hat,hp,hq,hr]
       rcases hh with⟨rfl,rfl,rfl,rfl,rfl⟩|⟨y,ay,rfl,rfl,rfl,rfl,rfl,hy⟩|⟨y,ay,rfl,rfl,rfl,rfl,rfl,hy⟩|⟨y,ay,y',ay',rfl,rfl,rfl,rfl,rfl,hy,hy'⟩
       ·obtain⟨rfl,rfl⟩:=bnds_0 hb
        exact fin none none rfl rfl fun w=>by rw[run_slice_all w t A es.length c (zfg hu),hsl];simp
       ·obtain⟨k,q,hq,hq0,rfl,rfl⟩:=bnds_l hb
        exact fin (some (.int k q)) none (by rw[Option.map_some,z12 (zs6 T hy hq)]) rfl fun w=>by rw[run_slice_l w t A es.length c (zfg hu) k q hq0 (by omega),hsl];simp
       ·obtain⟨k,q,hq,hq0,rfl,rfl⟩:=yki hb
        exact fin none (some (.int k q)) rfl (by rw[Option.map_some,z12 (zs6 T hy hq)]) fun w=>by rw[run_slice_h w t A es.length c (zfg hu) k q hq0 (by omega),hsl];simp
       ·obtain⟨k,q,k',q',hq,hq',hq0,hq0',rfl,rfl⟩:=bnds_lh hb
        exact fin (some (.int k q)) (some (.int k' q')) (by rw[Option.map_some,z12 (zs6 T hy hq)]) (by rw[Option.map_some,z12 (zs6 T hy' hq')]) fun w=>by rw[run_slice_lh w t A es.length c (zfg hu) k k' q q' hq0 (by omega) (by omega),hsl];simp
     ·cases he'
    ·cases he'
   ·cases he'
  ·cases he'
 ·cases he'
theorem zy3{α:Type}{sz lo:Nat}{es fs:List (List α)}(hz:∀e∈es,e.length=sz)(hf:∀e∈fs,e.length=sz)(hle:lo+fs.length<=es.length):(over es lo fs).flatten=over es.flatten (lo*sz) fs.flatten:=by
 have h1:=za4 hz;have h2:=za4 hf;have h3:lo*sz+fs.length*sz<=es.length*sz:=by rw[<- Nat.add_mul];exact Nat.mul_le_mul_right _ hle
 rw[zg9 _ _ _ (by omega),zg9 _ _ _ (by rw[h1,h2];omega),List.flatten_append,List.flatten_append,zhj hz,zl7 hz,h2,<- Nat.add_mul]
theorem yd5{o:Oper}{t:TypeId}{sz:Nat}{x y:Operand}{ay:AX}(ho:o.op = .call { callee:=.builtin .copy,args:=#[x,y],argTypes:=#[t,t] })(hs:esz P t=some sz)(h2:cx y=some ay){σ:St}{id v lo n:Nat}{es fs:List (List AV)}{s:AV}
  (hy:σ.x ay = .v s) (hf:zjw σ.h s=some fs) (hh:σ.h[id]?=some (.lst v sz es)) (hsz:∀e∈fs,e.length=sz) (hle:lo+n<=es.length)
  (hx:∀g lb (act:Act) (w:World),Sat g σ.h w->Tm g lb σ.ls σ.t act.tmps->∃base c m k A,act.eval x = .slice base n c/\g.hd id v=some (A,m,k)/\(n=0\/∃b,A=some ⟨b,0,none⟩/\base=some ⟨b,lo*sz,none⟩)) :
  OkAt P o (.v (.int .i64 (min fs.length n:Nat))) σ { σ with h:=σ.h.set id (.lst v sz (over es lo (fs.take n))) }:=by
 obtain⟨e,i,zv,hu,_,hi',hzv,hzs,his,hpos,hby⟩:=zqh hs;have hsl:∀w:World,(sizeOf e).run P w = .ok sz w:=fun w=>zct (by simp[zj0,hi',his]) w
 refine .val rfl rfl rfl (fun g lb act w st T=>?_) (fun i b ob hi=>zfu hh rfl ob hi)
 obtain⟨base,c,m,k,A,h3,h4,h5⟩:=hx g lb act w st T;have hyv:=zs6 T h2 hy;obtain⟨A2,c2,news,h6,h7,h8,h9,h10⟩:=z17 (P:=P) st (σ:=σ) rfl (by rw[elems_H];exact hf) hyv hsz
 have hlen:(fs.take n).length=min fs.length n:=by rw[List.length_take,Nat.min_comm]
 obtain⟨q,hq⟩:∃q,q=Nat.min fs.length n:=⟨_,rfl⟩;have hq':min fs.length n=q:=hq.symm;rw[hq']at hlen ⊢;have hq1:q<=fs.length:=by rw[hq];exact Nat.min_le_left _ _
 have hq2:q<=n:=by rw[hq];exact Nat.min_le_right _ _
 have hfc:=h8 w q rfl hq1;have hrun:∀w':World,(∀a,base=some a->(storeCells a (news.take (q*sz))).run P w = .ok () w')->(base=none->w' = w)->(execOp act.eval o).run P w = .ok (.value (.int .i64 (q:Nat))) w':=by
  intro w' hr hn
  cases base with
  |none=>simp[execOp,ho,resolve,invoke,builtin,h3,h6]at hfc ⊢;simp[Builtin.copy_,run_underlying hu,Builtin.lenOf,hsl,<- hq,goInt,hn rfl];rw[<- h6]at hfc ⊢;simp[hfc]
  |some a=>have hr:=hr a rfl;simp[execOp,ho,resolve,invoke,builtin,h3,h6]at hfc ⊢;simp[Builtin.copy_,run_underlying hu,Builtin.lenOf,hsl,<- hq,goInt];rw[<- h6]at hfc ⊢;simp[hfc,hr]
 have hnl:news.length=fs.length*sz:=by rw[<- h7.1,za4 hsz]
 rcases Nat.eq_zero_or_pos q with h0|h0
 ·have e1:fs.take n=[]:=List.eq_nil_of_length_eq_zero (by omega)
  rw[e1];have e2:σ.h.set id (.lst v sz (over es lo []))=σ.h:=by
   obtain⟨hi,hg⟩:=List.getElem?_eq_some_iff.1 hh;show σ.h.set id (.lst v sz es)=σ.h;rw[<- hg];simp
  refine⟨g,w,.int .i64 (q:Nat),?_,?_,.int _ _,hrun w (fun a ha=>?_) (fun _=>rfl)⟩
  ·show Sat g (σ.h.set id (.lst v sz (over es lo []))) w;rw[e2];exact st
  ·show Ev g σ.h w g (σ.h.set id (.lst v sz (over es lo []))) w;rw[e2];exact .refl _ _ _
  ·rw[h0];simp[storeCells]
 ·rcases h5 with h5|⟨b,rfl,rfl⟩
  ·omega
  ·obtain⟨cs,t',l1,l2,g5,g6,g7,g8,g9,g10,g11,g12,g13,g14⟩:=znb st hh h4
   have hlt:=(Array.getElem?_eq_some_iff.1 g5).1;have htk:(fs.take n).flatten=fs.flatten.take (q*sz):=by
    rw[zhj hsz];rcases Nat.le_total n fs.length with hnf|hnf
    ·have:q=n:=by rw[hq];exact Nat.min_eq_right hnf
     rw[this]
    ·have:q=fs.length:=by rw[hq];exact Nat.min_eq_left hnf
     rw[this,List.take_of_length_le (by rw[za4 hsz];exact Nat.mul_le_mul_right _ hnf),List.take_of_length_le (by rw[za4 hsz];exact Nat.le_refl _)]
   have hnw:(news.take (q*sz)).length=q*sz:=by rw[List.length_take,hnl];exact Nat.min_eq_left (Nat.mul_le_mul_right _ hq1)
   have hfit:lo*sz+q*sz<=es.length*sz:=by rw[<- Nat.add_mul];exact Nat.mul_le_mul_right _ (by omega)
   have hcap:es.length*sz<=k*sz:=Nat.mul_le_mul_right _ g8;have hl1:l1.length=es.length*sz:=by rw[<- g13.1,za4 g11]
   have hst:=run_storeCells_at P b (lo*sz) t' (news.take (q*sz)) 0 cs w g5 (by omega) (fun u hu=>h9 u (List.mem_of_mem_take hu))
   rw[znv g5,Nat.add_zero,<- zg9 _ _ _ (by rw[hnw,Array.length_toList];omega)]at hst
   have hov:over cs.toList (lo*sz) (news.take (q*sz))=over l1 (lo*sz) (news.take (q*sz))++l2:=by
    rw[g12];exact z6s _ _ _ _ (by omega)
   have hfz:∀e∈fs.take n,e.length=sz:=fun e he=>hsz e (List.mem_of_mem_take he)
   have hfo:=zy3 (lo:=lo) g11 hfz (by omega)
   have hrv:RVs g (over es lo (fs.take n)).flatten (over l1 (lo*sz) (news.take (q*sz))):=by
    rw[hfo,htk];exact RVs.over_ (h7.take _) g13 _
   obtain⟨h15,h16⟩:=st.upd (g':=g) hh (.refl g) rfl rfl rfl (fun _ _=>rfl) (o':=.lst v sz (over es lo (fs.take n))) (Wd.putObj w _ (.cells (over cs.toList (lo*sz) (news.take (q*sz))).toArray t' (0,0)) (P:=fun b'=>OwnAt g id b' (.lst v sz es)) ⟨_,_,h4⟩)
    (.inr ⟨b,k,(over cs.toList (lo*sz) (news.take (q*sz))).toArray,t',over l1 (lo*sz) (news.take (q*sz)),l2,by rw[h4,zkd,g10],World.putObj_heap_same hlt,by simp[zkd,g6],g7,by rw[zkd];exact g8,by rw[zkd];exact g9,fun x hx=>by
      exact zrh (Q:=fun e=>e.length=sz) g11 hfz lo x hx,by simpa using hov,hrv,fun a ha=>by
      rw[hfo,htk]at ha;exact zrh (Q:=fun a=>a.one=true) g14 (fun a ha=>h10 a (List.mem_of_mem_take ha)) _ a ha⟩) (fun b' h=>.inl h) (fun ver sz es e v hv=>by injection e with e1 _ _;subst e1;exact st.ver _ _ _ _ hh v hv)
   exact⟨g,_,.int .i64 (q:Nat),h15,h16,.int _ _,hrun _ (fun a ha=>by cases ha;exact hst) (fun h=>by cases h)⟩
theorem ok_cpy{o:Oper}{t:TypeId}{sz:Nat}{x y:Operand}{ax ay:AX}(ho:o.op = .call { callee:=.builtin .copy,args:=#[x,y],argTypes:=#[t,t] })(hs:esz P t=some sz)(h1:cx x=some ax)(h2:cx y=some ay){σ σ1:St}{z:TV}{d:Nat}
  (he:evo d (.xo (.cpy sz) [ax,ay]) σ=some (z,σ1)):OkAt P o z σ σ1:=by
 obtain⟨h,he',rfl⟩:=zni he;clear he;simp only[evX,List.map_cons,List.map_nil]at he'
 split at he'
 ·rename_i id ver s hl
  simp only[List.cons.injEq,and_true]at hl
  split at he'
  ·rename_i fs hf
   split at he'
   ·rename_i v sz' es hh
    split at he'
    ·rename_i hc
     obtain⟨rfl,rfl,_,hsz⟩:=hc
     cases he'
     refine yd5 (lo:=0) ho hs h2 hl.2 hf hh hsz (by omega) fun g lb act w st T=>?_
     have hx:=zs6 T h1 hl.1;generalize hgx:act.eval x=vx at hx
     cases hx with
     |ol hd=>
      rename_i A n c;rcases st.obj _ _ hh with⟨h3,h4⟩|⟨b',cap,c',t',l1,l2,h3,h4,h5,h6,h7,_⟩
      ·subst h3;rw[hd]at h4;cases h4;exact⟨none,0,0,0,none,rfl,hd,.inl rfl⟩
      ·rw[hd]at h3;cases h3;exact⟨_,c,_,_,_,rfl,hd,.inr ⟨b',rfl,by simp⟩⟩
    ·cases he'
   ·cases he'
  ·cases he'
 ·rename_i id ver sz2 lo n s hl
  simp only[List.cons.injEq,and_true]at hl
  split at he'
  ·rename_i fs hf
   split at he'
   ·rename_i v sz' es hh
    split at he'
    ·rename_i hc
     obtain⟨rfl,rfl,rfl,_,hle,hsz⟩:=hc
     cases he'
     refine yd5 ho hs h2 hl.2 hf hh hsz hle fun g lb act w st T=>?_
     have hx:=zs6 T h1 hl.1;generalize hgx:act.eval x=vx at hx
     cases hx with
     |ov hd ha hn=>exact⟨_,_,_,_,_,rfl,hd,ha⟩
    ·cases he'
   ·cases he'
  ·cases he'
 ·cases he'
theorem ok_ldx{o:Oper}{t:TypeId}{n:Nat}{ag:Bool}{x:Operand}{ax:AX}{r:List AX}(ho:o.op = .load t x)(hn:zj0 P t=some n)(hag:z0o P t=some ag)(h1:cx x=some ax){σ σ1:St}{z:TV}{d:Nat}
  (he:evo d (.xo (.ldx n ag) (ax::r)) σ=some (z,σ1)):OkAt P o z σ σ1:=by
 obtain⟨h,he',e1⟩:=zni he;simp only[evX,List.map_cons]at he'
 split at he'
 ·rename_i id off r' hl
  simp only[List.cons.injEq]at hl
  split at he'
  ·split at he'
   ·rename_i cs hh
    split at he'
    ·rename_i y hrd
     cases he'
     refine z8e (d:=d) ho hn hag h1 ?_;simp only[evo,hl.1,hh,hrd,e1]
    ·cases he'
   ·cases he'
  ·cases he'
 ·cases he'
theorem ok_ldy{o:Oper}{t:TypeId}{n:Nat}{ag:Bool}{x:Operand}{ax r:AX}(ho:o.op = .load t x)(hn:zj0 P t=some n)(hag:z0o P t=some ag)(h1:cx x=some ax){σ σ1:St}{z:TV}{d:Nat}
  (he:evo d (.xo (.ldy n ag) [ax,r]) σ=some (z,σ1)):OkAt P o z σ σ1:=by
 obtain⟨h,he',e1⟩:=zni he;simp only[evX,List.map_cons,List.map_nil]at he'
 split at he'
 ·rename_i id off id2 off2 hl
  simp only[List.cons.injEq,and_true]at hl
  split at he'
  ·split at he'
   ·rename_i cs hh
    split at he'
    ·rename_i y hrd
     cases he'
     refine z8e (d:=d) ho hn hag h1 ?_;simp only[evo,hl.1,hh,hrd,e1]
    ·cases he'
   ·cases he'
  ·cases he'
 ·cases he'
theorem z66{g:G}:∀{cs:List AV} {l:List Int},zyx cs=some l->cs=l.map (.int .i64)
 |[],l,h=>by simp[zyx]at h;subst h;rfl
 |a::r,l,h=>by
  unfold zyx at h
  split at h
  ·rename_i e;cases e
  ·rename_i n r' e
   cases e
   split at h
   ·rename_i l' hl;cases h;rw[List.map_cons,<- z66 (g:=g) hl]
   ·cases h
  ·cases h
theorem zmi{n:Nat}{a:AV}{l:List Int}(h:zua n a=some l):a = .agg (l.map (.int .i64))/\l.length=n:=by
 unfold zua at h
 split at h
 ·split at h
  ·rename_i cs l' hl
   split at h
   ·rename_i hn;cases h;exact⟨by rw[z66 (g:=⟨fun _ _=>none,fun _=>none,fun _=>none,fun _ _=>none,fun _ _=>False⟩) hl],hn⟩
   ·cases h
  ·cases h
 ·cases h
theorem z7d:∀{a b:List Int},a.length=b.length->eqI (a.map (.int .i64)) (b.map (.int .i64))=some (decide (a=b))
 |[],[],_=>rfl
 |x::a,y::b,h=>by
  simp only[List.map_cons,eqI,if_true];rw[z7d (a:=a) (b:=b) (by simpa using h)]
  by_cases e:x=y
  ·subst e;simp
  ·simp[e]
theorem zud{n:Nat}{k:List Int}:∀{es:List (AV×AV)} {r:Option AV},zde n k es=some r->∀{i:Nat} {p:AV×AV},es[i]?=some p->∃l,zua n p.1=some l
 |[],_,_,i,p,h=>by simp at h
 |(a,v)::es,r,h,i,p,hp=>by
  unfold zde at h
  split at h
  ·rename_i l hl
   split at h
   ·rename_i x hx
    cases i with
    |zero=>simp at hp;subst hp;exact⟨l,hl⟩
    |succ i=>exact zud hx (by simpa using hp)
   ·cases h
  ·cases h
theorem zsu{n:Nat}{k:List Int}:∀{es:List (AV×AV)},zde n k es=some none->∀{i:Nat} {p:AV×AV},es[i]?=some p->∀l,zua n p.1=some l->l≠k
 |[],_,i,p,h=>by simp at h
 |(a,v)::es,h,i,p,hp=>by
  unfold zde at h
  split at h
  ·rename_i l hl
   split at h
   ·rename_i x hx
    split at h
    ·cases h
    ·rename_i hne
     cases h
     cases i with
     |zero=>simp at hp;subst hp;intro l' hl';rw[hl]at hl';cases hl';exact hne
     |succ i=>exact zsu hx (by simpa using hp)
   ·cases h
  ·cases h
theorem zxp{n:Nat}{k:List Int}{v:AV}:∀{es:List (AV×AV)},zde n k es=some (some v)->∃(i:Nat) (a:AV),es[i]?=some (a,v)/\zua n a=some k
 |[],h=>by simp[zde]at h
 |(a,u)::es,h=>by
  unfold zde at h
  split at h
  ·rename_i l hl
   split at h
   ·rename_i x hx
    split at h
    ·rename_i e;subst e;cases h;exact⟨0,a,rfl,hl⟩
    ·cases h
     obtain⟨i,b,h1,h2⟩:=zxp hx;exact⟨i+1,b,by simpa using h1,h2⟩
   ·cases h
  ·cases h
theorem zq9{kt e:TypeId}{n:Nat}(hu:P.underlying kt=some (.array n e)){v:Value}{w:World}:∀{ms:List MapEntry} (i:Nat),(∀(j:Nat) (m:MapEntry),ms[j]?=some m->(Op.equal kt v m.key).run P w = .ok false w)->(Instr.findAsking kt v ms i).run P w = .ok none w
 |[],i,_=>by simp[Instr.findAsking]
 |m::ms,i,h=>by
  have h0:=h 0 m (by simp)
  simp only[Instr.findAsking,Sem.run_bind,h0,Result.andThen_ok];simpa using zq9 hu (i+1) fun j m hm=>h (j+1) m (by simpa using hm)
theorem zq8{kt e:TypeId}{n:Nat}(hu:P.underlying kt=some (.array n e)){v:Value}{w:World}:∀{ms:List MapEntry} (i j0:Nat) {e0:MapEntry},(∀(j:Nat) (m:MapEntry),ms[j]?=some m->(Op.equal kt v m.key).run P w = .ok (decide (j=j0)) w)->ms[j0]?=some e0 ->
  (Instr.findAsking kt v ms i).run P w = .ok (some (i+j0,e0.val)) w
 |[],i,j0,e0,_,h0=>by simp at h0
 |m::ms,i,j0,e0,h,h0=>by
  have h1:=h 0 m (by simp)
  cases j0 with
  |zero=>
   simp at h0 h1;subst h0;simp[Instr.findAsking,h1]
  |succ j0=>
   simp at h1;simp only[Instr.findAsking,Sem.run_bind,h1,Result.andThen_ok];have:=zq8 hu (i+1) j0 (fun j m hm=>by simpa using h (j+1) m (by simpa using hm)) (by simpa using h0)
   simp[this];omega
theorem zuv{kt e:TypeId}{n:Nat}(hu:P.underlying kt=some (.array n e)){xs:Array Value}{w:World}{ms:List MapEntry}{r:Option (Nat×Value)}(hn:ms=[]->r=none)(h:(Instr.findAsking kt (.agg xs) ms 0).run P w = .ok r w):(Instr.findKey kt (.agg xs) ms).run P w = .ok r w:=by
 cases ms with
 |nil=>rw[hn rfl];simp[Instr.findKey,run_underlying hu,Instr.findNow]
 |cons m ms=>
  simp only[Instr.findKey,Sem.run_bind,run_underlying hu,Result.andThen_ok,Instr.findNow,Instr.sameNow];exact h
theorem zw1{kt e:TypeId}{n:Nat}(hu:P.underlying kt=some (.array n e)){k:IntKind}(he:P.underlying e=some (.int k))(hs:zj0 P e=some 1){xs:Array Value}(hx:xs.size=n)(em:Bool)(w:World)
  (hi:∀v∈xs.toList,∃m,v = .int .i64 m):(Instr.checkKey em 10000 kt (.agg xs)).run P w = .ok () w:=by
 show (Instr.checkKey em (9999+1) kt (.agg xs)).run P w=_;rw[Instr.checkKey];simp only[Sem.run_bind,run_underlying hu,Result.andThen_ok];simp only[Std.Legacy.Range.forIn_eq_forIn_range',Std.Legacy.Range.size,Nat.sub_zero,Nat.add_one_sub_one,Nat.div_one];have each:∀j∈List.range' 0 n,j<xs.size:=fun j hj=>by rw[List.mem_range'_1]at hj;omega
 generalize List.range' 0 n=is at each
 induction is with
 |nil=>simp
 |cons j is ih=>
  have hj:=each j (by simp)
  obtain⟨m,hm⟩:=hi xs[j] (by simp)
  have p1:=run_part_plain w (zuy he) (xs:=xs) (off:=j) (v:=.int .i64 m) (by rw[<- hm];simp[hj])
  have p2:(Instr.checkKey em 9999 e (.int .i64 m)).run P w = .ok () w:=zyf he em .i64 m w;simp only[List.forIn_cons,Sem.run_bind,zct hs,Result.andThen_ok,Nat.mul_one,p1,p2,Sem.run_pure];exact ih fun y hy=>each y (by simp[hy])
theorem z11{g:G}{l:List Int}{v:Value}(h:RV g (.agg (l.map (.int .i64))) v):∃xs:Array Value,v = .agg xs/\RVs g (l.map (.int .i64)) xs.toList/\∀u∈xs.toList,∃m,u = .int .i64 m:=by
 obtain⟨xs,rfl⟩:∃xs,v = .agg xs:=by cases h;exact⟨_,rfl⟩
 have h:=RV.agg_iff.1 h;refine⟨xs,rfl,h,fun u hu=>?_⟩
 obtain⟨i,hi⟩:=List.getElem?_of_mem hu;have hl:i<(l.map (AV.int .i64)).length:=by rw[h.1];exact (List.getElem?_eq_some_iff.1 hi).1
 have:=h.2 i _ u (List.getElem?_eq_getElem hl) hi;rw[List.getElem_map]at this;exact⟨_,z12 this⟩
theorem ydn{kt e:TypeId}{n:Nat}(hu:P.underlying kt=some (.array n e)){k:IntKind}(hk:P.underlying e=some (.int k))(hs:zj0 P e=some 1){g:G}{es:List (AV×AV)}{ms:Array MapEntry}{f:Nat->Nat}(M:Mpd es ms f)
  (hkey:∀(j:Nat) (p:AV×AV) (m:MapEntry),es[j]?=some p->ms[f j]?=some m->RV g p.1 m.key) {l:List Int} (hl:l.length=n) {xs:Array Value} (hx:RVs g (l.map (.int .i64)) xs.toList) {r:Option AV} (hf:zde n l es=some r) (w:World):match r with
  |none=>(Instr.findKey kt (.agg xs) ms.toList).run P w = .ok none w
  |some v=>∃j m p,(Instr.findKey kt (.agg xs) ms.toList).run P w = .ok (some (f j,m.val)) w/\ms[f j]?=some m/\es[j]?=some p/\p.2=v:=by
 have eq:∀{i:Nat} {p:AV×AV} {m:MapEntry},es[i]?=some p->ms[f i]?=some m->∃l',zua n p.1=some l' /\ (Op.equal kt (.agg xs) m.key).run P w = .ok (decide (l=l')) w:=by
  intro i p m hp hm;obtain⟨l',hl'⟩:=zud hf hp;obtain⟨h1,h2⟩:=zmi hl';have h3:=hkey i p m hp hm;rw[h1]at h3;obtain⟨ys,h4,h5,_⟩:=z11 h3;rw[h4];exact⟨l',hl',eqk hu hk hs (by rw[List.length_map,hl]) (by rw[List.length_map,h2]) hx h5 (z7d (by rw[hl,h2])) w⟩
 cases r with
 |none=>
  refine zuv hu (fun _=>rfl) (zq9 hu 0 fun j m hm=>?_)
  have hm:ms[j]?=some m:=by simpa using hm
  obtain⟨i,p,rfl,hp⟩:=M.back hm;obtain⟨l',h1,h2⟩:=eq hp hm;have:=zsu hf hp l' h1;rw[h2];simp[this.symm]
 |some v=>
  obtain⟨i,a,hi,ha⟩:=zxp hf;obtain⟨m,hm⟩:=M.fore hi;refine⟨i,m,_,?_,hm,hi,rfl⟩;have:=zq8 hu (v:=.agg xs) (w:=w) (ms:=ms.toList) 0 (f i) (e0:=m) (fun j m' hm'=>by
   have hm':ms[j]?=some m':=by simpa using hm'
   obtain⟨i',p',rfl,hp'⟩:=M.back hm';obtain⟨l',h1,h2⟩:=eq hp' hm';rw[h2]
   congr 2
   by_cases e:l=l'
   ·subst e
    have:i' = i:=M.dist i' i p' _ hp' hi (by rw[(zmi h1).1,(zmi ha).1])
    subst this;simp
   ·have:f i' ≠ f i:=by
     intro e2;have hii:i' = i:=by
      have r1:=M.rng i' (List.getElem?_eq_some_iff.1 hp').1;rw[e2]at hm';rw[hm]at hm';cases hm';have h5:=hkey i' p' m hp' (by rw[e2];exact hm)
      have h6:=hkey i _ m hi hm;rw[(zmi h1).1]at h5;rw[(zmi ha).1]at h6;obtain⟨ys,h7,h8,_⟩:=z11 h5;obtain⟨zs,h9,h10,_⟩:=z11 h6;rw[h7]at h9;cases h9;have:l' = l:=by
       apply List.ext_getElem?;intro q;have q1:=h8.1;have q2:=h10.1;rw[List.length_map]at q1 q2;by_cases hq:q<l'.length
       ·have hq2:q<l.length:=by omega
        have hq3:q<ys.toList.length:=by omega
        have a1:=z12 (h8.2 q (.int .i64 l'[q]) ys.toList[q] (by simp[hq]) (by simp[hq3]))
        have a2:=z12 (h10.2 q (.int .i64 l[q]) ys.toList[q] (by simp[hq2]) (by simp[hq3]))
        rw[a1]at a2;injection a2 with _ a2;simp[hq,hq2,a2]
       ·rw[List.getElem?_eq_none (by omega),List.getElem?_eq_none (by omega)]
      exact absurd this.symm e
     subst hii;rw[hi]at hp';cases hp';rw[ha]at h1;cases h1;exact e rfl
    simp[e,this]) (by simpa using hm)
  refine zuv hu (fun e=>?_) (by rwa [Nat.zero_add]at this)
  have:ms[f i]?=none:=by
   have:ms = #[]:=by simpa using e
   rw[this];rfl
  rw[hm]at this;cases this
theorem ok_lkK{o:Oper}{n:Nat}{t kt et e:TypeId}{ik:IntKind}{ok:Bool}{zv:AV}{x i:Operand}{ax ai:AX}(ho:o.op = .lookup t x i ok)(ht:P.underlying t=some (.map kt et))(hu:P.underlying kt=some (.array n e))(hk:P.underlying e=some (.int ik))(hs:zj0 P e=some 1)
  {inf:TypeInfo} {zval:Value} (hi:P.info? et=some inf) (hz:inf.zero=some zval) (hzv:∀g,RV g zv zval) (h1:cx x=some ax) (h2:cx i=some ai) {σ σ1:St} {z:TV} {d:Nat}
  (he:evo d (.xo (.lkK n ok zv) [ax,ai]) σ=some (z,σ1)):OkAt P o z σ σ1:=by
 obtain⟨h,he',rfl⟩:=zni he;clear he;simp only[evX,List.map_cons,List.map_nil]at he'
 split at he'
 ·rename_i mv kv hl
  simp only[List.cons.injEq,and_true]at hl
  split at he'
  ·rename_i l hl2
   obtain⟨rfl,hll⟩:=zmi hl2
   split at he'
   ·rename_i es hes
    have hzr:∀w:World,(zeroValue et).run P w = .ok zval w:=fun w=>by simp[zeroValue,typeInfo,hi,hz]
    have main:∀{g0 h0 w0 g lb} {act:Act} {w:World},Mid g0 h0 w0 g lb σ.ls σ.h w->Tm g lb σ.ls σ.t act.tmps->∃(ms:Array MapEntry) (ck:Nat) (b:Nat) (xs:Array Value),act.eval x = .map (some b)/\act.eval i = .agg xs/\RVs g (l.map (.int .i64)) xs.toList/\(∀u∈xs.toList,∃m,u = .int .i64 m)/\w.heap[b]?=some (.map ms ck)/\∃f,Mpd es ms f /\
      (∀(j:Nat) (p:AV×AV) (e:MapEntry),es[j]?=some p->ms[f j]?=some e->RV g p.1 e.key)/\(∀(j:Nat) (p:AV×AV) (e:MapEntry),es[j]?=some p->ms[f j]?=some e->RV g p.2 e.val):=by
     intro g0 h0 w0 g lb act w mm T;obtain⟨xs,hgi,hx1,hx2⟩:=z11 (zs6 T h2 hl.2);have hx:=zs6 T h1 hl.1
     split at hes
     ·cases hes
      generalize hgx:act.eval x=vx at hx
      cases hx with
      |fmap hb hl hk hv=>
       obtain⟨ck,h3⟩:=mm.sat.fm _ _ hb;exact⟨_,ck,_,xs,rfl,hgi,hx1,hx2,h3,_,hl,hk,hv⟩
     ·split at hes
      ·rename_i es' hh
       cases hes;generalize hgx:act.eval x=vx at hx
       cases hx with
       |mp hb=>
        obtain⟨b',m',ck,f,h3,h4,h5,h6,h7⟩:=mm.sat.obj _ _ hh;rw[hb]at h3;cases h3;exact⟨_,ck,_,xs,rfl,hgi,hx1,hx2,h4,_,h5,h6,h7⟩
      ·cases hes
     ·cases hes
    have hck:∀{g:G} {xs:Array Value} (em:Bool) (w:World),RVs g (l.map (.int .i64)) xs.toList->(∀u∈xs.toList,∃m,u = .int .i64 m)->(Instr.checkKey em 10000 kt (.agg xs)).run P w = .ok () w:=fun em w hx1 hx2=>
     zw1 hu hk hs (by have:=hx1.1;rw[List.length_map,hll,Array.length_toList]at this;exact this.symm) em w hx2
    split at he'
    ·rename_i v hf
     cases he'
     refine zdk fun g0 h0 w0 g lb act w mm T=>?_
     obtain⟨ms,ck,b,xs,hgx,hgi,hx1,hx2,hb,f,hM,hks,hvs⟩:=main mm T;obtain⟨j,m,p,h3,h4,h5,rfl⟩:=ydn hu hk hs hM hks hll hx1 hf w;have hv:RV g p.2 m.val:=hvs j p m h5 h4;cases ok
     ·refine⟨m.val,zbb (s:=Instr.lookup t (.map (some b)) (.agg xs) false) (by simp only[execOp,ho,hgx,hgi]) ?_,hv⟩
      simp[Instr.lookup,run_underlying ht,zqg hb,hck _ _ hx1 hx2,h3]
     ·refine⟨.tuple #[m.val,.bool true],zbb (s:=Instr.lookup t (.map (some b)) (.agg xs) true) (by simp only[execOp,ho,hgx,hgi]) ?_,RV.tup_iff.2 (.cons hv (.cons (.bool _) (.nil g)))⟩
      simp[Instr.lookup,run_underlying ht,zqg hb,hck _ _ hx1 hx2,h3]
    ·rename_i hf
     cases he'
     refine zdk fun g0 h0 w0 g lb act w mm T=>?_
     obtain⟨ms,ck,b,xs,hgx,hgi,hx1,hx2,hb,f,hM,hks,hvs⟩:=main mm T;have h3:=ydn hu hk hs hM hks hll hx1 hf w;dsimp only at h3;cases ok
     ·refine⟨zval,zbb (s:=Instr.lookup t (.map (some b)) (.agg xs) false) (by simp only[execOp,ho,hgx,hgi]) ?_,hzv g⟩
      simp[Instr.lookup,run_underlying ht,zqg hb,hck _ _ hx1 hx2,h3,hzr]
     ·refine⟨.tuple #[zval,.bool false],zbb (s:=Instr.lookup t (.map (some b)) (.agg xs) true) (by simp only[execOp,ho,hgx,hgi]) ?_,RV.tup_iff.2 (.cons (hzv g) (.cons (.bool _) (.nil g)))⟩
      simp[Instr.lookup,run_underlying ht,zqg hb,hck _ _ hx1 hx2,h3,hzr]
    ·cases he'
   ·cases he'
  ·cases he'
 ·cases he'
theorem zsq{n:Nat}{a y:AV}{k:List Int}:∀(es:List (AV×AV)),∃q,q<=es.length/\zoh n a k y es=es.take q++(a,y)::es.drop q
 |[]=>⟨0,Nat.le_refl _,rfl⟩
 |(b,v)::r=>by
  obtain⟨q,hq,h⟩:=zsq (n:=n) (a:=a) (y:=y) (k:=k) r;unfold zoh
  split
  ·split
   ·exact⟨0,Nat.zero_le _,rfl⟩
   ·exact⟨q+1,by simpa using hq,by rw[h];rfl⟩
  ·exact⟨q+1,by simpa using hq,by rw[h];rfl⟩
def yfr(f:Nat->Nat)(q n:Nat):Nat->Nat:=fun i=>if i<q then f i else if i=q then n else f (i - 1)
theorem yc8{es:List (AV×AV)}{q:Nat}(hq:q<=es.length){x:AV×AV}{i:Nat}{p:AV×AV}(h:(es.take q++x::es.drop q)[i]?=some p):(i<q/\es[i]?=some p)\/(i=q/\p=x)\/(q<i/\es[i - 1]?=some p):=by
 have hl:(es.take q).length=q:=by rw[List.length_take];omega
 rcases Nat.lt_trichotomy i q with hi|hi|hi
 ·rw[List.getElem?_append_left (by omega),List.getElem?_take,if_pos hi]at h;exact .inl ⟨hi,h⟩
 ·subst hi;rw[List.getElem?_append_right (by omega),hl,Nat.sub_self]at h;simp at h;exact .inr (.inl ⟨rfl,h.symm⟩)
 ·rw[List.getElem?_append_right (by omega),hl,show i - q=(i - q - 1)+1 by omega,List.getElem?_cons_succ,List.getElem?_drop,show q+(i - q - 1)=i - 1 by omega]at h
  exact .inr (.inr ⟨hi,h⟩)
theorem Mpd.ins{es:List (AV×AV)}{ms:Array MapEntry}{f:Nat->Nat}(M:Mpd es ms f){q:Nat}(hq:q<=es.length){x:AV×AV}{e:MapEntry}(hx:∀(i:Nat) (p:AV×AV),es[i]?=some p->p.1≠x.1):Mpd (es.take q++x::es.drop q) (ms.push e) (yfr f q es.length) where
 len:=by simp[M.len.symm];omega
 dist i j p r hp hr e:=by
  rcases yc8 hq hp with⟨h1,h2⟩|⟨h1,h2⟩|⟨h1,h2⟩ <;> rcases yc8 hq hr with⟨h3,h4⟩|⟨h3,h4⟩|⟨h3,h4⟩
  ·exact M.dist i j p r h2 h4 e
  ·subst h4;exact absurd e (hx i p h2)
  ·have:=M.dist i (j - 1) p r h2 h4 e;omega
  ·subst h2;exact absurd e.symm (hx j r h4)
  ·omega
  ·subst h2;exact absurd e.symm (hx (j - 1) r h4)
  ·have:=M.dist (i - 1) j p r h2 h4 e;omega
  ·subst h4;exact absurd e (hx (i - 1) p h2)
  ·have:=M.dist (i - 1) (j - 1) p r h2 h4 e;omega
 rng i hi:=by
  have hl:(es.take q++x::es.drop q).length=es.length+1:=by simp;omega
  rw[hl]at hi ⊢;unfold yfr
  split
  ·have:=M.rng i (by omega);omega
  ·split
   ·omega
   ·have:=M.rng (i - 1) (by omega);omega
 sur j hj:=by
  have hl:(es.take q++x::es.drop q).length=es.length+1:=by simp;omega
  rw[hl]at hj ⊢;by_cases e:j=es.length
  ·exact⟨q,by omega,by simp[yfr,e]⟩
  ·obtain⟨i,hi,hf⟩:=M.sur j (by omega)
   by_cases hiq:i<q
   ·exact⟨i,by omega,by unfold yfr;rw[if_pos hiq];exact hf⟩
   ·exact⟨i+1,by omega,by unfold yfr;rw[if_neg (by omega),if_neg (by omega)];exact hf⟩
theorem Mpd.ins_get{es:List (AV×AV)}{ms:Array MapEntry}{f:Nat->Nat}(M:Mpd es ms f){q:Nat}(hq:q<=es.length){x:AV×AV}{y:MapEntry}{i:Nat}{p:AV×AV}{e:MapEntry}(hp:(es.take q++x::es.drop q)[i]?=some p)(he:(ms.push y)[yfr f q es.length i]?=some e):
  (∃j,es[j]?=some p/\ms[f j]?=some e)\/(p=x/\e=y):=by
 have hlen:=M.len;rcases yc8 hq hp with⟨h1,h2⟩|⟨h1,h2⟩|⟨h1,h2⟩
 ·unfold yfr at he
  have:=M.rng i (List.getElem?_eq_some_iff.1 h2).1;rw[if_pos h1,Array.getElem?_push,if_neg (by omega)]at he
  exact .inl ⟨i,h2,he⟩
 ·unfold yfr at he
  rw[if_neg (by omega),if_pos h1,Array.getElem?_push,if_pos hlen]at he
  exact .inr ⟨h2,by simpa using he.symm⟩
 ·unfold yfr at he
  have:=M.rng (i - 1) (List.getElem?_eq_some_iff.1 h2).1;rw[if_neg (by omega),if_neg (by omega),Array.getElem?_push,if_neg (by omega)]at he
  exact .inl ⟨i - 1,h2,he⟩
theorem ybf{o:Oper}{n:Nat}{t kt et e:TypeId}{ik:IntKind}{m k v:Operand}{am ak av:AX}(ho:o.op = .insert t m k v\/o.op = .mapUpdate t m k v)(ht:P.underlying t=some (.map kt et))(hu:P.underlying kt=some (.array n e))(hk:P.underlying e=some (.int ik))(hs:zj0 P e=some 1)
  (h1:cx m=some am) (h2:cx k=some ak) (h3:cx v=some av) {σ σ1:St} {z:TV} {d:Nat} (he:evo d (.xo (.insK n) [am,ak,av]) σ=some (z,σ1)):OkAt P o z σ σ1:=by
 obtain⟨h,he',rfl⟩:=zni he;clear he;simp only[evX,List.map_cons,List.map_nil]at he'
 split at he'
 ·rename_i id kv y hl
  simp only[List.cons.injEq,and_true]at hl
  split at he'
  ·rename_i l hl2
   obtain⟨rfl,hll⟩:=zmi hl2
   split at he'
   ·rename_i es hh
    split at he'
    ·rename_i hf
     cases he'
     refine .skip rfl rfl rfl (fun g lb act w s T=>?_) (fun i b ob hi=>zfu hh rfl ob hi)
     have hm:=zs6 T h1 hl.1;obtain⟨xs,hgk,hx1,hx2⟩:=z11 (zs6 T h2 hl.2.1);have hy:=zs6 T h3 hl.2.2;generalize hgm:act.eval m=vm at hm;generalize hgv:act.eval v=vv at hy
     cases hm with
     |mp hb=>
      obtain⟨b,ms,ck,f,h6,h7,h8,h9,h10⟩:=s.obj _ _ hh;rw[hb]at h6;cases h6;have hlt:=(Array.getElem?_eq_some_iff.1 h7).1;have hfk:=ydn hu hk hs h8 h9 hll hx1 hf w;dsimp only at hfk;have hck:(Instr.checkKey false 10000 kt (.agg xs)).run P w = .ok () w:=zw1 hu hk hs (by have:=hx1.1;rw[List.length_map,hll,Array.length_toList]at this;exact this.symm) false w hx2
      obtain⟨q,hq,hsp⟩:=zsq (n:=n) (a:=.agg (l.map (.int .i64))) (y:=y) (k:=l) es;have hM:=h8.ins hq (x:=(.agg (l.map (.int .i64)),y)) (e:={ key:=.agg xs,val:=vv,born:=ck }) (fun i p hp=>by
       intro e;obtain⟨l',hl'⟩:=zud hf hp;refine zsu hf hp l' hl' ?_;have e1:=(zmi hl').1;rw[e]at e1;have e2:=hl2;rw[show (AV.agg (l.map (.int .i64)))=_ from e1,<- e1]at e2
       rw[e,hl2]at hl';injection hl' with e3;exact e3.symm)
      rw[hsp];obtain⟨h12,h13⟩:=s.upd (g':=g) hh (.refl g) rfl rfl rfl (fun _ _=>rfl) (o':=.mapo (es.take q++(.agg (l.map (.int .i64)),y)::es.drop q)) (Wd.putObj w _ (.map (ms.push { key:=.agg xs,val:=vv,born:=ck }) (ck+1)) (P:=fun b'=>OwnAt g id b' (.mapo es)) hb)
       ⟨_,ms.push { key:=.agg xs,val:=vv,born:=ck },ck+1,yfr f q es.length,hb,World.putObj_heap_same hlt,hM,
        fun i p e hp he=>by
         rcases h8.ins_get hq hp he with⟨j,h,h'⟩|⟨rfl,rfl⟩
         ·exact h9 j p e h h'
         ·exact RV.agg_iff.2 hx1,
        fun i p e hp he=>by
         rcases h8.ins_get hq hp he with⟨j,h,h'⟩|⟨rfl,rfl⟩
         ·exact h10 j p e h h'
         ·exact hy⟩ (fun b' h=>.inl h) (fun _ _ _ e=>by cases e)
      refine⟨g,_,h12,h13,zxt (s:=Instr.mapUpdate t (act.eval m) (act.eval k) (act.eval v)) (by rcases ho with ho|ho <;> simp only[execOp,ho]) ?_⟩
      rw[hgm,hgk,hgv];simp[Instr.mapUpdate,run_underlying ht,zqg h7,hck,hfk,setObj,Sem.run,h7,World.putObj]
    ·cases he'
   ·cases he'
  ·cases he'
 ·cases he'
theorem zxs{p q:Nat->Option (Nat×Nat)}(h:∀i x,p i=some x->q i=some x):∀{l:List (Nat×Value)} {c r:Array Value},Instr.fill p c l=some r->Instr.fill q c l=some r
 |[],c,r,e=>e
 |(i,v)::l,c,r,e=>by
  unfold Instr.fill at e ⊢
  cases hp:p i with
  |none=>rw[hp]at e;cases e
  |some x=>
   rw[hp]at e;rw[h i x hp];obtain⟨off,sz⟩:=x;dsimp only at e ⊢
   split at e
   ·cases e
   ·rename_i hn;rw[if_neg hn];exact zxs h e
theorem ok_bldA{o:Oper}{t e:TypeId}{n:Nat}{ps:Array (Nat×Operand)}{z:List AV}{l:List (Nat×Nat×AX)}(ho:o.op = .build t ps)(hu:P.underlying t=some (.array n e))(hs:zj0 P e=some 1)(hz:zet P t=some z)
  (hl:zn7 ((List.range n).map fun i=>(i,1)) ps.toList=some l) {σ σ1:St} {x:TV} {d:Nat} (he:evo d (.bld z l) σ=some (x,σ1)):OkAt P o x σ σ1:=by
 simp only[evo]at he
 split at he
 ·rename_i cs hf
  cases he;refine zdk fun g0 h0 w0 g lb act w m T=>?_
  obtain⟨i,v,h1,h2,h3,_⟩:=zd2 hz;obtain⟨cells,h4,h5⟩:=zue T hl (zc:=v.cells) (zl3 (h3 g)) hf;refine⟨.agg cells,zbb (s:=Instr.build t (ps.map fun (i,x)=>(i,act.eval x))) (by simp only[execOp,ho]) ?_,RV.agg_iff.2 h5⟩
  have h6:=zxs (q:=fun i=>some (i*1,1)) (fun i x hx=>by
   rw[List.getElem?_toArray,List.getElem?_map]at hx;by_cases hi:i<n
   ·rw[List.getElem?_range hi]at hx;simp at hx ⊢;exact hx
   ·rw[List.getElem?_eq_none (by simp;omega)]at hx;cases hx) h4
  have hzv:(zeroValue t).run P w = .ok v w:=by simp[zeroValue,typeInfo,h1,h2]
  have h7:(ps.map fun (x:Nat×Operand)=>(x.1,act.eval x.2)).toList=ps.toList.map fun p=>(p.1,act.eval p.2):=by simp
  simp only[Instr.build,Sem.run_bind,hzv,Result.andThen_ok,run_underlying hu,zct hs];rw[h7,h6];rfl
 ·cases he
theorem ok_mkE{o:Oper}{t:TypeId}{sz:Nat}(ho:o.op = .buildSlice t 0 #[])(hs:esz P t=some sz){σ σ1:St}{z:TV}{d:Nat}(he:evo d (.xo .mkE []) σ=some (z,σ1)):OkAt P o z σ σ1:=by
 obtain⟨h,he',rfl⟩:=zni he;clear he;simp only[evX,List.map_nil]at he'
 cases he'
 obtain⟨e,i,zv,hu,_,hi',hzv,hzs,his,hpos,hby⟩:=zqh hs;refine .val rfl rfl rfl (fun g lb act w s T=>?_) (fun i b ob hi=>hi)
 obtain⟨h5,h6⟩:=s.freeze #[] e;refine⟨_,_,.slice (some ⟨w.heap.size,0,none⟩) 0 0,h5,h6,.ze _,zbb (s:=Instr.buildSlice t 0 #[]) (by simp[execOp,ho]) ?_⟩
 have hse:(sizeOf e).run P w = .ok sz w:=zct (by simp[zj0,hi',his]) w
 have hr:∀(f:Nat->Value),Array.map f (Array.range 0) = #[]:=fun _=>by apply Array.eq_empty_of_size_eq_zero;simp
 simp[Instr.buildSlice,run_underlying hu,hse,Instr.fill,newRow,hr]
theorem ok_iaz{o:Oper}{t e:TypeId}{sz:Nat}{x i:Operand}{ax ai:AX}(ho:o.op = .indexAddr t x i)(ht:P.underlying t=some (.slice e))(hsz:zj0 P e=some sz)(h1:cx x=some ax)(h2:cx i=some ai){σ σ1:St}{z:TV}{d:Nat}
  (he:evo d (.xo (.iaz sz) [ax,ai]) σ=some (z,σ1)):OkAt P o z σ σ1:=by
 obtain⟨h,he',e1⟩:=zni he;simp only[evX,List.map_cons,List.map_nil]at he'
 split at he'
 ·rename_i es k n hl
  simp only[List.cons.injEq,and_true]at hl
  split at he'
  ·rename_i h0
   split at he'
   ·rename_i e hes
    split at he'
    ·rename_i hel
     cases he'
     refine ok_ia (d:=d) ho ht hsz h1 h2 ?_;simp only[evo,St.a,hl.1,hl.2,TV.av,h0,hes,hel,if_true,e1]
    ·cases he'
   ·cases he'
  ·cases he'
 ·cases he'
theorem ok_ldf{o:Oper}{t:TypeId}{n:Nat}{ag:Bool}{x:Operand}{ax:AX}(ho:o.op = .load t x)(hn:zj0 P t=some n)(hag:z0o P t=some ag)(h1:cx x=some ax){σ σ1:St}{z:TV}{d:Nat}
  (he:evo d (.xo (.ldf n ag) [ax]) σ=some (z,σ1)):OkAt P o z σ σ1:=by
 obtain⟨h,he',e1⟩:=zni he;simp only[evX,List.map_cons,List.map_nil]at he'
 split at he'
 ·rename_i cs hl
  simp only[List.cons.injEq,and_true]at hl
  split at he'
  ·rename_i y hrd
   cases he'
   refine z8e (d:=d) ho hn hag h1 ?_;simp only[evo,hl,hrd,e1]
  ·cases he'
 ·cases he'
theorem opX_ok{own:List Nat}{o:Oper}{op:AOp}(hc:copX P own o=some op){σ σ1:St}{x:TV}(he:evo (o.dst.getD 0) op σ=some (x,σ1)):OkAt P o x σ σ1:=by
 unfold copX at hc
 split at hc
 ·rename_i bop t y z yt ho
  split at hc
  ·rename_i ax ay h1 h2
   split at hc
   ·cases hc;exact ok_sh (l:=true) ho h1 h2 he
   ·cases hc;exact ok_sh (l:=false) ho h1 h2 he
   ·cases hc;exact z6v (.inl rfl) ho h1 h2 he
   ·cases hc;exact z6v (.inr (.inl rfl)) ho h1 h2 he
   ·cases hc;exact z6v (.inr (.inr (.inl rfl))) ho h1 h2 he
   ·cases hc;exact z6v (.inr (.inr (.inr rfl))) ho h1 h2 he
   ·obtain⟨⟨n,k⟩,ha,rfl⟩:=map_some hc
    obtain⟨e,hu,hk,hs,_,hg⟩:=zmo ha;exact yjz (neg:=false) ho hu hk hs hg h1 h2 he
   ·obtain⟨⟨n,k⟩,ha,rfl⟩:=map_some hc
    obtain⟨e,hu,hk,hs,_,hg⟩:=zmo ha;exact yjz (neg:=true) ho hu hk hs hg h1 h2 he
   ·cases hc
  ·cases hc
 ·rename_i t ps ho
  split at hc
  ·rename_i n k ha
   obtain⟨e,hu,hk,hs,_,hg⟩:=zmo ha
   split at hc
   ·rename_i z hz
    obtain⟨l,hl,rfl⟩:=map_some hc;exact ok_bldA ho hu hs hz hl he
   ·cases hc
  ·cases hc
 ·rename_i t n ps ho
  split at hc
  ·rename_i sz hs hp
   cases hc;have:ps = #[]:=by simpa using hp
   subst this;exact ok_mkE ho hs he
  ·cases hc
 ·rename_i t y ho
  split at hc
  ·obtain⟨ax,h1,rfl⟩:=map_some hc
   exact ok_bxN ho h1 he
  split at hc
  ·split at hc
   ·rename_i n k ax ha h1
    cases hc;exact ok_bxA ho h1 he
   ·cases hc
  ·cases hc
 ·rename_i t ho
  split at hc
  ·split at hc
   ·rename_i p z ha hz
    cases hc;exact ok_alA ho hz he
   ·cases hc
  ·cases hc
 ·rename_i t y i ho
  split at hc
  ·split at hc
   ·rename_i e hel
    split at hc
    ·rename_i sz ax ai hsz h1 h2
     cases hc;refine ok_iaz ho ?_ hsz h1 h2 he
     unfold zbf at hel
     split at hel
     ·cases hel;assumption
     ·cases hel
    ·cases hc
   ·cases hc
  ·split at hc
   ·rename_i n k ax ai ha h1 h2
    cases hc;obtain⟨e,hu,hk,hs,hn,hg⟩:=zmo ha
    exact ok_iaA ho hu hs h1 h2 he
   ·cases hc
 ·rename_i t y hi ho
  split at hc
  ·rename_i n k ax ha h1
   obtain⟨e,hu,hk,hs,hn,hg⟩:=zmo ha
   split at hc
   ·cases hc
    exact yju ho hu hs h1 (.inl ⟨rfl,rfl,rfl⟩) he
   ·obtain⟨ay,hy,rfl⟩:=map_some hc
    exact yju ho hu hs h1 (.inr ⟨_,_,rfl,rfl,rfl,hy⟩) he
  ·cases hc
 ·rename_i t y ho
  split at hc
  ·split at hc
   ·rename_i n ag ax hn hag h1
    cases hc;exact ok_ldf ho hn hag h1 he
   ·cases hc
  split at hc
  ·split at hc
   ·rename_i n k ax ha h1
    cases hc;obtain⟨e,hu,hk,hs,hn,hg⟩:=zmo ha
    exact ok_ldA ho hu hn h1 he
   ·cases hc
  ·split at hc
   ·split at hc
    ·rename_i n ag ax hn hag h1
     cases hc;exact ok_ldx ho hn hag h1 he
    ·cases hc
   ·split at hc
    ·split at hc
     ·rename_i n ag ax r hn hag h1 hr
      cases hc;exact ok_ldy ho hn hag h1 he
     ·cases hc
    ·cases hc
 ·rename_i t y v ho
  split at hc
  ·split at hc
   ·rename_i n k ax av ha h1 h2
    cases hc;obtain⟨e,hu,hk,hs,hn,hg⟩:=zmo ha
    exact ok_stA ho hu hn h1 h2 he
   ·cases hc
  ·cases hc
 ·rename_i t m k v ho
  split at hc
  ·rename_i kt et ht
   split at hc
   ·rename_i n ha
    split at hc
    ·rename_i am ak av h1 h2 h3
     cases hc;obtain⟨e,hu,hk,hs,hn,hg⟩:=zmo ha
     exact ybf (.inl ho) ht hu hk hs h1 h2 h3 he
    ·cases hc
   ·cases hc
  ·cases hc
 ·rename_i t m k v ho
  split at hc
  ·rename_i kt et ht
   split at hc
   ·rename_i n ha
    split at hc
    ·rename_i am ak av h1 h2 h3
     cases hc;obtain⟨e,hu,hk,hs,hn,hg⟩:=zmo ha
     exact ybf (.inr ho) ht hu hk hs h1 h2 h3 he
    ·cases hc
   ·cases hc
  ·cases hc
 ·rename_i t y i ok ho
  split at hc
  ·rename_i kt et ht
   split at hc
   ·rename_i n ha
    split at hc
    ·rename_i a ax ai hz hag h1 h2
     split at hc
     ·rename_i a' r' hno
      cases hc;obtain⟨e,hu,hk,hs,hn,hg⟩:=zmo ha
      obtain⟨inf,zv,hi,hzv,hr,hone⟩:=zd2 hz;refine ok_lkK ho ht hu hk hs hi hzv (fun g=>?_) h1 h2 he
      have hcell:=zl3 (hr g);rw[hno]at hcell;unfold zul at hag;rw[hi]at hag;dsimp only at hag;rw[hzv]at hag;obtain⟨u,us,hu1,hu2,_⟩:=hcell.inv
      cases zv <;> first
       |(cases hag;done)
       |(simp[Value.cells]at hu1;obtain⟨rfl,_⟩:=hu1;exact hu2)
     ·cases hc
    ·cases hc
   ·cases hc
  ·cases hc
 ·rename_i c ho
  obtain⟨callee,args,argTypes⟩:=c
  split at hc
  ·rename_i y z hcal hargs
   split at hc
   ·rename_i t u hts
    split at hc
    ·rename_i htu
     subst htu
     split at hc
     ·rename_i sz ax ay hs h1 h2
      cases hc;dsimp only at hcal hargs hts
      rw[hcal,z1t hargs,z1t hts]at ho;exact ok_cpy ho hs h1 h2 he
     ·cases hc
    ·cases hc
   ·cases hc
  ·rename_i y z hcal hargs
   split at hc
   ·rename_i ax ay h1 h2
    cases hc;dsimp only at hcal hargs
    rw[hcal,z1t hargs]at ho;exact ok_mn ho h1 h2 he
   ·cases hc
  ·cases hc
 ·cases hc
theorem yjv{o:Oper}{x:Operand}(ho:o.op = .move x\/o.op = .assign x)(hx:zeo x=true){σ σ1:St}{z:TV}{d:Nat}(he:evo d (.mv (.c .ze)) σ=some (z,σ1)):OkAt P o z σ σ1:=by
 simp only[evo]at he;cases he;refine zdk (y:=.ze) fun g0 h0 w0 g lb act w m T=>⟨.slice none 0 0,?_,.ze none⟩
 have:act.eval x = .slice none 0 0:=by
  unfold zeo at hx
  split at hx
  ·rfl
  ·cases hx
 rcases ho with ho|ho <;> simp[execOp,ho,this]
theorem opV_ok{own:List Nat}{o:Oper}{op:AOp}(hc:copV P own o=some op){σ σ1:St}{x:TV}(he:evo (o.dst.getD 0) op σ=some (x,σ1)):OkAt P o x σ σ1:=by
 unfold copV at hc
 split at hc
 ·rename_i x ho
  split at hc
  ·split at hc
   ·rename_i hx;cases hc;exact yjv (.inl ho) hx he
   ·cases hc
  ·cases hc
 ·rename_i x ho
  split at hc
  ·split at hc
   ·rename_i hx;cases hc;exact yjv (.inr ho) hx he
   ·cases hc
  ·cases hc
 ·rename_i t y lo hi ho
  split at hc
  ·split at hc
   ·rename_i sz ax hs h1
    split at hc
    ·cases hc;exact z6t ho hs h1 (.inl ⟨rfl,rfl,rfl,rfl,rfl⟩) he
    ·obtain⟨ay,hy,rfl⟩:=map_some hc
     exact z6t ho hs h1 (.inr (.inl ⟨_,_,rfl,rfl,rfl,rfl,rfl,hy⟩)) he
    ·obtain⟨ay,hy,rfl⟩:=map_some hc
     exact z6t ho hs h1 (.inr (.inr (.inl ⟨_,_,rfl,rfl,rfl,rfl,rfl,hy⟩))) he
    ·split at hc
     ·rename_i al ah hl hh
      cases hc;exact z6t ho hs h1 (.inr (.inr (.inr ⟨_,_,_,_,rfl,rfl,rfl,rfl,rfl,hl,hh⟩))) he
     ·cases hc
   ·cases hc
  ·cases hc
 ·cases hc
theorem yjt{esc own:List Nat}{o:Oper}{op:AOp}(hc:copA P esc own o=some op){σ σ1:St}{x:TV}(he:evo (o.dst.getD 0) op σ=some (x,σ1)):OkAt P o x σ σ1:=by
 unfold copA ygw at hc
 split at hc
 ·rename_i h1;cases hc;exact opV_ok h1 he
 ·split at hc
  ·rename_i h1;cases hc;exact opX_ok h1 he
  ·exact op_ok hc he
end Go.Ab
end
