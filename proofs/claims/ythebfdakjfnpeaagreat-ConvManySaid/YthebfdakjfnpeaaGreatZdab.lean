/- What the law ConvMany of layer 17 comes to, part 2. Conditions: none. -/
import Derived.Test.YthebfdakjfnpeaaGreatZdaa
import Derived.Laws.Slices
import Derived.Laws.Small
import Derived.Laws.Build
import Derived.MapKept
section
set_option linter.unusedVariables false
set_option linter.unusedSimpArgs false
namespace Go.Ab
open Go.RowKit
variable {P : Program}
theorem zj6{σ:St}{a:Act}{g:G}{lb:Nat->Nat}(T:Tm g lb σ.ls σ.t a.tmps){x:Operand}{ax:AX}(hx:cx x=some ax):RT g lb (σ.x ax) (a.eval x):=by
 cases x with
 |tmp i=>
  simp only[cx]at hx;injection hx with hx;subst hx;exact T.at_ i
 |const v=>
  simp only[cx]at hx
  cases hc:z0c v with
  |none=>rw[hc]at hx;cases hx
  |some b=>rw[hc]at hx;injection hx with hx;subst hx;exact z85 hc g
 |func f=>
  simp only[cx]at hx;injection hx with hx;subst hx;exact .fn rfl rfl (fun i a v hx=>by simp at hx) (fun i a v hx=>by simp at hx)
 |global n=>simp[cx]at hx
theorem a_eq{σ:St}{ax:AX}{y:AV}(h:σ.a ax=some y):σ.x ax = .v y:=by
 unfold St.a TV.av at h
 split at h
 ·rename_i b hb;injection h with h;subst h;exact hb
 ·cases h
theorem zii{σ:St}{a:Act}{g:G}{lb:Nat->Nat}(T:Tm g lb σ.ls σ.t a.tmps){x:Operand}{ax:AX}(hx:cx x=some ax){y:AV}(h:σ.a ax=some y):RV g y (a.eval x):=by
 have:=zj6 T hx;rw[a_eq h]at this;exact this
theorem ye1{σ:St}{a:Act}{g:G}{lb:Nat->Nat}(T:Tm g lb σ.ls σ.t a.tmps){x:Operand}{ax:AX}(hx:cxn x=some ax){y:AV}(h:σ.a ax=some y):RV g y (a.eval x):=by
 unfold cxn at hx
 split at hx
 ·rename_i hn
  cases hx;cases h
  unfold zeo at hn
  split at hn
  ·exact .ze none
  ·cases hn
 ·exact zii T hx h
theorem yer{σ:St}{a:Act}{g:G}{lb:Nat->Nat}(T:Tm g lb σ.ls σ.t a.tmps):∀{l:List Operand} {axs:List AX},cxns l=some axs->∀{ys:List AV},σ.as axs=some ys->RVs g ys (l.map a.eval)
 |[],axs,hx,ys,h=>by simp[cxns,zj5]at hx;subst hx;simp[St.as]at h;subst h;exact .nil g
 |x::l,axs,hx,ys,h=>by
  unfold cxns at hx;simp only[zj5]at hx
  cases h1:cxn x with
  |none=>rw[h1]at hx;cases hx
  |some ax=>
   rw[h1]at hx
   cases h2:zj5 cxn l with
   |none=>simp only[h2]at hx;cases hx
   |some r=>
    simp only[h2]at hx;injection hx with hx;subst hx;simp only[St.as]at h
    cases h3:σ.a ax with
    |none=>rw[h3]at h;cases h
    |some y=>
     rw[h3]at h
     cases h4:σ.as r with
     |none=>simp only[h4]at h;cases h
     |some s=>simp only[h4]at h;injection h with h;subst h;exact .cons (ye1 T h1 h3) (yer T h2 h4)
theorem a_rvz{σ:St}{a:Act}{g:G}{lb:Nat->Nat}{sz:Nat}(T:Tm g lb σ.ls σ.t a.tmps){x:Operand}{ax:AX}(hx:cxz sz x=some ax){y:AV}(h:σ.a ax=some y):RV g y (a.eval x):=by
 unfold cxz at hx
 split at hx
 ·rename_i hn
  cases hx;cases h
  unfold zeo at hn
  split at hn
  ·exact .nils sz
  ·cases hn
 ·exact zii T hx h
theorem yeq{σ:St}{a:Act}{g:G}{lb:Nat->Nat}{sz:Nat}(T:Tm g lb σ.ls σ.t a.tmps):∀{l:List Operand} {axs:List AX},cxzs sz l=some axs->∀{ys:List AV},σ.as axs=some ys->RVs g ys (l.map a.eval)
 |[],axs,hx,ys,h=>by simp[cxzs,zj5]at hx;subst hx;simp[St.as]at h;subst h;exact .nil g
 |x::l,axs,hx,ys,h=>by
  unfold cxzs at hx;simp only[zj5]at hx
  cases h1:cxz sz x with
  |none=>rw[h1]at hx;cases hx
  |some ax=>
   rw[h1]at hx
   cases h2:zj5 (cxz sz) l with
   |none=>simp only[h2]at hx;cases hx
   |some r=>
    simp only[h2]at hx;injection hx with hx;subst hx;simp only[St.as]at h
    cases h3:σ.a ax with
    |none=>rw[h3]at h;cases h
    |some y=>
     rw[h3]at h
     cases h4:σ.as r with
     |none=>simp only[h4]at h;cases h
     |some s=>simp only[h4]at h;injection h with h;subst h;exact .cons (a_rvz T h1 h3) (yeq T h2 h4)
theorem z7o{σ:St}{a:Act}{g:G}{lb:Nat->Nat}(T:Tm g lb σ.ls σ.t a.tmps):∀{l:List Operand} {axs:List AX},cxs l=some axs->∀{ys:List AV},σ.as axs=some ys->RVs g ys (l.map a.eval)
 |[],axs,hx,ys,h=>by simp[cxs,zj5]at hx;subst hx;simp[St.as]at h;subst h;exact .nil g
 |x::l,axs,hx,ys,h=>by
  unfold cxs at hx;simp only[zj5]at hx
  cases h1:cx x with
  |none=>rw[h1]at hx;cases hx
  |some ax=>
   rw[h1]at hx
   cases h2:zj5 cx l with
   |none=>simp only[h2]at hx;cases hx
   |some r=>
    simp only[h2]at hx;injection hx with hx;subst hx;simp only[St.as]at h
    cases h3:σ.a ax with
    |none=>rw[h3]at h;cases h
    |some y=>
     rw[h3]at h
     cases h4:σ.as r with
     |none=>simp only[h4]at h;cases h
     |some s=>simp only[h4]at h;injection h with h;subst h;exact .cons (zii T h1 h3) (z7o T h2 h4)
theorem z03{σ:St}{a:Act}{g:G}{lb:Nat->Nat}(T:Tm g lb σ.ls σ.t a.tmps){ax:AX}{k off:Nat}(h:σ.x ax = .lp k off):zb5 k σ.ls≠none:=by
 cases ax with
 |t i=>
  exact T.live i k off h
 |c b=>cases h
def OkAt(P:Program)(o:Oper)(x:TV)(σ σ1:St):Prop :=
 ∀g0 h0 w0 g lb (a:Act) w,Mid g0 h0 w0 g lb σ.ls σ.h w->Tm g lb σ.ls σ.t a.tmps ->
  ∃v w' g' lb',((execOp a.eval o).run P w = .ok (.value v) w' \/ ((execOp a.eval o).run P w = .ok .skip w' /\ v=undef))/\Mid g0 h0 w0 g' lb' σ1.ls σ1.h w' /\ Ee g lb σ.ls σ.h g' lb' σ1.ls σ1.h /\
   RT g' lb' x v/\(∀k off,x = .lp k off->zb5 k σ1.ls≠none)/\σ1.t=σ.t/\σ1.ds=σ.ds
theorem OkAt.pure{o:Oper}{x:TV}{σ:St}
  (h:∀g0 h0 w0 g lb (a:Act) w,Mid g0 h0 w0 g lb σ.ls σ.h w->Tm g lb σ.ls σ.t a.tmps->∃v,(execOp a.eval o).run P w = .ok (.value v) w/\RT g lb x v/\(∀k off,x = .lp k off->zb5 k σ.ls≠none)) :
  OkAt P o x σ σ:=fun g0 h0 w0 g lb a w m T=>
 let ⟨v,h1,h2,h3⟩:=h g0 h0 w0 g lb a w m T
 ⟨v,w,g,lb,.inl h1,m,.refl _ _ _ _,h2,h3,rfl,rfl⟩
theorem zbb{o:Oper}{ρ:Operand->Value}{w w':World}{s:Sem Value}{v:Value}(he:execOp ρ o=(do pure (.value (<- s))))(hs:s.run P w = .ok v w'):
  (execOp ρ o).run P w = .ok (.value v) w':=by rw[he];simp[hs]
theorem zxt{o:Oper}{ρ:Operand->Value}{w w':World}{s:Sem Unit}(he:execOp ρ o=(do s;pure .skip))(hs:s.run P w = .ok () w'):
  (execOp ρ o).run P w = .ok .skip w':=by rw[he];simp[hs]
theorem ok_mv{o:Oper}{x:Operand}{ax:AX}(ho:o.op = .move x\/o.op = .assign x)(hx:cx x=some ax)(σ:St):OkAt P o (σ.x ax) σ σ :=
 .pure fun g0 h0 w0 g lb a w m T=>⟨a.eval x,by rcases ho with ho|ho <;> simp[execOp,ho],zj6 T hx,fun k off e=>z03 T e⟩
theorem ok_pick{o:Oper}{c x y:Operand}{ac a1 a2:AX}(ho:o.op = .pick c x y)(hc:cx c=some ac)(h1:cx x=some a1)(h2:cx y=some a2){σ:St}{p:Bool}(hp:σ.a ac=some (.bool p)):
  OkAt P o (if p then σ.x a1 else σ.x a2) σ σ :=
 .pure fun g0 h0 w0 g lb a w m T=>by
  have hcv:=zii T hc hp;generalize hv:a.eval c=cv at hcv;cases hcv;cases p
  ·exact⟨a.eval y,by simp[execOp,ho,hv,asBool],zj6 T h2,fun k off e=>z03 T (by simpa using e)⟩
  ·exact⟨a.eval x,by simp[execOp,ho,hv,asBool],zj6 T h1,fun k off e=>z03 T (by simpa using e)⟩
theorem zdk{o:Oper}{σ:St}{y:AV}(h:∀g0 h0 w0 g lb (a:Act) w,Mid g0 h0 w0 g lb σ.ls σ.h w->Tm g lb σ.ls σ.t a.tmps->∃v,(execOp a.eval o).run P w = .ok (.value v) w/\RV g y v):OkAt P o (.v y) σ σ :=
 .pure fun g0 h0 w0 g lb a w m T=>let ⟨v,h1,h2⟩:=h g0 h0 w0 g lb a w m T;⟨v,h1,h2,fun k off e=>by cases e⟩
theorem ok_nilc{o:Oper}{x:Operand}{ax:AX}(ho:o.op = .nilCheck x)(hx:cx x=some ax){σ:St}{d:Nat}{y:TV}{σ1:St}(he:evo d (.nilc ax) σ=some (y,σ1)):OkAt P o y σ σ1:=by
 simp only[evo]at he
 split at he
 ·rename_i id off hq
  injection he with he;injection he with e1 e2;subst e1;subst e2;refine zdk fun g0 h0 w0 g lb a w m T=>?_
  have hv:=zj6 T hx;rw[hq]at hv;have hv:RV g (.ptr id off) (a.eval x):=hv;generalize hg:a.eval x=xv at hv
  cases hv with
  |ptr h=>exact⟨_,by simp[execOp,ho,hg],.ptr h⟩
 ·rename_i cs hq
  injection he with he;injection he with e1 e2;subst e1;subst e2;refine zdk fun g0 h0 w0 g lb a w m T=>?_
  have hv:=zj6 T hx;rw[hq]at hv;have hv:RV g (.fp cs) (a.eval x):=hv;generalize hg:a.eval x=xv at hv
  cases hv with
  |fp f h1 h2=>exact⟨_,by simp[execOp,ho,hg],.fp f h1 h2⟩
 ·rename_i k off hq
  injection he with he;injection he with e1 e2;subst e1;subst e2;refine .pure fun g0 h0 w0 g lb a w m T=>?_
  have hv:=zj6 T hx;rw[hq]at hv;have hv:a.eval x = .pointer (some ⟨lb k,off,none⟩):=hv;exact⟨_,by simp[execOp,ho,hv],rfl,fun k' off' e=>by injection e with e1 _;subst e1;exact z03 T hq⟩
 ·rename_i f fa fc hq
  split at he
  ·cases he
  ·rename_i hne
   injection he with he;injection he with e1 e2;subst e1;subst e2;refine zdk fun g0 h0 w0 g lb a w m T=>?_
   have hv:=zj6 T hx;rw[hq]at hv;have hv:RV g (.fn f fa fc) (a.eval x):=hv;generalize hg:a.eval x=xv at hv
   cases hv with
   |fn h1 h2 h3 h4=>
    refine⟨_,?_,.fn h1 h2 h3 h4⟩
    cases f <;> first
     |(exfalso;exact hne _ rfl)
     |simp[execOp,ho,hg]
 ·cases he
theorem ygf{op:BinOp}{k:IntKind}{x y:Int}{r:AV}(h:binI op k x y=some r)(t:TypeId)(w:World):∃v,(binOp op t (.int k x) (.int k y)).run P w = .ok v w/\∀g,RV g r v:=by
 cases op <;> simp only[binI]at h
 case add=>cases h;exact⟨_,by simp[binOp,Op.intArith],fun g=>.int _ _⟩
 case sub=>cases h;exact⟨_,by simp[binOp,Op.intArith],fun g=>.int _ _⟩
 case mul=>cases h;exact⟨_,by simp[binOp,Op.intArith],fun g=>.int _ _⟩
 case quo=>
  split at h
  ·cases h
  ·rename_i hy;cases h;exact⟨_,by simp[binOp,Op.intDiv,hy],fun g=>.int _ _⟩
 case rem=>
  split at h
  ·cases h
  ·rename_i hy;cases h;exact⟨_,by simp[binOp,Op.intDiv,hy],fun g=>.int _ _⟩
 case eql=>cases h;exact⟨.bool (x == y),by simp[binOp,Op.intCmp],fun g=>by rw[show (x == y)=decide (x=y) from rfl];exact .bool _⟩
 case neq=>cases h;exact⟨.bool (x != y),by simp[binOp,Op.intCmp],fun g=>by rw[show (x != y) = !decide (x=y) from rfl];exact .bool _⟩
 case lss=>cases h;exact⟨.bool (decide (x<y)),by simp[binOp,Op.intCmp],fun g=>.bool _⟩
 case leq=>cases h;exact⟨.bool (decide (x<=y)),by simp[binOp,Op.intCmp],fun g=>.bool _⟩
 case gtr=>cases h;exact⟨.bool (decide (x > y)),by simp[binOp,Op.intCmp],fun g=>.bool _⟩
 case geq=>cases h;exact⟨.bool (decide (x >= y)),by simp[binOp,Op.intCmp],fun g=>.bool _⟩
 all_goals cases h
end Go.Ab
set_option linter.unusedVariables false
set_option linter.unusedSimpArgs false
namespace Go.Ab
open Go.RowKit
variable {P : Program}
theorem znc{α:Type}{sz:Nat}:∀{es:List (List α)},(∀e∈es,e.length=sz)->∀{i:Nat} {e:List α},es[i]?=some e->∀{j:Nat} {a:α},e[j]?=some a->es.flatten[i*sz+j]?=some a
 |[],_,i,e,h,_,_,_=>by simp at h
 |x::es,hz,i,e,h,j,a,hj=>by
  have hx:x.length=sz:=hz x (by simp)
  cases i with
  |zero=>
   simp at h;subst h;have:j<x.length:=(List.getElem?_eq_some_iff.1 hj).1;rw[List.flatten_cons,Nat.zero_mul,Nat.zero_add,List.getElem?_append_left this];exact hj
  |succ i=>
   have:=znc (es:=es) (fun e he=>hz e (List.mem_cons_of_mem _ he)) (by simpa using h) hj
   rw[List.flatten_cons,List.getElem?_append_right (by rw[Nat.succ_mul];omega)]
   rw[show (i+1)*sz+j - x.length=i*sz+j by rw[Nat.succ_mul];omega]
   exact this
theorem za4{α:Type}{sz:Nat}:∀{es:List (List α)},(∀e∈es,e.length=sz)->es.flatten.length=es.length*sz
 |[],_=>by simp
 |x::es,hz=>by
  rw[List.flatten_cons,List.length_append,za4 (fun e he=>hz e (by simp[he])),hz x (by simp),List.length_cons,Nat.succ_mul];omega
theorem zl7{α:Type}{sz:Nat}:∀{es:List (List α)},(∀e∈es,e.length=sz)->∀(l:Nat),(es.drop l).flatten=es.flatten.drop (l*sz)
 |[],_,l=>by simp
 |x::es,hz,0=>by simp
 |x::es,hz,l+1=>by
  have hx:x.length=sz:=hz x (by simp)
  have e1:(l+1)*sz=x.length+l*sz:=by rw[hx,Nat.succ_mul];omega
  rw[List.drop_succ_cons,zl7 (fun e he=>hz e (List.mem_cons_of_mem _ he)) l,List.flatten_cons,e1,List.drop_length_add_append]
theorem zhj{α:Type}{sz:Nat}:∀{es:List (List α)},(∀e∈es,e.length=sz)->∀(l:Nat),(es.take l).flatten=es.flatten.take (l*sz)
 |[],_,l=>by simp
 |x::es,hz,0=>by simp
 |x::es,hz,l+1=>by
  have hx:x.length=sz:=hz x (by simp)
  have e1:(l+1)*sz=x.length+l*sz:=by rw[hx,Nat.succ_mul];omega
  rw[List.take_succ_cons,List.flatten_cons,zhj (fun e he=>hz e (List.mem_cons_of_mem _ he)) l,List.flatten_cons,e1,List.take_length_add_append]
theorem zct{t:TypeId}{n:Nat}(h:zj0 P t=some n)(w:World):(sizeOf t).run P w = .ok n w:=by
 unfold zj0 at h
 cases hi:P.info? t with
 |none=>rw[hi]at h;cases h
 |some i=>rw[hi]at h;simp at h;subst h;simp[sizeOf,typeInfo,hi]
theorem zq7{t:TypeId}{b:Bool}(h:z0o P t=some b)(w:World):(isAgg t).run P w = .ok b w:=by
 unfold z0o at h
 cases hu:P.underlying t with
 |none=>simp[hu]at h
 |some d=>
  rw[hu]at h
  cases d <;> simp at h <;> subst h <;> simp[isAgg,run_underlying hu]
theorem zho{op:BinOp}{t:TypeId}{x y:Operand}{k k':IntKind}{a b:Int}(w:World):(eqGuard op t x y (.int k a) (.int k' b)).run P w = .ok () w:=by
 cases op <;> simp[eqGuard]
theorem zn6{op:BinOp}{t:TypeId}{x y:Operand}{a b:Bool}(w:World):(eqGuard op t x y (.bool a) (.bool b)).run P w = .ok () w:=by
 cases op <;> simp[eqGuard]
theorem ok_bin{o:Oper}{op:BinOp}{t yt:TypeId}{x y:Operand}{ax ay:AX}(ho:o.op = .binOp op t x y yt)(h1:cx x=some ax)(h2:cx y=some ay){σ σ1:St}{z:TV}{d:Nat}(he:evo d (.bin op ax ay) σ=some (z,σ1)):OkAt P o z σ σ1:=by
 simp only[evo]at he
 split at he
 ·rename_i k a k' b e1 e2
  split at he
  ·rename_i hk
   subst hk
   split at he
   ·rename_i r hr
    cases he;refine zdk fun g0 h0 w0 g lb act w m T=>?_
    have hx:=zii T h1 e1;have hy:=zii T h2 e2;generalize hgx:act.eval x=vx at hx;generalize hgy:act.eval y=vy at hy
    cases hx;cases hy
    obtain⟨v,hv,hg⟩:=ygf (P:=P) hr t w;exact⟨v,zbb (s:=do eqGuard op t x y (.int k a) (.int k b);binOp op t (.int k a) (.int k b)) (by simp only[execOp,ho,hgx,hgy]) (by simp[zho,hv]),hg g⟩
   ·cases he
  ·cases he
 ·cases he
theorem yjy{o:Oper}{neg:Bool}{t yt:TypeId}{x y:Operand}{ax ay:AX}(ho:o.op = .binOp (if neg then .neq else .eql) t x y yt)(ht:P.underlying t=some .bool)(h1:cx x=some ax)(h2:cx y=some ay){σ σ1:St}{z:TV}{d:Nat}(he:evo d (.eqb neg ax ay) σ=some (z,σ1)):OkAt P o z σ σ1:=by
 simp only[evo]at he
 split at he
 ·rename_i a b e1 e2
  cases he;refine zdk fun g0 h0 w0 g lb act w m T=>?_
  have hx:=zii T h1 e1;have hy:=zii T h2 e2;generalize hgx:act.eval x=vx at hx;generalize hgy:act.eval y=vy at hy
  cases hx;cases hy
  cases neg
  ·refine⟨_,zbb (s:=do eqGuard .eql t x y (.bool a) (.bool b);binOp .eql t (.bool a) (.bool b)) (v:=.bool (a == b)) (by simp[execOp,ho,hgx,hgy]) (by simp[zn6,run_eql_bool w t a b ht]),.bool _⟩
  ·exact⟨_,zbb (s:=do eqGuard .neq t x y (.bool a) (.bool b);binOp .neq t (.bool a) (.bool b)) (v:=.bool (!(a == b))) (by simp[execOp,ho,hgx,hgy]) (by simp[zn6,run_neq_bool w t a b ht]),.bool _⟩
 ·cases he
theorem ok_not{o:Oper}{t:TypeId}{x:Operand}{ax:AX}(ho:o.op = .unOp .not t x)(h1:cx x=some ax){σ σ1:St}{z:TV}{d:Nat}(he:evo d (.not ax) σ=some (z,σ1)):OkAt P o z σ σ1:=by
 simp only[evo]at he
 split at he
 ·rename_i b e1
  cases he;refine zdk fun g0 h0 w0 g lb act w m T=>?_
  have hx:=zii T h1 e1;generalize hgx:act.eval x=vx at hx;cases hx;exact⟨_,by simp[execOp,ho,hgx,Op.unary],.bool _⟩
 ·cases he
theorem ok_cv{o:Oper}{s t:TypeId}{sd:TypeDesc}{k:IntKind}{x:Operand}{ax:AX}(ho:o.op = .convert s t x)(hs:P.underlying s=some sd)(ht:P.underlying t=some (.int k))(h1:cx x=some ax){σ σ1:St}{z:TV}{d:Nat}(he:evo d (.cv k ax) σ=some (z,σ1)):OkAt P o z σ σ1:=by
 simp only[evo]at he
 split at he
 ·rename_i k' n e1
  cases he;refine zdk fun g0 h0 w0 g lb act w m T=>?_
  have hx:=zii T h1 e1;generalize hgx:act.eval x=vx at hx;cases hx;exact⟨.int k (k.wrap n),by simp[execOp,ho,hgx,convert,run_underlying hs,run_underlying ht,Conv.intToInt],.int _ _⟩
 ·cases he
theorem ok_mx{o:Oper}{x y:Operand}{ax ay:AX}{at_:Array TypeId}(ho:o.op = .call { callee:=.builtin .max,args:=#[x,y],argTypes:=at_ })(h1:cx x=some ax)(h2:cx y=some ay){σ σ1:St}{z:TV}{d:Nat}(he:evo d (.mx ax ay) σ=some (z,σ1)):OkAt P o z σ σ1:=by
 simp only[evo]at he
 split at he
 ·rename_i k a k' b e1 e2
  split at he
  ·rename_i hk
   subst hk;cases he;refine zdk fun g0 h0 w0 g lb act w m T=>?_
   have hx:=zii T h1 e1;have hy:=zii T h2 e2;generalize hgx:act.eval x=vx at hx;generalize hgy:act.eval y=vy at hy
   cases hx;cases hy
   refine⟨.int k (if b > a then b else a),?_,.int _ _⟩;simp[execOp,ho,resolve,invoke,builtin,Builtin.max_,Builtin.max2,hgx,hgy]
  ·cases he
 ·cases he
theorem ok_len{o:Oper}{t e:TypeId}{x:Operand}{ax:AX}(ho:o.op = .call { callee:=.builtin .len,args:=#[x],argTypes:=#[t] })(ht:P.underlying t=some (.slice e))(h1:cx x=some ax){σ σ1:St}{z:TV}{d:Nat}(he:evo d (.len ax) σ=some (z,σ1)):OkAt P o z σ σ1:=by
 simp only[evo]at he
 split at he
 ·rename_i b e1
  split at he
  ·rename_i es e2
   cases he;refine zdk fun g0 h0 w0 g lb act w m T=>?_
   have hx:=zii T h1 e1;generalize hgx:act.eval x=vx at hx;have key:∃A c,vx = .slice A es.length c:=by
    unfold elems at e2
    split at e2
    ·cases e2
     cases hx with
     |sl0 A c=>exact⟨A,c,rfl⟩
     |sl f hl=>subst hl;exact⟨_,_,rfl⟩
    ·cases e2
     cases hx;exact⟨none,0,rfl⟩
    ·rename_i id ver
     split at e2
     ·rename_i v sz es' hh
      split at e2
      ·rename_i hv
       cases e2;subst hv
       cases hx with
       |ol hd=>
        have:=m.sat.obj _ _ hh;rcases this with⟨h3,h4⟩|⟨b,cap,c,t',l1,l2,h3,_⟩
        ·rw[hd]at h4;cases h4;subst h3;exact⟨_,_,rfl⟩
        ·rw[hd]at h3;cases h3;exact⟨_,_,rfl⟩
      ·cases e2
     ·cases e2
    ·cases e2
     cases hx;exact⟨_,0,rfl⟩
    ·split at e2
     ·split at e2
      ·rename_i hc
       cases e2
       cases hx with
       |ov h ha hn=>exact⟨_,_,by rw[List.length_drop,List.length_take];congr 1;omega⟩
      ·cases e2
     ·cases e2
    ·cases e2
   obtain⟨A,c,rfl⟩:=key;exact⟨.int .i64 (es.length:Int),by simp[execOp,ho,resolve,invoke,builtin,Builtin.len_,hgx,run_underlying ht,goInt],.int _ _⟩
  ·cases he
 ·cases he
theorem rd_ok{g:G}{n:Nat}{ag:Bool}{cs:List AV}{x:TV}(h:rd n ag cs=some x){us:List Value}(hr:RVs g cs us):
  (ag=true/\n<=us.length/\x = .v (.agg (cs.take n))/\RV g (.agg (cs.take n)) (.agg (us.take n).toArray))\/(ag=false/\∃a u r,cs=a::r/\us[0]?=some u/\x = .v a/\RV g a u):=by
 unfold rd at h
 split at h
 ·rename_i hl
  split at h
  ·cases h
   exact .inl ⟨rfl,by rw[<- hr.1];exact hl,rfl,RV.agg_iff.2 (hr.take n)⟩
  ·split at h
   ·rename_i a r
    cases h;obtain⟨u,us',rfl,h1,h2⟩:=hr.inv
    exact .inr ⟨rfl,a,u,r,rfl,by simp,rfl,h1⟩
   ·cases h
 ·cases h
theorem zpq{g:G}{t:TypeId}{n:Nat}{ag:Bool}(hn:zj0 P t=some n)(hag:z0o P t=some ag){w:World}{b o:Nat}{us:List Value}(hus:∀(j:Nat) (u:Value),us[j]?=some u->w.cell? ⟨b,o+j,none⟩=some u)
  {cs:List AV} (hr:RVs g cs us) {x:TV} (hrd:rd n ag cs=some x):∃v y,(Instr.loadAt t (.pointer (some ⟨b,o,none⟩))).run P w = .ok v w/\x = .v y/\RV g y v:=by
 rcases rd_ok hrd hr with⟨rfl,h1,h2,h3⟩|⟨rfl,a,u,r,h1,h2,h3,h4⟩
 ·refine⟨_,_,?_,h2,h3⟩
  have hc:=run_loadCells_list (P:=P) w ⟨b,o,none⟩ (us.take n) (fun j v hj=>by
   rw[Addr.add_lit];rw[List.getElem?_take]at hj;split at hj
   ·exact hus j v hj
   ·cases hj)
  rw[List.length_take,Nat.min_eq_left h1]at hc;simp[Instr.loadAt,Instr.sureAddr,loadVar,zq7 hag,zct hn,hc]
 ·refine⟨u,a,?_,h3,h4⟩
  have:=hus 0 u h2;simp only[Nat.add_zero]at this;simp[Instr.loadAt,Instr.sureAddr,loadVar,zq7 hag,this]
theorem znb{g:G}{w:World}{h:List AO}(s:Sat g h w){id ver sz:Nat}{es:List (List AV)}(hh:h[id]?=some (.lst ver sz es)){b n c:Nat}(hd:g.hd id ver=some (some ⟨b,0,none⟩,n,c)):
  ∃cs t l1 l2,w.heap[b]?=some (.cells cs t (0,0))/\cs.size=c*sz/\0<sz/\es.length<=c/\es.length<=z3y/\n=es.length/\(∀e∈es,e.length=sz)/\cs.toList=l1++l2/\RVs g es.flatten l1/\(∀a∈es.flatten,a.one=true):=by
 rcases s.obj _ _ hh with⟨_,h1⟩|⟨b',cap,c',t,l1,l2,h1,h2,h3,h4,h5,h6,h7,h8,h9⟩
 ·rw[hd]at h1;cases h1
 ·rw[hd]at h1;cases h1;exact⟨c',t,l1,l2,h2,h3,h4,h5,h6,rfl,h7,h8,h9⟩
theorem zbh{w:World}{b o:Nat}{c:Array Value}{t:TypeId}{fr:Nat×Nat}(h:w.heap[b]?=some (.cells c t fr)):w.cell? ⟨b,o,none⟩=c[o]?:=by
 simp[World.cell?,h]
theorem z8e{o:Oper}{t:TypeId}{n:Nat}{ag:Bool}{x:Operand}{ax:AX}(ho:o.op = .load t x)(hn:zj0 P t=some n)(hag:z0o P t=some ag)(h1:cx x=some ax){σ σ1:St}{z:TV}{d:Nat}(he:evo d (.ld n ag ax) σ=some (z,σ1)):OkAt P o z σ σ1:=by
 have fin:∀{act:Act} {g:G} {w:World} {b off:Nat} {us:List Value} {cs:List AV},act.eval x = .pointer (some ⟨b,off,none⟩)->(∀(j:Nat) (u:Value),us[j]?=some u->w.cell? ⟨b,off+j,none⟩=some u)->RVs g cs us->rd n ag cs=some z ->
   ∃v,(execOp act.eval o).run P w = .ok (.value v) w/\RT g (fun _=>0) z v/\∃y,z = .v y/\RV g y v:=by
  intro act g w b off us cs hp hus hr hrd;obtain⟨v,y,h2,h3,h4⟩:=zpq hn hag hus hr hrd;exact⟨v,zbb (s:=Instr.loadAt t (act.eval x)) (by simp only[execOp,ho]) (by rw[hp];exact h2),by rw[h3];exact h4,y,h3,h4⟩
 simp only[evo]at he
 split at he
 ·rename_i k off hq
  split at he
  ·rename_i cs hl
   split at he
   ·rename_i y hrd
    cases he;refine .pure fun g0 h0 w0 g lb act w m T=>?_
    have hv:=zj6 T h1;rw[hq]at hv;have hv:act.eval x = .pointer (some ⟨lb k,off,none⟩):=hv;obtain⟨c,t',h3,h4⟩:=m.lok.ok k cs hl;obtain⟨v,h5,_,y',rfl,h6⟩:=fin (us:=c.toList.drop off) hv (fun j u hj=>by
     rw[zbh h3];rw[List.getElem?_drop]at hj;simpa using hj) (h4.drop off) hrd
    exact⟨v,h5,h6,fun k off e=>by cases e⟩
   ·cases he
  ·cases he
 ·rename_i cs hq
  split at he
  ·rename_i y hrd
   cases he;refine .pure fun g0 h0 w0 g lb act w m T=>?_
   have hv:=zj6 T h1;rw[hq]at hv;obtain⟨b,off,hp,f,h3,h4⟩:=hv;obtain⟨v,h5,_,y',rfl,h6⟩:=fin (us:=(List.range cs.length).map f) hp (fun j u hj=>by
     rw[List.getElem?_map]at hj;by_cases hl:j<cs.length
     ·rw[List.getElem?_range hl]at hj
      simp at hj;subst hj;obtain⟨c,t',fr,h7,h8⟩:=m.sat.fz _ _ _ (h3 j cs[j] (by simp[hl]))
      rw[zbh h7];exact h8
     ·rw[List.getElem?_eq_none (by simp;omega)]at hj;cases hj)
    ⟨by simp,fun i a v ha hv=>by
     have hl:i<cs.length:=(List.getElem?_eq_some_iff.1 ha).1;rw[List.getElem?_map,List.getElem?_range hl]at hv;simp at hv;subst hv;exact h4 i a ha⟩ hrd
   exact⟨v,h5,h6,fun k off e=>by cases e⟩
  ·cases he
 ·rename_i cs hq
  split at he
  ·rename_i y hrd
   cases he;refine .pure fun g0 h0 w0 g lb act w m T=>?_
   have hv:=zj6 T h1;rw[hq]at hv;have hv:RV g (.fp cs) (act.eval x):=hv;generalize hgx:act.eval x=vx at hv
   cases hv with
   |fp f h3 h4=>
    rename_i b off;obtain⟨v,h5,_,y',rfl,h6⟩:=fin (us:=(List.range cs.length).map f) hgx (fun j u hj=>by
      rw[List.getElem?_map]at hj;by_cases hl:j<cs.length
      ·rw[List.getElem?_range hl]at hj
       simp at hj;subst hj;obtain⟨c,t',fr,h7,h8⟩:=m.sat.fz _ _ _ (h3 j cs[j] (by simp[hl]))
       rw[zbh h7];exact h8
      ·rw[List.getElem?_eq_none (by simp;omega)]at hj;cases hj)
     ⟨by simp,fun i a v ha hv=>by
      have hl:i<cs.length:=(List.getElem?_eq_some_iff.1 ha).1;rw[List.getElem?_map,List.getElem?_range hl]at hv;simp at hv;subst hv;exact h4 i a ha⟩ hrd
    exact⟨v,h5,h6,fun k off e=>by cases e⟩
  ·cases he
 ·rename_i id off hq
  split at he
  ·rename_i cs hh
   split at he
   ·rename_i y hrd
    cases he;refine .pure fun g0 h0 w0 g lb act w m T=>?_
    have hv:=zj6 T h1;rw[hq]at hv;have hv:RV g (.ptr id off) (act.eval x):=hv;generalize hgx:act.eval x=vx at hv
    cases hv with
    |ptr hb=>
     obtain⟨b,c,t',h2,h3,h4⟩:=m.sat.obj _ _ hh;rw[hb]at h2;cases h2;obtain⟨v,h5,_,y',rfl,h6⟩:=fin (us:=c.toList.drop off) hgx (fun j u hj=>by
      rw[zbh h3];rw[List.getElem?_drop]at hj;simpa using hj) (h4.drop off) hrd
     exact⟨v,h5,h6,fun k off e=>by cases e⟩
   ·cases he
  ·cases he
 ·rename_i id ver sz i off hq
  split at he
  ·rename_i v0 sz' es hh
   split at he
   ·rename_i hvs
    obtain⟨rfl,rfl⟩:=hvs
    split at he
    ·rename_i e hes
     split at he
     ·rename_i y hrd
      cases he;refine .pure fun g0 h0 w0 g lb act w m T=>?_
      have hv:=zj6 T h1;rw[hq]at hv;obtain⟨b,n0,c0,hd,hp⟩:=hv;obtain⟨c,t',l1,l2,h3,_,_,_,_,_,hz,hl,h9,_⟩:=znb m.sat hh hd;have hr:RVs g e ((l1.drop (i*sz')).take e.length):=by
       have hfl:=za4 hz;have he':e.length=sz':=hz e (List.mem_of_getElem? hes);have hi:i<es.length:=(List.getElem?_eq_some_iff.1 hes).1;have hle:i*sz' + sz' <= es.length*sz':=by rw[<- Nat.succ_mul];exact Nat.mul_le_mul_right _ hi
       refine⟨by rw[List.length_take,List.length_drop,<- h9.1,hfl];omega,fun j a v ha hv=>?_⟩
       rw[List.getElem?_take]at hv
       split at hv
       ·rw[List.getElem?_drop]at hv
        exact h9.2 _ a v (znc hz hes ha) hv
       ·cases hv
      obtain⟨v,h5,_,y',rfl,h6⟩:=fin (us:=((l1.drop (i*sz')).take e.length).drop off) hp (fun j u hj=>by
       rw[zbh h3];rw[List.getElem?_drop,List.getElem?_take]at hj
       split at hj
       ·rw[List.getElem?_drop]at hj
        have:c.toList[i*sz' + off+j]?=some u:=by
         rw[hl,List.getElem?_append_left (by have:=(List.getElem?_eq_some_iff.1 hj).1;omega),Nat.add_assoc];exact hj
        simpa using this
       ·cases hj) (hr.drop off) hrd
      exact⟨v,h5,h6,fun k off e=>by cases e⟩
     ·cases he
    ·cases he
   ·cases he
  ·cases he
 ·cases he
theorem ok_ldl{o:Oper}{t:TypeId}{n:Nat}{ag:Bool}{x:Operand}{ax:AX}(ho:o.op = .load t x)(hn:zj0 P t=some n)(hag:z0o P t=some ag)(h1:cx x=some ax){σ σ1:St}{z:TV}{d:Nat}(he:evo d (.ldl n ag ax) σ=some (z,σ1)):OkAt P o z σ σ1:=by
 refine z8e ho hn hag h1 (d:=d) ?_;simp only[evo]at he ⊢
 split at he
 ·rename_i k off hx
  rw[hx];exact he
 ·cases he
end Go.Ab
set_option linter.unusedVariables false
set_option linter.unusedSimpArgs false
namespace Go.Ab
open Go.RowKit
variable {P : Program}
theorem ok_fa{o:Oper}{s:TypeId}{fs:Array Field}{f:Nat}{fd:Field}{n:Nat}{x:Operand}{ax:AX}(ho:o.op = .fieldAddr s x f)(hs:P.underlying s=some (.struct fs))(hf:fs[f]?=some fd)(hn:zj0 P fd.type=some n)(hn0:n≠0)
  (h1:cx x=some ax) {σ σ1:St} {z:TV} {d:Nat} (he:evo d (.fa fd.offset ax) σ=some (z,σ1)):OkAt P o z σ σ1:=by
 have run:∀{act:Act} {w:World} {b off:Nat},act.eval x = .pointer (some ⟨b,off,none⟩)->(execOp act.eval o).run P w = .ok (.value (.pointer (some ⟨b,off+fd.offset,none⟩))) w:=by
  intro act w b off hp;refine zbb (s:=Instr.fieldAt s (act.eval x) f) (by simp only[execOp,ho]) ?_
  rw[hp];simp[Instr.fieldAt,run_underlying hs,hf,Instr.sureAddr,fieldPlace,zct hn,hn0,Addr.add_lit]
 simp only[evo]at he
 split at he
 ·rename_i k off hq
  cases he;refine .pure fun g0 h0 w0 g lb act w m T=>?_
  have hv:=zj6 T h1;rw[hq]at hv;exact⟨_,run hv,rfl,fun k' off' e=>by injection e with e1 _;subst e1;exact z03 T hq⟩
 ·rename_i cs hq
  cases he;refine .pure fun g0 h0 w0 g lb act w m T=>?_
  have hv:=zj6 T h1;rw[hq]at hv;obtain⟨b,off,hp,f',h3,h4⟩:=hv;refine⟨_,run hp,⟨b,off+fd.offset,rfl,fun k=>f' (fd.offset+k),fun k a ha=>?_,fun k a ha=>?_⟩,fun k off e=>by cases e⟩
  ·rw[List.getElem?_drop]at ha;rw[Nat.add_assoc];exact h3 _ a ha
  ·rw[List.getElem?_drop]at ha;exact h4 _ a ha
 ·rename_i cs hq
  cases he;refine zdk fun g0 h0 w0 g lb act w m T=>?_
  have hv:=zj6 T h1;rw[hq]at hv;have hv:RV g (.fp cs) (act.eval x):=hv;generalize hgx:act.eval x=vx at hv
  cases hv with
  |fp f' h3 h4=>
   refine⟨_,run hgx,.fp (fun k=>f' (fd.offset+k)) (fun k a ha=>?_) (fun k a ha=>?_)⟩
   ·rw[List.getElem?_drop]at ha;rw[Nat.add_assoc];exact h3 _ a ha
   ·rw[List.getElem?_drop]at ha;exact h4 _ a ha
 ·rename_i id off hq
  cases he;refine zdk fun g0 h0 w0 g lb act w m T=>?_
  have hv:=zj6 T h1;rw[hq]at hv;have hv:RV g (.ptr id off) (act.eval x):=hv;generalize hgx:act.eval x=vx at hv
  cases hv with
  |ptr hb=>exact⟨_,run hgx,.ptr hb⟩
 ·rename_i id ver sz i off hq
  cases he;refine .pure fun g0 h0 w0 g lb act w m T=>?_
  have hv:=zj6 T h1;rw[hq]at hv;obtain⟨b,n0,c0,hd,hp⟩:=hv;exact⟨_,run hp,⟨b,n0,c0,hd,by rw[Nat.add_assoc]⟩,fun k off e=>by cases e⟩
 ·cases he
theorem yge{g:G}{t:TypeId}{n:Nat}{ag:Bool}(hn:zj0 P t=some n)(hag:z0o P t=some ag)(w:World){cs:List AV}{vs:Array Value}(off:Nat)(hr:RVs g cs vs.toList){x:TV}(hrd:rd n ag (cs.drop off)=some x):
  ∃v y,(part t vs off).run P w = .ok v w/\x = .v y/\RV g y v:=by
 rcases rd_ok hrd (hr.drop off) with⟨rfl,h1,h2,h3⟩|⟨rfl,a,u,r,h1,h2,h3,h4⟩
 ·have e:vs.extract off (off+n)=((vs.toList.drop off).take n).toArray:=by
   apply Array.ext';simp[Array.toList_extract,List.take_drop,List.extract_eq_take_drop]
  refine⟨_,_,?_,h2,h3⟩;simp[part,zq7 hag,zct hn,e]
 ·refine⟨u,a,?_,h3,h4⟩
  have:vs[off]?=some u:=by simpa [List.getElem?_drop] using h2
  simp[part,zq7 hag,this]
theorem ok_fld{o:Oper}{t:TypeId}{fs:Array Field}{f:Nat}{fd:Field}{n:Nat}{ag:Bool}{x:Operand}{ax:AX}(ho:o.op = .field t x f)(hs:P.underlying t=some (.struct fs))(hf:fs[f]?=some fd)(hn:zj0 P fd.type=some n)(hag:z0o P fd.type=some ag)
  (h1:cx x=some ax) {σ σ1:St} {z:TV} {d:Nat} (he:evo d (.fld fd.offset n ag ax) σ=some (z,σ1)):OkAt P o z σ σ1:=by
 simp only[evo]at he
 split at he
 ·rename_i cs e1
  split at he
  ·rename_i y hrd
   cases he;refine .pure fun g0 h0 w0 g lb act w m T=>?_
   have hx:=zii T h1 e1;generalize hgx:act.eval x=vx at hx
   cases hx with
   |agg hl hh=>
    rename_i vs;obtain⟨v,y',h3,rfl,h4⟩:=yge hn hag w (vs:=vs) fd.offset (RV.agg_iff.1 (.agg hl hh)) hrd;refine⟨v,zbb (s:=Instr.field t (.agg vs) f) (by simp only[execOp,ho,hgx]) ?_,h4,fun k off e=>by cases e⟩
    simp[Instr.field,run_underlying hs,hf,asAgg,h3]
  ·cases he
 ·cases he
theorem ok_ia{o:Oper}{t e:TypeId}{sz:Nat}{x i:Operand}{ax ai:AX}(ho:o.op = .indexAddr t x i)(ht:P.underlying t=some (.slice e))(hsz:zj0 P e=some sz)(h1:cx x=some ax)(h2:cx i=some ai){σ σ1:St}{z:TV}{d:Nat}
  (he:evo d (.ia sz ax ai) σ=some (z,σ1)):OkAt P o z σ σ1:=by
 have run:∀{act:Act} {w:World} {b off n c:Nat} {k:IntKind} {m:Int},act.eval x = .slice (some ⟨b,off,none⟩) n c->act.eval i = .int k m->0<=m->m.toNat<n ->
   (execOp act.eval o).run P w = .ok (.value (.pointer (some ⟨b,off+m.toNat*sz,none⟩))) w:=by
  intro act w b off n c k m hx hi h0 hlt;refine zbb (s:=Instr.indexAt t (act.eval x) (act.eval i)) (by simp only[execOp,ho]) ?_
  rw[hx,hi];have:0<=m/\m<(n:Int):=⟨h0,by omega⟩
  simp[Instr.indexAt,run_underlying ht,asIntOf,this,zct hsz,Addr.add_lit]
 simp only[evo]at he
 split at he
 ·rename_i k m e2
  split at he
  ·rename_i es e1
   split at he
   ·rename_i hm
    split at he
    ·rename_i el hes
     split at he
     ·rename_i hel
      cases he;refine .pure fun g0 h0 w0 g lb act w mm T=>?_
      have hx:=zii T h1 e1;have hi:=zii T h2 e2;generalize hgx:act.eval x=vx at hx;generalize hgi:act.eval i=vi at hi;cases hi;have hlt:m.toNat<es.length:=(List.getElem?_eq_some_iff.1 hes).1
      cases hx with
      |sl0 A c=>simp at hlt
      |sl f hl hn hnc hz hoo hf hr=>
       rename_i b off n c sz';have hs:sz' = sz:=by rw[<- hel];exact (hz el (List.mem_of_getElem? hes)).symm
       subst hs;refine⟨_,run hgx hgi hm (by omega),⟨b,off+m.toNat*sz',rfl,fun j=>f (m.toNat*sz' + j),fun j a ha=>?_,fun j a ha=>?_⟩,fun k off e=>by cases e⟩
       ·rw[Nat.add_assoc];exact hf _ a (znc hz hes ha)
       ·exact hr _ a (znc hz hes ha)
     ·cases he
    ·cases he
   ·cases he
  ·rename_i id ver e1
   split at he
   ·rename_i v0 sz' es hh
    split at he
    ·rename_i hc
     obtain⟨rfl,rfl,h0,hlt⟩:=hc;cases he;refine .pure fun g0 h0' w0 g lb act w mm T=>?_
     have hx:=zii T h1 e1;have hi:=zii T h2 e2;generalize hgx:act.eval x=vx at hx;generalize hgi:act.eval i=vi at hi;cases hi
     cases hx with
     |ol hd=>
      rename_i A n c;rcases mm.sat.obj _ _ hh with⟨h3,_⟩|⟨b,cap,c',t',l1,l2,h3,_⟩
      ·subst h3;simp at hlt
      ·rw[hd]at h3;cases h3
       exact⟨_,run hgx hgi h0 hlt,⟨b,_,_,hd,by simp⟩,fun k off e=>by cases e⟩
    ·cases he
   ·cases he
  ·rename_i id ver sz2 lo m2 e1
   split at he
   ·rename_i v0 sz' es hh
    split at he
    ·rename_i hc
     obtain⟨rfl,rfl,rfl,h0,hlt,hle⟩:=hc;cases he;refine .pure fun g0 h0' w0 g lb act w mm T=>?_
     have hx:=zii T h1 e1;have hi:=zii T h2 e2;generalize hgx:act.eval x=vx at hx;generalize hgi:act.eval i=vi at hi;cases hi
     cases hx with
     |ov hd ha hn=>
      rcases ha with ha|⟨b,rfl,rfl⟩
      ·omega
      ·exact⟨_,run hgx hgi h0 hlt,⟨b,_,_,hd,by simp[Nat.add_mul]⟩,fun k off e=>by cases e⟩
    ·cases he
   ·cases he
  ·cases he
 ·cases he
theorem z65{k:IntKind}:∀{es:List (AV×AV)},zmh k es=true->∀{i:Nat} {p:AV×AV},es[i]?=some p->∃m,p.1 = .int k m
 |[],_,i,p,h=>by simp at h
 |(a,v)::r,h,i,p,hp=>by
  cases a <;> simp[zmh]at h
  rename_i k' m;obtain⟨rfl,h⟩:=h
  cases i with
  |zero=>simp at hp;subst hp;exact⟨m,rfl⟩
  |succ i=>exact z65 h (by simpa using hp)
theorem zsv{k:IntKind}{n:Int}:∀{es:List (AV×AV)},zmh k es=true->zgq n es=some none->∀{i:Nat} {p:AV×AV},es[i]?=some p->p.1 ≠ .int k n
 |[],_,_,i,p,h=>by simp at h
 |(a,v)::r,h,hf,i,p,hp=>by
  cases a <;> simp[zmh]at h
  rename_i k' m;obtain⟨rfl,h⟩:=h;simp only[zgq]at hf
  split at hf
  ·cases hf
  ·rename_i hne
   cases i with
   |zero=>simp at hp;subst hp;intro e;injection e with _ e;exact hne e.symm
   |succ i=>exact zsv h hf (by simpa using hp)
theorem zxr{k:IntKind}{n:Int}{v:AV}:∀{es:List (AV×AV)},zmh k es=true->zgq n es=some (some v)->∃i:Nat,es[i]?=some (.int k n,v)
 |[],_,hf=>by simp[zgq]at hf
 |(a,u)::r,h,hf=>by
  cases a <;> simp[zmh]at h
  rename_i k' m;obtain⟨rfl,h⟩:=h;simp only[zgq]at hf
  split at hf
  ·rename_i e;subst e;cases hf;exact⟨0,rfl⟩
  ·obtain⟨i,hi⟩:=zxr h hf;exact⟨i+1,by simpa using hi⟩
theorem ztd{ik k:IntKind}{n:Int}:∀{ms:List MapEntry} (i:Nat),(∀(j:Nat) (e:MapEntry),ms[j]?=some e->∃m,e.key = .int k m/\m≠n)->Instr.findNow (.int ik) (.int k n) ms i=some none
 |[],i,_=>rfl
 |e::ms,i,h=>by
  obtain⟨m,hm,hne⟩:=h 0 e (by simp)
  have hb:(n == m)=false:=by simpa using Ne.symm hne
  simp only[Instr.findNow,Instr.sameNow,hm,if_true,hb];exact ztd (i+1) fun j e he=>h (j+1) e (by simpa using he)
theorem ztc{ik k:IntKind}{n:Int}:∀{ms:List MapEntry} (i j0:Nat) {e0:MapEntry},(∀(j:Nat) (e:MapEntry),ms[j]?=some e->∃m,e.key = .int k m/\(m=n->j=j0))->ms[j0]?=some e0->e0.key = .int k n->Instr.findNow (.int ik) (.int k n) ms i=some (some (i+j0,e0.val))
 |[],i,j0,e0,_,h0,_=>by simp at h0
 |e::ms,i,j0,e0,h,h0,h1=>by
  cases j0 with
  |zero=>
   simp at h0;subst h0;simp[Instr.findNow,Instr.sameNow,h1]
  |succ j0=>
   obtain⟨m,hm,hne⟩:=h 0 e (by simp)
   have hb:(n == m)=false:=by
    rw[beq_eq_false_iff_ne];rintro rfl;have:=hne rfl;omega
   simp only[Instr.findNow,Instr.sameNow,hm,if_true,hb];rw[ztc (i+1) j0 (fun j e he=>by
    obtain⟨m,hm,hh⟩:=h (j+1) e (by simpa using he)
    exact⟨m,hm,fun e=>by have:=hh e;omega⟩) (by simpa using h0) h1]
   congr 3;omega
theorem Mpd.back{es:List (AV×AV)}{ms:Array MapEntry}{f:Nat->Nat}(M:Mpd es ms f){j:Nat}{e:MapEntry}(h:ms[j]?=some e):∃i p,f i=j/\es[i]?=some p:=by
 have hj:j<es.length:=by rw[M.len];exact (Array.getElem?_eq_some_iff.1 h).1
 obtain⟨i,hi,hf⟩:=M.sur j hj;exact⟨i,es[i],hf,by simp[hi]⟩
theorem Mpd.fore{es:List (AV×AV)}{ms:Array MapEntry}{f:Nat->Nat}(M:Mpd es ms f){i:Nat}{p:AV×AV}(h:es[i]?=some p):∃e,ms[f i]?=some e:=by
 have hi:=M.rng i (List.getElem?_eq_some_iff.1 h).1;rw[M.len]at hi;exact⟨ms[f i],by simp[hi]⟩
theorem zy5{g:G}{ik k:IntKind}{n:Int}{es:List (AV×AV)}{ms:Array MapEntry}{f:Nat->Nat}(M:Mpd es ms f)(hk:∀(j:Nat) (p:AV×AV) (e:MapEntry),es[j]?=some p->ms[f j]?=some e->RV g p.1 e.key)
  (hki:zmh k es=true) {r:Option AV} (hf:zgq n es=some r):match r with
  |none=>Instr.findNow (.int ik) (.int k n) ms.toList 0=some none
  |some v=>∃j e p,Instr.findNow (.int ik) (.int k n) ms.toList 0=some (some (f j,e.val))/\ms[f j]?=some e/\es[j]?=some p/\p.2=v:=by
 have key:∀{i:Nat} {p:AV×AV} {e:MapEntry},es[i]?=some p->ms[f i]?=some e->∃m,p.1 = .int k m/\e.key = .int k m:=by
  intro i p e hp he;obtain⟨m,hm⟩:=z65 hki hp;have:=hk i p e hp he;rw[hm]at this;generalize e.key=ke at this;cases this;exact⟨m,hm,rfl⟩
 cases r with
 |none=>
  refine ztd 0 fun j e he=>?_
  have he:ms[j]?=some e:=by simpa using he
  obtain⟨i,p,rfl,hp⟩:=M.back he;obtain⟨m,h1,h2⟩:=key hp he;exact⟨m,h2,fun e=>zsv hki hf hp (by rw[h1,e])⟩
 |some v=>
  obtain⟨i,hi⟩:=zxr hki hf;obtain⟨e,he⟩:=M.fore hi;obtain⟨m,h1,h2⟩:=key hi he;injection h1 with _ h1;subst h1;refine⟨i,e,_,?_,he,hi,rfl⟩;have:=ztc (ik:=ik) (k:=k) (n:=n) (ms:=ms.toList) 0 (f i) (e0:=e) (fun j e' he'=>by
   have he':ms[j]?=some e':=by simpa using he'
   obtain⟨i',p',rfl,hp'⟩:=M.back he';obtain⟨m,h3,h4⟩:=key hp' he';refine⟨m,h4,fun e=>?_⟩
   rw[M.dist i' i p' _ hp' hi (by rw[h3,e])]) (by simpa using he) h2
  rwa [Nat.zero_add]at this
theorem zqg{w:World}{b:Nat}{ms:Array MapEntry}{ck:Nat}(hb:w.heap[b]?=some (.map ms ck)):(getObj b).run P w = .ok (.map ms ck) w:=by simp[getObj,Sem.run,hb]
theorem zjk{kt:TypeId}{ik:IntKind}(hk:P.underlying kt=some (.int ik))(b:Bool)(k:IntKind)(n:Int)(w:World):(Instr.checkKey b 10000 kt (.int k n)).run P w = .ok () w:=by
 have key:∀d:Nat,(Instr.checkKey b (d+1) kt (.int k n)).run P w = .ok () w:=fun d=>by simp[Instr.checkKey,run_underlying hk]
 exact key 9999
theorem ok_lk{o:Oper}{t kt et:TypeId}{ik:IntKind}{ok:Bool}{zv:AV}{x i:Operand}{ax ai:AX}(ho:o.op = .lookup t x i ok)(ht:P.underlying t=some (.map kt et))(hk:P.underlying kt=some (.int ik))
  {inf:TypeInfo} {zval:Value} (hi:P.info? et=some inf) (hz:inf.zero=some zval) (hzv:∀g,RV g zv zval) (h1:cx x=some ax) (h2:cx i=some ai) {σ σ1:St} {z:TV} {d:Nat}
  (he:evo d (.lk ok zv ax ai) σ=some (z,σ1)):OkAt P o z σ σ1:=by
 simp only[evo]at he
 split at he
 ·rename_i k n e2
  split at he
  ·rename_i es hes
   split at he
   ·rename_i hki
    have main:∀{g0 h0 w0 g lb} {act:Act} {w:World},Mid g0 h0 w0 g lb σ.ls σ.h w->Tm g lb σ.ls σ.t act.tmps->∃(ms:Array MapEntry) (ck:Nat) (b:Nat),act.eval x = .map (some b)/\act.eval i = .int k n/\w.heap[b]?=some (.map ms ck)/\∃f,Mpd es ms f /\
      (∀(j:Nat) (p:AV×AV) (e:MapEntry),es[j]?=some p->ms[f j]?=some e->RV g p.1 e.key)/\(∀(j:Nat) (p:AV×AV) (e:MapEntry),es[j]?=some p->ms[f j]?=some e->RV g p.2 e.val):=by
     intro g0 h0 w0 g lb act w mm T;have hi:=zii T h2 e2;generalize hgi:act.eval i=vi at hi;cases hi
     split at hes
     ·rename_i es' e1
      cases hes;have hx:=zii T h1 e1
      generalize hgx:act.eval x=vx at hx
      cases hx with
      |fmap hb hl hk hv=>
       obtain⟨ck,h3⟩:=mm.sat.fm _ _ hb;exact⟨_,ck,_,rfl,rfl,h3,_,hl,hk,hv⟩
     ·rename_i id e1
      split at hes
      ·rename_i es' hh
       cases hes;have hx:=zii T h1 e1
       generalize hgx:act.eval x=vx at hx
       cases hx with
       |mp hb=>
        obtain⟨b',m',ck,f,h3,h4,h5,h6,h7⟩:=mm.sat.obj _ _ hh;rw[hb]at h3;cases h3;exact⟨_,ck,_,rfl,rfl,h4,_,h5,h6,h7⟩
      ·cases hes
     ·cases hes
    have hzr:∀w:World,(zeroValue et).run P w = .ok zval w:=fun w=>by simp[zeroValue,typeInfo,hi,hz]
    split at he
    ·rename_i v hf
     cases he;refine zdk fun g0 h0 w0 g lb act w mm T=>?_
     obtain⟨ms,ck,b,hgx,hgi,hb,f,hl,hks,hvs⟩:=main mm T;obtain⟨j,e,p,h3,h4,h5,rfl⟩:=zy5 (ik:=ik) hl hks hki hf;have hv:RV g p.2 e.val:=hvs j p e h5 h4;have hfk:(Instr.findKey kt (.int k n) ms.toList).run P w = .ok (some (f j,e.val)) w:=by simp[Instr.findKey,run_underlying hk,h3]
     cases ok
     ·refine⟨e.val,zbb (s:=Instr.lookup t (.map (some b)) (.int k n) false) (by simp only[execOp,ho,hgx,hgi]) ?_,hv⟩
      simp[Instr.lookup,run_underlying ht,zqg hb,zjk hk,hfk]
     ·refine⟨.tuple #[e.val,.bool true],zbb (s:=Instr.lookup t (.map (some b)) (.int k n) true) (by simp only[execOp,ho,hgx,hgi]) ?_,RV.tup_iff.2 (.cons hv (.cons (.bool _) (.nil g)))⟩
      simp[Instr.lookup,run_underlying ht,zqg hb,zjk hk,hfk]
    ·rename_i hf
     cases he;refine zdk fun g0 h0 w0 g lb act w mm T=>?_
     obtain⟨ms,ck,b,hgx,hgi,hb,f,hl,hks,hvs⟩:=main mm T;have h3:=zy5 (ik:=ik) hl hks hki hf;dsimp only at h3;have hfk:(Instr.findKey kt (.int k n) ms.toList).run P w = .ok none w:=by simp[Instr.findKey,run_underlying hk,h3]
     cases ok
     ·refine⟨zval,zbb (s:=Instr.lookup t (.map (some b)) (.int k n) false) (by simp only[execOp,ho,hgx,hgi]) ?_,hzv g⟩
      simp[Instr.lookup,run_underlying ht,zqg hb,zjk hk,hfk,hzr]
     ·refine⟨.tuple #[zval,.bool false],zbb (s:=Instr.lookup t (.map (some b)) (.int k n) true) (by simp only[execOp,ho,hgx,hgi]) ?_,RV.tup_iff.2 (.cons (hzv g) (.cons (.bool _) (.nil g)))⟩
      simp[Instr.lookup,run_underlying ht,zqg hb,zjk hk,hfk,hzr]
    ·cases he
   ·cases he
  ·cases he
 ·cases he
theorem ok_ext{o:Oper}{x:Operand}{ax:AX}{i:Nat}(ho:o.op = .extract x i)(h1:cx x=some ax){σ σ1:St}{z:TV}{d:Nat}(he:evo d (.ext ax i) σ=some (z,σ1)):OkAt P o z σ σ1:=by
 simp only[evo]at he
 split at he
 ·rename_i vs e1
  split at he
  ·rename_i a hva
   cases he;refine zdk fun g0 h0 w0 g lb act w m T=>?_
   have hx:=zii T h1 e1;generalize hgx:act.eval x=vx at hx
   cases hx with
   |tup hl hh=>
    rename_i us;have hi:i<us.size:=by have:=(List.getElem?_eq_some_iff.1 hva).1;omega
    have hu:us[i]?=some us[i]:=by simp[hi]
    exact⟨us[i],by simp[execOp,ho,hgx,Instr.extract,hi],hh i a _ hva hu⟩
  ·cases he
 ·cases he
theorem ok_mkf{o:Oper}{fn:Fn}{first cap:Array Operand}{a1 a2:List AX}(ho:o.op = .makeFunc fn first cap)(h1:cxs first.toList=some a1)(h2:cxs cap.toList=some a2){σ σ1:St}{z:TV}{d:Nat}(he:evo d (.mkf fn a1 a2) σ=some (z,σ1)):OkAt P o z σ σ1:=by
 simp only[evo]at he
 split at he
 ·rename_i l1 l2 e1 e2
  cases he;refine zdk fun g0 h0 w0 g lb act w m T=>?_
  have hx:=z7o T h1 e1;have hy:=z7o T h2 e2;refine⟨.func fn (first.map act.eval) (cap.map act.eval),by simp[execOp,ho,Instr.makeFunc],.fn (by simpa using hx.1) (by simpa using hy.1) (fun i a v ha hv=>hx.2 i a v ha (by simpa using hv)) (fun i a v ha hv=>hy.2 i a v ha (by simpa using hv))⟩
 ·cases he
theorem ok_ifc{o:Oper}{t:TypeId}{x:Operand}{ax:AX}(ho:o.op = .makeInterface t x)(ht:P.concrete t=true)(h1:cx x=some ax){σ σ1:St}{z:TV}{d:Nat}(he:evo d (.ifc t ax) σ=some (z,σ1)):OkAt P o z σ σ1:=by
 simp only[evo]at he
 split at he
 ·rename_i a e1
  cases he;refine zdk fun g0 h0 w0 g lb act w m T=>?_
  have hx:=zii T h1 e1;exact⟨.iface t (act.eval x),zbb (s:=Instr.makeInterface t (act.eval x)) (by simp only[execOp,ho]) (run_makeInterface w t _ ht),.iface hx⟩
 ·cases he
end Go.Ab
set_option linter.unusedVariables false
set_option linter.unusedSimpArgs false
namespace Go.Ab
open Go.RowKit
variable {P : Program}
theorem zkd{α:Type}:∀(as1 cs:List α) (off:Nat),(over cs off as1).length=cs.length
 |[],cs,off=>rfl
 |a::as1,cs,off=>by simp only[over];rw[zkd as1];simp
theorem ygc{α:Type}(l:List α)(k:Nat)(v:α)(rest:List α)(hk:k+(rest.length+1)<=l.length):
  (l.set k v).take (k+1)++rest++(l.set k v).drop (k+1+rest.length)=l.take k++(v::rest)++l.drop (k+(rest.length+1)):=by
 have h1:(l.set k v).take (k+1)=l.take k++[v]:=by
  rw[List.take_add_one,List.take_set_of_le (Nat.le_refl _)];simp[show k<l.length by omega]
 have h2:(l.set k v).drop (k+1+rest.length)=l.drop (k+(rest.length+1)):=by
  rw[List.drop_set_of_lt (by omega)]
  congr 1
  omega
 rw[h1,h2];simp
theorem zg9{α:Type}:∀(as1 cs:List α) (off:Nat),off+as1.length<=cs.length->over cs off as1=cs.take off++as1++cs.drop (off+as1.length)
 |[],cs,off,_=>by simp[over]
 |a::as1,cs,off,h=>by
  simp only[over];rw[zg9 as1 (cs.set off a) (off+1) (by simp at h ⊢;omega)]
  exact ygc cs off a as1 (by simpa using h)
theorem RVs.over_{g:G}:∀{as1:List AV} {us:List Value},RVs g as1 us->∀{cs:List AV} {vs:List Value},RVs g cs vs->∀(off:Nat),RVs g (over cs off as1) (over vs off us)
 |[],us,h,cs,vs,k,off=>by rw[h.inv_nil];exact k
 |a::as1,us,h,cs,vs,k,off=>by
  obtain⟨u,us',rfl,h1,h2⟩:=h.inv;exact RVs.over_ h2 (k.set off h1) (off+1)
theorem zxn:∀(l:List Value) (k off:Nat) (cells:Array Value),((l.zipIdx k).foldl (fun (cs:Array Value) (x:Value×Nat)=>cs.setIfInBounds (off+x.2) x.1) cells).toList=over cells.toList (off+k) l
 |[],k,off,cells=>rfl
 |v::l,k,off,cells=>by
  rw[List.zipIdx_cons,List.foldl_cons,zxn l (k+1) off];simp[over,Nat.add_assoc]
theorem z2b(place:Nat->Option (Nat×Nat))(cells:Array Value)(i off size:Nat)(v:Value)(rest:List (Nat×Value))(hp:place i=some (off,size))(hs:v.cells.size=size)(hf:off+size<=cells.size):
  Instr.fill place cells ((i,v)::rest)=Instr.fill place (over cells.toList off v.cells.toList).toArray rest:=by
 have h1:¬ (cells.size<off+v.cells.size):=by omega
 have e:Array.foldl (fun (cs:Array Value) (x:Value×Nat)=>cs.setIfInBounds (off+x.2) x.1) cells v.cells.zipIdx=(over cells.toList off v.cells.toList).toArray:=by
  apply Array.ext';rw[<- Array.foldl_toList,Array.toList_zipIdx,zxn];simp
 simp only[Instr.fill,hp];rw[if_neg (by simp[hs];omega)]
 exact congrArg (fun x=>Instr.fill place x rest) e
theorem znn{sz:Nat}{a:AV}{cs:List AV}(h:a.cellsN sz=some cs):cs=a.cells/\a.cells.length=sz/\a.cells.all AV.one=true:=by
 unfold AV.cellsN at h
 split at h
 ·split at h
  ·cases h;exact⟨rfl,‹_›,‹_›⟩
  ·cases h
 ·cases h
theorem zp0{g:G}{a:AV}{v:Value}(h:RV g a v)(h1:a.cells.all AV.one=true):RVs g a.cells v.cells.toList/\∀u∈v.cells.toList,u.oneCell' = true:=by
 have single:a.cells=[a]->RVs g a.cells v.cells.toList/\∀u∈v.cells.toList,u.oneCell' = true:=by
  intro e;rw[e]at h1;have ho:=h.oneCell (by simpa using h1)
  have hc:v.cells = #[v]:=by cases v <;> first|rfl|cases ho
  rw[e,hc];exact⟨.cons h (.nil g),fun u hu=>by simp at hu;subst hu;exact ho⟩
 cases a <;> first
  |exact single rfl
  |(rename_i cs
    cases h with
    |agg hl hh=>
     rename_i vs;have hr:=RV.agg_iff.1 (.agg hl hh);refine⟨hr,fun u hu=>?_⟩
     obtain⟨i,hi⟩:=List.getElem?_of_mem hu;have hi2:i<cs.length:=by have:=(List.getElem?_eq_some_iff.1 hi).1;have:=hr.1;simp[Value.cells]at *;omega
     exact (hr.2 i cs[i] u (by simp[hi2]) hi).oneCell (List.all_eq_true.1 h1 _ (List.getElem_mem hi2)))
theorem yfu{v:Value}{t:TypeId}{a:AV}(h:yad P v t=some a)(g:G):RV g a v:=by
 unfold yad at h
 split at h
 ·split at h
  ·rename_i e _
   cases hs:zj0 P e with
   |none=>rw[hs]at h;cases h
   |some n=>rw[hs]at h;cases h;exact .nils _
  ·cases h
 ·exact zvz h g
theorem yac{v:Value}{t:TypeId}{a:AV}(h:yad P v t=some a):a.one=true:=by
 unfold yad at h
 split at h
 ·split at h
  ·rename_i e _
   cases hs:zj0 P e with
   |none=>rw[hs]at h;cases h
   |some n=>rw[hs]at h;cases h;rfl
  ·cases h
 ·exact z86 h
theorem zd2{t:TypeId}{z:List AV}(h:zet P t=some z):∃i v,P.info? t=some i/\i.zero=some v/\(∀g,RVs g z v.cells.toList)/\(∀a∈z,a.one=true):=by
 unfold zet at h
 split at h
 ·rename_i i hi
  split at h
  ·rename_i v hv
   split at h
   ·rename_i ts _
    obtain⟨h1,h2⟩:=z00 h;refine⟨i,v,hi,hv,fun g=>⟨h1,fun k a u ha hu=>?_⟩,fun a ha=>?_⟩
    ·obtain⟨b,hb⟩:=h2 k u a hu ha
     exact yfu hb g
    ·obtain⟨k,hk⟩:=List.getElem?_of_mem ha
     have hl:k<v.cells.toList.length:=by rw[<- h1];exact (List.getElem?_eq_some_iff.1 hk).1
     obtain⟨b,hb⟩:=h2 k v.cells.toList[k] a (by simp at hl;simp[hl]) hk
     exact yac hb
   ·cases h
  ·cases h
 ·cases h
theorem zl3{g:G}:∀{z:List AV} {vs:List Value},RVs g z vs->RVs g (noz z) vs
 |[],vs,h=>h
 |a::z,vs,h=>by
  obtain⟨v,vs',rfl,h1,h2⟩:=h.inv
  cases a <;> first
   |exact .cons h1 (zl3 h2)
   |(cases h1;exact .cons (.sl0 _ _) (zl3 h2))
theorem Sat.raw{g g':G}{h h':List AO}:(∀(i:Nat) (o:AO),h[i]?=some o->h'[i]?=some o)->∀(i:Nat) (o:AO) (_:o.kd≠0),h[i]?=some o->h'[i]?=some o:=fun k i o _ hi=>k i _ hi
theorem zf8{h:List AO}{o:AO}{i:Nat}{x:AO}(hx:h[i]?=some x):(h++[o])[i]?=some x:=by
 rw[List.getElem?_append_left (List.getElem?_eq_some_iff.1 hx).1];exact hx
theorem Sat.pushNil{g:G}{h:List AO}{w:World}(s:Sat g h w)(sz:Nat):
  Sat (g.addHd h.length 0 (none,0,0)) (h++[.lst 0 sz []]) w/\Ev g h w (g.addHd h.length 0 (none,0,0)) (h++[.lst 0 sz []]) w/\RV (g.addHd h.length 0 (none,0,0)) (.ol h.length 0) (.slice none 0 0):=by
 have hp:=s.past h.length (Nat.le_refl _);have hle:=G.le_addHd (g:=g) (i:=h.length) (v:=0) (x:=(none,0,0)) (hp.2 0);have hh:(g.addHd h.length 0 (none,0,0)).hd h.length 0=some (none,0,0):=by simp[G.addHd]
 have:=s.push (g':=g.addHd h.length 0 (none,0,0)) (o:=.lst 0 sz []) (w':=w) hle rfl rfl (fun _ _=>rfl) (fun i hi=>by funext v;simp[G.addHd,hi]) (.refl w _) (.inl ⟨rfl,hh⟩)
  (fun b ⟨n,c,hb⟩=>by rw[hh]at hb;cases hb) (fun ver sz' es e v hv=>by injection e with e1 _ _;subst e1;simp[G.addHd];rw[if_neg (by omega)];exact hp.2 v)
 exact⟨this.1,this.2,.ol hh⟩
theorem zu0{w:World}:∀{z:List AV} {h h':List AO} {cs:List AV} {g:G} {vs:List Value},Sat g h w->RVs g z vs->ztq z h=(cs,h') ->
  ∃g',Sat g' h' w/\Ev g h w g' h' w/\RVs g' cs vs/\(∀(i:Nat) (o:AO),h[i]?=some o->h'[i]?=some o)
 |[],h,h',cs,g,vs,s,hr,e=>by simp only[ztq]at e;cases e;exact⟨g,s,.refl _ _ _,hr,fun _ _ h=>h⟩
 |a::z,h,h',cs,g,vs,s,hr,e=>by
  obtain⟨v,vs',rfl,h1,h2⟩:=hr.inv;have plain:(∀sz,a ≠ .nils sz)->∃g',Sat g' h' w/\Ev g h w g' h' w/\RVs g' cs (v::vs')/\(∀(i:Nat) (o:AO),h[i]?=some o->h'[i]?=some o):=by
   intro hne;have e':ztq (a::z) h=(a::(ztq z h).1,(ztq z h).2):=by
    cases a <;> first|rfl|(exfalso;exact hne _ rfl)
   rw[e']at e;cases e;obtain⟨g',h3,h4,h5,h6⟩:=zu0 s h2 (show ztq z h=((ztq z h).1,(ztq z h).2) from rfl)
   exact⟨g',h3,h4,.cons (h1.mono h4.le) h5,h6⟩
  cases a <;> first
   |(refine plain (fun sz e=>?_);cases e;done)
   |skip
  rename_i sz;simp only[ztq]at e;cases e;cases h1;obtain⟨h3,h4,h5⟩:=s.pushNil sz;obtain⟨g',h6,h7,h8,h9⟩:=zu0 h3 (h2.mono h4.le) (show ztq z (h++[.lst 0 sz []])=((ztq z (h++[.lst 0 sz []])).1,(ztq z (h++[.lst 0 sz []])).2) from rfl)
  exact⟨g',h6,h4.trans h7,.cons (h5.mono h7.le) h8,fun i o hi=>h9 i o (zf8 hi)⟩
theorem zue{σ:St}{act:Act}{g:G}{lb:Nat->Nat}(T:Tm g lb σ.ls σ.t act.tmps){places:List (Nat×Nat)}:∀{ps:List (Nat×Operand)} {l:List (Nat×Nat×AX)},zn7 places ps=some l->∀{z cs:List AV} {zc:Array Value},RVs g z zc.toList->zwk σ z l=some cs ->
  ∃cells,Instr.fill (places.toArray[·]?) zc (ps.map fun p=>(p.1,act.eval p.2))=some cells/\RVs g cs cells.toList
 |[],l,h,z,cs,zc,hz,hf=>by simp[zn7,zj5]at h;subst h;simp only[zwk]at hf;cases hf;exact⟨zc,rfl,hz⟩
 |(i,x)::ps,l,h,z,cs,zc,hz,hf=>by
  unfold zn7 at h;simp only[zj5]at h
  cases hp:places[i]? with
  |none=>simp only[hp]at h;cases h
  |some q=>
   obtain⟨off,sz⟩:=q;simp only[hp]at h
   cases hx:cx x with
   |none=>simp only[hx]at h;cases h
   |some ax=>
    simp only[hx]at h
    cases hr:zn7 places ps with
    |none=>unfold zn7 at hr;simp only[hr]at h;cases h
    |some r=>
     have hr':=hr;unfold zn7 at hr';simp only[hr']at h;cases h;simp only[zwk]at hf
     cases ha:σ.a ax with
     |none=>simp only[ha]at hf;cases hf
     |some a=>
      simp only[ha]at hf
      cases hc:a.cellsN sz with
      |none=>simp only[hc]at hf;cases hf
      |some c1=>
       simp only[hc]at hf
       split at hf
       ·rename_i hle
        obtain⟨rfl,h1,h2⟩:=znn hc;obtain⟨h3,_⟩:=zp0 (zii T hx ha) h2;obtain⟨cells,h4,h5⟩:=zue T hr (zc:=(over zc.toList off (act.eval x).cells.toList).toArray) (by simpa using RVs.over_ h3 hz off) hf
        have hs:(act.eval x).cells.size=sz:=by have h6:=h3.1;rw[h1,Array.length_toList]at h6;exact h6.symm
        have hfit:off+sz<=zc.size:=by have h6:=hz.1;have h7:zc.toList.length=zc.size:=Array.length_toList;omega
        refine⟨cells,?_,h5⟩;rw[List.map_cons,z2b (off:=off) (size:=sz) (hp:=by simpa using hp) (hs:=hs) (hf:=hfit)]
        exact h4
       ·cases hf
theorem zvb{α β:Type}(f:α->Option β):∀(l:List α),l.mapM f=zj5 f l
 |[]=>rfl
 |a::l=>by
  simp only[List.mapM_cons,zj5,Option.bind_eq_bind,Option.pure_def]
  cases hf:f a with
  |none=>simp
  |some b=>
   rw[zvb f l]
   cases zj5 f l <;> simp
theorem z8f{o:Oper}{t:TypeId}{ps:Array (Nat×Operand)}{fs:Array Field}{z:List AV}{places:List (Nat×Nat)}{l:List (Nat×Nat×AX)}(ho:o.op = .build t ps)(hu:P.underlying t=some (.struct fs))(hz:zet P t=some z)
  (hp:zj5 (fun f=>(P.info? f.type).map fun i=>(f.offset,i.size)) fs.toList=some places) (hl:zn7 places ps.toList=some l) {σ:St} {act:Act} {g:G} {lb:Nat->Nat} (T:Tm g lb σ.ls σ.t act.tmps)
  {z' cs:List AV} (hzz:∀vs,RVs g z vs->RVs g z' vs) (hf:zwk σ z' l=some cs) (w:World):∃cells,(execOp act.eval o).run P w = .ok (.value (.agg cells)) w/\RVs g cs cells.toList:=by
 obtain⟨i,v,h1,h2,h3,_⟩:=zd2 hz;obtain⟨cells,h4,h5⟩:=zue T hl (zc:=v.cells) (hzz _ (h3 g)) hf;refine⟨cells,zbb (s:=Instr.build t (ps.map fun (i,x)=>(i,act.eval x))) (by simp only[execOp,ho]) (run_build w t _ cells ?_),h5⟩
 unfold Program.built;rw[h1,hu];dsimp only;rw[h2,zvb,hp];dsimp only;rw[Array.toList_map];exact h4
theorem ok_bld{o:Oper}{t:TypeId}{ps:Array (Nat×Operand)}{fs:Array Field}{z:List AV}{places:List (Nat×Nat)}{l:List (Nat×Nat×AX)}(ho:o.op = .build t ps)(hu:P.underlying t=some (.struct fs))(hz:zet P t=some z)
  (hp:zj5 (fun f=>(P.info? f.type).map fun i=>(f.offset,i.size)) fs.toList=some places) (hl:zn7 places ps.toList=some l) {σ σ1:St} {x:TV} {d:Nat} (he:evo d (.bld z l) σ=some (x,σ1)):OkAt P o x σ σ1:=by
 simp only[evo]at he
 split at he
 ·rename_i cs hf
  cases he;refine zdk fun g0 h0 w0 g lb act w m T=>?_
  obtain⟨cells,h1,h2⟩:=z8f ho hu hz hp hl T (fun vs h=>zl3 h) hf w
  exact⟨_,h1,RV.agg_iff.2 h2⟩
 ·cases he
theorem OkAt.ghost{o:Oper}{x:TV}{σ σ1:St}(ht:σ1.t=σ.t)(hls:σ1.ls=σ.ls)(hds:σ1.ds=σ.ds)
  (h:∀g (w:World),Sat g σ.h w->∃g',Sat g' σ1.h w/\Ev g σ.h w g' σ1.h w/\(∀(i:Nat) (o:AO),σ.h[i]?=some o->σ1.h[i]?=some o) /\
   ∀lb (act:Act),Tm g' lb σ.ls σ.t act.tmps->∃v,(execOp act.eval o).run P w = .ok (.value v) w/\RT g' lb x v/\(∀k off,x = .lp k off->zb5 k σ.ls≠none)):OkAt P o x σ σ1:=by
 intro g0 h0 w0 g lb act w m T;obtain⟨g',h1,h2,h3,h4⟩:=h g w m.sat;have e:Ee g lb σ.ls σ.h g' lb σ.ls σ1.h:=⟨h2.le,fun _ _=>rfl,fun _ h=>h,fun i b o hi=>h3 i _ hi⟩
 obtain⟨v,h5,h6,h7⟩:=h4 lb act (T.mono e);exact⟨v,w,g',lb,.inl h5,by rw[hls];exact m.step h1 h2,by rw[hls];exact e,h6,by rw[hls];exact h7,ht,hds⟩
theorem yjw{o:Oper}{x:Operand}{sz:Nat}(ho:o.op = .move x\/o.op = .assign x)(hx:zeo x=true){σ σ1:St}{y:TV}{d:Nat}(he:evo d (.mvO sz) σ=some (y,σ1)):OkAt P o y σ σ1:=by
 simp only[evo]at he;cases he;refine .ghost rfl rfl rfl fun g w s=>?_
 obtain⟨h1,h2,h3⟩:=s.pushNil sz;refine⟨_,h1,h2,fun i o hi=>zf8 hi,fun lb act T=>⟨.slice none 0 0,?_,h3,fun k off e=>by cases e⟩⟩
 have:act.eval x = .slice none 0 0:=by
  unfold zeo at hx
  split at hx
  ·rfl
  ·cases hx
 rcases ho with ho|ho <;> simp[execOp,ho,this]
theorem ok_bldO{o:Oper}{t:TypeId}{ps:Array (Nat×Operand)}{fs:Array Field}{z:List AV}{places:List (Nat×Nat)}{l:List (Nat×Nat×AX)}(ho:o.op = .build t ps)(hu:P.underlying t=some (.struct fs))(hz:zet P t=some z)
  (hp:zj5 (fun f=>(P.info? f.type).map fun i=>(f.offset,i.size)) fs.toList=some places) (hl:zn7 places ps.toList=some l) {σ σ1:St} {x:TV} {d:Nat} (he:evo d (.bldO z l) σ=some (x,σ1)):OkAt P o x σ σ1:=by
 simp only[evo]at he;generalize hoz:ztq z σ.h=q at he;obtain⟨cs,h'⟩:=q;dsimp only at he
 split at he
 ·rename_i cs' hf
  cases he;obtain⟨i,v,h1,h2,h3,_⟩:=zd2 hz
  refine .ghost rfl rfl rfl fun g w s=>?_
  obtain⟨g',h4,h5,h6,h7⟩:=zu0 s (h3 g) hoz;refine⟨g',h4,h5,h7,fun lb act T=>?_⟩
  obtain⟨cells,h8,h9⟩:=zue T hl (zc:=v.cells) h6 hf;refine⟨.agg cells,zbb (s:=Instr.build t (ps.map fun (i,x)=>(i,act.eval x))) (by simp only[execOp,ho]) (run_build w t _ cells ?_),RV.agg_iff.2 h9,fun k off e=>by cases e⟩
  unfold Program.built;rw[h1,hu];dsimp only;rw[h2,zvb,hp];dsimp only;rw[Array.toList_map];exact h8
 ·cases he
theorem zmu{t:TypeId}{i:TypeInfo}{v:Value}(hi:P.info? t=some i)(hv:i.zero=some v)(w:World):
  (Instr.alloc t true (.tuple #[])).run P w = .ok (.pointer (some ⟨w.heap.size,0,none⟩)) (w.alloc (.cells v.cells t)):=by
 simp[Instr.alloc,zeroValue,typeInfo,hi,hv,newVar,newRow]
theorem zra(t:TypeId)(v:Value)(w:World):(Instr.box t v).run P w = .ok (.pointer (some ⟨w.heap.size,0,none⟩)) (w.alloc (.cells v.cells t)):=by
 simp[Instr.box,newVar,newRow]
theorem OkAt.new{o:Oper}{σ:St}{d:Nat}{cs:List AV}{h':List AO}(hd:zb5 d σ.ls=none)(h:∀g lb (act:Act) (w:World),Sat g σ.h w->Tm g lb σ.ls σ.t act.tmps->∃g' c t,Sat g' h' w/\Ev g σ.h w g' h' w/\(∀(i:Nat) (o:AO),σ.h[i]?=some o->h'[i]?=some o) /\
  RVs g' cs c.toList/\(execOp act.eval o).run P w = .ok (.value (.pointer (some ⟨w.heap.size,0,none⟩))) (w.alloc (.cells c t))) :
  OkAt P o (.lp d 0) σ { σ with ls:=(d,cs)::σ.ls,h:=h' }:=by
 intro g0 h0 w0 g lb act w m T;obtain⟨g',c,t,h1,h2,h3,h4,h5⟩:=h g lb act w m.sat T;have m1:=m.step h1 h2;obtain⟨h6,h7⟩:=m1.local_ hd t h4;refine⟨_,_,g',_,.inl h5,h6,⟨h2.le,h7.lb,h7.ls,fun i b o hi=>h3 i _ hi⟩,?_,fun k off e=>?_,rfl,rfl⟩
 ·show Value.pointer (some ⟨w.heap.size,0,none⟩) = .pointer (some ⟨if d=d then w.heap.size else lb d,0,none⟩)
  rw[if_pos rfl]
 ·injection e with e1 _;subst e1;simp[zb5]
theorem ok_alc{o:Oper}{t:TypeId}{z:List AV}(ho:o.op = .alloc t)(hz:zet P t=some z){σ σ1:St}{x:TV}{d:Nat}(he:evo d (.alc z) σ=some (x,σ1)):OkAt P o x σ σ1:=by
 simp only[evo]at he
 split at he
 ·rename_i hd
  cases he;obtain⟨i,v,h1,h2,h3,_⟩:=zd2 hz
  exact OkAt.new hd fun g lb act w s T=>⟨g,v.cells,t,s,.refl _ _ _,fun _ _ h=>h,zl3 (h3 g),zbb (s:=Instr.alloc t true (.tuple #[])) (by simp only[execOp,ho]) (zmu h1 h2 w)⟩
 ·cases he
theorem ok_alcO{o:Oper}{t:TypeId}{z:List AV}(ho:o.op = .alloc t)(hz:zet P t=some z){σ σ1:St}{x:TV}{d:Nat}(he:evo d (.alcO z) σ=some (x,σ1)):OkAt P o x σ σ1:=by
 simp only[evo]at he
 split at he
 ·rename_i hd
  generalize hoz:ztq z σ.h=q at he;obtain⟨cs,h'⟩:=q;dsimp only at he;cases he;obtain⟨i,v,h1,h2,h3,_⟩:=zd2 hz;refine OkAt.new hd fun g lb act w s T=>?_
  obtain⟨g',h4,h5,h6,h7⟩:=zu0 s (h3 g) hoz;exact⟨g',v.cells,t,h4,h5,h7,h6,zbb (s:=Instr.alloc t true (.tuple #[])) (by simp only[execOp,ho]) (zmu h1 h2 w)⟩
 ·cases he
theorem ok_bx{o:Oper}{t:TypeId}{x:Operand}{ax:AX}(ho:o.op = .box t x)(h1:cx x=some ax){σ σ1:St}{y:TV}{d:Nat}(he:evo d (.bx ax) σ=some (y,σ1)):OkAt P o y σ σ1:=by
 simp only[evo]at he
 split at he
 ·rename_i hd
  split at he
  ·rename_i a ha
   split at he
   ·rename_i cs hc
    cases he;obtain⟨rfl,_,h3⟩:=znn hc
    exact OkAt.new hd fun g lb act w s T=>⟨g,(act.eval x).cells,t,s,.refl _ _ _,fun _ _ h=>h,(zp0 (zii T h1 ha) h3).1,zbb (s:=Instr.box t (act.eval x)) (by simp only[execOp,ho]) (zra t _ w)⟩
   ·cases he
  ·cases he
 ·cases he
theorem Sat.pushBox{g:G}{h:List AO}{w:World}(s:Sat g h w){cs:List AV}{c:Array Value}(t:TypeId)(hc:RVs g cs c.toList):
  Sat (g.addBx h.length w.heap.size) (h++[.box cs]) (w.alloc (.cells c t))/\Ev g h w (g.addBx h.length w.heap.size) (h++[.box cs]) (w.alloc (.cells c t))/\(g.addBx h.length w.heap.size).bx h.length=some w.heap.size:=by
 have hp:=s.past h.length (Nat.le_refl _);have hle:=G.le_addBx (g:=g) (i:=h.length) (b:=w.heap.size) hp.1;have hb:(g.addBx h.length w.heap.size).bx h.length=some w.heap.size:=by simp[G.addBx]
 have:=s.push (g':=g.addBx h.length w.heap.size) (o:=.box cs) hle rfl rfl (fun i hi=>by simp[G.addBx,hi]) (fun _ _=>rfl) (Wd.alloc w (.cells c t) _) ⟨w.heap.size,c,t,hb,World.alloc_heap_new w _,hc.mono hle⟩
  (fun b h1=>by have h2:(g.addBx h.length w.heap.size).bx h.length=some b:=h1;rw[hb]at h2;injection h2 with e;omega) (fun ver sz es e=>by cases e)
 exact⟨this.1,this.2,hb⟩
theorem OkAt.newH{o:Oper}{σ:St}{cs:List AV}(h:∀g lb (act:Act) (w:World),Sat g σ.h w->Tm g lb σ.ls σ.t act.tmps->∃c t,RVs g cs c.toList/\(execOp act.eval o).run P w = .ok (.value (.pointer (some ⟨w.heap.size,0,none⟩))) (w.alloc (.cells c t))):
  OkAt P o (.v (.ptr σ.h.length 0)) σ { σ with h:=σ.h++[.box cs] }:=by
 intro g0 h0 w0 g lb act w m T;obtain⟨c,t,h1,h2⟩:=h g lb act w m.sat T;obtain⟨h3,h4,h5⟩:=m.sat.pushBox t h1;exact⟨_,_,_,lb,.inl h2,m.step h3 h4,⟨h4.le,fun _ _=>rfl,fun _ h=>h,fun i b o hi=>zf8 hi⟩,.ptr h5,(fun k off e=>by cases e),rfl,rfl⟩
theorem ok_alcH{o:Oper}{t:TypeId}{z:List AV}(ho:o.op = .alloc t)(hz:zet P t=some z){σ σ1:St}{x:TV}{d:Nat}(he:evo d (.alcH z) σ=some (x,σ1)):OkAt P o x σ σ1:=by
 simp only[evo]at he;cases he;obtain⟨i,v,h1,h2,h3,_⟩:=zd2 hz;exact OkAt.newH fun g lb act w s T=>⟨v.cells,t,zl3 (h3 g),zbb (s:=Instr.alloc t true (.tuple #[])) (by simp only[execOp,ho]) (zmu h1 h2 w)⟩
theorem ygz{o:Oper}{t:TypeId}{z:List AV}(ho:o.op = .alloc t)(hz:zet P t=some z){σ σ1:St}{x:TV}{d:Nat}(he:evo d (.alcHO z) σ=some (x,σ1)):OkAt P o x σ σ1:=by
 simp only[evo]at he;generalize hoz:ztq z σ.h=q at he;obtain⟨cs,h'⟩:=q;dsimp only at he;cases he;obtain⟨i,v,h1,h2,h3,_⟩:=zd2 hz;intro g0 h0 w0 g lb act w m T;obtain⟨g',h4,h5,h6,h7⟩:=zu0 m.sat (h3 g) hoz;obtain⟨h8,h9,h10⟩:=h4.pushBox t h6;have hx:(execOp act.eval o).run P w = .ok (.value (.pointer (some ⟨w.heap.size,0,none⟩))) (w.alloc (.cells v.cells t)):=zbb (s:=Instr.alloc t true (.tuple #[])) (by simp only[execOp,ho]) (zmu h1 h2 w)
 exact⟨_,_,_,lb,.inl hx,m.step h8 (h5.trans h9),⟨(h5.trans h9).le,fun _ _=>rfl,fun _ h=>h,fun i b o hi=>zf8 (h7 i _ hi)⟩,.ptr h10,(fun k off e=>by cases e),rfl,rfl⟩
theorem ok_bxH{o:Oper}{t:TypeId}{x:Operand}{ax:AX}(ho:o.op = .box t x)(h1:cx x=some ax){σ σ1:St}{y:TV}{d:Nat}(he:evo d (.bxH ax) σ=some (y,σ1)):OkAt P o y σ σ1:=by
 simp only[evo]at he
 split at he
 ·rename_i a ha
  split at he
  ·rename_i cs hc
   cases he;obtain⟨rfl,_,h3⟩:=znn hc
   exact OkAt.newH fun g lb act w s T=>⟨(act.eval x).cells,t,(zp0 (zii T h1 ha) h3).1,zbb (s:=Instr.box t (act.eval x)) (by simp only[execOp,ho]) (zra t _ w)⟩
  ·cases he
 ·cases he
end Go.Ab
end
