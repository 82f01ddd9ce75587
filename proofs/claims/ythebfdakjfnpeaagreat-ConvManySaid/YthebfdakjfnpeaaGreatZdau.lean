/- What the law ConvMany of layer 17 comes to, part 21. Conditions: none. -/
import Derived.Test.YthebfdakjfnpeaaGreatZdas
import Derived.Test.YthebfdakjfnpeaaGreatZdat
section
set_option linter.unusedVariables false
set_option linter.unusedSimpArgs false
namespace Go.Ab
open Go.RowKit Go.Proofs
inductive Lv where
 |mk (k n:Int) (ks:List Lv)
def Lv.k:Lv->Int|.mk k _ _=>k
def Lv.n:Lv->Int|.mk _ n _=>n
def Lv.ks:Lv->List Lv|.mk _ _ ks=>ks
mutual
def Lv.cs:Lv->List AV
 |.mk k n ks=>[.int .i64 k,.int .i64 n,.sl (Lv.css ks)]
def Lv.css:List Lv->List (List AV)
 |[]=>[]
 |l::r=>l.cs::Lv.css r
end
theorem Lv.css_eq:∀ks:List Lv,Lv.css ks=ks.map Lv.cs
 |[]=>rfl
 |l::r=>by rw[Lv.css,Lv.css_eq r];rfl
theorem lv_sz{k n:Int}{ks:List Lv}{l:Lv}(h:l∈ks):SizeOf.sizeOf l<SizeOf.sizeOf (Lv.mk k n ks):=by
 have:=List.sizeOf_lt_of_mem h;simp;omega
theorem Lv.ind{p:Lv->Prop}(h:∀k n ks,(∀x∈ks,p x)->p (.mk k n ks)):∀l,p l
 |.mk k n ks=>h k n ks fun x hx=>Lv.ind h x
termination_by l=>l
decreasing_by exact lv_sz hx
inductive Lv.ok:Lv->Prop
 |mk {k n:Int} {ks:List Lv} (hl:ks.length<=140737488355328) (h:∀x∈ks,x.ok):Lv.ok (.mk k n ks)
theorem Lv.ok.len{k n:Int}{ks:List Lv}(h:(Lv.mk k n ks).ok):ks.length<=140737488355328:=by cases h;assumption
theorem Lv.ok.all{k n:Int}{ks:List Lv}(h:(Lv.mk k n ks).ok):∀x∈ks,x.ok:=by cases h;assumption
@[go_sem] theorem css_get(ks:List Lv)(j:Nat):(Lv.css ks)[j]?=ks[j]?.map Lv.cs:=by rw[Lv.css_eq];simp
@[go_sem] theorem css_len(ks:List Lv):(Lv.css ks).length=ks.length:=by rw[Lv.css_eq];simp
theorem yd3(a b:List Lv):Lv.css (a++b)=Lv.css a++Lv.css b:=by simp[Lv.css_eq]
@[go_sem] theorem yd4(l:Lv):l.cs.length=3:=by cases l;rfl
@[go_sem] theorem rd_cs(l:Lv):rd 3 true l.cs=some (.v (.agg l.cs)):=zm8 (yd4 l)
@[go_sem] theorem cs_one(l:Lv):l.cs.all AV.one=true:=by cases l;rfl
theorem over3(x y z:AV)(l:Lv):over [x,y,z] 0 l.cs=l.cs:=by cases l;rfl
@[go_sem] theorem over_cs(x y z:AV)(l:Lv):over [x,y,z] 0 l.cs=l.cs:=over3 x y z l
@[go_sem] theorem frz_cs(n:Nat)(l:Lv)(h:List AO):zuc n l.cs h=(l.cs,h):=by cases l;rfl
theorem z82(n:Nat)(l:Lv):∀a∈l.cs,Lt n a:=by
 induction l using Lv.ind with
 |h k m ks ih=>
  intro a ha;simp[Lv.cs]at ha;rcases ha with rfl|rfl|rfl
  ·exact .int _ _
  ·exact .int _ _
  ·refine .sl fun a ha=>?_
   obtain⟨e,he,h2⟩:=List.mem_flatten.1 ha;rw[Lv.css_eq]at he;obtain⟨x,hx,rfl⟩:=List.mem_map.1 he;exact ih x hx a h2
@[go_sem] theorem lt_cs(n:Nat)(l:Lv):(∀a∈l.cs,Lt n a)=True:=eq_true (z82 n l)
@[go_sem] theorem z6z(n:Nat)(ks:List Lv):(∀a∈(Lv.css ks).flatten,Lt n a)=True:=by
 refine eq_true fun a ha=>?_
 obtain⟨e,he,h2⟩:=List.mem_flatten.1 ha;rw[Lv.css_eq]at he;obtain⟨x,hx,rfl⟩:=List.mem_map.1 he;exact z82 n x a h2
def zgp(k:Int):Int:=if k=1\/k=5\/k=6 then 0 else if k=2 then 1 else if k=3\/k=4 then 2 else -1
theorem yc6(k:Int)(H:List AO):F zm7 [.int .i64 k] H=some (.ret (.int .i64 (zgp k)),H):=by
 rw[z2u];simp only[↓reduceIte,go_sem];unfold zgp
 grind
mutual
def nodes:Lv->Int->Int
 |.mk _ _ ks,most=>nodesL ks most 1
def nodesL:List Lv->Int->Int->Int
 |[],_,n=>n
 |l::r,most,n=>if n<most then nodesL r most (n+nodes l (most - n)) else n
end
theorem zu6:∀(ks:List Lv) (most n:Int),n<=nodesL ks most n
 |[],_,n=>by rw[nodesL];omega
 |.mk a b l::r,most,n=>by
  rw[nodesL]
  split
  ·have h1:=zu6 l (most - n) 1
   have h2:=zu6 r most (n+nodes (.mk a b l) (most - n));rw[nodes]at h2 ⊢;omega
  ·omega
theorem zu5:∀(ks:List Lv) (most n:Int),nodesL ks most n<=max n most
 |[],_,n=>by rw[nodesL];omega
 |.mk a b l::r,most,n=>by
  rw[nodesL]
  split
  ·have h1:=zu5 l (most - n) 1
   have h2:=zu5 r most (n+nodes (.mk a b l) (most - n));rw[nodes]at h2 ⊢;omega
  ·omega
theorem z6y(l:Lv)(most:Int):1<=nodes l most:=by cases l;rw[nodes];exact zu6 _ _ _
theorem z6x(l:Lv)(most:Int):nodes l most<=max 1 most:=by cases l;rw[nodes];exact zu5 _ _ _
theorem z4o{ks:List Lv}{most n:Int}(h:¬ n<most):nodesL ks most n=n:=by
 cases ks with
 |nil=>rfl
 |cons l r=>rw[nodesL,if_neg h]
theorem z8h(l:Lv):l.ok->∀(most:Int),-1000000<=most/\most<=1000000->∀H,F ziy [.agg l.cs,.int .i64 most] H=some (.ret (.int .i64 (nodes l most)),H):=by
 induction l using Lv.ind with
 |h k n ks ih=>
 intro hl most hm H;have hlen:=hl.len;have loop:∀(suf pre:List Lv) (m:Int),ks=pre++suf->1<=m/\m<=1000000 ->
   zig H H (.int .i64 most) (.int .i64 m) (.int .i64 pre.length) [.int .i64 k,.int .i64 n,.sl (Lv.css ks)]=some (.ret (.int .i64 (nodesL suf most m)),H):=by
  intro suf
  induction suf with
  |nil=>
   intro pre m e hm;subst e;rw[zig,zab];simp only[↓reduceIte,go_sem,nodesL]
  |cons x suf ih2=>
   intro pre m e hm;subst e;simp at hlen;rw[zig,zab,nodesL];by_cases hn:m<most
   ·have hge:=z6y x (most - m)
    have hle:=z6x x (most - m);have:=ih2 (pre++[x]) (m+nodes x (most - m)) (by simp) (by omega)
    simp only[zaf]at this;simp only[↓reduceIte,go_sem,hn,zam (n:=most - m) (by omega) (by omega),zam (n:=m+nodes x (most - m)) (by omega) (by omega),ih x (by simp) (hl.all x (by simp)) (most - m) (by omega) H,zac (n:=pre.length) (by omega),this]
   ·simp only[↓reduceIte,go_sem,hn]
 rw[zz0];simp only[↓reduceIte,go_sem,Lv.cs];exact loop ks [] 1 rfl (by omega)
theorem ybk(l:Lv):l.ok->∀(most:Int),-1000000<=most/\most<=1000000->∀H,F zi0 [.agg l.cs,.int .i64 most] H=some (.ret (.int .i64 (nodes l most)),H):=by
 induction l using Lv.ind with
 |h k n ks ih=>
 intro hl most hm H;have hlen:=hl.len;have loop:∀(suf pre:List Lv) (m:Int),ks=pre++suf->1<=m/\m<=1000000 ->
   zih H H (.int .i64 most) (.int .i64 m) (.sl (Lv.css ks)) (.int .i64 ks.length) (.int .i64 pre.length)=some (.ret (.int .i64 (nodesL suf most m)),H):=by
  intro suf
  induction suf with
  |nil=>
   intro pre m e hm;subst e;rw[zih,zab];simp only[↓reduceIte,go_sem,nodesL]
  |cons x suf ih2=>
   intro pre m e hm;subst e;simp at hlen;rw[zih,zab,nodesL];by_cases hn:m<most
   ·have hge:=z6y x (most - m)
    have hle:=z6x x (most - m);have:=ih2 (pre++[x]) (m+nodes x (most - m)) (by simp) (by omega)
    simp only[zaf]at this;simp only[↓reduceIte,go_sem,hn,zam (n:=most - m) (by omega) (by omega),zam (n:=m+nodes x (most - m)) (by omega) (by omega),ih x (by simp) (hl.all x (by simp)) (most - m) (by omega) H,zac (n:=pre.length) (by omega),this]
   ·have:=ih2 (pre++[x]) m (by simp) (by omega)
    simp only[zaf]at this;simp only[↓reduceIte,go_sem,hn,zac (n:=pre.length) (by omega),this,z4o hn]
 rw[zz2];simp only[↓reduceIte,go_sem,Lv.cs];exact loop ks [] 1 rfl (by omega)
mutual
def lvEq:Lv->Lv->Bool
 |.mk a b l,.mk c d m=>decide (a=c) && decide (b=d) && lvsEq l m
def lvsEq:List Lv->List Lv->Bool
 |[],[]=>true
 |x::l,y::m=>lvEq x y && lvsEq l m
 |_,_=>false
end
theorem zrm:∀{l m:List Lv},l.length≠m.length->lvsEq l m=false
 |[],[],h=>absurd rfl h
 |[],_::_,_=>by rw[lvsEq];all_goals simp
 |_::_,[],_=>by rw[lvsEq];all_goals simp
 |x::l,y::m,h=>by rw[lvsEq,zrm (l:=l) (m:=m) (by simpa using h)];simp
theorem zuu(a:Lv):a.ok->∀(b:Lv) (H:List AO),F zhd [.agg a.cs,.agg b.cs] H=some (.ret (.bool (lvEq a b)),H):=by
 induction a using Lv.ind with
 |h k n ks ih=>
 intro hl b H;obtain⟨k',n',ks'⟩:=b;have hlen:=hl.len;have loop:ks.length=ks'.length->∀(suf pre suf' pre':List Lv),ks=pre++suf->ks' = pre' ++ suf' -> pre.length=pre'.length ->
   zji H H (.int .i64 pre.length) [.int .i64 k,.int .i64 n,.sl (Lv.css ks)] [.int .i64 k',.int .i64 n',.sl (Lv.css ks')]=some (.ret (.bool (lvsEq suf suf')),H):=by
  intro hll suf
  induction suf with
  |nil=>
   intro pre suf' pre' e e' he;subst e;subst e';have:suf' = []:=List.eq_nil_of_length_eq_zero (by simp at hll;omega)
   subst this;rw[zji,zab];simp only[↓reduceIte,go_sem,lvsEq]
  |cons x suf ih2=>
   intro pre suf' pre' e e' he;subst e;subst e';simp at hlen
   cases suf' with
   |nil=>simp at hll;omega
   |cons y suf'=>
   have hy:(pre' ++ y::suf')[pre.length]?=some y:=by rw[he];simp
   have:=ih2 (pre++[x]) suf' (pre' ++ [y]) (by simp) (by simp) (by simp[he])
   simp only[zaf]at this;rw[zji,zab,lvsEq];simp only[↓reduceIte,go_sem,hy,ih x (by simp) (hl.all x (by simp)) y H,zac (n:=pre.length) (by omega),this]
   cases lvEq x y <;> simp
 rw[z2v,lvEq];simp only[↓reduceIte,go_sem,Lv.cs];by_cases h3:ks.length=ks'.length
 ·have:=loop h3 ks [] ks' [] rfl rfl rfl
  simp only[List.length_nil,Int.ofNat_eq_natCast,Int.natCast_zero]at this;rw[this]
  grind
 ·have h3':¬ (ks.length:Int)=(ks'.length:Int):=by omega
  rw[zrm h3];simp[h3']
mutual
def rightB(p m:Int):Lv->Int->Bool
 |.mk k n ks,d=>if d<1 then false else if (ks.length:Int)≠zgp k then false else if k=5 then decide (0<=n) && decide (n<p) else if k=6 then decide (0<=n) && decide (n<m) else rightsB p m ks (d - 1) && decide (n=0)
def rightsB(p m:Int):List Lv->Int->Bool
 |[],_=>true
 |x::r,d=>rightB p m x d && rightsB p m r d
end
theorem zqp(p m:Int):∀(ks:List Lv) (d:Int),rightsB p m ks d=ks.all fun x=>rightB p m x d
 |[],d=>rfl
 |x::r,d=>by rw[rightsB,zqp p m r d];rfl
theorem z79(p m:Int)(l:Lv):l.ok->∀(d:Int),-1000<=d/\d<=1000->∀(H:List AO),F zix [.agg l.cs,.int .i64 p,.int .i64 m,.int .i64 d] H=some (.ret (.bool (rightB p m l d)),H):=by
 induction l using Lv.ind with
 |h k n ks ih=>
 intro hl d hd H;have hlen:=hl.len;have loop:¬ d<1->∀(suf pre:List Lv),ks=pre++suf ->
   zif H H (.int .i64 p) (.int .i64 m) (.int .i64 d) (.int .i64 pre.length) [.int .i64 k,.int .i64 n,.sl (Lv.css ks)]=some (.ret (.bool (rightsB p m suf (d - 1) && decide (n=0))),H):=by
  intro hd1 suf
  induction suf with
  |nil=>
   intro pre e;subst e;rw[zif,zab];simp only[↓reduceIte,go_sem,rightsB]
  |cons x suf ih2=>
   intro pre e;subst e;simp at hlen;have:=ih2 (pre++[x]) (by simp)
   simp only[zaf]at this;rw[zif,zab,rightsB];simp only[↓reduceIte,go_sem,zam (n:=d - 1) (by omega) (by omega),ih x (by simp) (hl.all x (by simp)) (d - 1) (by omega) H,zac (n:=pre.length) (by omega),this]
   cases rightB p m x (d - 1) <;> simp
 have:=fun h=>loop h ks [] rfl
 simp only[List.length_nil,Int.natCast_zero]at this;rw[zzy,rightB];simp only[↓reduceIte,go_sem,Lv.cs,yc6]
 grind
def zax(l:Lv)(p m:Int):Bool:=decide (0<=p) && decide (p<=5) && decide (0<=m) && decide (m<=10) && decide (nodes l 101<=100) && rightB p m l 12
theorem zd0(l:Lv)(hl:l.ok)(p m:Int)(H:List AO):F zcj [.agg l.cs,.int .i64 p,.int .i64 m] H=some (.ret (.bool (zax l p m)),H):=by
 rw[zzz,zax];simp only[↓reduceIte,go_sem,z8h l hl 101 (by omega),z79 p m l hl 12 (by omega)]
 grind
end Go.Ab
end
section
set_option linter.unusedVariables false
set_option linter.unusedSimpArgs false
set_option maxRecDepth 100000
set_option maxHeartbeats 2000000
namespace Go.Ab
open Go.RowKit Go.Proofs
theorem anyF_ok(xs:List (List AV))(hlen:xs.length<=140737488355328)(hsz:∀e∈xs,e.length=3)(f:AV)(p:List AV->Bool)(H:List AO)(hf:∀e∈xs,cfl T f [.agg e] H=some (.ret (.bool (p e)),H)):
  F zak [.sl xs,f] H=some (.ret (.bool (xs.any p)),H):=by
 have loop:∀(suf pre:List (List AV)),xs=pre++suf->∃r:Int,zbt H H (.sl xs) f (.int .i64 xs.length) (.int .i64 pre.length)=some (.ret (.int .i64 r),H)/\decide (0<=r)=suf.any p:=by
  intro suf
  induction suf with
  |nil=>
   intro pre e;subst e;refine⟨-1,?_,rfl⟩;rw[zbt,zab];simp only[↓reduceIte,go_sem]
  |cons x suf ih=>
   intro pre e;subst e;obtain⟨r,h1,h2⟩:=ih (pre++[x]) (by simp)
   simp only[zaf]at h1;have hx:=hsz x (by simp)
   have hfx:=hf x (by simp)
   simp at hlen
   cases hp:p x with
   |true=>
    refine⟨pre.length,?_,by simp[hp]⟩
    rw[zbt,zab];simp only[↓reduceIte,go_sem,hx,zm8 hx,hfx,hp]
   |false=>
    refine⟨r,?_,by simp[hp,h2]⟩
    rw[zbt,zab];simp only[↓reduceIte,go_sem,hx,zm8 hx,hfx,hp,zac (n:=pre.length) (by omega),h1]
 obtain⟨r,h1,h2⟩:=loop xs [] rfl;simp only[List.length_nil,Int.natCast_zero]at h1;rw[zlq];have:F zcr [.sl xs,f] H=some (.ret (.int .i64 r),H):=by
  rw[znd];simp only[↓reduceIte,go_sem,h1]
 simp only[↓reduceIte,go_sem,this,h2]
theorem z0n(ks:List Lv)(hlen:ks.length<=140737488355328)(f:AV)(p:Lv->Bool)(H:List AO)(hf:∀x∈ks,cfl T f [.agg x.cs] H=some (.ret (.bool (p x)),H)):
  F zak [.sl (Lv.css ks),f] H=some (.ret (.bool (ks.any p)),H):=by
 let q:List AV->Bool:=fun e=>match cfl T f [.agg e] H with
  |some (.ret (.bool b),_)=>b
  |_=>false
 have hq:∀x∈ks,q x.cs=p x:=fun x hx=>by simp only[q,hf x hx]
 have:=anyF_ok (Lv.css ks) (by rw[css_len];exact hlen) (fun e he=>by rw[Lv.css_eq]at he;obtain⟨x,_,rfl⟩:=List.mem_map.1 he;exact yd4 x) f q H (fun e he=>by
  rw[Lv.css_eq]at he;obtain⟨x,hx,rfl⟩:=List.mem_map.1 he;rw[hf x hx,hq x hx])
 rw[this,Lv.css_eq,List.any_map]
 congr 4
 have:∀l:List Lv,(∀x∈l,q x.cs=p x)->l.any (q ∘ Lv.cs)=l.any p:=by
  intro l
  induction l with
  |nil=>intro _;rfl
  |cons a l ih=>intro h;simp[h a (by simp),ih fun x hx=>h x (by simp[hx])]
 exact this ks hq
def zxj:List (AV×AV):=[(.int .i64 1,.agg [.int .i64 0,.fn (.func zhx) [] []]),(.int .i64 2,.agg [.int .i64 1,.fn (.func zhw) [] []]),(.int .i64 3,.agg [.int .i64 2,.fn (.func zhv) [] []]),
 (.int .i64 4,.agg [.int .i64 2,.fn (.func zhu) [] []]),(.int .i64 5,.agg [.int .i64 0,.fn (.func zht) [] []]),(.int .i64 6,.agg [.int .i64 0,.fn (.func zhs) [] []])]
theorem zt9(H:List AO):F zlj [] H=some (.ret (.fmap zxj),H):=by
 rw[zz4];simp only[↓reduceIte,go_sem,zmh,zgq,zxj]
theorem ybm(k n:Int)(ks:List Lv)(p m:Int)(H:List AO):F zli [.agg [.int .i64 k,.int .i64 n,.sl (Lv.css ks)],.int .i64 p,.int .i64 m] H=some (.ret (.bool (if k=5 then decide (0<=n) && decide (n<p) else if k=6 then decide (0<=n) && decide (n<m) else decide (n=0))),H):=by
 rw[zz3];simp only[↓reduceIte,go_sem]
 repeat' split
 all_goals (simp_all;try omega)
def kindF(k:Int):FuncId:=if k=1 then zhx else if k=2 then zhw else if k=3 then zhv else if k=4 then zhu else if k=5 then zht else zhs
theorem zpt:zmh .i64 zxj=true:=rfl
theorem zsp(k:Int)(h:1<=k/\k<=6):zgq k zxj=some (some (.agg [.int .i64 (zgp k),.fn (.func (kindF k)) [] []])):=by
 have:k=1\/k=2\/k=3\/k=4\/k=5\/k=6:=by omega
 rcases this with rfl|rfl|rfl|rfl|rfl|rfl <;> rfl
theorem z8o(k:Int)(h:¬ (1<=k/\k<=6)):zgq k zxj=some none:=by
 simp only[zgq,zxj]
 repeat' split
 all_goals first|omega|rfl
theorem yc4(k:Int)(h:¬ (1<=k/\k<=6)):zgp k = -1:=by
 unfold zgp;grind
theorem yaz(p m:Int)(l:Lv):l.ok->∀(d:Int),-1000<=d/\d<=1000->∀(H:List AO),F ziz [.agg l.cs,.int .i64 p,.int .i64 m,.int .i64 d] H=some (.ret (.bool (rightB p m l d)),H):=by
 induction l using Lv.ind with
 |h k n ks ih=>
 intro hl d hd H;have hlen:=hl.len;have hc:0<d->F zak [.sl (Lv.css ks),.fn (.func zhr) [] [.ptr H.length 0,.ptr (H.length+1) 0,.ptr (H.length+2) 0]] (H++[.box [.int .i64 p],.box [.int .i64 m],.box [.int .i64 d]])=some (.ret (.bool (ks.any fun x=>!rightB p m x (d - 1))),H++[.box [.int .i64 p],.box [.int .i64 m],.box [.int .i64 d]]):=by
  intro hd0;refine z0n ks hlen _ _ _ fun x hx=>?_
  simp only[↓reduceIte,go_sem,zvt,Lv.cs,zam (n:=d - 1) (by omega) (by omega),ih x hx (hl.all x hx) (d - 1) (by omega)]
 rw[zz1,rightB];by_cases hk:1<=k/\k<=6
 ·by_cases hd0:0<d
  ·by_cases hkl:(ks.length:Int)=zgp k
   ·have e:(ks.any fun x=>!rightB p m x (d - 1)) = !rightsB p m ks (d - 1):=by rw[zqp,List.not_all_eq_any_not]
    have e5:k=5\/k=6->ks=[]:=by
     intro h;apply List.eq_nil_of_length_eq_zero;rcases h with rfl|rfl <;> (simp[zgp]at hkl;simp[hkl])
    simp only[↓reduceIte,go_sem,Lv.cs,zt9,zpt,zsp k hk,ybm,hc hd0,hd0,hkl,e];by_cases h5:k=5
    ·subst h5
     rw[e5 (.inl rfl)];simp[rightsB,show ¬ d<1 by omega]
     grind
    ·by_cases h6:k=6
     ·subst h6
      rw[e5 (.inr rfl)];simp[rightsB,show ¬ d<1 by omega]
      grind
     ·simp[h5,h6,show ¬ d<1 by omega]
      grind
   ·simp only[↓reduceIte,go_sem,Lv.cs,zt9,zpt,zsp k hk,hd0,hkl]
    simp[hkl]
  ·simp only[↓reduceIte,go_sem,Lv.cs,zt9,zpt,zsp k hk,hd0]
   simp[show d<1 by omega]
 ·simp only[↓reduceIte,go_sem,Lv.cs,zt9,zpt,z8o k hk]
  have:¬ (ks.length:Int)=zgp k:=by rw[yc4 k hk];omega
  simp[this]
theorem zgt(l:Lv)(hl:l.ok)(p m:Int)(H:List AO):F zdd [.agg l.cs,.int .i64 p,.int .i64 m] H=some (.ret (.bool (zax l p m)),H):=by
 rw[zz5,zax];simp only[↓reduceIte,go_sem,ybk l hl 101 (by omega),yaz p m l hl 12 (by omega)]
 grind
theorem yke(a b:List Lv)(hlen:a.length<=140737488355328)(f:AV)(H:List AO)(hf:∀x∈a,∀y,cfl T f [.agg x.cs,.agg y.cs] H=some (.ret (.bool (lvEq x y)),H)):
  F zby [.sl (Lv.css a),.sl (Lv.css b),f] H=some (.ret (.bool (lvsEq a b)),H):=by
 have loop:a.length=b.length->∀(suf pre suf' pre':List Lv),a=pre++suf->b=pre' ++ suf' -> pre.length=pre'.length ->
   zco H H (.sl (Lv.css b)) f (.sl (Lv.css a)) (.int .i64 a.length) (.int .i64 pre.length)=some (.ret (.bool (lvsEq suf suf')),H):=by
  intro hll suf
  induction suf with
  |nil=>
   intro pre suf' pre' e e' he;subst e;subst e';have:suf' = []:=List.eq_nil_of_length_eq_zero (by simp at hll;omega)
   subst this;rw[zco,zab];simp only[↓reduceIte,go_sem,lvsEq]
  |cons x suf ih2=>
   intro pre suf' pre' e e' he;subst e;subst e';simp at hlen
   cases suf' with
   |nil=>simp at hll;omega
   |cons y suf'=>
   have hy:(pre' ++ y::suf')[pre.length]?=some y:=by rw[he];simp
   have:=ih2 (pre++[x]) suf' (pre' ++ [y]) (by simp) (by simp) (by simp[he])
   simp only[zaf]at this;rw[zco,zab,lvsEq];simp only[↓reduceIte,go_sem,hy,hf x (by simp) y,zac (n:=pre.length) (by omega),this]
   cases lvEq x y <;> simp
 rw[zne];by_cases h3:a.length=b.length
 ·have:=loop h3 a [] b [] rfl rfl rfl
  simp only[List.length_nil,Int.natCast_zero]at this;have h3':(a.length:Int)=b.length:=by omega
  simp only[↓reduceIte,go_sem,h3',not_true_eq_false];rw[<- h3',this]
 ·have h3':¬ (a.length:Int)=(b.length:Int):=by omega
  simp only[↓reduceIte,go_sem,h3',zrm h3]
theorem ygd(a:Lv):a.ok->∀(b:Lv) (H:List AO),F zhg [.agg a.cs,.agg b.cs] H=some (.ret (.bool (lvEq a b)),H):=by
 induction a using Lv.ind with
 |h k n ks ih=>
 intro hl b H;obtain⟨k',n',ks'⟩:=b;have:=yke ks ks' hl.len (.fn (.func zhg) [] []) H (fun x hx y=>ih x hx (hl.all x hx) y H)
 rw[z2y,lvEq];simp only[↓reduceIte,go_sem,Lv.cs,this]
 grind
end Go.Ab
end
section
set_option linter.unusedVariables false
set_option linter.unusedSimpArgs false
set_option maxRecDepth 100000
set_option maxHeartbeats 2000000
namespace Go.Ab
open Go.RowKit Go.Proofs
inductive Te where
 |mk (k n:Int) (ls:List Lv) (ks:List Te)
mutual
def Te.cs:Te->List AV
 |.mk k n ls ks=>[.int .i64 k,.int .i64 n,.sl (Lv.css ls),.sl (Te.css ks)]
def Te.css:List Te->List (List AV)
 |[]=>[]
 |l::r=>l.cs::Te.css r
end
theorem Te.css_eq:∀ks:List Te,Te.css ks=ks.map Te.cs
 |[]=>rfl
 |l::r=>by rw[Te.css,Te.css_eq r];rfl
theorem tm_sz{k n:Int}{ls:List Lv}{ks:List Te}{l:Te}(h:l∈ks):SizeOf.sizeOf l<SizeOf.sizeOf (Te.mk k n ls ks):=by
 have:=List.sizeOf_lt_of_mem h;simp;omega
theorem Te.ind{p:Te->Prop}(h:∀k n ls ks,(∀x∈ks,p x)->p (.mk k n ls ks)):∀l,p l
 |.mk k n ls ks=>h k n ls ks fun x hx=>Te.ind h x
termination_by l=>l
decreasing_by exact tm_sz hx
inductive Te.ok:Te->Prop
 |mk {k n:Int} {ls:List Lv} {ks:List Te} (hl:ks.length<=140737488355328) (hm:ls.length<=140737488355328) (hx:∀x∈ls,x.ok) (h:∀x∈ks,x.ok):Te.ok (.mk k n ls ks)
section
variable {k n : Int} {ls : List Lv} {ks : List Te} (h : (Te.mk k n ls ks).ok)
include h
theorem Te.ok.len:ks.length<=140737488355328:=by cases h;assumption
theorem Te.ok.len2:ls.length<=140737488355328:=by cases h;assumption
theorem Te.ok.all:∀x∈ks,x.ok:=by cases h;assumption
theorem Te.ok.all2:∀x∈ls,x.ok:=by cases h;assumption
end
@[go_sem] theorem tcss_get(ks:List Te)(j:Nat):(Te.css ks)[j]?=ks[j]?.map Te.cs:=by rw[Te.css_eq];simp
@[go_sem] theorem zq4(ks:List Te):(Te.css ks).length=ks.length:=by rw[Te.css_eq];simp
theorem yfz(a b:List Te):Te.css (a++b)=Te.css a++Te.css b:=by simp[Te.css_eq]
@[go_sem] theorem yak(a:List Te)(x:Te):Te.css a++[x.cs]=Te.css (a++[x]):=by rw[yfz];rfl
@[go_sem] theorem tcs_len(l:Te):l.cs.length=4:=by cases l;rfl
@[go_sem] theorem rd_tcs(l:Te):rd 4 true l.cs=some (.v (.agg l.cs)):=zm8 (tcs_len l)
@[go_sem] theorem tcs_one(l:Te):l.cs.all AV.one=true:=by cases l;rfl
@[go_sem] theorem over_tcs(x y z u:AV)(l:Te):over [x,y,z,u] 0 l.cs=l.cs:=by cases l;rfl
@[go_sem] theorem frz_tcs(n:Nat)(l:Te)(h:List AO):zuc n l.cs h=(l.cs,h):=by cases l;rfl
theorem zs7(n:Nat)(l:Te):∀a∈l.cs,Lt n a:=by
 induction l using Te.ind with
 |h k m ls ks ih=>
  intro a ha;simp[Te.cs]at ha;rcases ha with rfl|rfl|rfl|rfl
  ·exact .int _ _
  ·exact .int _ _
  ·exact .sl (of_eq_true (z6z n ls))
  ·refine .sl fun a ha=>?_
   obtain⟨e,he,h2⟩:=List.mem_flatten.1 ha;rw[Te.css_eq]at he;obtain⟨x,hx,rfl⟩:=List.mem_map.1 he;exact ih x hx a h2
@[go_sem] theorem lt_tcs(n:Nat)(l:Te):(∀a∈l.cs,Lt n a)=True:=eq_true (zs7 n l)
@[go_sem] theorem z4r(n:Nat)(ks:List Te):(∀a∈(Te.css ks).flatten,Lt n a)=True:=by
 refine eq_true fun a ha=>?_
 obtain⟨e,he,h2⟩:=List.mem_flatten.1 ha;rw[Te.css_eq]at he;obtain⟨x,hx,rfl⟩:=List.mem_map.1 he;exact zs7 n x a h2
mutual
def parts:Te->Int->Int
 |.mk _ _ _ ks,most=>partsL ks most 1
def partsL:List Te->Int->Int->Int
 |[],_,n=>n
 |l::r,most,n=>if n<most then partsL r most (n+parts l (most - n)) else n
end
theorem zot:∀(ks:List Te) (most n:Int),n<=partsL ks most n
 |[],_,n=>by rw[partsL];omega
 |.mk a b u l::r,most,n=>by
  rw[partsL]
  split
  ·have h1:=zot l (most - n) 1
   have h2:=zot r most (n+parts (.mk a b u l) (most - n));rw[parts]at h2 ⊢;omega
  ·omega
theorem zuz:∀(ks:List Te) (most n:Int),partsL ks most n<=max n most
 |[],_,n=>by rw[partsL];omega
 |.mk a b u l::r,most,n=>by
  rw[partsL]
  split
  ·have h1:=zuz l (most - n) 1
   have h2:=zuz r most (n+parts (.mk a b u l) (most - n));rw[parts]at h2 ⊢;omega
  ·omega
theorem z6r(l:Te)(most:Int):1<=parts l most:=by cases l;rw[parts];exact zot _ _ _
theorem z6q(l:Te)(most:Int):parts l most<=max 1 most:=by cases l;rw[parts];exact zuz _ _ _
theorem z4k{ks:List Te}{most n:Int}(h:¬ n<most):partsL ks most n=n:=by
 cases ks with
 |nil=>rfl
 |cons l r=>rw[partsL,if_neg h]
theorem z8c(l:Te):l.ok->∀(most:Int),-1000000<=most/\most<=1000000->∀H,F ziu [.agg l.cs,.int .i64 most] H=some (.ret (.int .i64 (parts l most)),H):=by
 induction l using Te.ind with
 |h k n ls ks ih=>
 intro hl most hm H;have hlen:=hl.len;have loop:∀(suf pre:List Te) (m:Int),ks=pre++suf->1<=m/\m<=1000000 ->
   zh8 H H (.int .i64 most) (.int .i64 m) (.int .i64 pre.length) [.int .i64 k,.int .i64 n,.sl (Lv.css ls),.sl (Te.css ks)]=some (.ret (.int .i64 (partsL suf most m)),H):=by
  intro suf
  induction suf with
  |nil=>
   intro pre m e hm;subst e;rw[zh8,zab];simp only[↓reduceIte,go_sem,partsL]
  |cons x suf ih2=>
   intro pre m e hm;subst e;simp at hlen;rw[zh8,zab,partsL];by_cases hn:m<most
   ·have hge:=z6r x (most - m)
    have hle:=z6q x (most - m);have:=ih2 (pre++[x]) (m+parts x (most - m)) (by simp) (by omega)
    simp only[zaf]at this;simp only[↓reduceIte,go_sem,hn,zam (n:=most - m) (by omega) (by omega),zam (n:=m+parts x (most - m)) (by omega) (by omega),ih x (by simp) (hl.all x (by simp)) (most - m) (by omega) H,zac (n:=pre.length) (by omega),this]
   ·simp only[↓reduceIte,go_sem,hn]
 rw[zzp];simp only[↓reduceIte,go_sem,Te.cs];exact loop ks [] 1 rfl (by omega)
theorem yba(l:Te):l.ok->∀(most:Int),-1000000<=most/\most<=1000000->∀H,F zkp [.agg l.cs,.int .i64 most] H=some (.ret (.int .i64 (parts l most)),H):=by
 induction l using Te.ind with
 |h k n ls ks ih=>
 intro hl most hm H;have hlen:=hl.len;have loop:∀(suf pre:List Te) (m:Int),ks=pre++suf->1<=m/\m<=1000000 ->
   zi9 H H (.int .i64 most) (.int .i64 m) (.sl (Te.css ks)) (.int .i64 ks.length) (.int .i64 pre.length)=some (.ret (.int .i64 (partsL suf most m)),H):=by
  intro suf
  induction suf with
  |nil=>
   intro pre m e hm;subst e;rw[zi9,zab];simp only[↓reduceIte,go_sem,partsL]
  |cons x suf ih2=>
   intro pre m e hm;subst e;simp at hlen;rw[zi9,zab,partsL];by_cases hn:m<most
   ·have hge:=z6r x (most - m)
    have hle:=z6q x (most - m);have:=ih2 (pre++[x]) (m+parts x (most - m)) (by simp) (by omega)
    simp only[zaf]at this;simp only[↓reduceIte,go_sem,hn,zam (n:=most - m) (by omega) (by omega),zam (n:=m+parts x (most - m)) (by omega) (by omega),ih x (by simp) (hl.all x (by simp)) (most - m) (by omega) H,zac (n:=pre.length) (by omega),this]
   ·have:=ih2 (pre++[x]) m (by simp) (by omega)
    simp only[zaf]at this;simp only[↓reduceIte,go_sem,hn,zac (n:=pre.length) (by omega),this,z4k hn]
 rw[z2e];simp only[↓reduceIte,go_sem,Te.cs];exact loop ks [] 1 rfl (by omega)
def zft(k:Int):Int:=if k=1\/k=2\/k=3 then 0 else if k=4\/k=5\/k=6 then 2 else if k=7 then 3 else -1
theorem yc5(k:Int)(H:List AO):F zm0 [.int .i64 k] H=some (.ret (.int .i64 (zft k)),H):=by
 rw[z2k];simp only[↓reduceIte,go_sem];unfold zft
 grind
def binds(k i:Int):Int:=if (k=5\/k=6)/\i=1\/k=7/\i=2 then 1 else 0
theorem zlw(k i:Int):0<=binds k i/\binds k i<=1:=by unfold binds;split <;> omega
theorem zs3(k i:Int)(H:List AO):F zg7 [.int .i64 k,.int .i64 i] H=some (.ret (.int .i64 (binds k i)),H):=by
 rw[zzm];simp only[↓reduceIte,go_sem];unfold binds
 grind
def zl4(k n:Int)(ls:List Lv)(v:Int):Bool :=
 if k=1 then decide (0<=n) && decide (n<v) && decide (ls.length=0)
 else if k=2 then decide (n=0) && decide (ls.length=1)
 else if k=3 then decide (0<=n) && decide (n<20) && decide (ls.length<=5)
 else decide (n=0) && decide (ls.length=0)
theorem z8i(k n:Int)(ls:List Lv)(ks:List Te)(hl:ls.length<=140737488355328)(ha:∀x∈ls,x.ok)(v p m:Int)(H:List AO):
  F zlb [.agg [.int .i64 k,.int .i64 n,.sl (Lv.css ls),.sl (Te.css ks)],.int .i64 v,.int .i64 p,.int .i64 m] H=some (.ret (.bool ((ls.all fun x=>zax x p m) && zl4 k n ls v)),H):=by
 have loop:∀(suf pre:List Lv),ls=pre++suf ->
   zh7 H H (.int .i64 v) (.int .i64 p) (.int .i64 m) (.int .i64 pre.length) [.int .i64 k,.int .i64 n,.sl (Lv.css ls),.sl (Te.css ks)]=some (.ret (.bool ((suf.all fun x=>zax x p m) && zl4 k n ls v)),H):=by
  intro suf
  induction suf with
  |nil=>
   intro pre e;subst e;rw[zh7,zab];simp only[↓reduceIte,go_sem,List.all_nil,Bool.true_and,zl4];have e0:∀z:Int,0<=z->((pre.length:Int)=z ↔ pre.length=z.toNat):=by intro z hz;omega
   repeat' split
   all_goals (simp_all;try omega)
  |cons x suf ih2=>
   intro pre e;subst e;simp at hl;have:=ih2 (pre++[x]) (by simp)
   simp only[zaf]at this;rw[zh7,zab];simp only[↓reduceIte,go_sem,zd0 x (ha x (by simp)),zac (n:=pre.length) (by omega),this,List.all_cons]
   cases zax x p m <;> simp
 rw[zzl];simp only[↓reduceIte,go_sem];exact loop ls [] rfl
end Go.Ab
end
