/- What the law ConvGather of layer 17 comes to, part 21. Conditions: none. -/
import Derived.Test.YthebfdakjfnpeaaGreatZfas
import Derived.Test.YthebfdakjfnpeaaGreatZfat
section
set_option linter.unusedVariables false
set_option linter.unusedSimpArgs false
namespace Go.Ab
open Go.RowKit Go.Proofs
inductive Lv where
 |mk (k n:Int) (ks:List Lv)
def Lv.k:Lv->Int|.mk k _ _=>k
def Lv.n:Lv->Int|.mk _ n _=>n
def Lv.ks:Lv->List Lv|.mk _ _ ks=>ks
mutual
def Lv.cs:Lv->List AV
 |.mk k n ks=>[.int .i64 k,.int .i64 n,.sl (Lv.css ks)]
def Lv.css:List Lv->List (List AV)
 |[]=>[]
 |l::r=>l.cs::Lv.css r
end
theorem Lv.css_eq:∀ks:List Lv,Lv.css ks=ks.map Lv.cs
 |[]=>rfl
 |l::r=>by rw[Lv.css,Lv.css_eq r];rfl
theorem lv_sz{k n:Int}{ks:List Lv}{l:Lv}(h:l∈ks):SizeOf.sizeOf l<SizeOf.sizeOf (Lv.mk k n ks):=by
 have:=List.sizeOf_lt_of_mem h;simp;omega
theorem Lv.ind{p:Lv->Prop}(h:∀k n ks,(∀x∈ks,p x)->p (.mk k n ks)):∀l,p l
 |.mk k n ks=>h k n ks fun x hx=>Lv.ind h x
termination_by l=>l
decreasing_by exact lv_sz hx
inductive Lv.ok:Lv->Prop
 |mk {k n:Int} {ks:List Lv} (hl:ks.length<=140737488355328) (h:∀x∈ks,x.ok):Lv.ok (.mk k n ks)
theorem Lv.ok.len{k n:Int}{ks:List Lv}(h:(Lv.mk k n ks).ok):ks.length<=140737488355328:=by cases h;assumption
theorem Lv.ok.all{k n:Int}{ks:List Lv}(h:(Lv.mk k n ks).ok):∀x∈ks,x.ok:=by cases h;assumption
@[go_sem] theorem css_get(ks:List Lv)(j:Nat):(Lv.css ks)[j]?=ks[j]?.map Lv.cs:=by rw[Lv.css_eq];simp
@[go_sem] theorem css_len(ks:List Lv):(Lv.css ks).length=ks.length:=by rw[Lv.css_eq];simp
theorem z5g(a b:List Lv):Lv.css (a++b)=Lv.css a++Lv.css b:=by simp[Lv.css_eq]
@[go_sem] theorem yd0(l:Lv):l.cs.length=3:=by cases l;rfl
@[go_sem] theorem rd_cs(l:Lv):rd 3 true l.cs=some (.v (.agg l.cs)):=zmm (yd0 l)
@[go_sem] theorem cs_one(l:Lv):l.cs.all AV.one=true:=by cases l;rfl
theorem over3(x y z:AV)(l:Lv):over [x,y,z] 0 l.cs=l.cs:=by cases l;rfl
@[go_sem] theorem over_cs(x y z:AV)(l:Lv):over [x,y,z] 0 l.cs=l.cs:=over3 x y z l
@[go_sem] theorem frz_cs(n:Nat)(l:Lv)(h:List AO):ztu n l.cs h=(l.cs,h):=by cases l;rfl
theorem z88(n:Nat)(l:Lv):∀a∈l.cs,Lt n a:=by
 induction l using Lv.ind with
 |h k m ks ih=>
  intro a ha;simp[Lv.cs]at ha;rcases ha with rfl|rfl|rfl
  ·exact .int _ _
  ·exact .int _ _
  ·refine .sl fun a ha=>?_
   obtain⟨e,he,h2⟩:=List.mem_flatten.1 ha;rw[Lv.css_eq]at he;obtain⟨x,hx,rfl⟩:=List.mem_map.1 he;exact ih x hx a h2
@[go_sem] theorem lt_cs(n:Nat)(l:Lv):(∀a∈l.cs,Lt n a)=True:=eq_true (z88 n l)
@[go_sem] theorem z6t(n:Nat)(ks:List Lv):(∀a∈(Lv.css ks).flatten,Lt n a)=True:=by
 refine eq_true fun a ha=>?_
 obtain⟨e,he,h2⟩:=List.mem_flatten.1 ha;rw[Lv.css_eq]at he;obtain⟨x,hx,rfl⟩:=List.mem_map.1 he;exact z88 n x a h2
def zfr(k:Int):Int:=if k=1\/k=5\/k=6 then 0 else if k=2 then 1 else if k=3\/k=4 then 2 else -1
theorem yc2(k:Int)(H:List AO):F zml [.int .i64 k] H=some (.ret (.int .i64 (zfr k)),H):=by
 rw[z2j];simp only[↓reduceIte,go_sem];unfold zfr
 grind
mutual
def nodes:Lv->Int->Int
 |.mk _ _ ks,most=>nodesL ks most 1
def nodesL:List Lv->Int->Int->Int
 |[],_,n=>n
 |l::r,most,n=>if n<most then nodesL r most (n+nodes l (most - n)) else n
end
theorem zus:∀(ks:List Lv) (most n:Int),n<=nodesL ks most n
 |[],_,n=>by rw[nodesL];omega
 |.mk a b l::r,most,n=>by
  rw[nodesL]
  split
  ·have h1:=zus l (most - n) 1
   have h2:=zus r most (n+nodes (.mk a b l) (most - n));rw[nodes]at h2 ⊢;omega
  ·omega
theorem zur:∀(ks:List Lv) (most n:Int),nodesL ks most n<=max n most
 |[],_,n=>by rw[nodesL];omega
 |.mk a b l::r,most,n=>by
  rw[nodesL]
  split
  ·have h1:=zur l (most - n) 1
   have h2:=zur r most (n+nodes (.mk a b l) (most - n));rw[nodes]at h2 ⊢;omega
  ·omega
theorem z6r(l:Lv)(most:Int):1<=nodes l most:=by cases l;rw[nodes];exact zus _ _ _
theorem z6q(l:Lv)(most:Int):nodes l most<=max 1 most:=by cases l;rw[nodes];exact zur _ _ _
theorem z4e{ks:List Lv}{most n:Int}(h:¬ n<most):nodesL ks most n=n:=by
 cases ks with
 |nil=>rfl
 |cons l r=>rw[nodesL,if_neg h]
theorem z8h(l:Lv):l.ok->∀(most:Int),-1000000<=most/\most<=1000000->∀H,F zik [.agg l.cs,.int .i64 most] H=some (.ret (.int .i64 (nodes l most)),H):=by
 induction l using Lv.ind with
 |h k n ks ih=>
 intro hl most hm H;have hlen:=hl.len;have loop:∀(suf pre:List Lv) (m:Int),ks=pre++suf->1<=m/\m<=1000000 ->
   zh0 H H (.int .i64 most) (.int .i64 m) (.int .i64 pre.length) [.int .i64 k,.int .i64 n,.sl (Lv.css ks)]=some (.ret (.int .i64 (nodesL suf most m)),H):=by
  intro suf
  induction suf with
  |nil=>
   intro pre m e hm;subst e;rw[zh0,zab];simp only[↓reduceIte,go_sem,nodesL]
  |cons x suf ih2=>
   intro pre m e hm;subst e;simp at hlen;rw[zh0,zab,nodesL];by_cases hn:m<most
   ·have hge:=z6r x (most - m)
    have hle:=z6q x (most - m);have:=ih2 (pre++[x]) (m+nodes x (most - m)) (by simp) (by omega)
    simp only[zaf]at this;simp only[↓reduceIte,go_sem,hn,zal (n:=most - m) (by omega) (by omega),zal (n:=m+nodes x (most - m)) (by omega) (by omega),ih x (by simp) (hl.all x (by simp)) (most - m) (by omega) H,zac (n:=pre.length) (by omega),this]
   ·simp only[↓reduceIte,go_sem,hn]
 rw[zzs];simp only[↓reduceIte,go_sem,Lv.cs];exact loop ks [] 1 rfl (by omega)
theorem ybi(l:Lv):l.ok->∀(most:Int),-1000000<=most/\most<=1000000->∀H,F zim [.agg l.cs,.int .i64 most] H=some (.ret (.int .i64 (nodes l most)),H):=by
 induction l using Lv.ind with
 |h k n ks ih=>
 intro hl most hm H;have hlen:=hl.len;have loop:∀(suf pre:List Lv) (m:Int),ks=pre++suf->1<=m/\m<=1000000 ->
   zh1 H H (.int .i64 most) (.int .i64 m) (.sl (Lv.css ks)) (.int .i64 ks.length) (.int .i64 pre.length)=some (.ret (.int .i64 (nodesL suf most m)),H):=by
  intro suf
  induction suf with
  |nil=>
   intro pre m e hm;subst e;rw[zh1,zab];simp only[↓reduceIte,go_sem,nodesL]
  |cons x suf ih2=>
   intro pre m e hm;subst e;simp at hlen;rw[zh1,zab,nodesL];by_cases hn:m<most
   ·have hge:=z6r x (most - m)
    have hle:=z6q x (most - m);have:=ih2 (pre++[x]) (m+nodes x (most - m)) (by simp) (by omega)
    simp only[zaf]at this;simp only[↓reduceIte,go_sem,hn,zal (n:=most - m) (by omega) (by omega),zal (n:=m+nodes x (most - m)) (by omega) (by omega),ih x (by simp) (hl.all x (by simp)) (most - m) (by omega) H,zac (n:=pre.length) (by omega),this]
   ·have:=ih2 (pre++[x]) m (by simp) (by omega)
    simp only[zaf]at this;simp only[↓reduceIte,go_sem,hn,zac (n:=pre.length) (by omega),this,z4e hn]
 rw[zzu];simp only[↓reduceIte,go_sem,Lv.cs];exact loop ks [] 1 rfl (by omega)
mutual
def lvEq:Lv->Lv->Bool
 |.mk a b l,.mk c d m=>decide (a=c) && decide (b=d) && lvsEq l m
def lvsEq:List Lv->List Lv->Bool
 |[],[]=>true
 |x::l,y::m=>lvEq x y && lvsEq l m
 |_,_=>false
end
theorem z1m:∀{l m:List Lv},l.length≠m.length->lvsEq l m=false
 |[],[],h=>absurd rfl h
 |[],_::_,_=>by rw[lvsEq];all_goals simp
 |_::_,[],_=>by rw[lvsEq];all_goals simp
 |x::l,y::m,h=>by rw[lvsEq,z1m (l:=l) (m:=m) (by simpa using h)];simp
mutual
def rightB(p m:Int):Lv->Int->Bool
 |.mk k n ks,d=>if d<1 then false else if (ks.length:Int)≠zfr k then false else if k=5 then decide (0<=n) && decide (n<p) else if k=6 then decide (0<=n) && decide (n<m) else rightsB p m ks (d - 1) && decide (n=0)
def rightsB(p m:Int):List Lv->Int->Bool
 |[],_=>true
 |x::r,d=>rightB p m x d && rightsB p m r d
end
theorem zp3(p m:Int):∀(ks:List Lv) (d:Int),rightsB p m ks d=ks.all fun x=>rightB p m x d
 |[],d=>rfl
 |x::r,d=>by rw[rightsB,zp3 p m r d];rfl
theorem z79(p m:Int)(l:Lv):l.ok->∀(d:Int),-1000<=d/\d<=1000->∀(H:List AO),F zij [.agg l.cs,.int .i64 p,.int .i64 m,.int .i64 d] H=some (.ret (.bool (rightB p m l d)),H):=by
 induction l using Lv.ind with
 |h k n ks ih=>
 intro hl d hd H;have hlen:=hl.len;have loop:¬ d<1->∀(suf pre:List Lv),ks=pre++suf ->
   zhz H H (.int .i64 p) (.int .i64 m) (.int .i64 d) (.int .i64 pre.length) [.int .i64 k,.int .i64 n,.sl (Lv.css ks)]=some (.ret (.bool (rightsB p m suf (d - 1) && decide (n=0))),H):=by
  intro hd1 suf
  induction suf with
  |nil=>
   intro pre e;subst e;rw[zhz,zab];simp only[↓reduceIte,go_sem,rightsB]
  |cons x suf ih2=>
   intro pre e;subst e;simp at hlen;have:=ih2 (pre++[x]) (by simp)
   simp only[zaf]at this;rw[zhz,zab,rightsB];simp only[↓reduceIte,go_sem,zal (n:=d - 1) (by omega) (by omega),ih x (by simp) (hl.all x (by simp)) (d - 1) (by omega) H,zac (n:=pre.length) (by omega),this]
   cases rightB p m x (d - 1) <;> simp
 have:=fun h=>loop h ks [] rfl
 simp only[List.length_nil,Int.natCast_zero]at this;rw[zzq,rightB];simp only[↓reduceIte,go_sem,Lv.cs,yc2]
 grind
def zam(l:Lv)(p m:Int):Bool:=decide (0<=p) && decide (p<=5) && decide (0<=m) && decide (m<=10) && decide (nodes l 101<=100) && rightB p m l 12
theorem zki(l:Lv)(hl:l.ok)(p m:Int)(H:List AO):F zeh [.agg l.cs,.int .i64 p,.int .i64 m] H=some (.ret (.bool (zam l p m)),H):=by
 rw[zzr,zam];simp only[↓reduceIte,go_sem,z8h l hl 101 (by omega),z79 p m l hl 12 (by omega)]
 grind
end Go.Ab
end
