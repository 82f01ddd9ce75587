/- What the law ConvSelf of layer 17 comes to, part 21. Conditions: none. -/
import Derived.Test.YthebfdakjfnpeaaGreatZeas
import Derived.Test.YthebfdakjfnpeaaGreatZeat
section
set_option linter.unusedVariables false
set_option linter.unusedSimpArgs false
namespace Go.Ab
open Go.RowKit Go.Proofs
inductive Lv where
 |mk (k n:Int) (ks:List Lv)
def Lv.k:Lv->Int|.mk k _ _=>k
def Lv.n:Lv->Int|.mk _ n _=>n
def Lv.ks:Lv->List Lv|.mk _ _ ks=>ks
mutual
def Lv.cs:Lv->List AV
 |.mk k n ks=>[.int .i64 k,.int .i64 n,.sl (Lv.css ks)]
def Lv.css:List Lv->List (List AV)
 |[]=>[]
 |l::r=>l.cs::Lv.css r
end
theorem Lv.css_eq:∀ks:List Lv,Lv.css ks=ks.map Lv.cs
 |[]=>rfl
 |l::r=>by rw[Lv.css,Lv.css_eq r];rfl
theorem lv_sz{k n:Int}{ks:List Lv}{l:Lv}(h:l∈ks):SizeOf.sizeOf l<SizeOf.sizeOf (Lv.mk k n ks):=by
 have:=List.sizeOf_lt_of_mem h;simp;omega
theorem Lv.ind{p:Lv->Prop}(h:∀k n ks,(∀x∈ks,p x)->p (.mk k n ks)):∀l,p l
 |.mk k n ks=>h k n ks fun x hx=>Lv.ind h x
termination_by l=>l
decreasing_by exact lv_sz hx
inductive Lv.ok:Lv->Prop
 |mk {k n:Int} {ks:List Lv} (hl:ks.length<=140737488355328) (h:∀x∈ks,x.ok):Lv.ok (.mk k n ks)
theorem Lv.ok.len{k n:Int}{ks:List Lv}(h:(Lv.mk k n ks).ok):ks.length<=140737488355328:=by cases h;assumption
theorem Lv.ok.all{k n:Int}{ks:List Lv}(h:(Lv.mk k n ks).ok):∀x∈ks,x.ok:=by cases h;assumption
@[go_sem] theorem css_get(ks:List Lv)(j:Nat):(Lv.css ks)[j]?=ks[j]?.map Lv.cs:=by rw[Lv.css_eq];simp
@[go_sem] theorem css_len(ks:List Lv):(Lv.css ks).length=ks.length:=by rw[Lv.css_eq];simp
theorem z4z(a b:List Lv):Lv.css (a++b)=Lv.css a++Lv.css b:=by simp[Lv.css_eq]
@[go_sem] theorem yc7(l:Lv):l.cs.length=3:=by cases l;rfl
@[go_sem] theorem rd_cs(l:Lv):rd 3 true l.cs=some (.v (.agg l.cs)):=zmi (yc7 l)
@[go_sem] theorem cs_one(l:Lv):l.cs.all AV.one=true:=by cases l;rfl
theorem over3(x y z:AV)(l:Lv):over [x,y,z] 0 l.cs=l.cs:=by cases l;rfl
@[go_sem] theorem over_cs(x y z:AV)(l:Lv):over [x,y,z] 0 l.cs=l.cs:=over3 x y z l
@[go_sem] theorem frz_cs(n:Nat)(l:Lv)(h:List AO):zv1 n l.cs h=(l.cs,h):=by cases l;rfl
theorem z8i(n:Nat)(l:Lv):∀a∈l.cs,Lt n a:=by
 induction l using Lv.ind with
 |h k m ks ih=>
  intro a ha;simp[Lv.cs]at ha;rcases ha with rfl|rfl|rfl
  ·exact .int _ _
  ·exact .int _ _
  ·refine .sl fun a ha=>?_
   obtain⟨e,he,h2⟩:=List.mem_flatten.1 ha;rw[Lv.css_eq]at he;obtain⟨x,hx,rfl⟩:=List.mem_map.1 he;exact ih x hx a h2
@[go_sem] theorem lt_cs(n:Nat)(l:Lv):(∀a∈l.cs,Lt n a)=True:=eq_true (z8i n l)
@[go_sem] theorem z57(n:Nat)(ks:List Lv):(∀a∈(Lv.css ks).flatten,Lt n a)=True:=by
 refine eq_true fun a ha=>?_
 obtain⟨e,he,h2⟩:=List.mem_flatten.1 ha;rw[Lv.css_eq]at he;obtain⟨x,hx,rfl⟩:=List.mem_map.1 he;exact z8i n x a h2
def zgf(k:Int):Int:=if k=1\/k=5\/k=6 then 0 else if k=2 then 1 else if k=3\/k=4 then 2 else -1
theorem yb7(k:Int)(H:List AO):F zmh [.int .i64 k] H=some (.ret (.int .i64 (zgf k)),H):=by
 rw[z1y];simp only[↓reduceIte,go_sem];unfold zgf
 grind
mutual
def nodes:Lv->Int->Int
 |.mk _ _ ks,most=>nodesL ks most 1
def nodesL:List Lv->Int->Int->Int
 |[],_,n=>n
 |l::r,most,n=>if n<most then nodesL r most (n+nodes l (most - n)) else n
end
theorem zus:∀(ks:List Lv) (most n:Int),n<=nodesL ks most n
 |[],_,n=>by rw[nodesL];omega
 |.mk a b l::r,most,n=>by
  rw[nodesL]
  split
  ·have h1:=zus l (most - n) 1
   have h2:=zus r most (n+nodes (.mk a b l) (most - n));rw[nodes]at h2 ⊢;omega
  ·omega
theorem zur:∀(ks:List Lv) (most n:Int),nodesL ks most n<=max n most
 |[],_,n=>by rw[nodesL];omega
 |.mk a b l::r,most,n=>by
  rw[nodesL]
  split
  ·have h1:=zur l (most - n) 1
   have h2:=zur r most (n+nodes (.mk a b l) (most - n));rw[nodes]at h2 ⊢;omega
  ·omega
theorem z56(l:Lv)(most:Int):1<=nodes l most:=by cases l;rw[nodes];exact zus _ _ _
theorem z55(l:Lv)(most:Int):nodes l most<=max 1 most:=by cases l;rw[nodes];exact zur _ _ _
theorem z3v{ks:List Lv}{most n:Int}(h:¬ n<most):nodesL ks most n=n:=by
 cases ks with
 |nil=>rfl
 |cons l r=>rw[nodesL,if_neg h]
theorem z7u(l:Lv):l.ok->∀(most:Int),-1000000<=most/\most<=1000000->∀H,F zif [.agg l.cs,.int .i64 most] H=some (.ret (.int .i64 (nodes l most)),H):=by
 induction l using Lv.ind with
 |h k n ks ih=>
 intro hl most hm H;have hlen:=hl.len;have loop:∀(suf pre:List Lv) (m:Int),ks=pre++suf->1<=m/\m<=1000000 ->
   zhv H H (.int .i64 most) (.int .i64 m) (.int .i64 pre.length) [.int .i64 k,.int .i64 n,.sl (Lv.css ks)]=some (.ret (.int .i64 (nodesL suf most m)),H):=by
  intro suf
  induction suf with
  |nil=>
   intro pre m e hm;subst e;rw[zhv,zab];simp only[↓reduceIte,go_sem,nodesL]
  |cons x suf ih2=>
   intro pre m e hm;subst e;simp at hlen;rw[zhv,zab,nodesL];by_cases hn:m<most
   ·have hge:=z56 x (most - m)
    have hle:=z55 x (most - m);have:=ih2 (pre++[x]) (m+nodes x (most - m)) (by simp) (by omega)
    simp only[zah]at this;simp only[↓reduceIte,go_sem,hn,zap (n:=most - m) (by omega) (by omega),zap (n:=m+nodes x (most - m)) (by omega) (by omega),ih x (by simp) (hl.all x (by simp)) (most - m) (by omega) H,zad (n:=pre.length) (by omega),this]
   ·simp only[↓reduceIte,go_sem,hn]
 rw[zzg];simp only[↓reduceIte,go_sem,Lv.cs];exact loop ks [] 1 rfl (by omega)
theorem yax(l:Lv):l.ok->∀(most:Int),-1000000<=most/\most<=1000000->∀H,F zih [.agg l.cs,.int .i64 most] H=some (.ret (.int .i64 (nodes l most)),H):=by
 induction l using Lv.ind with
 |h k n ks ih=>
 intro hl most hm H;have hlen:=hl.len;have loop:∀(suf pre:List Lv) (m:Int),ks=pre++suf->1<=m/\m<=1000000 ->
   zhw H H (.int .i64 most) (.int .i64 m) (.sl (Lv.css ks)) (.int .i64 ks.length) (.int .i64 pre.length)=some (.ret (.int .i64 (nodesL suf most m)),H):=by
  intro suf
  induction suf with
  |nil=>
   intro pre m e hm;subst e;rw[zhw,zab];simp only[↓reduceIte,go_sem,nodesL]
  |cons x suf ih2=>
   intro pre m e hm;subst e;simp at hlen;rw[zhw,zab,nodesL];by_cases hn:m<most
   ·have hge:=z56 x (most - m)
    have hle:=z55 x (most - m);have:=ih2 (pre++[x]) (m+nodes x (most - m)) (by simp) (by omega)
    simp only[zah]at this;simp only[↓reduceIte,go_sem,hn,zap (n:=most - m) (by omega) (by omega),zap (n:=m+nodes x (most - m)) (by omega) (by omega),ih x (by simp) (hl.all x (by simp)) (most - m) (by omega) H,zad (n:=pre.length) (by omega),this]
   ·have:=ih2 (pre++[x]) m (by simp) (by omega)
    simp only[zah]at this;simp only[↓reduceIte,go_sem,hn,zad (n:=pre.length) (by omega),this,z3v hn]
 rw[zzi];simp only[↓reduceIte,go_sem,Lv.cs];exact loop ks [] 1 rfl (by omega)
mutual
def lvEq:Lv->Lv->Bool
 |.mk a b l,.mk c d m=>decide (a=c) && decide (b=d) && lvsEq l m
def lvsEq:List Lv->List Lv->Bool
 |[],[]=>true
 |x::l,y::m=>lvEq x y && lvsEq l m
 |_,_=>false
end
theorem zq0:∀{l m:List Lv},l.length≠m.length->lvsEq l m=false
 |[],[],h=>absurd rfl h
 |[],_::_,_=>by rw[lvsEq];all_goals simp
 |_::_,[],_=>by rw[lvsEq];all_goals simp
 |x::l,y::m,h=>by rw[lvsEq,zq0 (l:=l) (m:=m) (by simpa using h)];simp
theorem z99(a:Lv):a.ok->∀(b:Lv) (H:List AO),F zj6 [.agg a.cs,.agg b.cs] H=some (.ret (.bool (lvEq a b)),H):=by
 induction a using Lv.ind with
 |h k n ks ih=>
 intro hl b H;obtain⟨k',n',ks'⟩:=b;have hlen:=hl.len;have loop:ks.length=ks'.length->∀(suf pre suf' pre':List Lv),ks=pre++suf->ks' = pre' ++ suf' -> pre.length=pre'.length ->
   ziy H H (.int .i64 pre.length) [.int .i64 k,.int .i64 n,.sl (Lv.css ks)] [.int .i64 k',.int .i64 n',.sl (Lv.css ks')]=some (.ret (.bool (lvsEq suf suf')),H):=by
  intro hll suf
  induction suf with
  |nil=>
   intro pre suf' pre' e e' he;subst e;subst e';have:suf' = []:=List.eq_nil_of_length_eq_zero (by simp at hll;omega)
   subst this;rw[ziy,zab];simp only[↓reduceIte,go_sem,lvsEq]
  |cons x suf ih2=>
   intro pre suf' pre' e e' he;subst e;subst e';simp at hlen
   cases suf' with
   |nil=>simp at hll;omega
   |cons y suf'=>
   have hy:(pre' ++ y::suf')[pre.length]?=some y:=by rw[he];simp
   have:=ih2 (pre++[x]) suf' (pre' ++ [y]) (by simp) (by simp) (by simp[he])
   simp only[zah]at this;rw[ziy,zab,lvsEq];simp only[↓reduceIte,go_sem,hy,ih x (by simp) (hl.all x (by simp)) y H,zad (n:=pre.length) (by omega),this]
   cases lvEq x y <;> simp
 rw[z1z,lvEq];simp only[↓reduceIte,go_sem,Lv.cs];by_cases h3:ks.length=ks'.length
 ·have:=loop h3 ks [] ks' [] rfl rfl rfl
  simp only[List.length_nil,Int.ofNat_eq_natCast,Int.natCast_zero]at this;rw[this]
  grind
 ·have h3':¬ (ks.length:Int)=(ks'.length:Int):=by omega
  rw[zq0 h3];simp[h3']
mutual
def rightB(p m:Int):Lv->Int->Bool
 |.mk k n ks,d=>if d<1 then false else if (ks.length:Int)≠zgf k then false else if k=5 then decide (0<=n) && decide (n<p) else if k=6 then decide (0<=n) && decide (n<m) else rightsB p m ks (d - 1) && decide (n=0)
def rightsB(p m:Int):List Lv->Int->Bool
 |[],_=>true
 |x::r,d=>rightB p m x d && rightsB p m r d
end
theorem zp7(p m:Int):∀(ks:List Lv) (d:Int),rightsB p m ks d=ks.all fun x=>rightB p m x d
 |[],d=>rfl
 |x::r,d=>by rw[rightsB,zp7 p m r d];rfl
theorem z7n(p m:Int)(l:Lv):l.ok->∀(d:Int),-1000<=d/\d<=1000->∀(H:List AO),F zie [.agg l.cs,.int .i64 p,.int .i64 m,.int .i64 d] H=some (.ret (.bool (rightB p m l d)),H):=by
 induction l using Lv.ind with
 |h k n ks ih=>
 intro hl d hd H;have hlen:=hl.len;have loop:¬ d<1->∀(suf pre:List Lv),ks=pre++suf ->
   zhu H H (.int .i64 p) (.int .i64 m) (.int .i64 d) (.int .i64 pre.length) [.int .i64 k,.int .i64 n,.sl (Lv.css ks)]=some (.ret (.bool (rightsB p m suf (d - 1) && decide (n=0))),H):=by
  intro hd1 suf
  induction suf with
  |nil=>
   intro pre e;subst e;rw[zhu,zab];simp only[↓reduceIte,go_sem,rightsB]
  |cons x suf ih2=>
   intro pre e;subst e;simp at hlen;have:=ih2 (pre++[x]) (by simp)
   simp only[zah]at this;rw[zhu,zab,rightsB];simp only[↓reduceIte,go_sem,zap (n:=d - 1) (by omega) (by omega),ih x (by simp) (hl.all x (by simp)) (d - 1) (by omega) H,zad (n:=pre.length) (by omega),this]
   cases rightB p m x (d - 1) <;> simp
 have:=fun h=>loop h ks [] rfl
 simp only[List.length_nil,Int.natCast_zero]at this;rw[zze,rightB];simp only[↓reduceIte,go_sem,Lv.cs,yb7]
 grind
def zax(l:Lv)(p m:Int):Bool:=decide (0<=p) && decide (p<=5) && decide (0<=m) && decide (m<=10) && decide (nodes l 101<=100) && rightB p m l 12
theorem ziq(l:Lv)(hl:l.ok)(p m:Int)(H:List AO):F zd3 [.agg l.cs,.int .i64 p,.int .i64 m] H=some (.ret (.bool (zax l p m)),H):=by
 rw[zzf,zax];simp only[↓reduceIte,go_sem,z7u l hl 101 (by omega),z7n p m l hl 12 (by omega)]
 grind
end Go.Ab
end
