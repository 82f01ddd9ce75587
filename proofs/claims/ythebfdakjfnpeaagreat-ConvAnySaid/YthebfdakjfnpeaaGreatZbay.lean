/- What the law ConvAny of layer 17 comes to, part 25. Conditions: none. -/
import Derived.Test.YthebfdakjfnpeaaGreatZbaw
section
set_option linter.unusedVariables false
set_option linter.unusedSimpArgs false
set_option maxRecDepth 100000
set_option maxHeartbeats 2000000
namespace Go.Ab
open Go.RowKit Go.Proofs
def bls(z:List Bool):List (List AV):=z.map fun b=>[.bool b]
@[go_sem] theorem z6f(z:List Bool):(bls z).length=z.length:=by simp[bls]
@[go_sem] theorem bls_get(z:List Bool)(i:Nat):(bls z)[i]?=z[i]?.map fun b=>[.bool b]:=by simp[bls]
theorem ylb(n:Nat)(z:List Bool):∀a∈(bls z).flatten,Lt n a:=by
 intro a ha;obtain⟨e,he,h2⟩:=List.mem_flatten.1 ha;obtain⟨b,_,rfl⟩:=List.mem_map.1 he;simp at h2;subst h2;exact .bool b
@[go_sem] theorem lt_bls(n:Nat)(z:List Bool):(∀a∈(bls z).flatten,Lt n a)=True:=eq_true (ylb n z)
structure Fl where
 c:Int
 o:List Int
def Fl.cs(f:Fl):List AV:=[.int .i64 f.c,.sl (zaq f.o)]
@[go_sem] theorem flcs_len(f:Fl):f.cs.length=2:=rfl
@[go_sem] theorem flcs_rd(f:Fl):rd 2 true f.cs=some (.v (.agg f.cs)):=rfl
@[go_sem] theorem flcs_rd0(f:Fl):rd 1 false f.cs=some (.v (.int .i64 f.c)):=rfl
@[go_sem] theorem flcs_rd1(f:Fl):rd 1 false (List.drop 1 f.cs)=some (.v (.sl (zaq f.o))):=rfl
@[go_sem] theorem flcs_one(f:Fl):f.cs.all AV.one=true:=rfl
@[go_sem] theorem flcs_over(x y:AV)(f:Fl):over [x,y] 0 f.cs=f.cs:=rfl
@[go_sem] theorem flcs_frz(n:Nat)(f:Fl)(h:List AO):zui n f.cs h=(f.cs,h):=by simp[Fl.cs,zui,z5i]
theorem flcs_lt(n:Nat)(f:Fl):∀a∈f.cs,Lt n a:=by
 intro a ha;simp[Fl.cs]at ha;rcases ha with rfl|rfl
 ·exact .int _ _
 ·exact .sl (by intro a ha;obtain⟨e,he,h2⟩:=List.mem_flatten.1 ha;obtain⟨x,_,rfl⟩:=List.mem_map.1 he;simp at h2;subst h2;exact .int _ _)
@[go_sem] theorem lt_flcs(n:Nat)(f:Fl):(∀a∈f.cs,Lt n a)=True:=eq_true (flcs_lt n f)
def zow(p:Nat):Fl:=⟨0,List.replicate p (-1)⟩
def zwh(a b:Fl):Fl:=⟨max a.c b.c,List.zipWith max a.o b.o⟩
def znz(f:Fl):Bool:=decide (f.c=0) && f.o.all fun n=>decide (n<0)
def z4k(f:Fl):Fl:=⟨f.c+1,f.o.map fun n=>if 0<=n then n+1 else n⟩
def zt5(z:List Bool)(k n:Int):List Fl->Fl
 |[]=>if k=5 then (if z[n.toNat]?=some false then ⟨0,(List.replicate z.length (-1)).set n.toNat 0⟩ else zow z.length) else zow z.length
 |[a]=>if k=2 then z4k a else zow z.length
 |a::b::_=>if k=3 then zwh a b else if k=4 then (if znz b then b else zwh a b) else zow z.length
mutual
def rawF(z:List Bool):Lv->Fl
 |.mk k n ks=>zt5 z k n (rawFs z ks)
def rawFs(z:List Bool):List Lv->List Fl
 |[]=>[]
 |x::r=>rawF z x::rawFs z r
end
structure Fl.good (p:Nat) (d:Int) (f:Fl):Prop where
 len:f.o.length=p
 c0:0<=f.c
 cd:f.c<=d
 o0:∀n∈f.o,-1<=n
 od:∀n∈f.o,n<=d
theorem yav{a b:List Int}{n:Int}(h:n∈List.zipWith max a b):∃x∈a,∃y∈b,n=max x y:=by
 induction a generalizing b with
 |nil=>simp at h
 |cons x a ih=>
  cases b with
  |nil=>simp at h
  |cons y b=>
   simp at h;rcases h with rfl|h
   ·exact⟨x,by simp,y,by simp,rfl⟩
   ·obtain⟨u,hu,v,hv,e⟩:=ih h;exact⟨u,by simp[hu],v,by simp[hv],e⟩
theorem yd0(p:Nat){d:Int}(h:0<=d):(zow p).good p d :=
 ⟨by simp[zow],by simp[zow],by simpa [zow] using h,fun n hn=>by simp[zow]at hn;omega,fun n hn=>by simp[zow]at hn;omega⟩
theorem z2j{p:Nat}{d:Int}{a b:Fl}(ha:a.good p d)(hb:b.good p d):(zwh a b).good p d :=
 ⟨by simp[zwh,ha.len,hb.len],by have:=ha.c0;simp[zwh];omega,by have:=ha.cd;have:=hb.cd;simp[zwh];omega,
  fun n hn=>by obtain⟨x,hx,y,hy,rfl⟩:=yav hn;have:=ha.o0 x hx;omega,fun n hn=>by obtain⟨x,hx,y,hy,rfl⟩:=yav hn;have:=ha.od x hx;have:=hb.od y hy;omega⟩
theorem ydz{p:Nat}{d:Int}{a:Fl}(ha:a.good p d):(z4k a).good p (d+1) :=
 ⟨by simp[z4k,ha.len],by have:=ha.c0;simp[z4k];omega,by have:=ha.cd;simp[z4k];omega,
  fun n hn=>by simp[z4k]at hn;obtain⟨x,hx,rfl⟩:=hn;have:=ha.o0 x hx;split <;> omega,fun n hn=>by simp[z4k]at hn;obtain⟨x,hx,rfl⟩:=hn;have:=ha.od x hx;split <;> omega⟩
theorem Fl.good.up{p:Nat}{d e:Int}{a:Fl}(ha:a.good p d)(h:d<=e):a.good p e :=
 ⟨ha.len,ha.c0,by have:=ha.cd;omega,ha.o0,fun n hn=>by have:=ha.od n hn;omega⟩
theorem zgt(z:List Bool)(l:Lv):∀d,rightB z.length 0 l d=true->(rawF z l).good z.length d:=by
 induction l using Lv.ind with
 |h k n ks ih=>
 intro d h;rw[rightB]at h
 split at h
 ·cases h
 split at h
 ·cases h
 rename_i hd hk;have hk:(ks.length:Int)=zgm k:=by simpa using hk
 have hz:∀e:Int,0<=e->(zow z.length).good z.length e:=fun e he=>yd0 _ he
 rw[rawF];unfold zgm at hk
 match ks,hk,ih,h with
 |[],hk,ih,h=>
  rw[rawFs,zt5]
  split
  ·split
   ·refine⟨by simp,by simp,by simp;omega,fun n hn=>?_,fun n hn=>?_⟩
    ·rcases List.mem_or_eq_of_mem_set hn with hn|rfl
     ·simp at hn;omega
     ·omega
    ·rcases List.mem_or_eq_of_mem_set hn with hn|rfl
     ·simp at hn;omega
     ·omega
   ·exact hz d (by omega)
  ·exact hz d (by omega)
 |[a],hk,ih,h=>
  rw[rawFs,rawFs,zt5];have k2:k=2:=by simp at hk;grind
  subst k2;simp[rightsB]at h;have:=ydz (ih a (by simp) (d - 1) h.1)
  simp;exact this.up (by omega)
 |a::b::r,hk,ih,h=>
  rw[rawFs,rawFs,zt5];have h2:¬ k=5/\¬ k=6:=by
   constructor <;> (rintro rfl;simp at hk;omega)
  rw[if_neg h2.1,if_neg h2.2]at h;simp[rightsB]at h;have ha:=(ih a (by simp) (d - 1) h.1.1).up (show d - 1<=d by omega)
  have hb:=(ih b (by simp) (d - 1) h.1.2.1).up (show d - 1<=d by omega)
  split
  ·exact z2j ha hb
  ·split
   ·split
    ·exact hb
    ·exact z2j ha hb
   ·exact hz d (by omega)
theorem z8y(p:Nat)(hp:p<=1000)(H:List AO):∃ver,FK zfe [.int .i64 0,.int .i64 p] H=some (.ret (.agg [.int .i64 0,.ol (H.length+1) ver]),H++[.lst 0 1 [],.lst ver 1 (zaq (List.replicate p (-1))),.lst 0 1 []]):=by
 have loop:∀(j i:Nat) (ver:Nat) ,i+j=p->∃ver',zib H (H++[.lst 0 1 [],.lst ver 1 (zaq (List.replicate i (-1))),.lst 0 1 []]) (.int .i64 p) (.int .i64 i) [.int .i64 0,.ol H.length 0] [.int .i64 0,.ol (H.length+1) ver]=some (.ret (.agg [.int .i64 0,.ol (H.length+1) ver']),H++[.lst 0 1 [],.lst ver' 1 (zaq (List.replicate p (-1))),.lst 0 1 []]):=by
  intro j
  induction j with
  |zero=>
   intro i ver h;refine⟨ver,?_⟩;rw[zib,zab];simp only[↓reduceIte,go_sem,show ¬ (i:Int)<(p:Int) by omega]
   rw[show i=p by omega]
  |succ j ih=>
   intro i ver h;obtain⟨ver',h1⟩:=ih (i+1) (ver+1) (by omega)
   refine⟨ver',?_⟩;have hsn:zaq (List.replicate i (-1))++[[AV.int .i64 (-1)]]=zaq (List.replicate (i+1) (-1)):=by rw[zlk,List.replicate_succ']
   simp only[Int.natCast_add,Int.natCast_one,List.replicate_succ]at h1;rw[zib,zab];simp only[↓reduceIte,go_sem,show (i:Int)<(p:Int) by omega,zac (n:=i) (by omega),List.length_replicate,show i<=1073741823 by omega,hsn,h1]
 obtain⟨ver,h⟩:=loop p 0 0 (by omega)
 refine⟨ver,?_⟩;rw[z0a];simp only[↓reduceIte,go_sem];exact h
theorem yb4(p:Nat)(hp:p<=1000)(H:List AO):F zfe [.int .i64 0,.int .i64 p] H=some (.ret (.agg (zow p).cs),H):=by
 have loop:∀(j i:Nat) (ver:Nat) ,i+j=p->zjc H (H++[.lst 0 1 [],.lst ver 1 (zaq (List.replicate i (-1))),.lst 0 1 []]) (.int .i64 p) (.int .i64 i) [.int .i64 0,.ol H.length 0] [.int .i64 0,.ol (H.length+1) ver]=some (.ret (.agg (zow p).cs),H):=by
  intro j
  induction j with
  |zero=>
   intro i ver h;rw[zjc,zab];obtain rfl:i=p:=by omega
   simp only[↓reduceIte,go_sem,zow,Fl.cs]
  |succ j ih=>
   intro i ver h;have h1:=ih (i+1) (ver+1) (by omega)
   have hsn:zaq (List.replicate i (-1))++[[AV.int .i64 (-1)]]=zaq (List.replicate (i+1) (-1)):=by rw[zlk,List.replicate_succ']
   simp only[Int.natCast_add,Int.natCast_one,List.replicate_succ]at h1;rw[zjc,zab];simp only[↓reduceIte,go_sem,show (i:Int)<(p:Int) by omega,zac (n:=i) (by omega),List.length_replicate,show i<=1073741823 by omega,hsn,h1]
 have h:=loop p 0 0 (by omega)
 rw[z27];simp only[↓reduceIte,go_sem];exact h
theorem ye6(a b:Fl)(hl:a.o.length=b.o.length)(hlen:a.o.length<=1000)(H:List AO):F zks [.agg a.cs,.agg b.cs] H=some (.ret (.agg (zwh a b).cs),H):=by
 have loop:∀(sa sb pa pb:List Int) (ver:Nat),a.o=pa++sa->b.o=pb++sb->pa.length=pb.length ->
   zjd H (H++[.lst 0 1 [],.lst ver 1 (zaq (List.zipWith max pa pb)),.lst 0 1 []]) (.int .i64 pa.length) a.cs b.cs [.int .i64 0,.ol H.length 0] [.int .i64 (max a.c b.c),.ol (H.length+1) ver]=some (.ret (.agg (zwh a b).cs),H):=by
  intro sa
  induction sa with
  |nil=>
   intro sb pa pb ver ha hb hp;have:sb=[]:=by
    rw[ha,hb]at hl;simp at hl;exact List.eq_nil_of_length_eq_zero (by omega)
   subst this;rw[List.append_nil]at ha hb;rw[zjd,zab];simp only[↓reduceIte,go_sem,zwh,Fl.cs,ha,hb]
  |cons x sa ih=>
   intro sb pa pb ver ha hb hp
   cases sb with
   |nil=>rw[ha,hb]at hl;simp at hl;omega
   |cons y sb=>
   have h1:=ih sb (pa++[x]) (pb++[y]) (ver+1) (by rw[ha];simp) (by rw[hb];simp) (by simp[hp])
   have hz:List.zipWith max (pa++[x]) (pb++[y])=List.zipWith max pa pb++[max x y]:=by rw[List.zipWith_append (h:=hp)];rfl
   have hzl:(List.zipWith max pa pb).length=pa.length:=by rw[List.length_zipWith];omega
   have hpa:pa.length<=1000:=by rw[ha]at hlen;simp at hlen;omega
   have hga:a.o[pa.length]?=some x:=by rw[ha];simp
   have hgb:b.o[pa.length]?=some y:=by rw[hb,hp];simp
   have hlt:pa.length<a.o.length:=by rw[ha];simp
   have hmax:(if y > x then y else x)=max x y:=by rcases Int.lt_or_le x y with h|h <;> simp[Int.max_def] <;> omega
   rw[hz,<- zlk]at h1;simp only[zaf]at h1;rw[zjd,zab];simp only[↓reduceIte,go_sem,Fl.cs,show (pa.length:Int)<(a.o.length:Int) by omega,hga,hgb,hzl,hmax,zac (n:=pa.length) (by omega),show pa.length<=1073741823 by omega]
   simp only[Fl.cs]at h1;exact h1
 have:=loop a.o b.o [] [] 0 rfl rfl rfl;have hmax:(if b.c > a.c then b.c else a.c)=max a.c b.c:=by rcases Int.lt_or_le a.c b.c with h|h <;> simp[Int.max_def] <;> omega
 rw[z28];simp only[List.length_nil,Int.natCast_zero,List.zipWith_nil_left,zfj,Fl.cs]at this;simp only[↓reduceIte,go_sem,Fl.cs,hmax];exact this
theorem z43(a:Fl)(hlen:a.o.length<=1000)(H:List AO):F zjk [.agg a.cs] H=some (.ret (.bool (znz a)),H):=by
 have loop:∀(sa pa:List Int),a.o=pa++sa->zgx H H (.int .i64 pa.length) a.cs=some (.ret (.bool ((sa.all fun n=>decide (n<0)) && decide (a.c=0))),H):=by
  intro sa
  induction sa with
  |nil=>
   intro pa ha;rw[List.append_nil]at ha;rw[zgx,zab];simp only[↓reduceIte,go_sem,Fl.cs,ha,List.all_nil]
  |cons x sa ih=>
   intro pa ha;have h1:=ih (pa++[x]) (by rw[ha];simp)
   have hpa:pa.length<=1000:=by rw[ha]at hlen;simp at hlen;omega
   have hga:a.o[pa.length]?=some x:=by rw[ha];simp
   have hlt:pa.length<a.o.length:=by rw[ha];simp
   simp only[zaf,Fl.cs]at h1;rw[zgx,zab,List.all_cons];by_cases hx:0<=x
   ·simp only[↓reduceIte,go_sem,Fl.cs,show (pa.length:Int)<(a.o.length:Int) by omega,hga,hx,show ¬ x<0 by omega]
   ·simp only[↓reduceIte,go_sem,Fl.cs,show (pa.length:Int)<(a.o.length:Int) by omega,hga,hx,show x<0 by omega,zac (n:=pa.length) (by omega),h1]
 have:=loop a.o [] rfl;simp only[List.length_nil,Int.natCast_zero]at this;rw[zwz,znz,Bool.and_comm];simp only[↓reduceIte,go_sem,Fl.cs]at this ⊢;exact this
end Go.Ab
end
section
set_option linter.unusedVariables false
set_option linter.unusedSimpArgs false
set_option maxRecDepth 100000
set_option maxHeartbeats 2000000
namespace Go.Ab
open Go.RowKit Go.Proofs
structure At where
 v:Int
 o:Int
structure Cl where
 f:List At
 t:At
def At.cs(a:At):List AV:=[.int .i64 a.v,.int .i64 a.o]
def At.css(l:List At):List (List AV):=l.map At.cs
def Cl.cs(c:Cl):List AV:=[.sl (At.css c.f),.int .i64 c.t.v,.int .i64 c.t.o]
def Cl.css(l:List Cl):List (List AV):=l.map Cl.cs
@[go_sem] theorem atcss_len(l:List At):(At.css l).length=l.length:=by simp[At.css]
@[go_sem] theorem atcss_get(l:List At)(i:Nat):(At.css l)[i]?=l[i]?.map At.cs:=by simp[At.css]
@[go_sem] theorem clcss_len(l:List Cl):(Cl.css l).length=l.length:=by simp[Cl.css]
@[go_sem] theorem clcss_get(l:List Cl)(i:Nat):(Cl.css l)[i]?=l[i]?.map Cl.cs:=by simp[Cl.css]
theorem z75(n:Nat)(l:List At):∀a∈(At.css l).flatten,Lt n a:=by
 intro a ha;obtain⟨e,he,h2⟩:=List.mem_flatten.1 ha;obtain⟨x,_,rfl⟩:=List.mem_map.1 he;simp[At.cs]at h2;rcases h2 with rfl|rfl <;> exact .int _ _
theorem clcs_lt(n:Nat)(c:Cl):∀a∈c.cs,Lt n a:=by
 intro a ha;simp[Cl.cs]at ha;rcases ha with rfl|rfl|rfl
 ·exact .sl (z75 n _)
 ·exact .int _ _
 ·exact .int _ _
theorem z0r(n:Nat)(l:List Cl):∀a∈(Cl.css l).flatten,Lt n a:=by
 intro a ha;obtain⟨e,he,h2⟩:=List.mem_flatten.1 ha;obtain⟨x,_,rfl⟩:=List.mem_map.1 he;exact clcs_lt n x a h2
@[go_sem] theorem lt_atcss(n:Nat)(l:List At):(∀a∈(At.css l).flatten,Lt n a)=True:=eq_true (z75 n l)
@[go_sem] theorem lt_clcss(n:Nat)(l:List Cl):(∀a∈(Cl.css l).flatten,Lt n a)=True:=eq_true (z0r n l)
@[go_sem] theorem atcs_len(a:At):a.cs.length=2:=rfl
@[go_sem] theorem atcs_rd(a:At):rd 2 true a.cs=some (.v (.agg a.cs)):=rfl
@[go_sem] theorem atcs_rd0(a:At):rd 1 false a.cs=some (.v (.int .i64 a.v)):=rfl
@[go_sem] theorem atcs_rd1(a:At):rd 1 false (List.drop 1 a.cs)=some (.v (.int .i64 a.o)):=rfl
@[go_sem] theorem atcs_one(a:At):a.cs.all AV.one=true:=rfl
@[go_sem] theorem atcs_over(x y:AV)(a:At):over [x,y] 0 a.cs=a.cs:=rfl
@[go_sem] theorem atcs_frz(n:Nat)(f:At)(h:List AO):zui n f.cs h=(f.cs,h):=by simp[At.cs,zui,z5i]
theorem atcs_lt(n:Nat)(f:At):∀a∈f.cs,Lt n a:=by
 intro a ha;simp[At.cs]at ha;rcases ha with rfl|rfl <;> exact .int _ _
@[go_sem] theorem lt_atcs(n:Nat)(f:At):(∀a∈f.cs,Lt n a)=True:=eq_true (atcs_lt n f)
@[go_sem] theorem clcs_len(c:Cl):c.cs.length=3:=rfl
@[go_sem] theorem clcs_rd(c:Cl):rd 3 true c.cs=some (.v (.agg c.cs)):=rfl
@[go_sem] theorem clcs_rd0(c:Cl):rd 1 false c.cs=some (.v (.sl (At.css c.f))):=rfl
@[go_sem] theorem clcs_rd1(c:Cl):rd 2 true (List.drop 1 c.cs)=some (.v (.agg c.t.cs)):=rfl
@[go_sem] theorem clcs_rd1a(c:Cl):rd 1 false (List.drop 1 c.cs)=some (.v (.int .i64 c.t.v)):=rfl
@[go_sem] theorem clcs_rd2(c:Cl):rd 1 false (List.drop 2 c.cs)=some (.v (.int .i64 c.t.o)):=rfl
@[go_sem] theorem clcs_rd11(c:Cl):rd 1 false (List.drop 1 (List.drop 1 c.cs))=some (.v (.int .i64 c.t.o)):=rfl
@[go_sem] theorem clcs_one(c:Cl):c.cs.all AV.one=true:=rfl
@[go_sem] theorem clcs_over(x y z:AV)(c:Cl):over [x,y,z] 0 c.cs=c.cs:=rfl
def atB(vars:Int)(a:At):Bool:=decide (0<=a.v) && decide (a.v<vars) && decide (0<=a.o) && decide (a.o<=1000)
def clB(vars:Int)(c:Cl):Bool:=decide (1<=c.f.length) && decide (c.f.length<=6) && c.f.all (atB vars) && atB vars c.t
def zhy(vars:Int)(l:List Cl):Bool:=decide (1<=vars) && decide (vars<=16) && decide (l.length<=60) && l.all (clB vars)
def gI(m:List Int)(i:Int):Int:=m.getD i.toNat 0
def z16:List Int->Int
 |[]=>0
 |[x]=>x
 |x::y::r=>min x (z16 (y::r))
def ztr(c:Cl)(m:List Int):Int:=z16 (c.f.map fun a=>gI m a.v - a.o)+c.t.o
def zj8(m:List Int)(c:Cl):List Int:=m.set c.t.v.toNat (max (gI m c.t.v) (ztr c m))
def za1(l:List Cl)(m:List Int):List Int:=l.foldl zj8 m
def zrp(l:List Cl):Int:=l.foldl (fun n c=>c.f.foldl (fun n a=>max n (c.t.o - a.o)) n) 0
def zhc(vars:Int)(l:List Cl):Int:=(vars - 1)*zrp l
inductive RunS (l:List Cl) (most:Int):List Int->Option (List Int)->Nat->Prop
 |over {m:List Int} (h:∃x∈za1 l m,most<x):RunS l most m none 1
 |fix {m:List Int} (h:za1 l m=m) (hb:∀x∈m,x<=most):RunS l most m (some m) 1
 |more {m:List Int} {r:Option (List Int)} {k:Nat} (h:za1 l m≠m) (hb:∀x∈za1 l m,x<=most) (hr:RunS l most (za1 l m) r k):RunS l most m r (k+1)
theorem zq9(m:List Int)(c:Cl):(zj8 m c).length=m.length:=by simp[zj8]
theorem zmt(l:List Cl)(m:List Int):(za1 l m).length=m.length:=by
 unfold za1
 induction l generalizing m with
 |nil=>rfl
 |cons c l ih=>rw[List.foldl_cons,ih,zq9]
def LeM(a b:List Int):Prop:=a.length=b.length/\∀i,a.getD i 0<=b.getD i 0
theorem LeM.refl(a:List Int):LeM a a:=⟨rfl,fun _=>Int.le_refl _⟩
theorem LeM.trans{a b c:List Int}(h:LeM a b)(k:LeM b c):LeM a c:=⟨h.1.trans k.1,fun i=>Int.le_trans (h.2 i) (k.2 i)⟩
theorem z6w(m:List Int)(i j:Nat)(x:Int):(m.set i x).getD j 0=if i=j/\i<m.length then x else m.getD j 0:=by
 simp only[List.getD,List.getElem?_set];by_cases h:i=j
 ·subst h
  by_cases hl:i<m.length
  ·simp[hl]
  ·simp[hl]
 ·simp[h]
theorem z6t(m:List Int)(c:Cl):LeM m (zj8 m c):=by
 refine⟨(zq9 m c).symm,fun i=>?_⟩
 unfold zj8;rw[z6w]
 split
 ·rename_i h;rw[<- h.1];unfold gI;omega
 ·exact Int.le_refl _
theorem zrf(l:List Cl):∀m,LeM m (za1 l m):=by
 unfold za1
 induction l with
 |nil=>exact LeM.refl
 |cons c l ih=>exact fun m=>(z6t m c).trans (ih _)
theorem leM_eq{a b:List Int}(h:LeM a b)(k:LeM b a):a=b:=by
 apply List.ext_getElem h.1;intro i h1 h2;have e1:=h.2 i;have e2:=k.2 i;simp[List.getD,h1,h2]at e1 e2;omega
def z1n(m:List Int):Int:=m.foldr (· + ·) 0
theorem yj5:∀{a b:List Int},LeM a b->z1n a<=z1n b
 |[],[],_=>Int.le_refl _
 |[],_::_,h=>by have:=h.1;simp at this
 |_::_,[],h=>by have:=h.1;simp at this
 |x::a,y::b,h=>by
  have h0:=h.2 0;have:=yj5 (a:=a) (b:=b) ⟨by simpa using h.1,fun i=>by simpa using h.2 (i+1)⟩
  simp at h0;simp only[z1n,List.foldr_cons]at *;omega
theorem ya7:∀{a b:List Int},LeM a b->z1n b<=z1n a->a=b
 |[],[],_,_=>rfl
 |[],_::_,h,_=>by have:=h.1;simp at this
 |_::_,[],h,_=>by have:=h.1;simp at this
 |x::a,y::b,h,k=>by
  have h0:=h.2 0;have h1:LeM a b:=⟨by simpa using h.1,fun i=>by simpa using h.2 (i+1)⟩
  have:=yj5 h1;simp at h0;simp only[z1n,List.foldr_cons]at *;have e:x=y:=by omega
  rw[e,ya7 h1 (by simp only[z1n];omega)]
theorem z1m{B:Int}:∀{m:List Int},(∀x∈m,x<=B)->z1n m<=m.length*B
 |[],_=>by simp[z1n]
 |x::m,h=>by
  have:=z1m (m:=m) fun y hy=>h y (by simp[hy])
  have h0:=h x (by simp)
  simp only[z1n,List.foldr_cons,List.length_cons]at *;rw[Int.natCast_add,Int.add_mul];omega
theorem ybj(l:List Cl)(most:Int):∀(d:Nat) (m:List Int),(m.length:Int)*most - z1n m<=d->(∀x∈m,x<=most)->∃r k,RunS l most m r k/\k<=d+1:=by
 intro d
 induction d with
 |zero=>
  intro m hd hb;by_cases h:za1 l m=m
  ·exact⟨_,_,.fix h hb,by omega⟩
  ·by_cases ho:∃x∈za1 l m,most<x
   ·exact⟨_,_,.over ho,by omega⟩
   ·exfalso
    have hb2:∀x∈za1 l m,x<=most:=fun x hx=>Int.not_lt.1 fun hlt=>ho ⟨x,hx,hlt⟩
    have h1:=z1m hb2;rw[zmt]at h1;exact h (ya7 (zrf l m) (by omega)).symm
 |succ d ih=>
  intro m hd hb;by_cases h:za1 l m=m
  ·exact⟨_,_,.fix h hb,by omega⟩
  ·by_cases ho:∃x∈za1 l m,most<x
   ·exact⟨_,_,.over ho,by omega⟩
   ·have hb2:∀x∈za1 l m,x<=most:=fun x hx=>Int.not_lt.1 fun hlt=>ho ⟨x,hx,hlt⟩
    have hs:z1n m<z1n (za1 l m):=by
     rcases Int.lt_or_le (z1n m) (z1n (za1 l m)) with h1|h1
     ·exact h1
     ·exact absurd (ya7 (zrf l m) h1).symm h
    obtain⟨r,k,h1,h2⟩:=ih (za1 l m) (by rw[zmt];omega) hb2
    exact⟨r,k+1,.more h hb2 h1,by omega⟩
theorem RunS.det{l:List Cl}{most:Int}{m:List Int}{r r':Option (List Int)}{k k':Nat}(h:RunS l most m r k):RunS l most m r' k' -> r=r' /\ k=k':=by
 induction h generalizing r' k' with
 |over h=>
  intro h2
  cases h2 with
  |over=>exact⟨rfl,rfl⟩
  |fix h3 hb=>obtain⟨x,hx,hlt⟩:=h;rw[h3]at hx;have:=hb x hx;omega
  |more h3 hb _=>obtain⟨x,hx,hlt⟩:=h;have:=hb x hx;omega
 |fix h hb=>
  intro h2
  cases h2 with
  |over h3=>obtain⟨x,hx,hlt⟩:=h3;rw[h]at hx;have:=hb x hx;omega
  |fix=>exact⟨rfl,rfl⟩
  |more h3 _ _=>exact absurd h h3
 |more h hb hr ih=>
  intro h2
  cases h2 with
  |over h3=>obtain⟨x,hx,hlt⟩:=h3;have:=hb x hx;omega
  |fix h3 _=>exact absurd h3 h
  |more _ _ hr2=>obtain⟨rfl,rfl⟩:=ih hr2;exact⟨rfl,rfl⟩
theorem RunS.model{l:List Cl}{most:Int}{m r:List Int}{k:Nat}{o:Option (List Int)}(h:RunS l most m o k):o=some r->za1 l r=r/\(∀x∈r,x<=most)/\r.length=m.length:=by
 induction h with
 |over h=>intro e;cases e
 |fix h hb=>intro e;cases e;exact⟨h,hb,rfl⟩
 |more h hb hr ih=>intro e;obtain⟨h1,h2,h3⟩:=ih e;exact⟨h1,h2,by rw[h3,zmt]⟩
theorem RunS.le{l:List Cl}{most:Int}{m r:List Int}{k:Nat}{o:Option (List Int)}(h:RunS l most m o k):o=some r->LeM m r:=by
 induction h with
 |over h=>intro e;cases e
 |fix h hb=>intro e;cases e;exact LeM.refl _
 |more h hb hr ih=>intro e;exact (zrf l _).trans (ih e)
end Go.Ab
end
section
set_option linter.unusedVariables false
set_option linter.unusedSimpArgs false
set_option maxRecDepth 100000
set_option maxHeartbeats 2000000
namespace Go.Ab
open Go.RowKit Go.Proofs
theorem z4l(H:List AO)(i:Int)(w:AV)(c:Int)(o:List Int)(hlen:o.length<=1000)(ho:∀n∈o,-1<=n/\n<=1000):
  ∀(so po:List Int) (ver:Nat),o=po++so->zkh H (H++[.lst 0 1 [],.lst ver 1 (zaq (po.map fun n=>if 0<=n then n+1 else n)),.lst 0 1 []]) (.int .i64 po.length) [.int .i64 0,w] [.int .i64 c,.sl (zaq o)] [.int .i64 i,.ol (H.length+1) ver]=some (.ret (.agg [.int .i64 i,.sl (zaq (o.map fun n=>if 0<=n then n+1 else n))]),H):=by
 intro so
 induction so with
 |nil=>
  intro po ver h;rw[List.append_nil]at h;subst h;rw[zkh,zab];simp only[↓reduceIte,go_sem]
 |cons x so ih=>
  intro po ver h;have h1:=ih (po++[x]) (ver+1) (by rw[h];simp)
  have hga:o[po.length]?=some x:=by rw[h];simp
  have hp:po.length<o.length:=by rw[h];simp
  obtain⟨hx1,hx2⟩:=ho x (by rw[h];simp)
  rw[List.map_append,List.map_cons,List.map_nil,<- zlk]at h1;simp only[zaf]at h1;rw[zkh,zab];by_cases hx:0<=x
  ·rw[if_pos hx]at h1
   simp only[↓reduceIte,go_sem,show (po.length:Int)<(o.length:Int) by omega,hga,hx,zam (n:=x+1) (by omega) (by omega),zac (n:=po.length) (by omega),show po.length<=1073741823 by omega,List.length_map,h1]
  ·rw[if_neg hx]at h1
   simp only[↓reduceIte,go_sem,show (po.length:Int)<(o.length:Int) by omega,hga,hx,zac (n:=po.length) (by omega),show po.length<=1073741823 by omega,List.length_map,h1]
theorem yg8(z:List Bool)(hz:z.length<=1000)(l:Lv):∀d,d<=1000->rightB z.length 0 l d=true->∀H,F zgj [.agg l.cs,.sl (bls z)] H=some (.ret (.agg (rawF z l).cs),H):=by
 induction l using Lv.ind with
 |h k n ks ih=>
 intro d hd h H;have hg:=zgt z (.mk k n ks) d h;rw[rightB]at h
 split at h
 ·cases h
 split at h
 ·cases h
 rename_i hd1 hk;have hk:(ks.length:Int)=zgm k:=by simpa using hk
 have hnone:=fun H=>yb4 z.length hz H
 rw[z5x];rw[rawF]at hg ⊢;unfold zgm at hk
 match ks,hk,ih,h,hg with
 |[],hk,ih,h,hg=>
  simp at hk;by_cases h5:k=5
  ·subst h5
   simp at h;obtain⟨h0,hn⟩:=h;obtain⟨j,rfl⟩:=Int.eq_ofNat_of_zero_le h0;have hj:j<z.length:=by omega
   obtain⟨b,hb⟩:∃b,z[j]?=some b:=⟨z[j],by simp[hj]⟩
   obtain⟨ver,hK⟩:=z8y z.length hz (H++[.lst 0 1 []]);simp only[rawFs,zt5,Int.toNat_natCast,hb,if_true];cases b
   ·have hgr:(List.replicate z.length (-1:Int))[j]?=some (-1):=by simp[hj]
    have hs:(zaq (List.replicate z.length (-1))).set j [AV.int .i64 0]=zaq ((List.replicate z.length (-1)).set j 0):=by simp[zaq,List.map_set]
    simp only[↓reduceIte,go_sem,Lv.cs,Lv.css]at hK ⊢;simp only[↓reduceIte,go_sem,Lv.cs,Lv.css,hK,hb,List.length_replicate,hj,hgr,hs,Fl.cs]
   ·simp only[↓reduceIte,go_sem,Lv.cs,Lv.css]at hK ⊢
    simp only[↓reduceIte,go_sem,Lv.cs,Lv.css,hK,hb,zow,Fl.cs,Option.some.injEq,Bool.true_eq_false]
  ·have h2:¬ k=2:=by grind
   have h3:¬ k=3:=by grind
   have h4:¬ k=4:=by grind
   simp only[rawFs,zt5,if_neg h5];simp only[↓reduceIte,go_sem,Lv.cs,Lv.css,h2,h3,h4,h5,hnone]
 |[a],hk,ih,h,hg=>
  have k2:k=2:=by simp at hk;grind
  subst k2;simp[rightsB]at h;have iha:=fun H=>ih a (by simp) (d - 1) (by omega) h.1 H
  have ga:=zgt z a (d - 1) h.1;simp only[rawFs,zt5,if_true];generalize rawF z a=fa at iha ga;obtain⟨c,o⟩:=fa;have hc:=ga.c0;have hc2:=ga.cd;have hlen:=ga.len;simp only at hc hc2 hlen;simp only[↓reduceIte,go_sem,Lv.cs,Lv.css,iha,Fl.cs,zam (n:=c+1) (by omega) (by omega)]
  exact z4l H _ _ c o (by omega) (fun n hn=>⟨ga.o0 n hn,by have:=ga.od n hn;omega⟩) o [] 0 rfl
 |[a,b],hk,ih,h,hg=>
  have h5:¬ k=5:=by rintro rfl;simp at hk
  have h6:¬ k=6:=by rintro rfl;simp at hk
  rw[if_neg h5,if_neg h6]at h;simp[rightsB]at h;have iha:=fun H=>ih a (by simp) (d - 1) (by omega) h.1.1 H
  have ihb:=fun H=>ih b (by simp) (d - 1) (by omega) h.1.2 H
  have ga:=zgt z a (d - 1) h.1.1;have gb:=zgt z b (d - 1) h.1.2;have k34:k=3\/k=4:=by simp at hk;grind
  simp only[rawFs,zt5];generalize rawF z a=fa at iha ga ⊢;generalize rawF z b=fb at ihb gb ⊢;have hB:=fun H=>ye6 fa fb (by rw[ga.len,gb.len]) (by rw[ga.len];exact hz) H
  have hN:=fun H=>z43 fb (by rw[gb.len];exact hz) H
  rcases k34 with rfl|rfl
  ·simp only[↓reduceIte,go_sem,Lv.cs,Lv.css,iha,ihb,hB]
  ·cases hn:znz fb <;> simp only[hn]at hN
   ·simp only[↓reduceIte,go_sem,Lv.cs,Lv.css,iha,ihb,hB,hN,hn]
   ·simp only[↓reduceIte,go_sem,Lv.cs,Lv.css,iha,ihb,hB,hN,hn]
 |a::b::c::r,hk,ih,h,hg=>
  exfalso;simp at hk
  grind
end Go.Ab
end
section
set_option linter.unusedVariables false
set_option linter.unusedSimpArgs false
set_option maxRecDepth 100000
set_option maxHeartbeats 2000000
namespace Go.Ab
open Go.RowKit Go.Proofs
def z7b(c:Int)(l:List Int):Int:=if (l.any fun n=>decide (0<=n) && decide (c<=n+1))=true then 0 else c
def normF(f:Fl):Fl:=⟨z7b f.c f.o,f.o⟩
theorem yb3{c:Int}(hc:0<=c)(l:List Int)(x:Int):z7b c (l++[x])=if 0<=x/\z7b c l<=x+1 then 0 else z7b c l:=by
 unfold z7b;rw[List.any_append];by_cases h:(l.any fun n=>decide (0<=n) && decide (c<=n+1))=true
 ·simp[h]
 ·simp only[h]
  simp
theorem nrmF_le{c:Int}(hc:0<=c)(l:List Int):0<=z7b c l/\z7b c l<=c:=by unfold z7b;split <;> omega
theorem zwt(H:List AO)(c:Int)(o:List Int)(hc:0<=c)(hlen:o.length<=1000)(ho:∀n∈o,-1<=n/\n<=1000):
  ∀(so po:List Int),o=po++so->zgd H H (.int .i64 po.length) [.int .i64 0,.sl []] [.int .i64 (z7b c po),.sl (zaq o)]=some (.ret (.tup [.agg [.int .i64 (z7b c o),.sl (zaq o)],.int .i64 0]),H):=by
 intro so
 induction so with
 |nil=>
  intro po h;rw[List.append_nil]at h;subst h;rw[zgd,zab];simp only[↓reduceIte,go_sem]
 |cons x so ih=>
  intro po h;have h1:=ih (po++[x]) (by rw[h];simp)
  have hga:o[po.length]?=some x:=by rw[h];simp
  have hp:po.length<o.length:=by rw[h];simp
  obtain⟨hx1,hx2⟩:=ho x (by rw[h];simp)
  rw[yb3 hc]at h1;simp only[zaf]at h1;rw[zgd,zab];by_cases hx:0<=x
  ·by_cases hy:z7b c po<=x+1
   ·rw[if_pos ⟨hx,hy⟩]at h1
    simp only[↓reduceIte,go_sem,show (po.length:Int)<(o.length:Int) by omega,hga,hx,hy,zam (n:=x+1) (by omega) (by omega),zac (n:=po.length) (by omega),h1]
   ·rw[if_neg (by rintro ⟨_,h⟩;exact hy h)]at h1
    simp only[↓reduceIte,go_sem,show (po.length:Int)<(o.length:Int) by omega,hga,hx,hy,zam (n:=x+1) (by omega) (by omega),zac (n:=po.length) (by omega),h1]
  ·rw[if_neg (by rintro ⟨h,_⟩;exact hx h)]at h1
   simp only[↓reduceIte,go_sem,show (po.length:Int)<(o.length:Int) by omega,hga,hx,zac (n:=po.length) (by omega),h1]
theorem zub{l:Lv}{p:Nat}{m:Int}(h:zax l p m=true):p<=5/\rightB p m l 12=true:=by
 simp only[zax,Bool.and_eq_true,decide_eq_true_eq]at h;exact⟨by omega,h.2⟩
def yaw:Fl:=⟨0,[]⟩
def za3(l:Lv)(z:List Bool):Fl:=if zax l z.length 0=true then normF (rawF z l) else yaw
def yad(l:Lv)(z:List Bool):Int:=if zax l z.length 0=true then 0 else 1
theorem zl9(l:Lv)(hl:l.ok)(z:List Bool)(H:List AO):F zd5 [.agg l.cs,.sl (bls z)] H=some (.ret (.tup [.agg (za3 l z).cs,.int .i64 (yad l z)]),H):=by
 have hR:=fun H=>zd0 l hl z.length 0 H
 rw[zv0];by_cases h:zax l z.length 0=true
 ·have hz:=zub h
  have hraw:=fun H=>yg8 z (by omega) l 12 (by omega) hz.2 H
  have hg:=zgt z l 12 hz.2;rw[yad,za3,if_pos h,if_pos h];have:=zwt H (rawF z l).c (rawF z l).o hg.c0 (by rw[hg.len];omega) (fun n hn=>⟨hg.o0 n hn,by have:=hg.od n hn;omega⟩) (rawF z l).o [] rfl
  have hn:z7b (rawF z l).c []=(rawF z l).c:=rfl;simp only[List.length_nil,Int.natCast_zero,hn]at this;simp only[↓reduceIte,go_sem,hR,h,hraw,normF,Fl.cs];exact this
 ·rw[yad,za3,if_neg h,if_neg h]
  simp only[↓reduceIte,go_sem,hR,h,yaw,Fl.cs]
theorem yd6(l:Lv)(z:List Bool)(h:zax l z.length 0=true):(za3 l z).o.length=z.length:=by
 rw[za3,if_pos h];exact (zgt z l 12 (zub h).2).len
theorem ziz(l:Lv)(z:List Bool):0<=(za3 l z).c/\(za3 l z).c<=12/\(za3 l z).o.length<=5/\∀n∈(za3 l z).o,-1<=n/\n<=12:=by
 rw[za3]
 split
 ·rename_i h
  have hz:=zub h;have hg:=zgt z l 12 hz.2;have hn:=nrmF_le hg.c0 (rawF z l).o;exact⟨hn.1,Int.le_trans hn.2 hg.cd,by show (rawF z l).o.length<=5;rw[hg.len];exact hz.1,fun n hn=>⟨hg.o0 n hn,hg.od n hn⟩⟩
 ·simp[yaw]
def zcx:Nat->Nat->List Bool
 |_,0=>[]
 |n,p+1=>decide (n % 2=1)::zcx (n / 2) p
theorem zgp(n p:Nat):(zcx n p).length=p:=by
 induction p generalizing n with
 |zero=>rfl
 |succ p ih=>rw[zcx,List.length_cons,ih]
theorem yf3(n p:Nat)(hn:n<1000)(hp:p<=1000)(H:List AO):F zm3 [.int .i64 n,.int .i64 p] H=some (.ret (.sl (bls (zcx n p))),H):=by
 have loop:∀(j i m:Nat) (z:List Bool) (ver:Nat),i+j=p->m<1000->z.length=i->z++zcx m j=zcx n p->zjb H (H++[.lst 0 1 [],.lst ver 1 (bls z)]) (.int .i64 m) (.int .i64 p) (.ol (H.length+1) ver) (.int .i64 i)=some (.ret (.sl (bls (zcx n p))),H):=by
  intro j
  induction j with
  |zero=>
   intro i m z ver h hm hz he;rw[zcx,List.append_nil]at he;rw[zjb,zab];simp only[↓reduceIte,go_sem,he,show ¬ (i:Int)<(p:Int) by omega]
  |succ j ih=>
   intro i m z ver h hm hz he;have h1:=ih (i+1) (m / 2) (z++[decide (m % 2=1)]) (ver+1) (by omega) (by omega) (by simp[hz]) (by rw[<- he,zcx];simp)
   have hmod:decide ((m:Int).tmod 2=1)=decide (m % 2=1):=by
    rw[Int.tmod_eq_emod_of_nonneg (by omega)];apply decide_eq_decide.2;omega
   have hdiv:(m:Int).tdiv 2=((m / 2:Nat):Int):=by rw[Int.tdiv_eq_ediv_of_nonneg (by omega)];omega
   have hs:bls z++[[.bool (decide (m % 2=1))]]=bls (z++[decide (m % 2=1)]):=by simp[bls]
   simp only[Int.natCast_add,Int.natCast_one]at h1;rw[zjb,zab];simp only[↓reduceIte,go_sem,show (i:Int)<(p:Int) by omega,hz,show i<=1073741823 by omega,hmod,hdiv,zam (n:=((m / 2:Nat):Int)) (by omega) (by omega),hs,zac (n:=i) (by omega),h1]
 rw[z26];simp only[↓reduceIte,go_sem];exact loop p 0 n [] 0 (by omega) hn rfl rfl
def ze7:List Int->Int->List At
 |[],_=>[]
 |n::r,i=>if 0<=n then ⟨i,n⟩::ze7 r (i+1) else ze7 r (i+1)
def zap(f:Fl):List At:=⟨0,f.c⟩::ze7 f.o 1
theorem zn5(l:List Int)(x:Int):∀i:Int,ze7 (l++[x]) i=ze7 l i++if 0<=x then [⟨i+l.length,x⟩] else []:=by
 induction l with
 |nil=>intro i;simp[ze7]
 |cons n l ih=>
  intro i;rw[List.cons_append,ze7,ze7,ih (i+1)];have:i+1+(l.length:Int)=i+((n::l).length:Int):=by simp;omega
  rw[this]
  split <;> simp
theorem ztb(l:List Int):∀i:Int,(ze7 l i).length<=l.length:=by
 induction l with
 |nil=>intro i;simp[ze7]
 |cons n l ih=>intro i;rw[ze7];have:=ih (i+1);split <;> simp <;> omega
theorem zyd(l:List At)(x:At):At.css l++[x.cs]=At.css (l++[x]):=by simp[At.css]
theorem zp5(f:Fl)(hf:f.o.length<=1000)(H:List AO):F zfq [.agg f.cs] H=some (.ret (.sl (At.css (zap f))),H):=by
 have loop:∀(so po:List Int) (ver:Nat),f.o=po++so->zh8 H (H++[.lst 0 2 [],.lst ver 2 (At.css (⟨0,f.c⟩::ze7 po 1))]) (.ol (H.length+1) ver) (.int .i64 po.length) f.cs=some (.ret (.sl (At.css (zap f))),H):=by
  intro so
  induction so with
  |nil=>
   intro po ver h;rw[List.append_nil]at h;subst h;rw[zh8,zab];simp only[↓reduceIte,go_sem,Fl.cs,zap]
  |cons x so ih=>
   intro po ver h;have hga:f.o[po.length]?=some x:=by rw[h];simp
   have hp:po.length<f.o.length:=by rw[h];simp
   have hlen:=ztb po 1;rw[zh8,zab];by_cases hx:0<=x
   ·have h1:=ih (po++[x]) (ver+1) (by rw[h];simp)
    rw[zn5,if_pos hx]at h1;have hs:At.css ({ v:=0,o:=f.c } :: ze7 po 1)++[[.int .i64 ((po.length:Int)+1),.int .i64 x]]=At.css ({ v:=0,o:=f.c } :: (ze7 po 1++[⟨1+po.length,x⟩])):=by
     rw[<- List.cons_append,<- zyd,Int.add_comm];rfl
    simp only[zaf,Fl.cs]at h1;simp only[↓reduceIte,go_sem,Fl.cs,show (po.length:Int)<(f.o.length:Int) by omega,hga,hx,zac (n:=po.length) (by omega),hs,List.length_cons,show (ze7 po 1).length<=1073741822 by omega,h1]
   ·have h1:=ih (po++[x]) ver (by rw[h];simp)
    rw[zn5,if_neg hx,List.append_nil]at h1;simp only[zaf,Fl.cs]at h1;simp only[↓reduceIte,go_sem,Fl.cs,show (po.length:Int)<(f.o.length:Int) by omega,hga,hx,zac (n:=po.length) (by omega),h1]
 rw[zz5];simp only[↓reduceIte,go_sem];exact loop f.o [] 0 rfl
end Go.Ab
end
section
set_option linter.unusedVariables false
set_option linter.unusedSimpArgs false
set_option maxRecDepth 100000
set_option maxHeartbeats 2000000
namespace Go.Ab
open Go.RowKit Go.Proofs
@[go_sem] theorem atom08_ok(a:At)(vars:Int)(H:List AO):F zkr [.agg a.cs,.int .i64 vars] H=some (.ret (.bool (atB vars a)),H):=by
 rw[z23,atB];simp only[↓reduceIte,go_sem,At.cs]
 grind
theorem z8r(vars:Int)(l:List Cl)(H:List AO)(i:Nat)(c:Cl)(hi:l[i]?=some c)(hb:l.length<=1000)(hc:c.f.length<=6):
  ∀(fs fp:List At),c.f=fp++fs->zia H H (.int .i64 vars) (.sl (Cl.css l)) (.int .i64 i) (.int .i64 fp.length)=if fs.all (atB vars)=true then zfz H H (.int .i64 vars) (.sl (Cl.css l)) (.int .i64 (i+1)) else some (.ret (.bool false),H):=by
 intro fs;have hil:i<l.length:=(List.getElem?_eq_some_iff.1 hi).1
 induction fs with
 |nil=>
  intro fp h;rw[List.append_nil]at h;rw[zia,zab];simp only[↓reduceIte,go_sem,hi,h,List.all_nil,zac (n:=i) (by omega)]
 |cons x fs ih=>
  intro fp h;have h1:=ih (fp++[x]) (by rw[h];simp)
  have hga:c.f[fp.length]?=some x:=by rw[h];simp
  have hp:fp.length<c.f.length:=by rw[h];simp
  simp only[zaf]at h1;rw[zia,zab,List.all_cons]
  cases hx:atB vars x
  ·simp only[↓reduceIte,go_sem,hi,show (fp.length:Int)<(c.f.length:Int) by omega,hga,hx]
  ·simp only[↓reduceIte,go_sem,hi,show (fp.length:Int)<(c.f.length:Int) by omega,hga,hx,zac (n:=fp.length) (by omega),h1]
theorem z4v(vars:Int)(l:List Cl)(H:List AO)(hb:l.length<=1000):
  ∀(s p:List Cl),l=p++s->zfz H H (.int .i64 vars) (.sl (Cl.css l)) (.int .i64 p.length)=some (.ret (.bool (s.all (clB vars))),H):=by
 intro s
 induction s with
 |nil=>
  intro p h;rw[List.append_nil]at h;rw[zfz,zab];simp only[↓reduceIte,go_sem,h,List.all_nil]
 |cons c s ih=>
  intro p h;have h1:=ih (p++[c]) (by rw[h];simp)
  have hga:l[p.length]?=some c:=by rw[h];simp
  have hp:p.length<l.length:=by rw[h];simp
  simp only[zaf]at h1;have hin:=fun hc=>z8r vars l H p.length c hga hb hc c.f [] rfl
  simp only[List.length_nil,Int.natCast_zero]at hin;rw[zfz,zab,List.all_cons,clB]
  cases hx:atB vars c.t
  ·simp only[↓reduceIte,go_sem,show (p.length:Int)<(l.length:Int) by omega,hga,hx]
  ·by_cases ha:1<=c.f.length
   ·by_cases hb:c.f.length<=6
    ·simp only[↓reduceIte,go_sem,show (p.length:Int)<(l.length:Int) by omega,hga,hx,hin hb,h1,show ¬ ((c.f.length:Int)<1) by omega,show ¬ (6<(c.f.length:Int)) by omega,ha,hb]
     cases c.f.all (atB vars) <;> simp
    ·simp only[↓reduceIte,go_sem,show (p.length:Int)<(l.length:Int) by omega,hga,hx,show ¬ ((c.f.length:Int)<1) by omega,show (6<(c.f.length:Int)) by omega,ha,hb]
   ·simp only[↓reduceIte,go_sem,show (p.length:Int)<(l.length:Int) by omega,hga,hx,show ((c.f.length:Int)<1) by omega,ha]
theorem zyh(vars:Int)(l:List Cl)(H:List AO):F zis [.int .i64 vars,.sl (Cl.css l)] H=some (.ret (.bool (zhy vars l)),H):=by
 have h:=fun hb=>z4v vars l H hb l [] rfl
 simp only[List.length_nil,Int.natCast_zero]at h;rw[zz9,zhy];simp only[↓reduceIte,go_sem];by_cases hv:vars<1
 ·simp[hv,show ¬ 1<=vars by omega]
 by_cases hv2:16<vars
 ·simp[hv,hv2,show ¬ vars<=16 by omega]
 by_cases hl:60<(l.length:Int)
 ·simp[hv,hv2,hl,show ¬ l.length<=60 by omega]
 ·simp[hv,hv2,hl,h (by omega),show 1<=vars by omega,show vars<=16 by omega,show l.length<=60 by omega]
structure Cl.ok (vars:Nat) (c:Cl):Prop where
 ne:1<=c.f.length
 len:c.f.length<=6
 at_:∀a∈c.f,0<=a.v/\a.v<vars/\0<=a.o/\a.o<=1000
 to:0<=c.t.v/\c.t.v<vars/\0<=c.t.o/\c.t.o<=1000
theorem z6h{vars:Int}{a:At}:atB vars a=true ↔ 0<=a.v/\a.v<vars/\0<=a.o/\a.o<=1000:=by
 simp[atB,and_assoc]
theorem zga{vars:Nat}{l:List Cl}:zhy vars l=true ↔ 1<=vars/\vars<=16/\l.length<=60/\∀c∈l,c.ok vars:=by
 simp only[zhy,Bool.and_eq_true,decide_eq_true_eq,List.all_eq_true,clB,z6h];constructor
 ·rintro ⟨⟨⟨h1,h2⟩,h3⟩,h4⟩
  exact⟨by omega,by omega,h3,fun c hc=>⟨(h4 c hc).1.1.1,(h4 c hc).1.1.2,(h4 c hc).1.2,(h4 c hc).2⟩⟩
 ·rintro ⟨h1,h2,h3,h4⟩
  exact⟨⟨⟨by omega,by omega⟩,h3⟩,fun c hc=>⟨⟨⟨(h4 c hc).ne,(h4 c hc).len⟩,(h4 c hc).at_⟩,(h4 c hc).to⟩⟩
def okM(vars:Nat)(m:List Int):Prop:=m.length=vars/\∀x∈m,-1000000000000<=x/\x<=1000000000000
theorem okM.get{vars:Nat}{m:List Int}(h:okM vars m){v:Int}(h0:0<=v)(h1:v<vars):m[v.toNat]?=some (gI m v) /\ -1000000000000<=gI m v/\gI m v<=1000000000000:=by
 have hl:v.toNat<m.length:=by rw[h.1];omega
 have e:m[v.toNat]?=some (gI m v):=by simp[gI,List.getD,hl]
 exact⟨e,h.2 _ (List.mem_of_getElem? e)⟩
theorem zvg(n:Int):∀l:List Int,l≠[]->z16 (l++[n])=min (z16 l) n
 |[],h=>absurd rfl h
 |[x],_=>rfl
 |x::y::r,_=>by
  have:=zvg n (y::r) (by simp)
  simp only[List.cons_append,z16]at this ⊢;rw[this];omega
theorem zy3:∀{l:List Int},l≠[]->z16 l∈l
 |[],h=>absurd rfl h
 |[x],_=>by simp[z16]
 |x::y::r,_=>by
  have:=zy3 (l:=y::r) (by simp)
  rw[z16];rcases Int.le_total x (z16 (y::r)) with h|h
  ·rw[Int.min_eq_left h];simp
  ·rw[Int.min_eq_right h];exact List.mem_cons_of_mem _ this
theorem yfc{vars:Nat}{m:List Int}(hm:okM vars m){c:Cl}(hc:c.ok vars):-1000000001000<=ztr c m/\ztr c m<=1000000001000:=by
 have hne:c.f.map (fun a=>gI m a.v - a.o)≠[]:=by have:=hc.ne;intro h;simp at h;simp[h]at this
 obtain⟨a,ha,e⟩:=List.mem_map.1 (zy3 hne);have h1:=hc.at_ a ha;have h2:=hc.to;have h3:=(hm.get h1.1 h1.2.1).2;rw[ztr,<- e];omega
theorem okM.lt{vars:Nat}{m:List Int}(h:okM vars m){v:Int}(h0:0<=v)(h1:v<vars):v.toNat<m.length:=by rw[h.1];omega
theorem z6i(m:List Int)(vars:Nat)(hm:okM vars m)(H:List AO)(id ver:Nat)(hH:H[id]?=some (.lst ver 1 (zaq m)))(c:Cl)(hc:c.ok vars):
  ∀(s p:List At) ,c.f=p++s->p≠[]->zgs H H (.ol id ver) (.int .i64 (z16 (p.map fun a=>gI m a.v - a.o))) (.int .i64 p.length) c.cs=some (.ret (.int .i64 (ztr c m)),H):=by
 intro s
 induction s with
 |nil=>
  intro p h hp;rw[List.append_nil]at h;have hb:=yfc hm hc;rw[ztr,h]at hb;rw[zgs,zab];simp only[↓reduceIte,go_sem,h,zam (n:=z16 (p.map fun a=>gI m a.v - a.o)+c.t.o) (by omega) (by omega),ztr]
 |cons x s ih=>
  intro p h hp;have h1:=ih (p++[x]) (by rw[h];simp) (by simp)
  have hga:c.f[p.length]?=some x:=by rw[h];simp
  have hpl:p.length<c.f.length:=by rw[h];simp
  have hlen:=hc.len;have hx:=hc.at_ x (by rw[h];simp)
  have hgm:=hm.get hx.1 hx.2.1;have hgl:=hm.lt hx.1 hx.2.1;rw[List.map_append,List.map_cons,List.map_nil,zvg _ _ (by simpa using hp)]at h1
  simp only[zaf]at h1;have hmin:(if gI m x.v - x.o<z16 (p.map fun a=>gI m a.v - a.o) then gI m x.v - x.o else z16 (p.map fun a=>gI m a.v - a.o))=min (z16 (p.map fun a=>gI m a.v - a.o)) (gI m x.v - x.o):=by split <;> omega
  rw[zgs,zab];simp only[↓reduceIte,go_sem,At.cs,show (p.length:Int)<(c.f.length:Int) by omega,hga,hx.1,hgm.1,hgl,hH,zam (n:=gI m x.v - x.o) (by omega) (by omega),zac (n:=p.length) (by omega),hmin,h1]
theorem yf5(c:Cl)(m:List Int)(vars:Nat)(hm:okM vars m)(hc:c.ok vars)(H:List AO)(id ver:Nat)(hH:H[id]?=some (.lst ver 1 (zaq m))):F zm2 [.agg c.cs,.ol id ver] H=some (.ret (.int .i64 (ztr c m)),H):=by
 obtain⟨x,r,e⟩:∃x r,c.f=x::r:=by
  cases h:c.f with
  |nil=>have:=hc.ne;rw[h]at this;simp at this
  |cons x r=>exact⟨x,r,rfl⟩
 have hx:=hc.at_ x (by rw[e];simp)
 have hgm:=hm.get hx.1 hx.2.1;have hgl:=hm.lt hx.1 hx.2.1;have h0:c.f[0]?=some x:=by rw[e];rfl
 rw[z25];simp only[↓reduceIte,go_sem,h0,At.cs,hx.1,hgm.1,hgl,hH,zam (n:=gI m x.v - x.o) (by omega) (by omega)]
 have h1:=z6i m vars hm H id ver hH c hc r [x] (by rw[e];rfl) (by simp)
 have hpos:(0:Int)<(c.f.length:Int):=by have:=hc.ne;omega
 rw[zgs,zab];simp only[↓reduceIte,go_sem,h0,hpos,At.cs,hx.1,hgm.1,hgl,hH,zam (n:=gI m x.v - x.o) (by omega) (by omega),Int.lt_irrefl]
 exact h1
def zgg(c:Cl)(n:Int)(l:List At):Int:=l.foldl (fun n a=>max n (c.t.o - a.o)) n
theorem zrn{vars:Nat}{c:Cl}(hc:c.ok vars):∀(l:List At),(∀a∈l,a∈c.f)->∀{n:Int},0<=n/\n<=1000->0<=zgg c n l/\zgg c n l<=1000
 |[],_,_,hn=>hn
 |a::l,hl,n,hn=>by
  have h1:=hc.at_ a (hl a (by simp))
  have h2:=hc.to;exact zrn hc l (fun b hb=>hl b (by simp[hb])) (n:=max n (c.t.o - a.o)) (by omega)
theorem zuc{vars:Nat}:∀(l:List Cl),(∀c∈l,c.ok vars)->∀{n:Int},0<=n/\n<=1000->0<=l.foldl (fun n c=>zgg c n c.f) n/\l.foldl (fun n c=>zgg c n c.f) n<=1000
 |[],_,_,hn=>hn
 |c::l,hl,n,hn=>zuc l (fun d hd=>hl d (by simp[hd])) (zrn (hl c (by simp)) c.f (fun _ h=>h) hn)
theorem zro(l:List Cl):zrp l=l.foldl (fun n c=>zgg c n c.f) 0:=rfl
theorem yb9(vars:Nat)(l:List Cl)(hl:∀c∈l,c.ok vars)(hb:l.length<=1000)(H:List AO)(i:Nat)(c:Cl)(hi:l[i]?=some c)(n0:Int)(hn0:0<=n0/\n0<=1000):
  ∀(s p:List At),c.f=p++s->zja H H (.sl (Cl.css l)) (.int .i64 (zgg c n0 p)) (.int .i64 i) (.int .i64 p.length)=zgr H H (.sl (Cl.css l)) (.int .i64 (zgg c n0 c.f)) (.int .i64 (i+1)):=by
 intro s;have hil:i<l.length:=(List.getElem?_eq_some_iff.1 hi).1;have hc:=hl c (List.mem_of_getElem? hi);have hlen:=hc.len
 induction s with
 |nil=>
  intro p h;rw[List.append_nil]at h;rw[zja,zab];simp only[↓reduceIte,go_sem,hi,h,zac (n:=i) (by omega)]
 |cons x s ih=>
  intro p h;have h1:=ih (p++[x]) (by rw[h];simp)
  have hga:c.f[p.length]?=some x:=by rw[h];simp
  have hp:p.length<c.f.length:=by rw[h];simp
  have hx:=hc.at_ x (by rw[h];simp)
  have ht:=hc.to;have hs:zgg c n0 (p++[x])=max (zgg c n0 p) (c.t.o - x.o):=by simp[zgg]
  have hmax:(if c.t.o - x.o > zgg c n0 p then c.t.o - x.o else zgg c n0 p)=max (zgg c n0 p) (c.t.o - x.o):=by split <;> omega
  rw[hs]at h1;simp only[zaf]at h1;rw[zja,zab];simp only[↓reduceIte,go_sem,At.cs,hi,show (p.length:Int)<(c.f.length:Int) by omega,hga,zam (n:=c.t.o - x.o) (by omega) (by omega),zac (n:=p.length) (by omega),hmax,h1]
theorem z81(vars:Nat)(l:List Cl)(hl:∀c∈l,c.ok vars)(hb:l.length<=1000)(H:List AO):
  ∀(s p:List Cl),l=p++s->∀n,0<=n/\n<=1000->n=p.foldl (fun n c=>zgg c n c.f) 0->zgr H H (.sl (Cl.css l)) (.int .i64 n) (.int .i64 p.length)=some (.ret (.tup [.int .i64 (zrp l),.int .i64 0]),H):=by
 intro s
 induction s with
 |nil=>
  intro p h n hn e;rw[List.append_nil]at h;subst h;rw[zgr,zab];simp only[↓reduceIte,go_sem,e,zro]
 |cons c s ih=>
  intro p h n hn e;have hga:l[p.length]?=some c:=by rw[h];simp
  have hp:p.length<l.length:=by rw[h];simp
  have h1:=ih (p++[c]) (by rw[h];simp) (zgg c n c.f) (zrn (hl c (by rw[h];simp)) c.f (fun _ h=>h) hn) (by rw[List.foldl_append,<- e];rfl)
  have hin:=yb9 vars l hl hb H p.length c hga n hn c.f [] rfl;have h0:zgg c n []=n:=rfl;simp only[zaf]at h1;simp only[List.length_nil,Int.natCast_zero,h0]at hin;rw[zgr,zab];simp only[↓reduceIte,go_sem,show (p.length:Int)<(l.length:Int) by omega,hga,hin,h1]
theorem yfq(vars:Nat)(l:List Cl)(h:zhy vars l=true)(H:List AO):F zm1 [.int .i64 vars,.sl (Cl.css l)] H=some (.ret (.tup [.int .i64 (zrp l),.int .i64 0]),H):=by
 have hr:=zga.1 h;have h1:=z81 vars l hr.2.2.2 (by omega) H l [] rfl 0 (by omega) rfl
 rw[z24];simp only[↓reduceIte,go_sem,zyh,h];exact h1
end Go.Ab
end
section
set_option linter.unusedVariables false
set_option linter.unusedSimpArgs false
set_option maxRecDepth 100000
set_option maxHeartbeats 2000000
namespace Go.Ab
open Go.RowKit Go.Proofs
theorem z87(m:List Int)(hb:m.length<=1000)(most:Int)(H:List AO)(id ver:Nat)(hH:H[id]?=some (.lst ver 1 (zaq m))):F zk9 [.ol id ver,.int .i64 most] H=some (.ret (.bool (m.any fun x=>decide (most<x))),H):=by
 have loop:∀(s p:List Int),m=p++s->zh9 H H (.ol id ver) (.int .i64 most) (.int .i64 p.length)=some (.ret (.bool (s.any fun x=>decide (most<x))),H):=by
  intro s
  induction s with
  |nil=>
   intro p h;rw[List.append_nil]at h;subst h;rw[zh9,zab];simp only[↓reduceIte,go_sem,hH,List.any_nil]
  |cons x s ih=>
   intro p h;have h1:=ih (p++[x]) (by rw[h];simp)
   have hga:m[p.length]?=some x:=by rw[h];simp
   have hp:p.length<m.length:=by rw[h];simp
   simp only[zaf]at h1;rw[zh9,zab,List.any_cons];by_cases hx:most<x
   ·simp only[↓reduceIte,go_sem,show (p.length:Int)<(m.length:Int) by omega,hga,hx,hH,hp,Bool.true_or]
   ·simp only[↓reduceIte,go_sem,show (p.length:Int)<(m.length:Int) by omega,hga,hx,hH,hp,zac (n:=p.length) (by omega),h1,Bool.false_or]
 have:=loop m [] rfl;rw[zz6];simp only[↓reduceIte,go_sem,hH];exact this
theorem zxb{m:List Int}{c:Cl}(h:¬ gI m c.t.v<ztr c m):zj8 m c=m:=by
 unfold zj8;rw[Int.max_eq_left (by omega)]
 apply List.ext_getElem?;intro i;rw[List.getElem?_set]
 split
 ·rename_i e
  subst e
  split
  ·rename_i hl;simp[gI,List.getD,hl]
  ·rename_i hl;simp[hl]
 ·rfl
theorem z8l{m:List Int}{c:Cl}(h:gI m c.t.v<ztr c m)(hl:c.t.v.toNat<m.length):zj8 m c=m.set c.t.v.toNat (ztr c m)/\zj8 m c≠m:=by
 have e:zj8 m c=m.set c.t.v.toNat (ztr c m):=by unfold zj8;rw[Int.max_eq_right (by omega)]
 refine⟨e,fun h2=>?_⟩
 have h3:(m.set c.t.v.toNat (ztr c m)).getD c.t.v.toNat 0=ztr c m:=by rw[z6w,if_pos ⟨rfl,hl⟩]
 rw[<- e,h2]at h3;unfold gI at h;omega
def bdM(vars:Nat)(B:Int)(m:List Int):Prop:=m.length=vars/\∀x∈m,0<=x/\x<=B
theorem bdM.ok{vars:Nat}{B:Int}{m:List Int}(h:bdM vars B m)(hB:B<=1000000000000):okM vars m :=
 ⟨h.1,fun x hx=>by have:=h.2 x hx;omega⟩
theorem bdM.get{vars:Nat}{B:Int}{m:List Int}(h:bdM vars B m){v:Int}(h0:0<=v)(h1:v<vars):0<=gI m v/\gI m v<=B:=by
 have hl:v.toNat<m.length:=by rw[h.1];omega
 have e:m[v.toNat]?=some (gI m v):=by simp[gI,List.getD,hl]
 exact h.2 _ (List.mem_of_getElem? e)
theorem asks_le{vars:Nat}{B:Int}{m:List Int}(hm:bdM vars B m){c:Cl}(hc:c.ok vars):ztr c m<=B+1000:=by
 have hne:c.f.map (fun a=>gI m a.v - a.o)≠[]:=by have:=hc.ne;intro h;simp at h;simp[h]at this
 obtain⟨a,ha,e⟩:=List.mem_map.1 (zy3 hne);have h1:=hc.at_ a ha;have h2:=hc.to;have h3:=hm.get h1.1 h1.2.1;rw[ztr,<- e];omega
theorem bdM.step{vars:Nat}{B:Int}{m:List Int}(hm:bdM vars B m){c:Cl}(hc:c.ok vars)(hB:0<=B):bdM vars (B+1000) (zj8 m c):=by
 refine⟨by rw[zq9];exact hm.1,fun x hx=>?_⟩
 have ha:=asks_le hm hc;have hg:=hm.get hc.to.1 hc.to.2.1;rcases List.mem_or_eq_of_mem_set hx with hx|rfl
 ·have:=hm.2 x hx;omega
 ·omega
theorem bdM.round{vars:Nat}:∀(l:List Cl) {B:Int} {m:List Int},bdM vars B m->(∀c∈l,c.ok vars)->0<=B->bdM vars (B+1000*l.length) (za1 l m)
 |[],B,m,hm,_,_=>by simpa [za1] using hm
 |c::l,B,m,hm,hl,hB=>by
  have:=bdM.round l (hm.step (hl c (by simp)) hB) (fun d hd=>hl d (by simp[hd])) (by omega)
  have e:B+1000+1000*(l.length:Int)=B+1000*((c::l).length:Int):=by simp;omega
  rw[e]at this;exact this
def z7n(most:Int)(m:List Int):Bool:=m.any fun x=>decide (most<x)
theorem zqr(l:List Cl)(most:Int)(vars:Nat)(H:List AO)(hl:∀c∈l,c.ok vars)(hb:l.length<=1000)(hv:vars<=1000):∀(s p:List Cl),l=p++s->∀(B:Int) (ver:Nat) (k:Int) (ch:Bool) (m:List Int),bdM vars B m->0<=B->B+1000*s.length<=1000000000->0<=k->k+s.length<=1000000000000000->∃ver',
  zgw H (H++[.lst 0 1 [],.lst ver 1 (zaq m)]) (.sl (Cl.css l)) (.int .i64 most) (.ol (H.length+1) ver) (.int .i64 k) (.bool ch) (.int .i64 p.length) =
   (if z7n most (za1 s m)=true then some (.ret (.tup [.sl [],.bool false,.int .i64 (k+s.length)]),H) else
    if ch=true\/za1 s m≠m then zd1 H (H++[.lst 0 1 [],.lst ver' 1 (zaq (za1 s m))]) (.sl (Cl.css l)) (.int .i64 most) (.ol (H.length+1) ver') (.int .i64 (k+s.length))
    else some (.ret (.tup [.sl (zaq (za1 s m)),.bool true,.int .i64 (k+s.length)]),H)):=by
 intro s
 induction s with
 |nil=>
  intro p h B ver k ch m hm h0 hB hk0 hk;rw[List.append_nil]at h;have hG:=fun H id ver hH=>z87 m (by rw[hm.1];exact hv) most H id ver hH
  refine⟨ver,?_⟩;have hGG:=hG (H++[.lst 0 1 [],.lst ver 1 (zaq m)]) (H.length+1) ver (by simp)
  rw[zgw,zab];simp only[↓reduceIte,go_sem,h,hGG,z7n,za1,List.foldl_nil,List.length_nil,Int.natCast_zero,Int.add_zero]
  cases ch <;> simp
 |cons c s ih=>
  intro p h B ver k ch m hm h0 hB hk0 hk;simp only[List.length_cons,Int.natCast_add,Int.natCast_one]at hB hk;have hc:=hl c (by rw[h];simp)
  have hga:l[p.length]?=some c:=by rw[h];simp
  have hp:p.length<l.length:=by rw[h];simp
  have hA:=yf5 c m vars (hm.ok (by omega)) hc (H++[.lst 0 1 [],.lst ver 1 (zaq m)]) (H.length+1) ver (by simp)
  have hgm:=(hm.ok (by omega)).get hc.to.1 hc.to.2.1
  have hgl:=(hm.ok (by omega)).lt hc.to.1 hc.to.2.1
  have hk1:k+1+(s.length:Int)=k+((c::s).length:Int):=by simp;omega
  have hround:za1 (c::s) m=za1 s (zj8 m c):=rfl;rw[zgw,zab];by_cases hlt:gI m c.t.v<ztr c m
  ·have hst:=z8l hlt hgl
   obtain⟨ver',h1⟩:=ih (p++[c]) (by rw[h];simp) (B+1000) ver (k+1) true (zj8 m c) (hm.step hc h0) (by omega) (by omega) (by omega) (by omega)
   refine⟨ver',?_⟩;have hset:(zaq m).set c.t.v.toNat [.int .i64 (ztr c m)]=zaq (m.set c.t.v.toNat (ztr c m)):=by simp[zaq,List.map_set]
   simp only[zaf,hst.1]at h1;simp only[↓reduceIte,go_sem,hga,hp,show (p.length:Int)<(l.length:Int) by omega,hA,hc.to.1,hgm.1,hgl,hlt,zam (n:=k+1) (by omega) (by omega),zac (n:=p.length) (by omega),hset]
   rw[h1,hround,hst.1,hk1];have hne:za1 s (m.set c.t.v.toNat (ztr c m))≠m:=by
    intro e;rw[<- hst.1]at e;have:=zrf s (zj8 m c);rw[e]at this;exact hst.2 (leM_eq (z6t m c) this).symm
   simp[hne]
  ·obtain⟨ver',h1⟩:=ih (p++[c]) (by rw[h];simp) (B+1000) ver (k+1) ch (zj8 m c) (hm.step hc h0) (by omega) (by omega) (by omega) (by omega)
   refine⟨ver',?_⟩;simp only[zaf,zxb hlt]at h1;rw[hround,zxb hlt];simp only[↓reduceIte,go_sem,hga,hp,show (p.length:Int)<(l.length:Int) by omega,hA,hc.to.1,hgm.1,hgl,hlt,zam (n:=k+1) (by omega) (by omega),zac (n:=p.length) (by omega),h1,hk1]
def z15(r:Option (List Int)):List (List AV):=match r with|some m=>zaq m|none=>[]
theorem zrt(n:Nat)(z:List Int):∀a∈(zaq z).flatten,Lt n a:=by
 intro a ha;obtain⟨e,he,h2⟩:=List.mem_flatten.1 ha;obtain⟨b,_,rfl⟩:=List.mem_map.1 he;simp at h2;subst h2;exact .int _ _
@[go_sem] theorem lt_modL(n:Nat)(r:Option (List Int)):(∀a∈(z15 r).flatten,Lt n a)=True:=eq_true (by
 cases r with
 |none=>intro a ha;simp[z15]at ha
 |some m=>exact zrt n m)
theorem z1u(l:List Cl)(most:Int)(vars:Nat)(H:List AO)(hl:∀c∈l,c.ok vars)(hb:l.length<=1000)(hv:vars<=1000)(hm0:0<=most)(hm1:most<=1000000){m:List Int}{r:Option (List Int)}{n:Nat}(hr:RunS l most m r n):
  ∀(ver:Nat) (k:Int),bdM vars most m->0<=k->k+n*l.length<=1000000000000000 ->
  zd1 H (H++[.lst 0 1 [],.lst ver 1 (zaq m)]) (.sl (Cl.css l)) (.int .i64 most) (.ol (H.length+1) ver) (.int .i64 k)=some (.ret (.tup [.sl (z15 r),.bool r.isSome,.int .i64 (k+n*l.length)]),H):=by
 have hgr:∀m,z7n most m=true ↔ ∃x∈m,most<x:=by intro m;simp[z7n]
 induction hr with
 |over h=>
  intro ver k hbd hk0 hk;rename_i m;obtain⟨ver',h1⟩:=zqr l most vars H hl hb hv l [] rfl most ver k false m hbd hm0 (by omega) hk0 (by omega)
  rw[if_pos ((hgr _).2 h)]at h1;simp only[List.length_nil,Int.natCast_zero]at h1;rw[zd1,zab];simp only[↓reduceIte,go_sem,h1,z15,Option.isSome];simp
 |fix h hb2=>
  intro ver k hbd hk0 hk;rename_i m;obtain⟨ver',h1⟩:=zqr l most vars H hl hb hv l [] rfl most ver k false m hbd hm0 (by omega) hk0 (by omega)
  rw[if_neg (by rw[hgr,h];rintro ⟨x,hx,hlt⟩;have:=hb2 x hx;omega),if_neg (by simp[h]),h]at h1
  simp only[List.length_nil,Int.natCast_zero]at h1;rw[zd1,zab];simp only[↓reduceIte,go_sem,h1,z15,Option.isSome];simp
 |more h hb2 hr ih=>
  intro ver k hbd hk0 hk;rename_i m r n;have e:k+l.length+n*(l.length:Int)=k+((n+1:Nat):Int)*l.length:=by
   rw[Int.natCast_add,Int.add_mul];simp;omega
  have hn0:0<=n*(l.length:Int):=Int.mul_nonneg (by omega) (by omega)
  obtain⟨ver',h1⟩:=zqr l most vars H hl hb hv l [] rfl most ver k false m hbd hm0 (by omega) hk0 (by omega)
  rw[if_neg (by rw[hgr];rintro ⟨x,hx,hlt⟩;have:=hb2 x hx;omega),if_pos (.inr h)]at h1
  have hrb:=hbd.round l hl hm0;rw[ih ver' (k+l.length) ⟨hrb.1,fun x hx=>⟨(hrb.2 x hx).1,hb2 x hx⟩⟩ (by omega) (by omega),e]at h1
  simp only[List.length_nil,Int.natCast_zero]at h1;rw[zd1,zab];simp only[↓reduceIte,go_sem,h1]
theorem z4u(l:List Cl)(most:Int)(vars:Nat)(H:List AO)(hl:∀c∈l,c.ok vars)(hb:l.length<=1000)(hv:vars<=1000)(hv1:1<=vars)(hm0:0<=most)(hm1:most<=1000000){m:List Int}{r:Option (List Int)}{n:Nat}(hr:RunS l most m r n)(hbd:bdM vars most m)(hk:n*(l.length:Int)<=1000000000000000):
  F zjj [.sl (Cl.css l),.sl (zaq m),.int .i64 most] H=some (.ret (.tup [.sl (z15 r),.bool r.isSome,.int .i64 (n*l.length)]),H):=by
 obtain⟨x,q,e⟩:∃x q,m=x::q:=by
  cases m with
  |nil=>have:=hbd.1;simp at this;omega
  |cons x q=>exact⟨x,q,rfl⟩
 subst e;have h1:=fun ver=>z1u l most vars H hl hb hv hm0 hm1 hr ver 0 hbd (by omega) (by omega)
 have hlen:=hbd.1;rw[List.length_cons]at hlen;have hi:zaq (x::q)=[.int .i64 x]::zaq q:=rfl;have h1s:(∀y:List AV,y∈zaq q->y.length=1)=True:=eq_true (by intro y hy;obtain⟨z,_,rfl⟩:=List.mem_map.1 hy;rfl)
 rw[zwy];simp only[Int.zero_add,hi]at h1;simp only[↓reduceIte,go_sem,hi,h1s,show q.length<1073741824 by omega,h1]
theorem z83(vars:Nat)(l:List Cl)(h:zhy vars l=true)(H:List AO):F zlb [.int .i64 vars,.sl (Cl.css l)] H=some (.ret (.int .i64 (zhc vars l)),H):=by
 have hr:=zga.1 h;have hb:=zuc l hr.2.2.2 (n:=0) (by omega)
 rw[<- zro]at hb;have h1:0<=((vars:Int) - 1)*zrp l:=Int.mul_nonneg (by omega) hb.1
 have h2:((vars:Int) - 1)*zrp l<=15*1000:=Int.mul_le_mul (by omega) hb.2 hb.1 (by omega)
 rw[zz8,zhc];simp only[↓reduceIte,go_sem,yfq vars l h,zam (n:=(vars:Int) - 1) (by omega) (by omega),zam (n:=((vars:Int) - 1)*zrp l) (by omega) (by omega)]
theorem zrs(vars:Nat)(l:List Cl)(h:zhy vars l=true):0<=zhc vars l/\zhc vars l<=15000:=by
 have hr:=zga.1 h;have hb:=zuc l hr.2.2.2 (n:=0) (by omega)
 rw[<- zro]at hb;have h1:0<=((vars:Int) - 1)*zrp l:=Int.mul_nonneg (by omega) hb.1
 have h2:((vars:Int) - 1)*zrp l<=15*1000:=Int.mul_le_mul (by omega) hb.2 hb.1 (by omega)
 unfold zhc;omega
theorem run0(vars:Nat)(l:List Cl)(h:zhy vars l=true):∃r k,RunS l (zhc vars l) (List.replicate vars 0) r k/\k<=300001:=by
 have hr:=zga.1 h;have hb:=zrs vars l h;have hs:∀n,z1n (List.replicate n 0)=0:=by
  intro n
  induction n with
  |zero=>rfl
  |succ n ih=>simp only[z1n,List.replicate_succ,List.foldr_cons]at *;omega
 have hmul:(vars:Int)*zhc vars l<=16*15000:=Int.mul_le_mul (by omega) hb.2 hb.1 (by omega)
 obtain⟨r,k,h1,h2⟩:=ybj l (zhc vars l) 300000 (List.replicate vars 0) (by rw[hs,List.length_replicate];omega) (fun x hx=>by simp at hx;omega)
 exact⟨r,k,h1,by omega⟩
theorem z96(vars:Nat)(l:List Cl)(h:zhy vars l=true){r:Option (List Int)}{k:Nat}(hr:RunS l (zhc vars l) (List.replicate vars 0) r k)(H:List AO):F zla [.int .i64 vars,.sl (Cl.css l)] H=some (.ret (.tup [.sl (z15 r),.bool r.isSome,.int .i64 (k*l.length),.int .i64 0]),H):=by
 have hR:=zga.1 h;have hb:=zrs vars l h;obtain⟨r',k',h1,h2⟩:=run0 vars l h;obtain⟨_,e⟩:=hr.det h1;have hk:(k:Int)*l.length<=300001*60:=Int.mul_le_mul (by omega) (by omega) (by omega) (by omega)
 have hro:=fun H=>z4u l (zhc vars l) vars H hR.2.2.2 (by omega) (by omega) hR.1 hb.1 (by omega) hr ⟨by simp,fun x hx=>by simp at hx;omega⟩ (by omega)
 have hrep:List.replicate vars [AV.int .i64 0]=zaq (List.replicate vars 0):=by simp[zaq]
 rw[zz7];simp only[↓reduceIte,go_sem,zyh,h,z83 vars l h,show (vars:Int)<=1073741824 by omega,show (vars:Int)<=1073741823 by omega,hro,hrep]
end Go.Ab
end
section
set_option linter.unusedVariables false
set_option linter.unusedSimpArgs false
set_option maxRecDepth 100000
set_option maxHeartbeats 2000000
namespace Go.Ab
open Go.RowKit Go.Proofs
def ztj:List Bool->Int->List Cl
 |[],_=>[]
 |b::r,i=>if b then ztj r (i+1) else ⟨[⟨i,0⟩],⟨0,1⟩⟩::ztj r (i+1)
def yao(z:List Bool)(c:Co):List Cl:=(zap (za3 c.a z)).map fun t=>⟨zap (za3 c.b z),t⟩
def zca(cons:List Co)(z:List Bool):List Cl:=ztj z 1++cons.flatMap (yao z)
theorem znm(l:List Cl)(x:Cl):Cl.css l++[x.cs]=Cl.css (l++[x]):=by simp[Cl.css]
theorem z12(l:List Bool)(x:Bool):∀i:Int,ztj (l++[x]) i=ztj l i++if x then [] else [⟨[⟨i+l.length,0⟩],⟨0,1⟩⟩]:=by
 induction l with
 |nil=>intro i;simp[ztj]
 |cons n l ih=>
  intro i;rw[List.cons_append,ztj,ztj,ih (i+1)];have:i+1+(l.length:Int)=i+((n::l).length:Int):=by simp;omega
  rw[this]
  split <;> simp
theorem zy0(l:List Bool):∀i:Int,(ztj l i).length<=l.length:=by
 induction l with
 |nil=>intro i;simp[ztj]
 |cons n l ih=>intro i;rw[ztj];have:=ih (i+1);split <;> simp <;> omega
theorem z4h(m:List Int)(z:List Bool)(hm:m.length=z.length+1)(hb:okM (z.length+1) m)(hz:z.length<=1000):∃vs,∀H,F zji [.sl (zaq m),.sl (bls z)] H=some (.ret (.sl (zaq vs)),H):=by
 have g0:=hb.get (v:=0) (by omega) (by omega)
 have loop:∀(s p:List Bool) (out:List Int),z=p++s->out.length=p.length->∃vs,∀(H:List AO) (ver:Nat),zgv H (H++[.lst 0 1 [],.lst ver 1 (zaq out)]) (.sl (zaq m)) (.sl (bls z)) (.ol (H.length+1) ver) (.int .i64 p.length)=some (.ret (.sl (zaq vs)),H):=by
  intro s
  induction s with
  |nil=>
   intro p out h ho;rw[List.append_nil]at h;subst h;refine⟨out,fun H ver=>?_⟩
   rw[zgv,zab];simp only[↓reduceIte,go_sem]
  |cons x s ih=>
   intro p out h ho;have hga:z[p.length]?=some x:=by rw[h];simp
   have hp:p.length<z.length:=by rw[h];simp
   have g1:=hb.get (v:=(p.length:Int)+1) (by omega) (by omega)
   have hnn:(0:Int)<=(p.length:Int)+1:=by omega
   obtain⟨vs,h1⟩:=ih (p++[x]) (out++[if x=true then 0 else gI m 0 - gI m ((p.length:Int)+1)]) (by rw[h];simp) (by simp[ho])
   refine⟨vs,fun H ver=>?_⟩
   have h1:=h1 H (ver+1);rw[<- zlk]at h1;simp only[zaf]at h1;have e0:m[0]?=some (gI m 0):=g0.1;rw[zgv,zab];cases x
   ·simp only[↓reduceIte,Bool.false_eq_true]at h1
    simp only[↓reduceIte,go_sem,show (p.length:Int)<(z.length:Int) by omega,hga,e0,hnn,g1.1,zac (n:=p.length) (by omega),zam (n:=gI m 0 - gI m ((p.length:Int)+1)) (by omega) (by omega),ho,show p.length<=1073741823 by omega,h1]
   ·simp only[↓reduceIte]at h1
    simp only[↓reduceIte,go_sem,show (p.length:Int)<(z.length:Int) by omega,hga,e0,hnn,g1.1,zac (n:=p.length) (by omega),zam (n:=gI m 0 - gI m ((p.length:Int)+1)) (by omega) (by omega),ho,show p.length<=1073741823 by omega,h1]
 obtain⟨vs,h1⟩:=loop z [] [] rfl rfl;refine⟨vs,fun H=>?_⟩
 have h1:=h1 H 0;rw[zwx];simp only[↓reduceIte,go_sem];exact h1
theorem z6a(cons:List Co)(z:List Bool)(hz:z.length<=1000)(H:List AO):∀(s p:List Bool) (ver:Nat),z=p++s->∃ver',
  zer H (H++[.lst 0 3 [],.lst ver 3 (Cl.css (ztj p 1))]) (.sl (Co.css cons)) (.sl (bls z)) (.ol (H.length+1) ver) (.int .i64 p.length)=zdp H (H++[.lst 0 3 [],.lst ver' 3 (Cl.css (ztj z 1))]) (.sl (Co.css cons)) (.sl (bls z)) (.ol (H.length+1) ver') (.int .i64 0):=by
 intro s
 induction s with
 |nil=>
  intro p ver h;rw[List.append_nil]at h;subst h;refine⟨ver,?_⟩;rw[zer,zab];simp only[↓reduceIte,go_sem]
 |cons x s ih=>
  intro p ver h;have hga:z[p.length]?=some x:=by rw[h];simp
  have hp:p.length<z.length:=by rw[h];simp
  have hl:=zy0 p 1;cases x
  ·obtain⟨ver',h1⟩:=ih (p++[false]) (ver+1) (by rw[h];simp)
   refine⟨ver',?_⟩;rw[z12,if_neg (by simp)]at h1
   simp only[zaf]at h1;have hs:Cl.css (ztj p 1)++[[.sl [[.int .i64 ((p.length:Int)+1),.int .i64 0]],.int .i64 0,.int .i64 1]]=Cl.css (ztj p 1++[⟨[⟨1+p.length,0⟩],⟨0,1⟩⟩]):=by
    rw[<- znm,Int.add_comm];rfl
   rw[zer,zab];simp only[↓reduceIte,go_sem,show (p.length:Int)<(z.length:Int) by omega,hga,zac (n:=p.length) (by omega),show (ztj p 1).length<=1073741823 by omega,hs,h1]
  ·obtain⟨ver',h1⟩:=ih (p++[true]) ver (by rw[h];simp)
   refine⟨ver',?_⟩;rw[z12,if_pos rfl,List.append_nil]at h1;simp only[zaf]at h1;rw[zer,zab];simp only[↓reduceIte,go_sem,show (p.length:Int)<(z.length:Int) by omega,hga,zac (n:=p.length) (by omega),h1]
theorem z59(cons:List Co)(z:List Bool)(H:List AO)(i:Nat)(hi:i<=1000)(fb:Fl)(hfb:fb.o.length<=1000)(l:List At)(hl:l.length<=1000)(out:List Cl)(ho:out.length<=1000):∀(s p:List At) (ver:Nat),l=p++s->∃ver',
  zgb H (H++[.lst 0 3 [],.lst ver 3 (Cl.css (out++p.map fun t=>⟨zap fb,t⟩))]) (.sl (Co.css cons)) (.sl (bls z)) (.ol (H.length+1) ver) (.int .i64 i) (.sl (At.css l)) (.int .i64 p.length) fb.cs=zdp H (H++[.lst 0 3 [],.lst ver' 3 (Cl.css (out++l.map fun t=>⟨zap fb,t⟩))]) (.sl (Co.css cons)) (.sl (bls z)) (.ol (H.length+1) ver') (.int .i64 (i+1)):=by
 intro s
 induction s with
 |nil=>
  intro p ver h;rw[List.append_nil]at h;subst h;refine⟨ver,?_⟩;rw[zgb,zab];simp only[↓reduceIte,go_sem,zac (n:=i) (by omega)]
 |cons x s ih=>
  intro p ver h;have hga:l[p.length]?=some x:=by rw[h];simp
  have hp:p.length<l.length:=by rw[h];simp
  obtain⟨ver',h1⟩:=ih (p++[x]) (ver+1) (by rw[h];simp)
  refine⟨ver',?_⟩;have hA:=fun H=>zp5 fb hfb H
  have hlen:(out++List.map (fun t=>{ f:=zap fb,t:=t:Cl }) p).length<=1073741823:=by simp;omega
  rw[List.map_append,List.map_cons,List.map_nil,<- List.append_assoc,<- znm,Cl.cs]at h1;simp only[zaf]at h1;rw[zgb,zab];simp only[↓reduceIte,go_sem,show (p.length:Int)<(l.length:Int) by omega,hga,zac (n:=p.length) (by omega),hA,At.cs,hlen]
  exact h1
theorem zf9(l:Lv)(z:List Bool):(zap (za3 l z)).length<=6:=by
 have:=ztb (za3 l z).o 1;have:=(ziz l z).2.2.1;rw[zap,List.length_cons];omega
theorem z0q(z:List Bool):∀l:List Co,(l.flatMap (yao z)).length<=6*l.length
 |[]=>by simp
 |c::l=>by
  have:=z0q z l;have:=zf9 c.a z;simp only[List.flatMap_cons,List.length_append,yao,List.length_map,List.length_cons];omega
theorem z58(cons:List Co)(hcons:∀c∈cons,c.ok)(hcl:cons.length<=60)(z:List Bool)(hz:z.length<=5)(H:List AO):∀(s p:List Co) (ver:Nat),cons=p++s ->
  zdp H (H++[.lst 0 3 [],.lst ver 3 (Cl.css (ztj z 1++p.flatMap (yao z)))]) (.sl (Co.css cons)) (.sl (bls z)) (.ol (H.length+1) ver) (.int .i64 p.length)=some (.ret (.sl (Cl.css (zca cons z))),H):=by
 intro s
 induction s with
 |nil=>
  intro p ver h;rw[List.append_nil]at h;subst h;rw[zdp,zab];simp only[↓reduceIte,go_sem,zca]
 |cons x s ih=>
  intro p ver h;have hga:cons[p.length]?=some x:=by rw[h];simp
  have hp:p.length<cons.length:=by rw[h];simp
  have hx:=hcons x (by rw[h];simp)
  have hf1:=fun H=>zl9 x.a hx.1 z H
  have hf2:=fun H=>zl9 x.b hx.2 z H
  have hA:=fun H=>zp5 (za3 x.a z) (by have:=(ziz x.a z).2.2.1;omega) H
  rw[zdp,zab];simp only[↓reduceIte,go_sem,show (p.length:Int)<(cons.length:Int) by omega,hga,hf1,hf2,hA]
  have hg:=ziz x.b z;have hla:=zf9 x.a z;obtain⟨ver',h1⟩:=z59 cons z H p.length (by omega) (za3 x.b z) (by omega) (zap (za3 x.a z)) (by omega) (ztj z 1++p.flatMap (yao z)) (by have:=zy0 z 1;have:=z0q z p;simp only[List.length_append];omega) (zap (za3 x.a z)) [] ver rfl
  have h2:=ih (p++[x]) ver' (by rw[h];simp)
  have e:ztj z 1++List.flatMap (yao z) (p++[x])=(ztj z 1++p.flatMap (yao z))++(zap (za3 x.a z)).map fun t=>⟨zap (za3 x.b z),t⟩:=by
   simp[yao]
  rw[e]at h2;simp only[zaf]at h2;rw[h2]at h1;simp only[List.map_nil,List.append_nil,List.length_nil,Int.natCast_zero]at h1;exact h1
theorem z3t(cons:List Co)(hcons:∀c∈cons,c.ok)(hcl:cons.length<=60)(z:List Bool)(hz:z.length<=5)(H:List AO):F zhm [.sl (Co.css cons),.sl (bls z)] H=some (.ret (.sl (Cl.css (zca cons z))),H):=by
 obtain⟨ver,h0⟩:=z6a cons z (by omega) H z [] 0 rfl
 have h2:=z58 cons hcons hcl z hz H cons [] ver rfl;simp only[List.flatMap_nil,List.append_nil,List.length_nil,Int.natCast_zero]at h2;rw[h2]at h0;rw[zvz];simp only[↓reduceIte,go_sem];exact h0
def zkb(a:At)(b:List At):List Cl:=b.map fun y=>⟨[a],⟨y.v,y.o+1⟩⟩
theorem zxr(a:At)(b:List At)(y:At):zkb a (b++[y])=zkb a b++[⟨[a],⟨y.v,y.o+1⟩⟩]:=by simp[zkb]
theorem zyc(t:At):∀(l:List Int) (i:Int),t∈ze7 l i->i<=t.v/\t.v<i+l.length/\0<=t.o/\t.o∈l
 |[],i,h=>by simp[ze7]at h
 |n::l,i,h=>by
  rw[ze7]at h;have ih:=zyc t l (i+1);simp only[List.length_cons,Int.natCast_add,Int.natCast_one,List.mem_cons]
  split at h
  ·rcases List.mem_cons.1 h with rfl|h
   ·exact⟨Int.le_refl _,by simp only[];omega,by assumption,.inl rfl⟩
   ·have:=ih h;exact⟨by omega,by omega,this.2.2.1,.inr this.2.2.2⟩
  ·have:=ih h;exact⟨by omega,by omega,this.2.2.1,.inr this.2.2.2⟩
theorem z2l(l:Lv)(z:List Bool):(za3 l z).o.length<=z.length:=by
 by_cases h:zax l z.length 0=true
 ·rw[yd6 l z h];omega
 ·rw[za3,if_neg h];simp[yaw]
theorem znp(l:Lv)(z:List Bool):∀t∈zap (za3 l z),0<=t.v/\t.v<((z.length+1:Nat):Int)/\0<=t.o/\t.o<=12:=by
 intro t ht;have hg:=ziz l z;have hl:=z2l l z;rw[zap]at ht;rcases List.mem_cons.1 ht with rfl|ht
 ·exact⟨by simp,by simp only[];omega,hg.1,hg.2.1⟩
 ·have:=zyc t _ _ ht
  have h2:=hg.2.2.2 _ this.2.2.2;omega
theorem z66(c:Cl):∀(z:List Bool) (i:Int),c∈ztj z i->∃j,i<=j/\j<i+z.length/\c=⟨[⟨j,0⟩],⟨0,1⟩⟩
 |[],i,h=>by simp[ztj]at h
 |b::z,i,h=>by
  rw[ztj]at h;have ih:=z66 c z (i+1);simp only[List.length_cons,Int.natCast_add,Int.natCast_one]
  split at h
  ·obtain⟨j,h1,h2,h3⟩:=ih h;exact⟨j,by omega,by omega,h3⟩
  ·rcases List.mem_cons.1 h with rfl|h
   ·exact⟨i,by omega,by omega,rfl⟩
   ·obtain⟨j,h1,h2,h3⟩:=ih h;exact⟨j,by omega,by omega,h3⟩
theorem z57(cons:List Co)(z:List Bool):∀c∈zca cons z,c.ok (z.length+1):=by
 intro c hc;rcases List.mem_append.1 hc with hc|hc
 ·obtain⟨j,h1,h2,rfl⟩:=z66 c z 1 hc
  exact⟨by simp,by simp,fun a ha=>by simp at ha;subst ha;simp only[];omega,by simp only[];omega⟩
 ·obtain⟨d,hd,hc⟩:=List.mem_flatMap.1 hc
  obtain⟨t,ht,rfl⟩:=List.mem_map.1 hc;have ht:=znp d.a z t ht;exact⟨by simp[zap],zf9 d.b z,fun a ha=>by have:=znp d.b z a ha;omega,by simp only[];omega⟩
theorem yhp(a:At)(b:List At)(vars:Nat)(ha:0<=a.v/\a.v<vars/\0<=a.o/\a.o<=12)(hb:∀t∈b,0<=t.v/\t.v<vars/\0<=t.o/\t.o<=12):∀c∈zkb a b,c.ok vars:=by
 intro c hc;obtain⟨y,hy,rfl⟩:=List.mem_map.1 hc;have:=hb y hy;exact⟨by simp,by simp,fun t ht=>by simp at ht;subst ht;omega,by simp only[];omega⟩
def zsu(cons:List Co)(z:List Bool)(b:Lv)(x:At):List Cl:=zca cons z++zkb x (zap (za3 b z))
theorem zpi(cons:List Co)(z:List Bool):(zca cons z).length<=z.length+6*cons.length:=by
 have:=zy0 z 1;have:=z0q z cons;rw[zca,List.length_append];omega
theorem zvf(cons:List Co)(hcl:cons.length<=8)(z:List Bool)(hz:z.length<=5)(a b:Lv)(x:At)(hx:x∈zap (za3 a z)):zhy ((z.length+1:Nat):Int) (zsu cons z b x)=true:=by
 have h1:=zpi cons z;have h2:=zf9 b z;refine zga.2 ⟨by omega,by omega,by simp only[zsu,List.length_append,zkb,List.length_map];omega,fun c hc=>?_⟩
 rcases List.mem_append.1 hc with hc|hc
 ·exact z57 cons z c hc
 ·exact yhp x _ _ (znp a z x hx) (znp b z) c hc
def zj9(vars:Nat)(l:List Cl):Prop:=∃m k,RunS l (zhc vars l) (List.replicate vars 0) (some m) k
theorem ybk{vars:Nat}{l:List Cl}(h:zhy vars l=true){m:List Int}{k:Nat}(hr:RunS l (zhc vars l) (List.replicate vars 0) (some m) k):okM vars m:=by
 have h1:=hr.model rfl;have h2:=hr.le rfl;have hb:=zrs vars l h;refine⟨by simpa using h1.2.2,fun x hx=>?_⟩
 obtain⟨i,hi⟩:=List.mem_iff_getElem?.1 hx;have h3:=h2.2 i;have h4:=h1.2.1 x hx;have h5:(List.replicate vars (0:Int)).getD i 0=0:=by
  simp only[List.getD,List.getElem?_replicate];split <;> rfl
 rw[h5]at h3;simp only[List.getD,hi,Option.getD_some]at h3;omega
theorem zqn(l:List Cl)(hl:l.length<=1000)(a:At)(b:List At)(hb:b.length<=1000)(hbo:∀y∈b,0<=y.o/\y.o<=1000)(z:List Bool)(hz:z.length<=5)(hR:zhy ((z.length+1:Nat):Int) (l++zkb a b)=true){r:Option (List Int)}{k:Nat}(hr:RunS (l++zkb a b) (zhc ((z.length+1:Nat):Int) (l++zkb a b)) (List.replicate (z.length+1) 0) r k)(H:List AO):
  ∀(s p:List At) (ver:Nat),b=p++s->∃vs,zes H (H++[.lst ver 3 (Cl.css (l++zkb a p))]) (.sl (At.css b)) (.sl (bls z)) (.ol H.length ver) (.int .i64 p.length) a.cs=some (.ret (.tup [.sl (zaq vs),.bool r.isSome]),H):=by
 intro s
 induction s with
 |nil=>
  intro p ver h;rw[List.append_nil]at h;subst h;have hS:=fun H=>z96 (z.length+1) (l++zkb a b) hR hr H
  simp only[Int.natCast_add,Int.natCast_one]at hS;rw[zes,zab]
  cases r with
  |none=>
   refine⟨[],?_⟩;simp only[↓reduceIte,go_sem,zac (n:=z.length) (by omega),hS,Option.isSome,z15,zfj]
  |some m=>
   have hm:=ybk hR hr;obtain⟨vs,hV⟩:=z4h m z hm.1 hm (by omega)
   refine⟨vs,?_⟩;simp only[↓reduceIte,go_sem,zac (n:=z.length) (by omega),hS,Option.isSome,z15,hV]
 |cons x s ih=>
  intro p ver h;have hga:b[p.length]?=some x:=by rw[h];simp
  have hp:p.length<b.length:=by rw[h];simp
  have hx:=hbo x (by rw[h];simp)
  obtain⟨vs,h1⟩:=ih (p++[x]) (ver+1) (by rw[h];simp)
  refine⟨vs,?_⟩;have hlen:(l++zkb a p).length<=1073741823:=by simp[zkb];omega
  rw[zxr,<- List.append_assoc,<- znm]at h1;simp only[zaf]at h1;rw[zes,zab];simp only[↓reduceIte,go_sem,At.cs,show (p.length:Int)<(b.length:Int) by omega,hga,zac (n:=p.length) (by omega),hlen,zam (n:=x.o+1) (by omega) (by omega)]
  exact h1
theorem z36(l:List Cl)(hl:l.length<=1000)(a:At)(y:At)(b:List At)(hb:b.length<=100)(hbo:∀t∈y::b,0<=t.o/\t.o<=1000)(z:List Bool)(hz:z.length<=5)(hR:zhy ((z.length+1:Nat):Int) (l++zkb a (y::b))=true){r:Option (List Int)}{k:Nat}(hr:RunS (l++zkb a (y::b)) (zhc ((z.length+1:Nat):Int) (l++zkb a (y::b))) (List.replicate (z.length+1) 0) r k)(H:List AO):
  ∃vs,F zhn [.sl (Cl.css l),.agg a.cs,.sl (At.css (y::b)),.sl (bls z)] H=some (.ret (.tup [.sl (zaq vs),.bool r.isSome]),H):=by
 cases l with
 |nil=>
  obtain⟨vs,h1⟩:=zqn [] hl a (y::b) (by simp;omega) hbo z hz hR hr H b [y] 0 rfl
  refine⟨vs,?_⟩;have hy:=hbo y (by simp)
  have h0:(y::b)[0]?=some y:=rfl;have e:Cl.css (zkb a [y])=[[.sl [a.cs],.int .i64 y.v,.int .i64 (y.o+1)]]:=rfl;have hn:Cl.css []=[]:=rfl;rw[zpb];simp only[List.nil_append,List.length_cons,List.length_nil,e,Int.natCast_add,Int.natCast_zero,Int.zero_add,Int.natCast_one]at h1;simp only[↓reduceIte,go_sem,hn];rw[zes,zab];simp only[↓reduceIte,go_sem,h0,List.length_cons,show (0:Int)<((b.length+1:Nat):Int) by omega,At.cs,zam (n:=y.o+1) (by omega) (by omega),zam (n:=1) (by omega) (by omega)]
  exact h1
 |cons c l=>
  obtain⟨vs,h1⟩:=zqn (c::l) hl a (y::b) (by simp;omega) hbo z hz hR hr H (y::b) [] 0 rfl
  refine⟨vs,?_⟩;have e:Cl.css (c::l)=c.cs::Cl.css l:=rfl;have h3:(∀x:List AV,x∈Cl.css l->x.length=3)=True:=eq_true (by intro x hx;obtain⟨z,_,rfl⟩:=List.mem_map.1 hx;rfl)
  have hm:zkb a []=[]:=rfl;rw[zpb];simp only[hm,List.append_nil,List.length_nil,Int.natCast_zero,e]at h1;simp only[List.length_cons]at hl;simp only[↓reduceIte,go_sem,e,h3,show l.length<1073741824 by omega]
  exact h1
def zl8(cons:List Co)(a b:Lv)(z:List Bool):Prop:=∃x∈zap (za3 a z),zj9 (z.length+1) (zsu cons z b x)
def LeqS(cons:List Co)(p:Nat)(a b:Lv):Prop:=∀n<2 ^ p,¬ zl8 cons a b (zcx n p)
noncomputable def z1c(cons:List Co)(p:Nat)(a b:Lv):Bool:=@decide (LeqS cons p a b) (Classical.propDecidable _)
theorem yht(cons:List Co)(hcl:cons.length<=8)(p n:Nat)(hp:p<=5)(hn:n<1000)(a b:Lv)(H:List AO)(z:List Bool)(hz:z=zcx n p):
  ∀(s q:List At),zap (za3 a z)=q++s ->
   ((∃x∈s,zj9 (z.length+1) (zsu cons z b x))/\∃vs,ze3 H H (.sl (Co.css cons)) (.int .i64 p) (.int .i64 n) (.sl (bls z)) (.sl (At.css (zap (za3 a z)))) (.sl (Cl.css (zca cons z))) (.int .i64 q.length) a.cs b.cs (za3 b z).cs=some (.ret (.tup [.bool false,.sl (zaq vs),.int .i64 0]),H)) \/
   ((¬ ∃x∈s,zj9 (z.length+1) (zsu cons z b x))/\ze3 H H (.sl (Co.css cons)) (.int .i64 p) (.int .i64 n) (.sl (bls z)) (.sl (At.css (zap (za3 a z)))) (.sl (Cl.css (zca cons z))) (.int .i64 q.length) a.cs b.cs (za3 b z).cs=zgc H H (.sl (Co.css cons)) (.int .i64 p) (.int .i64 (n+1)) a.cs b.cs):=by
 have hzl:z.length=p:=by rw[hz,zgp]
 have hlen:=zf9 a z;intro s
 induction s with
 |nil=>
  intro q h;refine .inr ⟨by simp,?_⟩
  rw[List.append_nil]at h;rw[ze3,zab];simp only[↓reduceIte,go_sem,h,zac (n:=n) (by omega)]
 |cons x s ih=>
  intro q h;have hga:(zap (za3 a z))[q.length]?=some x:=by rw[h];simp
  have hq:q.length<(zap (za3 a z)).length:=by rw[h];simp
  have hx:x∈zap (za3 a z):=by rw[h];simp
  have hA:=fun H=>zp5 (za3 b z) (by have:=(ziz b z).2.2.1;omega) H
  have hright:=zvf cons hcl z (by omega) a b x hx
  have hcl2:=zpi cons z;obtain⟨r,k,hr,_⟩:=run0 (z.length+1) _ hright;have hbo:∀t∈zap (za3 b z),0<=t.o/\t.o<=1000:=fun t ht=>by have:=znp b z t ht;omega
  obtain⟨vs,hag⟩:=z36 (zca cons z) (by omega) x ⟨0,(za3 b z).c⟩ (ze7 (za3 b z).o 1) (by have:=zf9 b z;rw[zap,List.length_cons]at this;omega) hbo z (by omega) hright hr H
  rw[show (⟨0,(za3 b z).c⟩::ze7 (za3 b z).o 1)=zap (za3 b z) from rfl]at hag
  cases r with
  |some m=>
   refine .inl ⟨⟨x,by simp,m,k,hr⟩,vs,?_⟩
   rw[ze3,zab];simp only[↓reduceIte,go_sem,show (q.length:Int)<((zap (za3 a z)).length:Int) by omega,hga,hA,hag,Option.isSome]
  |none=>
   have hns:¬ zj9 (z.length+1) (zsu cons z b x):=by
    rintro ⟨m,k',h2⟩
    have:=(hr.det h2).1;cases this
   have ih:=ih (q++[x]) (by rw[h];simp)
   simp only[zaf]at ih;have hs:(∃y∈x::s,zj9 (z.length+1) (zsu cons z b y)) ↔ ∃y∈s,zj9 (z.length+1) (zsu cons z b y):=by simp[hns]
   rw[hs];rcases ih with⟨h1,vs',h2⟩|⟨h1,h2⟩
   ·refine .inl ⟨h1,vs',?_⟩
    rw[ze3,zab];simp only[↓reduceIte,go_sem,show (q.length:Int)<((zap (za3 a z)).length:Int) by omega,hga,hA,hag,Option.isSome,zac (n:=q.length) (by omega),h2]
   ·refine .inr ⟨h1,?_⟩
    rw[ze3,zab];simp only[↓reduceIte,go_sem,show (q.length:Int)<((zap (za3 a z)).length:Int) by omega,hga,hA,hag,Option.isSome,zac (n:=q.length) (by omega),h2]
theorem pow5:∀p:Nat,p<=5->2 ^ p<=32:=fun p hp=>Nat.pow_le_pow_right (by omega) hp
theorem sh_pow(p:Nat)(hp:p<=5):shI true .i64 1 (p:Int)=((2 ^ p:Nat):Int):=by
 match p,hp with
 |0,_=>rfl
 |1,_=>rfl
 |2,_=>rfl
 |3,_=>rfl
 |4,_=>rfl
 |5,_=>rfl
theorem ycf(cons:List Co)(hcons:∀c∈cons,c.ok)(hcl:cons.length<=8)(p:Nat)(hp:p<=5)(a b:Lv)(ha:a.ok)(hb:b.ok)(H:List AO):∀(j n:Nat),n+j=2 ^ p ->
      ((∃k,n<=k/\k<2 ^ p/\zl8 cons a b (zcx k p))/\∃vs,zgc H H (.sl (Co.css cons)) (.int .i64 p) (.int .i64 n) a.cs b.cs=some (.ret (.tup [.bool false,.sl (zaq vs),.int .i64 0]),H)) \/
      ((¬ ∃k,n<=k/\k<2 ^ p/\zl8 cons a b (zcx k p))/\zgc H H (.sl (Co.css cons)) (.int .i64 p) (.int .i64 n) a.cs b.cs=some (.ret (.tup [.bool true,.sl [],.int .i64 0]),H)):=by
 have hpw:=pow5 p hp;have hsh:=sh_pow p hp;intro j
 induction j with
 |zero=>
  intro n h;refine .inr ⟨by rintro ⟨k,h1,h2,_⟩;omega,?_⟩
  rw[zgc,zab];simp only[↓reduceIte,go_sem,hsh,show ¬ (n:Int)<((2 ^ p:Nat):Int) by omega]
 |succ j ih=>
  intro n h;have hC:=fun H=>yf3 n p (by omega) (by omega) H
  have hf1:=fun H=>zl9 a ha (zcx n p) H
  have hf2:=fun H=>zl9 b hb (zcx n p) H
  have hA:=fun H=>zp5 (za3 a (zcx n p)) (by have:=(ziz a (zcx n p)).2.2.1;omega) H
  have hcs:=fun H=>z3t cons hcons (by omega) (zcx n p) (by rw[zgp];exact hp) H
  have hin:=yht cons hcl p n hp (by omega) a b H (zcx n p) rfl (zap (za3 a (zcx n p))) [] rfl
  have ih:=ih (n+1) (by omega)
  simp only[List.length_nil,Int.natCast_zero]at hin;simp only[Int.natCast_add,Int.natCast_one]at ih;have hex:(∃k,n<=k/\k<2 ^ p/\zl8 cons a b (zcx k p)) ↔ zl8 cons a b (zcx n p)\/∃k,n+1<=k/\k<2 ^ p/\zl8 cons a b (zcx k p):=by
   constructor
   ·rintro ⟨k,h1,h2,h3⟩
    rcases Nat.eq_or_lt_of_le h1 with rfl|h4
    ·exact .inl h3
    ·exact .inr ⟨k,h4,h2,h3⟩
   ·rintro (h3|⟨k,h1,h2,h3⟩)
    ·exact⟨n,by omega,by omega,h3⟩
    ·exact⟨k,by omega,h2,h3⟩
  rw[hex,zgc,zab];simp only[↓reduceIte,go_sem,hC,hf1,hf2,hA,hcs,hsh,show (n:Int)<((2 ^ p:Nat):Int) by omega]
  rcases hin with⟨h1,vs,h2⟩|⟨h1,h2⟩
  ·exact .inl ⟨.inl h1,vs,h2⟩
  ·rw[h2]
   rcases ih with⟨h3,vs,h4⟩|⟨h3,h4⟩
   ·exact .inl ⟨.inr h3,vs,h4⟩
   ·exact .inr ⟨fun h=>h.elim h1 h3,h4⟩
theorem zpu{cons:List Co}{p:Nat}{a b:Lv}:z1c cons p a b=true ↔ LeqS cons p a b:=by
 unfold z1c;exact @decide_eq_true_iff _ (Classical.propDecidable _)
theorem yjv(cons:List Co)(hcons:∀c∈cons,c.ok)(p:Nat)(a b:Lv)(ha:a.ok)(hb:b.ok)(hC:zdt cons p=true)(hA:zax a p 0=true)(hB:zax b p 0=true)(H:List AO):
  ∃vs,F zm0 [.sl (Co.css cons),.int .i64 p,.agg a.cs,.agg b.cs] H=some (.ret (.tup [.bool (z1c cons p a b),.sl (zaq vs),.int .i64 0]),H):=by
 have hc:=hC;simp only[zdt,Bool.and_eq_true,decide_eq_true_eq]at hc;have hr:=fun H=>zr4 cons (by omega) hcons p H
 have hra:=fun H=>zd0 a ha p 0 H
 have hrb:=fun H=>zd0 b hb p 0 H
 have h:=ycf cons hcons hc.1.2 p (by omega) a b ha hb H (2 ^ p) 0 (by omega)
 rw[Int.natCast_zero]at h;rcases h with⟨⟨k,_,h1,h2⟩,vs,h3⟩|⟨h1,h3⟩
 ·have:z1c cons p a b=false:=by
   rcases hb:z1c cons p a b with _|_
   ·rfl
   ·exact absurd h2 (zpu.1 hb k h1)
  refine⟨vs,?_⟩;rw[zq1,this];simp only[↓reduceIte,go_sem,hr,hra,hrb,hC,hA,hB,h3]
 ·have:z1c cons p a b=true:=zpu.2 fun k hk hbr=>h1 ⟨k,by omega,hk,hbr⟩
  refine⟨[],?_⟩;rw[zq1,this];simp only[↓reduceIte,go_sem,hr,hra,hrb,hC,hA,hB,h3,zfj]
theorem yjw(cons:List Co)(hcons:∀c∈cons,c.ok)(hl:cons.length<=140737488355328)(p:Int)(a b:Lv)(ha:a.ok)(hb:b.ok)(hC:(zdt cons p && zax a p 0 && zax b p 0)=false)(H:List AO):
  F zm0 [.sl (Co.css cons),.int .i64 p,.agg a.cs,.agg b.cs] H=some (.ret (.tup [.bool false,.sl [],.int .i64 1]),H):=by
 have hr:=fun H=>zr4 cons hl hcons p H
 have hra:=fun H=>zd0 a ha p 0 H
 have hrb:=fun H=>zd0 b hb p 0 H
 rw[zq1]
 cases h1:zdt cons p
 ·simp only[↓reduceIte,go_sem,hr,hra,hrb,h1]
 cases h2:zax a p 0
 ·simp only[↓reduceIte,go_sem,hr,hra,hrb,h1,h2]
 cases h3:zax b p 0
 ·simp only[↓reduceIte,go_sem,hr,hra,hrb,h1,h2,h3]
 ·simp[h1,h2,h3]at hC
end Go.Ab
end
section
set_option linter.unusedVariables false
set_option linter.unusedSimpArgs false
set_option maxRecDepth 100000
set_option maxHeartbeats 2000000
namespace Go.Ab
open Go.RowKit Go.Proofs
theorem yjs(p:Nat)(hp:p<=5)(H:List AO):F zfr [.int .u64 1,.int .u64 p] H=some (.ret (.tup [.int .u64 0,.int .u64 p]),H):=by
 rw[zs5]
 match p,hp with
 |0,_=>simp only[↓reduceIte,go_sem];rfl
 |1,_=>simp only[↓reduceIte,go_sem];rfl
 |2,_=>simp only[↓reduceIte,go_sem];rfl
 |3,_=>simp only[↓reduceIte,go_sem];rfl
 |4,_=>simp only[↓reduceIte,go_sem];rfl
 |5,_=>simp only[↓reduceIte,go_sem];rfl
theorem Mul_ok(p:Nat)(hp:p<=5)(H:List AO):F zf4 [.int .u64 1,.int .u64 p] H=some (.ret (.tup [.int .u64 0,.int .u64 p]),H):=by
 have hM:=fun H=>yjs p hp H
 rw[zv1];simp only[↓reduceIte,go_sem,hM]
theorem z1h(p:Nat)(hp:p<=1000):IntKind.wrap .u64 (p:Int)=p:=by
 simp only[IntKind.wrap,IntKind.bits,IntKind.signed]
 first|omega|(split <;> omega)|(simp;omega)
theorem z8t(p:Nat)(hp:p<=5)(H:List AO):FK zb4 [.sl [[.int .i64 (-1)]],.int .i64 p] H=some (.ret (.ol H.length 0),H++[.lst 0 1 (zaq (List.replicate p (-1)))]):=by
 have hM:=fun H=>Mul_ok p hp H
 have hw1:IntKind.wrap .u64 1=1:=rfl;rw[zp8];simp only[↓reduceIte,go_sem,show ¬ (p:Int)<0 by omega,z1h p (by omega),hw1,hM,List.length_cons,List.length_nil,show ¬ 9223372036854775807<(p:Int) by omega,zam (n:=(p:Int)) (by omega) (by omega),show (p:Int)<=1073741824 by omega,show (0:Int)<=p by omega]
 have m10:((min 1 0:Nat):Int)=0:=rfl;have m11:((min 1 1:Nat):Int)=1:=rfl;have m12:((min 1 2:Nat):Int)=1:=rfl;have m13:((min 1 3:Nat):Int)=1:=rfl;have m14:((min 1 4:Nat):Int)=1:=rfl;have m15:((min 1 5:Nat):Int)=1:=rfl;have t2:Int.toNat 2=2:=rfl;have t4:Int.toNat 4=4:=rfl;have s31:2<=3:=by omega
 have s32:3 - 2=1:=rfl;have s33:3 - 2=1:=rfl;have s42:4 - 2=2:=rfl;have s51:5 - 1=4:=rfl;have s52:5 - 2=3:=rfl;have s54:5 - 4=1:=rfl
 match p,hp with
 |0,_=>
  simp only[↓reduceIte,go_sem,over,List.take,m10];rw[zag,zab];simp only[↓reduceIte,go_sem,over,List.take]
 |1,_=>
  simp only[↓reduceIte,go_sem,over,List.take,t2,t4,s31,s33,s42,s51,s52,s54,m11];rw[zag,zab];simp only[↓reduceIte,go_sem,over,List.take,t2,t4,s32,s42,s52,s54,s31];rfl
 |2,_=>
  simp only[↓reduceIte,go_sem,over,List.take,t2,t4,s31,s33,s42,s51,s52,s54,m12];rw[zag,zab];simp only[↓reduceIte,go_sem,over,List.take,t2,t4,s31,s33,s42,s51,s52,s54,show IntKind.wrap .i64 (1+((min 1 1:Nat):Int))=2 from rfl]
  rw[zag,zab];simp only[↓reduceIte,go_sem,over,List.take,t2,t4,s32,s42,s52,s54,s31];rfl
 |3,_=>
  simp only[↓reduceIte,go_sem,over,List.take,t2,t4,s31,s33,s42,s51,s52,s54,m13];rw[zag,zab];simp only[↓reduceIte,go_sem,over,List.take,t2,t4,s31,s33,s42,s51,s52,s54,show IntKind.wrap .i64 (1+((min 1 2:Nat):Int))=2 from rfl]
  rw[zag,zab];simp only[↓reduceIte,go_sem,over,List.take,t2,t4,s31,s33,s42,s51,s52,s54,show IntKind.wrap .i64 (2+((min 2 1:Nat):Int))=3 from rfl]
  rw[zag,zab];simp only[↓reduceIte,go_sem,over,List.take,t2,t4,s32,s42,s52,s54,s31];rfl
 |4,_=>
  simp only[↓reduceIte,go_sem,over,List.take,t2,t4,s31,s33,s42,s51,s52,s54,m14];rw[zag,zab];simp only[↓reduceIte,go_sem,over,List.take,t2,t4,s31,s33,s42,s51,s52,s54,show IntKind.wrap .i64 (1+((min 1 3:Nat):Int))=2 from rfl]
  rw[zag,zab];simp only[↓reduceIte,go_sem,over,List.take,t2,t4,s31,s33,s42,s51,s52,s54,show IntKind.wrap .i64 (2+((min 2 2:Nat):Int))=4 from rfl]
  rw[zag,zab];simp only[↓reduceIte,go_sem,over,List.take,t2,t4,s32,s42,s52,s54,s31];rfl
 |5,_=>
  simp only[↓reduceIte,go_sem,over,List.take,t2,t4,s31,s33,s42,s51,s52,s54,m15];rw[zag,zab];simp only[↓reduceIte,go_sem,over,List.take,t2,t4,s31,s33,s42,s51,s52,s54,show IntKind.wrap .i64 (1+((min 1 4:Nat):Int))=2 from rfl]
  rw[zag,zab];simp only[↓reduceIte,go_sem,over,List.take,t2,t4,s31,s33,s42,s51,s52,s54,show IntKind.wrap .i64 (2+((min 2 3:Nat):Int))=4 from rfl]
  rw[zag,zab];simp only[↓reduceIte,go_sem,over,List.take,t2,t4,s31,s33,s42,s51,s52,s54,show IntKind.wrap .i64 (4+((min 4 1:Nat):Int))=5 from rfl]
  rw[zag,zab];simp only[↓reduceIte,go_sem,over,List.take,t2,t4,s32,s42,s52,s54,s31];rfl
theorem ybv(p:Nat)(hp:p<=5)(H:List AO):FK zhh [.int .i64 0,.int .i64 p] H=some (.ret (.agg [.int .i64 0,.ol H.length 0]),H++[.lst 0 1 (zaq (List.replicate p (-1)))]):=by
 have hR:=fun H=>z8t p hp H
 rw[z0m];simp only[↓reduceIte,go_sem,hR]
theorem yh2(n ver:Nat)(o:List Int):LtO n (.lst ver 1 (zaq o)):=zrt n o
def z4m(n:Int):Int:=if 0<=n then n+1 else n
theorem z8h(H:List AO)(id ver:Nat)(hid:id<H.length)(c:Int)(J:List AO)(v2:List AV)(o0:List Int)(h0:H[id]?=some (.lst ver 1 (zaq o0))):
  ∀(s p:List Int),o0=p++s->(∀n∈s,-1<=n/\n<=1000)->o0.length<=1000 ->
  zgf H (H.set id (.lst ver 1 (zaq (p.map z4m++s)))++[.lst 0 1 []]) (.ol id ver) (.int .i64 o0.length) (.int .i64 p.length) [.int .i64 c,.ol id ver] [.int .i64 0,.ol H.length 0]=some (.ret (.agg [.int .i64 c,.ol id ver]),H.set id (.lst ver 1 (zaq (o0.map z4m)))):=by
 intro s
 induction s with
 |nil=>
  intro p h hb hl;rw[List.append_nil]at h;subst h;rw[zgf,zab];simp only[↓reduceIte,go_sem,List.append_nil,show ¬ H.length<=id by omega]
  rw[z2o (yh2 _ _ _),if_pos (.agg (by intro a ha;simp at ha;rcases ha with rfl|rfl;exact .int _ _;exact .ol hid))]
 |cons x s ih=>
  intro p h hb hl;have h1:=ih (p++[x]) (by rw[h];simp) (fun n hn=>hb n (by simp[hn])) hl
  have hx:=hb x (by simp)
  have hp:p.length<o0.length:=by rw[h];simp
  have hset:id<(H.set id (.lst ver 1 (zaq (p.map z4m++x::s)))).length:=by simpa using hid
  have hget:(H.set id (.lst ver 1 (zaq (p.map z4m++x::s)))++[AO.lst 0 1 []])[id]?=some (.lst ver 1 (zaq (p.map z4m++x::s))):=by
   rw[List.getElem?_append_left hset];simp[hid]
  have hgx:(p.map z4m++x::s)[p.length]?=some x:=by simp
  simp only[List.map_append,List.map_cons,List.map_nil,List.append_assoc,List.cons_append,List.nil_append]at h1;simp only[zaf]at h1;rw[zgf,zab];simp only[↓reduceIte,go_sem,show (p.length:Int)<(o0.length:Int) by omega,hget,hgx,show p.length<(List.map z4m p++x::s).length by simp]
  by_cases hx0:x = -1
  ·subst hx0
   have e:z4m (-1) = -1:=rfl;rw[e]at h1;simp only[↓reduceIte,go_sem,zac (n:=p.length) (by omega),h1,not_true_eq_false]
  ·have e:z4m x=x+1:=if_pos (by omega)
   rw[e]at h1;have hss:∀B,(H.set id (.lst ver 1 (zaq (p.map z4m++x::s)))++[AO.lst 0 1 []]).set id B=H.set id B++[AO.lst 0 1 []]:=fun B=>by
    rw[List.set_append_left _ _ hset,List.set_set]
   have hs2:(zaq (List.map z4m p++x::s)).set p.length [.int .i64 (x+1)]=zaq (List.map z4m p++(x+1)::s):=by
    simp[zaq]
   simp only[↓reduceIte,go_sem,hx0,hget,hgx,zam (n:=x+1) (by omega) (by omega),zac (n:=p.length) (by omega),show p.length<(List.map z4m p++x::s).length by simp,hs2,hss]
   exact h1
theorem ygo(c:Int)(hc:-1<=c/\c<=1000)(o:List Int)(ho:∀n∈o,-1<=n/\n<=1000)(hl:o.length<=1000)(H:List AO)(id ver:Nat)(hid:id<H.length)(hH:H[id]?=some (.lst ver 1 (zaq o))):F zhx [.agg [.int .i64 c,.ol id ver]] H=some (.ret (.agg [.int .i64 (c+1),.ol id ver]),H.set id (.lst ver 1 (zaq (o.map z4m)))):=by
 have h1:=z8h H id ver hid (c+1) [] [] o hH o [] rfl ho hl;have hget:(H++[AO.lst 0 1 []])[id]?=some (.lst ver 1 (zaq o)):=by rw[List.getElem?_append_left hid,hH]
 have hset:H.set id (.lst ver 1 (zaq o))=H:=by
  apply List.ext_getElem?;intro i;rw[List.getElem?_set]
  split
  ·rename_i e;subst e;rw[hH]
  ·rfl
 simp only[List.map_nil,List.nil_append,hset,List.length_nil,Int.natCast_zero]at h1;rw[zq2];simp only[↓reduceIte,go_sem,hget,zam (n:=c+1) (by omega) (by omega)]
 exact h1
theorem ygn(c:Int)(hc:-1<=c/\c<=1000)(H:List AO):F zhx [.agg [.int .i64 c,.ze]] H=some (.ret (.agg [.int .i64 (c+1),.sl []]),H):=by
 rw[zq2];simp only[↓reduceIte,go_sem,zam (n:=c+1) (by omega) (by omega)]
 rw[zgf,zab];simp only[↓reduceIte,go_sem]
theorem ya8(c:Int)(hc:-1<=c/\c<=1000)(H:List AO):F zhx [.agg [.int .i64 c,.sl []]] H=some (.ret (.agg [.int .i64 (c+1),.sl []]),H):=by
 rw[zq2];simp only[↓reduceIte,go_sem,zam (n:=c+1) (by omega) (by omega)]
 rw[zgf,zab];simp only[↓reduceIte,go_sem]
def zn8(l:List Int)(n:Int):Int:=l.foldl max n
theorem yft(H:List AO)(id ver:Nat)(l:List Int)(hl:l.length<=1000)(hH:H[id]?=some (.lst ver 1 (zaq l))):∀(s p:List Int) (n:Int),l=p++s->zcl H H (.ol id ver) (.int .i64 n) (.int .i64 p.length)=some (.ret (.int .i64 (zn8 s n)),H):=by
 intro s
 induction s with
 |nil=>
  intro p n h;rw[List.append_nil]at h;subst h;rw[zcl,zab];simp only[↓reduceIte,go_sem,hH,zn8,List.foldl_nil]
 |cons x s ih=>
  intro p n h;have h1:=ih (p++[x]) (max n x) (by rw[h];simp)
  have hga:l[p.length]?=some x:=by rw[h];simp
  have hp:p.length<l.length:=by rw[h];simp
  have hmax:(if x > n then x else n)=max n x:=by split <;> omega
  simp only[zaf]at h1;rw[zcl,zab];simp only[↓reduceIte,go_sem,hH,hga,hp,show (p.length:Int)<(l.length:Int) by omega,hmax,zac (n:=p.length) (by omega),h1]
  simp only[zn8,List.foldl_cons]
theorem yfs(H:List AO)(id ver:Nat)(x:Int)(l:List Int)(hl:(x::l).length<=1000)(hH:H[id]?=some (.lst ver 1 (zaq (x::l)))):F zd9 [.ol id ver] H=some (.ret (.int .i64 (zn8 l x)),H):=by
 have h1:=yft H id ver (x::l) hl hH l [x] x rfl;rw[zoa];have h0:(x::l)[0]?=some x:=rfl;simp only[↓reduceIte,go_sem,hH,h0,List.length_cons,show ¬ ((l.length+1:Nat):Int)<1 by omega,show 0<l.length+1 by omega]
 exact h1
def OwnI(n:Nat)(h:List AO)(a:AV)(l:List Int):Prop:=((a = .ze\/a = .sl [])/\l=[])\/∃id ver,a = .ol id ver/\n<=id/\h[id]?=some (.lst ver 1 (zaq l))
theorem OwnI.app{n:Nat}{h:List AO}{a:AV}{l:List Int}(o:OwnI n h a l)(x:List AO):OwnI n (h++x) a l:=by
 rcases o with h0|⟨id,ver,h1,h2,h3⟩
 ·exact .inl h0
 ·exact .inr ⟨id,ver,h1,h2,by rw[List.getElem?_append_left (by have:=(List.getElem?_eq_some_iff.1 h3).1;omega)];exact h3⟩
theorem yfp(c:Int)(l:List Int)(hl:l.length<=900)(H:List AO)(a:AV)(n:Nat)(o:OwnI n H a l):F zn1 [.agg [.int .i64 c,a]] H=some (.ret (.int .i64 (zn8 l (-1))),H):=by
 rcases o with⟨ha,rfl⟩|⟨id,ver,rfl,hn,hH⟩
 ·have hM:=yfs (H++[.lst 1 1 (zaq [-1])]) H.length 1 (-1) [] (by simp) (by simp)
  simp only[zaq,List.map_cons,List.map_nil]at hM;rcases ha with rfl|rfl
  ·rw[zs6]
   simp only[↓reduceIte,go_sem,hM]
  ·rw[zs6]
   simp only[↓reduceIte,go_sem,hM]
 ·have hid:=(List.getElem?_eq_some_iff.1 hH).1
  have hM:=yfs (H++[.lst 1 1 (zaq (-1::l))]) H.length 1 (-1) l (by simp;omega) (by simp)
  have e:zaq (-1::l)=[.int .i64 (-1)]::zaq l:=rfl;simp only[e]at hM;have hg:∀x,(H++[x])[id]?=some (.lst ver 1 (zaq l)):=fun x=>by rw[List.getElem?_append_left hid,hH]
  have h1:(∀x:List AV,x∈zaq l->x.length=1)=True:=eq_true (by intro x hx;obtain⟨z,_,rfl⟩:=List.mem_map.1 hx;rfl)
  rw[zs6];simp only[↓reduceIte,go_sem,hH,hg,h1,show 1+l.length<=1073741824 by omega,hM]
end Go.Ab
end
section
set_option linter.unusedVariables false
set_option linter.unusedSimpArgs false
set_option maxRecDepth 100000
set_option maxHeartbeats 2000000
namespace Go.Ab
open Go.RowKit Go.Proofs
theorem OwnI.elems{n:Nat}{h:List AO}{a:AV}{l:List Int}(o:OwnI n h a l):zjs h a=some (zaq l):=by
 rcases o with⟨rfl|rfl,rfl⟩|⟨id,ver,rfl,h2,h3⟩
 ·rfl
 ·rfl
 ·simp[zjs,h3]
theorem zze(l:List Int):∀e∈zaq l,e.length=1:=by intro e he;obtain⟨z,_,rfl⟩:=List.mem_map.1 he;rfl
theorem yez{n:Nat}{h:List AO}{a:AV}{x:Int}{l:List Int}(hl:l.length<=1000)(o:OwnI n h a (x::l)):FK zau [a] h=some (.ret (.ol h.length 0),h++[.lst 0 1 (zaq (x::l))]):=by
 rw[zlo];unfold ztq;dsimp only;rw[o.elems];dsimp only;have e:zaq (x::l)=[.int .i64 x]::zaq l:=rfl;rw[if_pos ⟨by omega,by omega,by rw[zpx];simp;omega,zze _⟩,e]
theorem z9q{n:Nat}{h:List AO}{a:AV}(o:OwnI n h a []):FK zau [a] h=some (.ret .ze,h):=by
 rw[zlo];unfold ztq;dsimp only;rw[o.elems];dsimp only;rw[if_pos ⟨by omega,by omega,by rw[zpx];simp,zze _⟩]
 rfl
theorem zqt(c d:Int):(if d > c then d else c)=max c d:=by split <;> omega
theorem yds{n:Nat}{h:List AO}{a b:AV}(c d:Int)(oa:OwnI n h a [])(ob:OwnI n h b []):FK zfv [.agg [.int .i64 c,a],.sl [[.int .i64 d,b]]] h=some (.ret (.agg [.int .i64 (max c d),.ze]),h):=by
 have hC:=z9q oa;have hw:IntKind.wrap .i64 (0+1)=1:=rfl;have hw1:IntKind.wrap .i64 1=1:=rfl;have key:zb0 h h (.sl [[.int .i64 d,b]]) (.int .i64 1) (.int .i64 0) [.int .i64 0,.sl []] [.int .i64 c,.ze]=some (.ret (.agg [.int .i64 (max c d),.ze]),h):=by
  rcases ob with⟨rfl|rfl,_⟩|⟨id2,ver2,rfl,g2,g3⟩
  ·rw[zb0,zab]
   simp only[↓reduceIte,go_sem,zqt];rw[zee,zab];simp only[↓reduceIte,go_sem,hw,hw1];rw[zb0,zab];simp only[↓reduceIte,go_sem]
  ·rw[zb0,zab]
   simp only[↓reduceIte,go_sem,zqt];rw[zee,zab];simp only[↓reduceIte,go_sem,hw,hw1];rw[zb0,zab];simp only[↓reduceIte,go_sem]
  ·rw[zb0,zab]
   simp only[↓reduceIte,go_sem,zqt,g3];rw[zee,zab];simp only[↓reduceIte,go_sem,hw,hw1];rw[zb0,zab];simp only[↓reduceIte,go_sem]
 rw[ztn];rcases oa with⟨rfl|rfl,_⟩|⟨id,ver,rfl,h2,h3⟩
 ·simp only[↓reduceIte,go_sem,hC,key]
 ·simp only[↓reduceIte,go_sem,hC,key]
 ·simp only[↓reduceIte,go_sem,hC,key]
theorem yh0{h:List AO}(c d:Int)(L M:List Int)(hl:L.length<=900)(hm:M.length=L.length)(id ver:Nat)(g3:h[id]?=some (.lst ver 1 (zaq M))):∀(s t p q:List Int),L=p++s->M=q++t->p.length=q.length ->
  zee h (h++[.lst 0 1 (zaq (List.zipWith max p q++s))]) (.sl [[.int .i64 d,.ol id ver]]) (.int .i64 1) (.int .i64 0) (.ol id ver) (.int .i64 M.length) (.int .i64 p.length) [.int .i64 0,.sl []] [.int .i64 c,.ol h.length 0] =
  zb0 h (h++[.lst 0 1 (zaq (List.zipWith max L M))]) (.sl [[.int .i64 d,.ol id ver]]) (.int .i64 1) (.int .i64 1) [.int .i64 0,.sl []] [.int .i64 c,.ol h.length 0]:=by
 have hid:=(List.getElem?_eq_some_iff.1 g3).1;have hw:IntKind.wrap .i64 (0+1)=1:=rfl;have hw1:IntKind.wrap .i64 1=1:=rfl;intro s
 induction s with
 |nil=>
  intro t p q h1 h2 h3;have:t=[]:=by
   rw[h1,h2]at hm;simp at hm;exact List.eq_nil_of_length_eq_zero (by omega)
  subst this;rw[List.append_nil]at h1 h2;subst h1 h2;rw[zee,zab];simp only[↓reduceIte,go_sem,hw,hw1,List.append_nil,hm]
 |cons x s ih=>
  intro t p q h1 h2 h3
  cases t with
  |nil=>rw[h1,h2]at hm;simp at hm;omega
  |cons y t=>
  have ih:=ih t (p++[x]) (q++[y]) (by rw[h1];simp) (by rw[h2];simp) (by simp[h3])
  have hz:List.zipWith max (p++[x]) (q++[y])++s=List.zipWith max p q++max x y::s:=by rw[List.zipWith_append (h:=h3)];simp
  have hzl:(List.zipWith max p q).length=p.length:=by rw[List.length_zipWith];omega
  have hgy:M[p.length]?=some y:=by rw[h2,h3];simp
  have hgx:(List.zipWith max p q++x::s)[p.length]?=some x:=by rw[<- hzl];simp
  have hpl:p.length<M.length:=by rw[h2,h3];simp
  have hpz:p.length<(List.zipWith max p q++x::s).length:=by simp;omega
  have hg:∀z,(h++[z])[id]?=some (.lst ver 1 (zaq M)):=fun z=>by rw[List.getElem?_append_left hid,g3]
  have hs2:(zaq (List.zipWith max p q++x::s)).set p.length [.int .i64 (max x y)]=zaq (List.zipWith max p q++max x y::s):=by
   rw[<- hzl];simp[zaq]
  rw[hz]at ih;simp only[zaf]at ih;rw[zee,zab];simp only[↓reduceIte,go_sem,show (p.length:Int)<(M.length:Int) by omega,hgy,hgx,hpz,hpl,hg,zqt,hs2,zac (n:=p.length) (by omega),ih]
theorem yhz{n:Nat}{h:List AO}{a b:AV}(c d:Int)(x y:Int)(l m:List Int)(hl:l.length<=800)(hm:m.length=l.length)(oa:OwnI n h a (x::l))(ob:OwnI n h b (y::m)):FK zfv [.agg [.int .i64 c,a],.sl [[.int .i64 d,b]]] h=some (.ret (.agg [.int .i64 (max c d),.ol h.length 0]),h++[.lst 0 1 (zaq (List.zipWith max (x::l) (y::m)))]):=by
 have hC:=yez (by omega) oa
 rcases oa with⟨_,h0⟩|⟨id,ver,rfl,h2,h3⟩
 ·cases h0
 rcases ob with⟨_,h0⟩|⟨id2,ver2,rfl,g2,g3⟩
 ·cases h0
 have hid:=(List.getElem?_eq_some_iff.1 g3).1;have hg:∀z,(h++[z])[id2]?=some (.lst ver2 1 (zaq (y::m))):=fun z=>by rw[List.getElem?_append_left hid,g3]
 have hin:=yh0 (h:=h) (max c d) d (x::l) (y::m) (by simp;omega) (by simp[hm]) id2 ver2 g3 (x::l) (y::m) [] [] rfl rfl rfl
 simp only[List.length_nil,Int.natCast_zero,List.zipWith_nil_left,List.nil_append,List.length_cons]at hin;rw[ztn];simp only[↓reduceIte,go_sem,hC];rw[zb0,zab];simp only[↓reduceIte,go_sem,hg,zqt,hin];rw[zb0,zab];simp only[↓reduceIte,go_sem]
theorem OwnI.mono{n m:Nat}{h:List AO}{a:AV}{l:List Int}(o:OwnI n h a l)(hm:m<=n):OwnI m h a l:=by
 rcases o with h0|⟨id,ver,h1,h2,h3⟩
 ·exact .inl h0
 ·exact .inr ⟨id,ver,h1,by omega,h3⟩
theorem ygm{B X:List AO}{a:AV}{l:List Int}(c:Int)(hc:-1<=c/\c<=1000)(hb:∀n∈l,-1<=n/\n<=1000)(hl:l.length<=1000)(o:OwnI B.length (B++X) a l):∃X' a',F zhx [.agg [.int .i64 c,a]] (B++X)=some (.ret (.agg [.int .i64 (c+1),a']),B++X')/\OwnI B.length (B++X') a' (l.map z4m):=by
 rcases o with⟨rfl|rfl,rfl⟩|⟨id,ver,rfl,h2,h3⟩
 ·exact⟨X,_,ygn c hc _,.inl ⟨.inr rfl,rfl⟩⟩
 ·exact⟨X,_,ya8 c hc _,.inl ⟨.inr rfl,rfl⟩⟩
 ·have hid:=(List.getElem?_eq_some_iff.1 h3).1
  have h4:=ygo c hc l hb hl (B++X) id ver hid h3;rw[List.set_append_right _ _ h2]at h4;refine⟨_,_,h4,.inr ⟨id,ver,rfl,h2,?_⟩⟩;rw[List.length_append]at hid;rw[List.getElem?_append_right h2,List.getElem?_set_self (by omega)]
theorem yhy{B X:List AO}{a b:AV}{l m:List Int}(c d:Int)(hl:l.length<=700)(hm:m.length=l.length)(oa:OwnI B.length (B++X) a l)(ob:OwnI B.length (B++X) b m):∃X' a',FK zfv [.agg [.int .i64 c,a],.sl [[.int .i64 d,b]]] (B++X)=some (.ret (.agg [.int .i64 (max c d),a']),B++X')/\OwnI B.length (B++X') a' (List.zipWith max l m):=by
 cases l with
 |nil=>
  obtain rfl:m=[]:=List.eq_nil_of_length_eq_zero hm;exact⟨X,_,yds c d oa ob,.inl ⟨.inl rfl,rfl⟩⟩
 |cons x l=>
  cases m with
  |nil=>simp at hm
  |cons y m=>
   have:=yhz c d x y l m (by simp at hl;omega) (by simpa using hm) oa ob
   rw[List.append_assoc]at this;exact⟨_,_,this,.inr ⟨_,0,rfl,by simp,by rw[<- List.append_assoc];simp⟩⟩
theorem z42{f:Fl}{p:Nat}{d:Int}(g:f.good p d):(decide (f.c=0) && decide (zn8 f.o (-1) = -1))=znz f:=by
 have key:∀(l:List Int) (n:Int),(∀x∈l,-1<=x) -> -1<=n->(zn8 l n = -1 ↔ n = -1/\∀x∈l,x<0):=by
  intro l
  induction l with
  |nil=>intro n _ _;simp[zn8]
  |cons x l ih=>
   intro n h0 hn;have hx:=h0 x (by simp)
   have:=ih (max n x) (fun y hy=>h0 y (by simp[hy])) (by omega)
   simp only[zn8,List.foldl_cons]at this ⊢;rw[this];constructor
   ·rintro ⟨h1,h2⟩
    exact⟨by omega,fun y hy=>by rcases List.mem_cons.1 hy with rfl|hy;omega;exact h2 y hy⟩
   ·rintro ⟨h1,h2⟩
    have:=h2 x (by simp)
    exact⟨by omega,fun y hy=>h2 y (by simp[hy])⟩
 have:=key f.o (-1) g.o0 (by omega)
 rw[znz]
 congr 1
 rw[Bool.eq_iff_iff,decide_eq_true_iff,this];simp
theorem OwnI.one{n:Nat}{h:List AO}{a:AV}{l:List Int}(o:OwnI n h a l):AV.one a=true:=by
 rcases o with⟨rfl|rfl,rfl⟩|⟨id,ver,rfl,h2,h3⟩ <;> rfl
theorem ofK_ok(z:List Bool)(hz:z.length<=5)(l:Lv):∀d,d<=100->rightB z.length 0 l d=true->∀h:List AO,∃X a,FK zfu [.agg l.cs,.sl (bls z)] h=some (.ret (.agg [.int .i64 (rawF z l).c,a]),h++X)/\OwnI h.length (h++X) a (rawF z l).o:=by
 induction l using Lv.ind with
 |h k n ks ih=>
 intro d hd h H;have hg:=zgt z (.mk k n ks) d h;rw[rightB]at h
 split at h
 ·cases h
 split at h
 ·cases h
 rename_i hd1 hk;have hk:(ks.length:Int)=zgm k:=by simpa using hk
 have hP:=fun H=>ybv z.length hz H
 rw[z9g];rw[rawF]at hg ⊢;unfold zgm at hk
 match ks,hk,ih,h,hg with
 |[],hk,ih,h,hg=>
  simp at hk;by_cases h5:k=5
  ·subst h5
   simp at h;obtain⟨h0,hn⟩:=h;obtain⟨j,rfl⟩:=Int.eq_ofNat_of_zero_le h0;have hj:j<z.length:=by omega
   obtain⟨b,hb⟩:∃b,z[j]?=some b:=⟨z[j],by simp[hj]⟩
   simp only[rawFs,zt5,Int.toNat_natCast,hb,if_true];have hgr:(List.replicate z.length (-1:Int))[j]?=some (-1):=by simp[hj]
   have hs:(zaq (List.replicate z.length (-1))).set j [AV.int .i64 0]=zaq ((List.replicate z.length (-1)).set j 0):=by simp[zaq,List.map_set]
   cases b
   ·simp only[↓reduceIte,go_sem,Lv.cs,Lv.css,hP,hb,List.length_replicate,hj,hgr,hs]
    exact⟨_,_,rfl,.inr ⟨H.length,0,rfl,Nat.le_refl _,by simp⟩⟩
   ·simp only[↓reduceIte,go_sem,Lv.cs,Lv.css,hP,hb,zow,Option.some.injEq,Bool.true_eq_false]
    exact⟨_,_,rfl,.inr ⟨H.length,0,rfl,Nat.le_refl _,by simp⟩⟩
  ·have h2:¬ k=2:=by grind
   have h3:¬ k=3:=by grind
   have h4:¬ k=4:=by grind
   simp only[rawFs,zt5,if_neg h5];simp only[↓reduceIte,go_sem,Lv.cs,Lv.css,h2,h3,h4,h5,hP];exact⟨_,_,rfl,.inr ⟨H.length,0,rfl,Nat.le_refl _,by simp[zow]⟩⟩
 |[a],hk,ih,h,hg=>
  have k2:k=2:=by simp at hk;grind
  subst k2;simp[rightsB]at h;have ga:=zgt z a (d - 1) h.1;obtain⟨X,w,h1,h2⟩:=ih a (by simp) (d - 1) (by omega) h.1 (H++[.lst 0 1 (zaq (List.replicate z.length (-1)))])
  obtain⟨X',w',h3,h4⟩:=ygm (rawF z a).c (by have:=ga.c0;have:=ga.cd;omega) (fun n hn=>by have:=ga.o0 n hn;have:=ga.od n hn;omega) (by rw[ga.len];omega) h2
  rw[List.append_assoc,List.append_assoc]at h3;rw[List.append_assoc]at h4;simp only[List.cons_append,List.nil_append]at h3 h4;simp only[rawFs,zt5,if_true];have q1:=h2.one;have q2:=h4.one;simp only[AV.one]at q1 q2;simp only[↓reduceIte,go_sem,Lv.cs,Lv.css,hP,h1,h3,q1,q2];exact⟨_,_,rfl,h4.mono (by simp)⟩
 |[a,b],hk,ih,h,hg=>
  have h5:¬ k=5:=by rintro rfl;simp at hk
  have h6:¬ k=6:=by rintro rfl;simp at hk
  rw[if_neg h5,if_neg h6]at h;simp[rightsB]at h;have ga:=zgt z a (d - 1) h.1.1;have gb:=zgt z b (d - 1) h.1.2;have k34:k=3\/k=4:=by simp at hk;grind
  have hb1:=h.1.2;simp only[rawFs,zt5];have mx:∀P:List AO,∃X w Y v Z u,FK zfu [.agg a.cs,.sl (bls z)] (H++P)=some (.ret (.agg [.int .i64 (rawF z a).c,w]),H++(P++X))/\FK zfu [.agg b.cs,.sl (bls z)] (H++(P++X))=some (.ret (.agg [.int .i64 (rawF z b).c,v]),H++(P++(X++Y))) /\
    FK zfv [.agg [.int .i64 (rawF z a).c,w],.sl [[.int .i64 (rawF z b).c,v]]] (H++(P++(X++Y)))=some (.ret (.agg [.int .i64 (max (rawF z a).c (rawF z b).c),u]),H++(P++Z))/\AV.one w=true/\AV.one v=true/\OwnI H.length (H++(P++Z)) u (List.zipWith max (rawF z a).o (rawF z b).o):=by
   intro P;obtain⟨X,w,h1,h2⟩:=ih a (by simp) (d - 1) (by omega) h.1.1 (H++P)
   obtain⟨Y,v,h3,h4⟩:=ih b (by simp) (d - 1) (by omega) h.1.2 ((H++P)++X)
   have h5:=h2.app Y;have h6:=h4.mono (show (H++P).length<=_ by simp)
   rw[List.append_assoc (H++P)]at h5 h6;obtain⟨Z,u,h7,h8⟩:=yhy (B:=H++P) (X:=X++Y) (rawF z a).c (rawF z b).c (by rw[ga.len];omega) (by rw[ga.len,gb.len]) h5 h6
   simp only[List.append_assoc]at h1 h3 h7 h8;exact⟨X,w,Y,v,Z,u,h1,h3,h7,h2.one,h4.one,h8.mono (by simp)⟩
  rcases k34 with rfl|rfl
  ·obtain⟨X,w,Y,v,Z,u,h1,h3,h7,q1,q2,h8⟩:=mx [.lst 0 1 (zaq (List.replicate z.length (-1)))]
   simp only[List.cons_append,List.nil_append]at h1 h3 h7 h8;have q3:=h8.one;simp only[AV.one]at q1 q2 q3;simp only[↓reduceIte,go_sem,Lv.cs,Lv.css,hP,h1,h3,h7,q1,q2,q3];exact⟨_,_,rfl,h8⟩
  ·obtain⟨W,t,g1,g2⟩:=ih b (by simp) (d - 1) (by omega) hb1 (H++[.lst 0 1 (zaq (List.replicate z.length (-1)))])
   have hT:=yfp (rawF z b).c (rawF z b).o (by rw[gb.len];omega) _ _ _ g2
   have hn:=z42 gb;rw[List.append_assoc]at g1 hT g2;simp only[List.cons_append,List.nil_append]at g1 hT g2;have q4:=g2.one;simp only[AV.one]at q4;simp only[↓reduceIte,go_sem,Lv.cs,Lv.css,hP,g1,hT,q4];obtain⟨X,w,Y,v,Z,u,h1,h3,h7,q1,q2,h8⟩:=mx (.lst 0 1 (zaq (List.replicate z.length (-1)))::W);simp only[List.cons_append]at h1 h3 h7 h8;have q3:=h8.one;simp only[AV.one]at q1 q2 q3;by_cases c1:(rawF z b).c=0
   ·by_cases c2:zn8 (rawF z b).o (-1) = -1
    ·have e:znz (rawF z b)=true:=by rw[<- hn,c1,c2];rfl
     simp only[c1,c2,e,if_true,if_neg (show ¬ (4:Int)=3 by omega)]
     rw[c1]at hn;refine⟨_,_,rfl,?_⟩;exact g2.mono (by simp)
    ·have e:znz (rawF z b)=false:=by rw[<- hn];simp[c2]
     simp only[if_neg (show ¬ (4:Int)=3 by omega),if_true,e]
     simp only[↓reduceIte,go_sem,c1,c2]at h1 h3 h7 ⊢;simp only[↓reduceIte,go_sem,h1,h3,h7,q1,q2,q3,c1,c2];have e2:(zwh (rawF z a) (rawF z b)).c=max (rawF z a).c 0:=by simp[zwh,c1]
     rw[e2];exact⟨_,_,rfl,h8⟩
   ·have e:znz (rawF z b)=false:=by rw[<- hn];simp[c1]
    simp only[if_neg (show ¬ (4:Int)=3 by omega),if_true,e]
    simp only[↓reduceIte,go_sem,h1,h3,h7,q1,q2,q3,c1];exact⟨_,_,rfl,h8⟩
 |a::b::c::r,hk,ih,h,hg=>
  exfalso;simp at hk
  grind
theorem maxL_ge(c:Int):∀(l:List Int) (n:Int),-1<=n->(∀x∈l,-1<=x)->((zn8 l n ≠ -1/\c<=zn8 l n+1) ↔ (0<=n/\c<=n+1)\/∃x∈l,0<=x/\c<=x+1):=by
 intro l
 induction l with
 |nil=>
  intro n hn _;simp only[zn8,List.foldl_nil];constructor
  ·rintro ⟨h1,h2⟩;exact .inl ⟨by omega,h2⟩
  ·rintro (⟨h1,h2⟩|⟨x,hx,_⟩)
   ·exact⟨by omega,h2⟩
   ·cases hx
 |cons y l ih=>
  intro n hn h0;have hy:=h0 y (by simp)
  have:=ih (max n y) (by omega) (fun x hx=>h0 x (by simp[hx]))
  simp only[zn8,List.foldl_cons]at this ⊢;rw[this];constructor
  ·rintro (h|⟨x,hx,h⟩)
   ·by_cases h1:y<=n
    ·rw[Int.max_eq_left h1]at h;exact .inl h
    ·rw[Int.max_eq_right (by omega)]at h;exact .inr ⟨y,by simp,h⟩
   ·exact .inr ⟨x,by simp[hx],h⟩
  ·rintro (h|⟨x,hx,h⟩)
   ·exact .inl (by omega)
   ·rcases List.mem_cons.1 hx with rfl|hx
    ·exact .inl (by omega)
    ·exact .inr ⟨x,hx,h⟩
theorem ycc(B:Int):∀(l:List Int) (n:Int),n<=B->(∀x∈l,x<=B)->n<=zn8 l n/\zn8 l n<=B
 |[],n,h,_=>⟨Int.le_refl _,h⟩
 |y::l,n,h,h0=>by
  have:=h0 y (by simp)
  have:=ycc B l (max n y) (by omega) (fun x hx=>h0 x (by simp[hx]))
  simp only[zn8,List.foldl_cons]at this ⊢;omega
theorem z6l(l:Lv)(hl:l.ok)(z:List Bool)(H:List AO):F zjr [.agg l.cs,.sl (bls z)] H=some (.ret (.tup [.agg (za3 l z).cs,.int .i64 (yad l z)]),H):=by
 have hR:=fun H=>zgq l hl z.length 0 H
 rw[zw5];by_cases h:zax l z.length 0=true
 ·have hz:=zub h
  have hg:=zgt z l 12 hz.2;obtain⟨X,a,h1,h2⟩:=ofK_ok z hz.1 l 12 (by omega) hz.2 H
  have hT:=yfp (rawF z l).c (rawF z l).o (by rw[hg.len];omega) _ _ _ h2
  have q:=h2.one;simp only[AV.one]at q;have hmx:=maxL_ge (rawF z l).c (rawF z l).o (-1) (by omega) hg.o0
  have hnrm:z7b (rawF z l).c (rawF z l).o=if zn8 (rawF z l).o (-1) ≠ -1/\(rawF z l).c<=zn8 (rawF z l).o (-1)+1 then 0 else (rawF z l).c:=by
   unfold z7b;have e:((rawF z l).o.any fun n=>decide (0<=n) && decide ((rawF z l).c<=n+1))=true ↔ (zn8 (rawF z l).o (-1) ≠ -1/\(rawF z l).c<=zn8 (rawF z l).o (-1)+1):=by
    rw[hmx];simp
   by_cases c:(zn8 (rawF z l).o (-1) ≠ -1/\(rawF z l).c<=zn8 (rawF z l).o (-1)+1)
   ·rw[if_pos c,if_pos (e.2 c)]
   ·rw[if_neg c,if_neg (fun k=>c (e.1 k))]
  rw[yad,za3,if_pos h,if_pos h,normF,hnrm];have hbd:=ycc 12 (rawF z l).o (-1) (by omega) hg.od
  have hw:=zam (n:=zn8 (rawF z l).o (-1)+1) (by omega) (by omega)
  rcases h2 with⟨ha,h0⟩|⟨id,ver,rfl,h2,h3⟩
  ·rw[h0]at hT hw ⊢
   have hm:zn8 [] (-1) = -1:=rfl;rcases ha with rfl|rfl
   ·simp only[↓reduceIte,go_sem,hR,h,h1,hT,hm,Fl.cs,ne_eq,not_true_eq_false,false_and,zfj]
   ·simp only[↓reduceIte,go_sem,hR,h,h1,hT,hm,Fl.cs,ne_eq,not_true_eq_false,false_and,zfj]
  ·have hset:∀o,(H++X).set id o=H++X.set (id - H.length) o:=fun o=>List.set_append_right _ _ h2
   simp only[↓reduceIte,go_sem,hR,h,h1,hT,hw,h2,h3,hset,Fl.cs];by_cases c1:zn8 (rawF z l).o (-1) = -1
   ·simp[c1]
   ·by_cases c2:(rawF z l).c<=zn8 (rawF z l).o (-1)+1
    ·simp[c1,c2]
    ·simp[c1,c2]
 ·rw[yad,za3,if_neg h,if_neg h]
  simp only[↓reduceIte,go_sem,hR,h,yaw,Fl.cs]
end Go.Ab
end
section
set_option linter.unusedVariables false
set_option linter.unusedSimpArgs false
set_option maxRecDepth 100000
set_option maxHeartbeats 2000000
namespace Go.Ab
open Go.RowKit Go.Proofs
theorem bit_get:∀n:Fin 32,∀i:Fin 5,(!decide (IntKind.wrap .u64 ((BitVec.ofInt 64 (shI false .u64 (n.val:Int) (i.val:Int)) &&& BitVec.ofInt 64 1).toNat:Int)=0))=decide ((n.val / 2 ^ i.val) % 2=1):=by decide
theorem z9t:∀(i n:Nat),zcx n (i+1)=zcx n i++[decide ((n / 2 ^ i) % 2=1)]:=by
 intro i
 induction i with
 |zero=>intro n;simp[zcx]
 |succ i ih=>
  intro n;rw[zcx,ih,zcx,List.cons_append]
  congr 3
  rw[Nat.div_div_eq_div_mul,Nat.pow_succ',]
abbrev encZ(z:List Bool):List AV:=[.sl (bls z)]
def ylh(p:Nat):AV:=.fn (.func zlh) [] [.fp [.int .i64 p]]
theorem AllP_ok(p:Nat)(H:List AO):F zvm [.int .i64 p] H=some (.ret (ylh p),H):=by
 have h:Lt H.length (.fn (.func zlh) [] [.fp [.int .i64 p]])=True:=by
  simp only[eq_iff_iff,iff_true];exact .fn (by simp) (by intro x hx;simp at hx;subst hx;exact .fp (by intro a ha;simp at ha;subst ha;exact .int _ _))
 rw[yef];simp only[↓reduceIte,go_sem,ylh,h]
def zno(p:Nat):Nat->Nat->List (List Bool)
 |_,0=>[]
 |n,j+1=>zcx n p::zno p (n+1) j
theorem zys{S E α:Type}{y:AV}{n:Nat}{enc:α->List AV}{W:S->List AO}{WE:E->List AO}{stp:S->α->Option (S ⊕ E)}(hy:Ys y n enc W WE stp)(s:S)(r:S ⊕ E)(X J:List AO):
  ze6 (W s++X) (.ret (.tup [])) (hp W WE r++(X++J))=some (.ret (.tup []),hp W WE r++X):=by
 have l1:(W s).length=n:=hy.len (.inl s);have l2:=hy.len r;rw[<- List.append_assoc];exact zzk (by omega) (fun id o ho=>by rw[l1];exact hy.fr s r id o ho) (.tup (by simp))
theorem allZ_in(p:Nat)(hp:p<=5)(n:Nat)(hn:n<32)(H A:List AO)(y x7:AV):∀(j i:Nat),i+j=p ->
  zge H (A++[.lst 0 1 (bls (zcx n i)++List.replicate j [.bool false])]) y (.fp [.int .i64 p]) (.int .u64 n) (.ol A.length 0) x7 (.int .u64 n) (.int .i64 p) (.int .i64 i) =
  zge H (A++[.lst 0 1 (bls (zcx n p))]) y (.fp [.int .i64 p]) (.int .u64 n) (.ol A.length 0) x7 (.int .u64 n) (.int .i64 p) (.int .i64 p):=by
 intro j
 induction j with
 |zero=>
  intro i h;obtain rfl:i=p:=by omega
  simp
 |succ j ih=>
  intro i h;have ih:=ih (i+1) (by omega)
  have hb:=bit_get ⟨n,hn⟩ ⟨i,by omega⟩
  dsimp only at hb;have hset:(bls (zcx n i)++List.replicate (j+1) [AV.bool false]).set i [.bool (decide (n / 2 ^ i % 2=1))]=bls (zcx n (i+1))++List.replicate j [.bool false]:=by
   have hl:(bls (zcx n i)).length=i:=by rw[z6f,zgp]
   rw[List.set_append_right _ _ (by omega),hl,Nat.sub_self,List.replicate_succ,List.set_cons_zero,z9t]
   simp[bls]
  have hil:i<(bls (zcx n i)++List.replicate (j+1) [AV.bool false]).length:=by simp[z6f,zgp]
  have hgi:(bls (zcx n i)++List.replicate (j+1) [AV.bool false])[i]?=some [.bool false]:=by
   have hl:(bls (zcx n i)).length=i:=by rw[z6f,zgp]
   rw[List.getElem?_append_right (by omega),hl,Nat.sub_self,List.replicate_succ];rfl
  rw[<- ih];simp only[Int.natCast_add,Int.natCast_one]
  conv=>lhs;rw[zge,zab]
  generalize hes:bls (zcx n i)++List.replicate (j+1) [AV.bool false]=es at hset hil hgi;simp only[↓reduceIte,go_sem,show (i:Int)<(p:Int) by omega,hil,hgi,zac (n:=i) (by omega)]
  refine (congrArg (fun b=>zge H (A++[.lst 0 1 (es.set i [.bool b])]) y (.fp [.int .i64 p]) (.int .u64 n) (.ol A.length 0) x7 (.int .u64 n) (.int .i64 p) (.int .i64 ((i:Int)+1))) hb).trans ?_
  rw[hset]
theorem yje(p:Nat)(h5:p<=5):yfz (ylh p) encZ (zno p 0 (2 ^ p)):=by
 intro S E y m W WE stp hy s X r hr;have hpw:=pow5 p h5;have hsh:shI true .u64 1 (p:Int)=((2 ^ p:Nat):Int):=by
  match p,h5 with
  |0,_=>rfl
  |1,_=>rfl
  |2,_=>rfl
  |3,_=>rfl
  |4,_=>rfl
  |5,_=>rfl
 have hone:=hy.one;have hcell:y.cells=[y]:=by cases y <;> first|rfl|(simp[AV.one]at hone)
 unfold AV.cells at hcell;unfold AV.one at hone;have loop:∀(j n:Nat),n+j=2 ^ p->∀(a:S) (J:List AO),zlx stp (zno p n j) a=some r->zkk (W s++X) (W a++(X++J)) y (.fp [.int .i64 p]) (.int .u64 ((2 ^ p:Nat):Int)) (.int .u64 n)=some (.ret (.tup []),hp W WE r++X):=by
  intro j
  induction j with
  |zero=>
   intro n h a J hq;rw[zno,zlx]at hq;cases hq;rw[zkk,zab];simp only[↓reduceIte,go_sem,show ¬ (n:Int)<((2 ^ p:Nat):Int) by omega]
   exact zys hy s (.inl a) X J
  |succ j ih=>
   intro n h a J hq;rw[zno,zlx]at hq;have lA:(W a).length=m:=hy.len (.inl a);have hin:=allZ_in p h5 n (by omega) (W s++X) (W a++(X++J)) y (.int .u64 ((2 ^ p:Nat):Int)) p 0 (by omega)
   rw[zkk,zab];have e0:bls (zcx n 0)++List.replicate p [AV.bool false]=List.replicate p [.bool false]:=by simp[zcx,bls]
   rw[e0]at hin;simp only[List.append_assoc,List.length_append,Int.natCast_zero]at hin;simp only[↓reduceIte,go_sem,show (n:Int)<((2 ^ p:Nat):Int) by omega,show (p:Int)<=1073741824 by omega,List.length_replicate,hin]
   rw[zge,zab];have lX:∀o,(W a++(X++(J++[o])))[(W a).length+(X.length+J.length)]?=some o:=fun o=>by
    rw[List.getElem?_append_right (by omega),List.getElem?_append_right (by omega),List.getElem?_append_right (by omega)];simp
   have lS:∀o o',(W a++(X++(J++[o]))).set ((W a).length+(X.length+J.length)) o' = W a++(X++(J++[o'])):=fun o o'=>by
    rw[List.set_append_right _ _ (by omega),List.set_append_right _ _ (by omega),List.set_append_right _ _ (by omega)];simp
   cases hst:stp a (zcx n p) with
   |none=>rw[hst]at hq;cases hq
   |some q=>
   rw[hst]at hq;have hc:=hy.call a (zcx n p) (X++(J++[.dead])) q hst;simp only[encZ]at hc
   cases q with
   |inl b=>
    have ih:=ih (n+1) (by omega) b (J++[.dead]) hq
    simp only[ze5,Int.natCast_add,Int.natCast_one]at hc ih;have hwu:IntKind.wrap .u64 ((n:Int)+1)=(n:Int)+1:=by have:=z1h (n+1) (by omega);simpa using this
    simp only[↓reduceIte,go_sem,lX,lS,hc,isL,hwu,ih]
   |inr e=>
    cases hq;simp only[zqi]at hc
    simp only[↓reduceIte,go_sem,lX,lS,hc,isL];exact zys hy s (.inr e) X _
 simp only[ylh,zgo,List.cons_append,List.nil_append];show F zlh _ _=_;rw[z51];simp only[↓reduceIte,go_sem,hsh];have:=loop (2 ^ p) 0 (by omega) s [] hr
 simpa using this
end Go.Ab
end
section
set_option linter.unusedVariables false
set_option linter.unusedSimpArgs false
set_option maxRecDepth 100000
set_option maxHeartbeats 2000000
namespace Go.Ab
open Go.RowKit Go.Proofs
theorem yh7(n:Int)(h0:0<=n)(hn:n<=1073741824)(H:List AO):F ze4 [.ze,.int .i64 n] H=if n=0 then some (.ret .ze,H) else some (.ret (.ol H.length 1),H++[.lst 1 2 []]):=by
 rw[zry];by_cases h:n=0
 ·subst h
  have e1:IntKind.wrap .i64 0=0:=zam (by omega) (by omega)
  simp only[↓reduceIte,go_sem,Int.sub_self,e1]
 ·simp only[↓reduceIte,go_sem,h,show ¬ n<0 by omega,show 0<n by omega,Int.sub_self,Int.sub_zero,zam (n:=0) (by omega) (by omega),zam (n:=n) (by omega) (by omega),hn]
inductive AccA (H:List AO):AV->List At->List AO->Prop
 |ze:AccA H .ze [] H
 |ol (ver:Nat) (es:List At):AccA H (.ol H.length ver) es (H++[.lst ver 2 (At.css es)])
def slA(xs:List (List At)):List (List AV):=xs.map fun x=>[.sl (At.css x)]
@[go_sem] theorem slA_len(xs:List (List At)):(slA xs).length=xs.length:=by simp[slA]
@[go_sem] theorem slA_get(xs:List (List At))(i:Nat):(slA xs)[i]?=xs[i]?.map fun x=>[.sl (At.css x)]:=by simp[slA]
@[go_sem] theorem atcss_all2(ks:List At):(∀e∈At.css ks,e.length=2)=True:=by
 refine eq_true fun e he=>?_
 obtain⟨x,_,rfl⟩:=List.mem_map.1 he;rfl
theorem zpj:At.css []=[]:=rfl
theorem zlu(x:At)(l:List At):At.css (x::l)=x.cs::At.css l:=rfl
theorem yfa(a b:List At):At.css (a++b)=At.css a++At.css b:=by simp[At.css]
theorem z9p(xs:List (List At))(hlen:xs.length<=1000)(ht:xs.flatten.length<=1073741824)(H:List AO):
  F zd3 [.sl (slA xs)] H=some (.ret (.sl (At.css xs.flatten)),H):=by
 have loop1:∀(suf pre:List (List At)) {v:AV} {es:List At} {H1:List AO},xs=pre++suf->AccA (H++[.lst 0 2 []]) v es H1->es.length+suf.flatten.length<=1073741824 ->
   zdv H H1 v (.sl (slA xs)) (.int .i64 xs.length) (.int .i64 pre.length)=some (.ret (.sl (At.css (es++suf.flatten))),H):=by
  intro suf
  induction suf with
  |nil=>
   intro pre v es H1 e ha hb;subst e;rw[zdv,zab]
   cases ha with
   |ze=>simp only[↓reduceIte,go_sem,List.flatten_nil,zpj,zlu]
   |ol ver=>simp only[↓reduceIte,go_sem,List.flatten_nil]
  |cons x suf ih=>
   intro pre v es H1 e ha hb;subst e;simp at hlen;rw[List.flatten_cons,List.length_append]at hb;rw[zdv,zab]
   cases ha with
   |ze=>
    cases x with
    |nil=>
     have:=ih (pre++[[]]) (by simp) (AccA.ze (H:=H++[.lst 0 2 []])) (by simpa using hb)
     simp only[zaf]at this;simp only[↓reduceIte,go_sem,zpj,zlu,zac (n:=pre.length) (by omega),this,List.flatten_cons]
    |cons y ys=>
     have:=ih (pre++[y::ys]) (by simp) (AccA.ol (H:=H++[.lst 0 2 []]) 0 (y::ys)) (by simpa using hb)
     simp only[zaf]at this;simp only[↓reduceIte,go_sem,zpj,zlu]at this;simp at hb;simp only[↓reduceIte,go_sem,zpj,zlu,zac (n:=pre.length) (by omega),show ys.length<1073741824 by omega,this,List.flatten_cons]
   |ol ver=>
    have:=ih (pre++[x]) (by simp) (AccA.ol (H:=H++[.lst 0 2 []]) (ver+1) (es++x)) (by simp at hb ⊢;omega)
    simp only[zaf]at this;simp only[↓reduceIte,go_sem]at this;simp only[↓reduceIte,go_sem,zac (n:=pre.length) (by omega),show es.length+x.length<=1073741824 by omega,<- yfa,this,List.flatten_cons,List.append_assoc]
 have loop0:∀(suf pre:List (List At)),xs=pre++suf ->
   zdw H (H++[.lst 0 2 []]) (.sl (slA xs)) (.int .i64 pre.flatten.length) (.sl (slA xs)) (.int .i64 xs.length) (.int .i64 pre.length)=some (.ret (.sl (At.css xs.flatten)),H):=by
  intro suf
  induction suf with
  |nil=>
   intro pre e;subst e;simp only[List.append_nil]at *;have hg:=yh7 pre.flatten.length (by omega) (by omega) (H++[.lst 0 2 []])
   rw[zdw,zab];by_cases h0:pre.flatten.length=0
   ·have h1:=loop1 pre [] rfl (AccA.ze (H:=H++[.lst 0 2 []])) (by simpa using ht)
    simp only[List.length_nil,Int.natCast_zero,List.nil_append]at h1;rw[if_pos (by omega)]at hg
    simp only[↓reduceIte,go_sem,hg,h1]
   ·have h1:=loop1 pre [] rfl (AccA.ol (H:=H++[.lst 0 2 []]) 1 []) (by simpa using ht)
    simp only[List.length_nil,Int.natCast_zero,List.nil_append]at h1;rw[if_neg (by omega)]at hg
    simp only[↓reduceIte,go_sem,zpj,zlu]at hg h1;simp only[↓reduceIte,go_sem,hg,h1]
  |cons x suf ih=>
   intro pre e;subst e;simp at hlen;have:=ih (pre++[x]) (by simp)
   have hl:((pre++[x]).flatten.length:Int)=(pre.flatten.length:Int)+(x.length:Int):=by simp
   rw[hl]at this;simp only[zaf]at this;simp only[List.flatten_append,List.flatten_cons,List.length_append]at ht;rw[zdw,zab];simp only[↓reduceIte,go_sem,zac (n:=pre.length) (by omega),zam (n:=(pre.flatten.length:Int)+(x.length:Int)) (by omega) (by omega),show ¬ (pre.flatten.length:Int)+(x.length:Int)<0 by omega]
   rw[this]
 have h0:=loop0 xs [] rfl;simp only[List.length_nil,Int.natCast_zero,List.flatten_nil]at h0;rw[zp9];simp only[↓reduceIte,go_sem,h0]
@[go_sem] theorem atcs_over2(a b:At):over a.cs 0 b.cs=b.cs:=rfl
theorem z82(g:At->Int)(f:AV)(H:List AO)(l:List At)(hlen:l.length<=1000)(hf:∀x∈l,∀y∈l,cfl T f [.agg x.cs,.agg y.cs] H=some (.ret (.int .i64 (g x - g y)),H))(hne:l≠[]):
  ∃a∈l,g a=z16 (l.map g)/\F zds [.sl (At.css l),f] H=some (.ret (.agg a.cs),H):=by
 have loop:∀(s p:List At) (b:At),l=p++s->p≠[]->b∈l->g b=z16 (p.map g)->∃a∈l,g a=z16 (l.map g)/\zck H H (.sl (At.css l)) f (.int .i64 p.length) [.int .i64 0,.int .i64 0] b.cs=some (.ret (.agg a.cs),H):=by
  intro s
  induction s with
  |nil=>
   intro p b h hp hb hg;rw[List.append_nil]at h;subst h;refine⟨b,hb,hg,?_⟩;rw[zck,zab];simp only[↓reduceIte,go_sem]
  |cons x s ih=>
   intro p b h hp hb hg;have hx:x∈l:=by rw[h];simp
   have hga:l[p.length]?=some x:=by rw[h];simp
   have hpl:p.length<l.length:=by rw[h];simp
   have hc:=hf x hx b hb;have hms:=zvg (g x) (p.map g) (by simpa using hp)
   by_cases hlt:g x - g b<0
   ·obtain⟨a,h1,h2,h3⟩:=ih (p++[x]) x (by rw[h];simp) (by simp) hx (by rw[List.map_append,List.map_cons,List.map_nil,hms];omega)
    refine⟨a,h1,h2,?_⟩;simp only[zaf]at h3;rw[zck,zab];simp only[↓reduceIte,go_sem,show (p.length:Int)<(l.length:Int) by omega,hga,hc,hlt,zac (n:=p.length) (by omega),h3]
   ·obtain⟨a,h1,h2,h3⟩:=ih (p++[x]) b (by rw[h];simp) (by simp) hb (by rw[List.map_append,List.map_cons,List.map_nil,hms];omega)
    refine⟨a,h1,h2,?_⟩;simp only[zaf]at h3;rw[zck,zab];simp only[↓reduceIte,go_sem,show (p.length:Int)<(l.length:Int) by omega,hga,hc,hlt,zac (n:=p.length) (by omega),h3]
 cases l with
 |nil=>exact absurd rfl hne
 |cons x l=>
  obtain⟨a,h1,h2,h3⟩:=loop l [x] x rfl (by simp) (by simp) rfl
  refine⟨a,h1,h2,?_⟩;have h0:(x::l)[0]?=some x:=rfl;rw[zo9];simp only[↓reduceIte,go_sem,h0,List.length_cons,show ¬ ((l.length+1:Nat):Int)<1 by omega]
  exact h3
theorem yi5(m:List Int)(vars:Nat)(hm:okM vars m)(h16:vars=16)(H:List AO)(id b ver:Nat)(hH:H[id]?=some (.lst ver 1 (zaq m)))(hb:H[b]?=some (.box [.ov id ver 1 0 16]))(x y:At)(hx:0<=x.v/\x.v<16/\0<=x.o/\x.o<=1000)(hy:0<=y.v/\y.v<16/\0<=y.o/\y.o<=1000):
  F ziy [.agg x.cs,.agg y.cs,.ptr b 0] H=some (.ret (.int .i64 ((gI m x.v - x.o) - (gI m y.v - y.o))),H):=by
 have hgx:=hm.get hx.1 (by omega)
 have hgy:=hm.get hy.1 (by omega)
 have hm':=hm.1;rw[z0l];simp only[↓reduceIte,go_sem,hH,hb,hm',h16,hx.1,hy.1,hgx.1,hgy.1,show x.v.toNat<16 by omega,show y.v.toNat<16 by omega,Nat.zero_add,zam (n:=gI m x.v - x.o) (by omega) (by omega),zam (n:=gI m y.v - y.o) (by omega) (by omega),zam (n:=(gI m x.v - x.o) - (gI m y.v - y.o)) (by omega) (by omega)]
theorem yj0(c:Cl)(m:List Int)(vars:Nat)(hm:okM vars m)(h16:vars=16)(hc:c.ok vars)(H:List AO)(id ver:Nat)(hH:H[id]?=some (.lst ver 1 (zaq m))):F zo3 [.agg c.cs,.ov id ver 1 0 16] H=some (.ret (.int .i64 (ztr c m)),H):=by
 have hid:=(List.getElem?_eq_some_iff.1 hH).1;have hH':(H++[.box [.ov id ver 1 0 16]])[id]?=some (.lst ver 1 (zaq m)):=by rw[List.getElem?_append_left hid,hH]
 obtain⟨a,h1,h2,h3⟩:=z82 (fun a=>gI m a.v - a.o) (.fn (.func ziy) [] [.ptr H.length 0]) (H++[.box [.ov id ver 1 0 16]]) c.f (by have:=hc.len;omega) (fun x hx y hy=>by
  simp only[zgo,List.cons_append,List.nil_append];exact yi5 m vars hm h16 _ id H.length ver hH' (by simp) x y (by have:=hc.at_ x hx;omega) (by have:=hc.at_ y hy;omega)) (by have:=hc.ne;intro h;rw[h]at this;simp at this)
 have ha:=hc.at_ a h1;have hga:=hm.get ha.1 ha.2.1;have hb:=yfc hm hc;have ht:=hc.to;have hm':=hm.1;rw[ztr,<- h2]at hb ⊢;rw[z53];simp only[↓reduceIte,go_sem,h3,hH',hm',h16,ha.1,hga.1,show a.v.toNat<16 by omega,Nat.zero_add,zam (n:=gI m a.v - a.o) (by omega) (by omega),zam (n:=gI m a.v - a.o+c.t.o) (by omega) (by omega)]
def zsa(l:List Cl):AV:=.fn (.func zhe) [] [.fp [.sl (Cl.css l)]]
theorem z0v(l:List Cl)(H:List AO):F zkv [.sl (Cl.css l)] H=some (.ret (zsa l),H):=by
 rw[z3g];simp only[↓reduceIte,go_sem,zsa]
abbrev yir(p:Nat×At):List AV:=[.int .i64 p.1,.agg p.2.cs]
def zql:List Cl->Nat->List (Nat×At)
 |[],_=>[]
 |c::r,i=>((c.f++[c.t]).map fun a=>(i,a))++zql r (i+1)
theorem z32(l:List Cl)(hl:l.length<=1000)(hf:∀c∈l,c.f.length<=1000):yfz (zsa l) yir (zql l 0):=by
 intro S E y m W WE stp hy s X r hr;have hone:=hy.one;have hcell:y.cells=[y]:=by cases y <;> first|rfl|(simp[AV.one]at hone)
 unfold AV.cells at hcell;unfold AV.one at hone;have fin:=fun r=>zys hy s r X []
 simp only[List.append_nil]at fin;have loop0:∀(i:Nat) (L:List At) (rest:List (Nat×At)),i<1000->L.length<=1001 ->
   (∀a:S,zlx stp rest a=some r->zfb (W s++X) (W a++X) y (.sl (Cl.css l)) (.int .i64 l.length) (.int .i64 (i+1))=some (.ret (.tup []),hp W WE r++X)) ->
   ∀(t p:List At),L=p++t->∀(a:S),zlx stp (t.map (fun a=>(i,a))++rest) a=some r->zgz (W s++X) (W a++X) y (.int .i64 i) (.sl (Cl.css l)) (.int .i64 l.length) (.int .i64 i) (.sl (At.css L)) (.int .i64 L.length) (.int .i64 p.length)=some (.ret (.tup []),hp W WE r++X):=by
  intro i L rest hi hL hrest t
  induction t with
  |nil=>
   intro p h a hq;rw[List.append_nil]at h;subst h;have h1:=hrest a (by simpa using hq)
   rw[zgz,zab];simp only[↓reduceIte,go_sem,zac (n:=i) (by omega),h1]
  |cons x t ih=>
   intro p h a hq;have hga:L[p.length]?=some x:=by rw[h];simp
   have hpl:p.length<L.length:=by rw[h];simp
   rw[List.map_cons,List.cons_append,zlx]at hq
   cases hst:stp a (i,x) with
   |none=>rw[hst]at hq;cases hq
   |some q=>
   rw[hst]at hq;have hc:=hy.call a (i,x) X q hst;simp only[yir]at hc;rw[zgz,zab]
   cases q with
   |inl b=>
    have ih:=ih (p++[x]) (by rw[h];simp) b hq
    simp only[ze5,zaf]at hc ih;simp only[↓reduceIte,go_sem,show (p.length:Int)<(L.length:Int) by omega,hga,hc,isL,zac (n:=p.length) (by omega),ih]
   |inr e=>
    cases hq;simp only[zqi]at hc
    simp only[↓reduceIte,go_sem,show (p.length:Int)<(L.length:Int) by omega,hga,hc,isL]
    exact fin (.inr e)
 have loop1:∀(t p:List Cl),l=p++t->∀(a:S),zlx stp (zql t p.length) a=some r->zfb (W s++X) (W a++X) y (.sl (Cl.css l)) (.int .i64 l.length) (.int .i64 p.length)=some (.ret (.tup []),hp W WE r++X):=by
  intro t
  induction t with
  |nil=>
   intro p h a hq;rw[List.append_nil]at h;subst h;rw[zql,zlx]at hq;cases hq;rw[zfb,zab];simp only[↓reduceIte,go_sem];exact fin (.inl a)
  |cons c t ih=>
   intro p h a hq;have hga:l[p.length]?=some c:=by rw[h];simp
   have hpl:p.length<l.length:=by rw[h];simp
   have hcf:=hf c (by rw[h];simp)
   have hco:=fun H=>z9p [c.f,[c.t]] (by simp) (by simp;omega) H
   have e:([c.f,[c.t]]:List (List At)).flatten=c.f++[c.t]:=by simp
   have e2:slA [c.f,[c.t]]=[[.sl (At.css c.f)],[.sl [c.t.cs]]]:=rfl;rw[e,e2]at hco;have h0:=loop0 p.length (c.f++[c.t]) (zql t (p.length+1)) (by omega) (by simp;omega) (fun b hb=>by
    have:=ih (p++[c]) (by rw[h];simp) b (by simpa using hb)
    simpa only[zaf] using this) (c.f++[c.t]) [] rfl a (by rw[zql]at hq;exact hq)
   simp only[List.length_nil,Int.natCast_zero]at h0;rw[zfb,zab];simp only[↓reduceIte,go_sem,show (p.length:Int)<(l.length:Int) by omega,hga,hco,h0]
 simp only[zsa,zgo,List.cons_append,List.nil_append];show F zhe _ _=_;rw[zw3];simp only[↓reduceIte,go_sem];exact loop1 l [] rfl s hr
theorem yjc(xs:List Cl)(hlen:xs.length<=1000)(f:AV)(p:Cl->Bool)(H:List AO)(hf:∀e∈xs,cfl T f [.agg e.cs] H=some (.ret (.bool (p e)),H)):
  F zbr [.sl (Cl.css xs),f] H=some (.ret (.bool (xs.any p)),H):=by
 have loop:∀(suf pre:List Cl),xs=pre++suf->∃r:Int,zbm H H (.sl (Cl.css xs)) f (.int .i64 xs.length) (.int .i64 pre.length)=some (.ret (.int .i64 r),H)/\decide (0<=r)=suf.any p:=by
  intro suf
  induction suf with
  |nil=>
   intro pre e;subst e;refine⟨-1,?_,rfl⟩;rw[zbm,zab];simp only[↓reduceIte,go_sem]
  |cons x suf ih=>
   intro pre e;subst e;obtain⟨r,h1,h2⟩:=ih (pre++[x]) (by simp)
   simp only[zaf]at h1;have hfx:=hf x (by simp)
   simp at hlen
   cases hp:p x with
   |true=>
    refine⟨pre.length,?_,by simp[hp]⟩
    rw[zbm,zab];simp only[↓reduceIte,go_sem,hfx,hp]
   |false=>
    refine⟨r,?_,by simp[hp,h2]⟩
    rw[zbm,zab];simp only[↓reduceIte,go_sem,hfx,hp,zac (n:=pre.length) (by omega),h1]
 obtain⟨r,h1,h2⟩:=loop xs [] rfl;simp only[List.length_nil,Int.natCast_zero]at h1;have hi:F zcg [.sl (Cl.css xs),f] H=some (.ret (.int .i64 r),H):=by
  rw[zmi];simp only[↓reduceIte,go_sem,h1]
 rw[zkc];simp only[↓reduceIte,go_sem,hi,<- h2]
def ztg(vars:Int)(b:Bool):List AO:=[.box [.int .i64 vars],.box [.bool b]]
def z1v(vars:Int)(_:Unit)(x:Nat×At):Option (Unit ⊕ Unit):=if atB vars x.2 then some (.inl ()) else some (.inr ())
theorem yg4(H:List AO)(vars:Int):Ys (.yd (H.length+2+1)) (H.length+2+2) yir (fun _=>H++(ztg vars false++[.dfr,.slp .ready 47 [(2,.ptr H.length 0),(4,.ptr (H.length+1) 0)] [26,27] zeb zd8])) (fun _=>H++(ztg vars false++[.dfr,.slp (.done .ret) 47 [(2,.ptr H.length 0),(4,.ptr (H.length+1) 0)] [26,27] zeb zd8])) (z1v vars):=by
 refine z4g H 2 yir (fun _=>ztg vars false) (fun _=>ztg vars false) (fun _=>.ret) (z1v vars) 47 [(2,.ptr H.length 0),(4,.ptr (H.length+1) 0)] [26,27] zeb zd8 zt2 zt0 (fun _=>rfl) ?_ ?_ ?_ ?_
 ·rintro (p|e) <;> rfl
 ·rintro s (p|e) i o ho <;> exact .inl ho
 ·intro p hp;simp at hp;rcases hp with rfl|rfl <;> exact .ptr (by omega)
 ·rintro ⟨⟩ ⟨i,a⟩ X r hst
  refine⟨[],?_⟩;unfold z1v at hst;rcases a with⟨v,o⟩;simp only at hst;have hA:atB vars ⟨v,o⟩=(decide (0<=v) && decide (v<vars) && decide (0<=o) && decide (o<=1000)):=rfl;by_cases h:atB vars ⟨v,o⟩=true
  ·rw[if_pos h]at hst
   cases hst;obtain⟨h1,h2,h3,h4⟩:=z6h.1 h
   simp only at h1 h2 h3 h4;simp only[↓reduceIte,go_sem,ztg,yir,At.cs,z49,isL,show ¬ v<0 by omega,show ¬ vars<=v by omega,show ¬ o<0 by omega,show ¬ 1000<o by omega]
  ·rw[if_neg h]at hst
   cases hst;have hn:¬ (0<=v/\v<vars/\0<=o/\o<=1000):=fun k=>h (z6h.2 k)
   simp only[↓reduceIte,go_sem,ztg,yir,At.cs,z49,isL];by_cases h1:v<0
   ·rw[if_neg (by simpa using h1)]
   by_cases h2:vars<=v
   ·rw[if_pos h1,if_neg (by simpa using h2)]
   by_cases h3:o<0
   ·rw[if_pos h1,if_pos h2,if_neg (by simpa using h3)]
   ·rw[if_pos h1,if_pos h2,if_pos h3,if_pos (by omega)]
theorem zxe(vars:Int):∀xs:List (Nat×At),zlx (z1v vars) xs ()=some (if (xs.all fun x=>atB vars x.2)=true then .inl () else .inr ())
 |[]=>rfl
 |x::xs=>by
  rw[zlx,List.all_cons];unfold z1v
  cases h:atB vars x.2
  ·rfl
  ·simp only[if_true,Bool.true_and]
   exact zxe vars xs
theorem zyb(q:At->Bool):∀(l:List Cl) (i:Nat),((zql l i).all fun x=>q x.2)=l.all fun c=>c.f.all q && q c.t
 |[],i=>rfl
 |c::l,i=>by
  rw[zql,List.all_append,zyb q l,List.all_cons,List.all_map,List.all_append];simp[Function.comp_def]
def z46(c:Cl):Bool:=decide (c.f.length<1) || decide (6<c.f.length)
theorem many_ok(c:Cl)(H:List AO):F zhf [.agg c.cs] H=some (.ret (.bool (z46 c)),H):=by
 rw[zw4,z46];simp only[↓reduceIte,go_sem];by_cases h:(c.f.length:Int)<1
 ·simp only[h,show c.f.length<1 by omega];simp
 ·simp only[h,show ¬ c.f.length<1 by omega]
  by_cases h2:6<c.f.length
  ·simp[show (6:Int)<c.f.length by omega,h2]
  ·simp[show ¬ (6:Int)<c.f.length by omega,h2]
theorem zwm(vars:Int)(l:List Cl)(hl:l.length<=1000)(hf:∀c∈l,c.f.length<=1000)(H:List AO):F zkw [.int .i64 vars,.sl (Cl.css l)] H=some (.ret (.bool (zhy vars l)),H):=by
 have hM:=fun H=>yjc l hl (.fn (.func zhf) [] []) z46 H (fun c hc=>by
  simp only[zgo,List.cons_append,List.nil_append,ye1];exact many_ok c H)
 have hr:=z32 l hl hf _ _ _ _ _ _ _ (yg4 H vars) () [] _ (zxe vars _);rw[zyb]at hr;have he:=fun st=>zth (H:=H) (DR:=ztg vars false) (k:=2) rfl (st:=st) (nn:=47) (t:=[(2,.ptr H.length 0),(4,.ptr (H.length+1) 0)]) (ps:=[26,27]) (asg:=zeb) (body:=zd8)
 rw[z3h,zhy];simp only[ztg,zsa,zgo,List.cons_append,List.nil_append,List.append_nil,Nat.add_assoc,Nat.reduceAdd]at hr he;by_cases c1:vars<1
 ·have e:(decide (1<=vars) && decide (vars<=16) && decide (l.length<=60) && l.all (clB vars))=false:=by rw[decide_eq_false (show ¬ 1<=vars by omega)];rfl
  rw[e];simp only[↓reduceIte,go_sem,c1]
 by_cases c2:16<vars
 ·have e:(decide (1<=vars) && decide (vars<=16) && decide (l.length<=60) && l.all (clB vars))=false:=by rw[decide_eq_false (show ¬ vars<=16 by omega)];simp
  rw[e];simp only[↓reduceIte,go_sem,c1,c2]
 by_cases c3:(60:Int)<l.length
 ·have e:(decide (1<=vars) && decide (vars<=16) && decide (l.length<=60) && l.all (clB vars))=false:=by rw[decide_eq_false (show ¬ l.length<=60 by omega)];simp
  rw[e];simp only[↓reduceIte,go_sem,c1,c2,c3]
 have e:(decide (1<=vars) && decide (vars<=16) && decide (l.length<=60) && l.all (clB vars))=l.all (clB vars):=by rw[decide_eq_true (show 1<=vars by omega),decide_eq_true (show vars<=16 by omega),decide_eq_true (show l.length<=60 by omega)];simp
 rw[e]
 cases c4:l.any z46 with
 |true=>
  have e2:l.all (clB vars)=false:=by
   obtain⟨c,hc,hm⟩:=List.any_eq_true.1 c4;rw[Bool.eq_false_iff];intro k;have:=List.all_eq_true.1 k c hc;simp only[clB,Bool.and_eq_true,decide_eq_true_eq]at this;simp only[z46,Bool.or_eq_true,decide_eq_true_eq]at hm;omega
  rw[e2];simp only[↓reduceIte,go_sem,c1,c2,c3,hM,c4]
 |false=>
  have e2:l.all (clB vars)=l.all fun c=>c.f.all (atB vars) && atB vars c.t:=by
   apply Bool.eq_iff_iff.2;simp only[List.all_eq_true];have hm:∀c∈l,z46 c=false:=by simpa using c4
   constructor
   ·intro k c hc
    have:=k c hc;simp only[clB,Bool.and_eq_true,decide_eq_true_eq]at this ⊢;exact⟨this.1.2,this.2⟩
   ·intro k c hc
    have:=k c hc;have h2:=hm c hc;simp only[z46,Bool.or_eq_false_iff,decide_eq_false_iff_not]at h2;simp only[clB,Bool.and_eq_true,decide_eq_true_eq]at this ⊢;exact⟨⟨⟨by omega,by omega⟩,this.1⟩,this.2⟩
  rw[e2]
  cases c5:l.all fun c=>c.f.all (atB vars) && atB vars c.t with
  |true=>
   rw[c5]at hr;simp only[if_true,ze5]at hr;simp only[↓reduceIte,go_sem,c1,c2,c3,hM,c4,z0v,zsa,hr,he,List.mem_cons,List.not_mem_nil,or_false,forall_eq,List.nodup_cons,List.nodup_nil,not_false_eq_true,and_self]
  |false=>
   rw[c5]at hr;simp only[Bool.false_eq_true,if_false,zqi]at hr;simp only[↓reduceIte,go_sem,c1,c2,c3,hM,c4,z0v,zsa,hr,he,List.mem_cons,List.not_mem_nil,or_false,forall_eq,List.nodup_cons,List.nodup_nil,not_false_eq_true,and_self]
def zy2(l:List Cl)(n:Int):List AO:=[.box [.sl (Cl.css l)],.box [.int .i64 n]]
def z45(l:List Cl)(n:Int)(x:Nat×At):Option (Int ⊕ Empty):=match l[x.1]? with
 |some c=>if 0<=n/\n<=1000/\0<=c.t.o/\c.t.o<=1000/\0<=x.2.o/\x.2.o<=1000 then some (.inl (max n (c.t.o - x.2.o))) else none
 |none=>none
theorem most_ys(H:List AO)(l:List Cl):Ys (.yd (H.length+2+1)) (H.length+2+2) yir (fun n=>H++(zy2 l n++[.dfr,.slp .ready 28 [(3,.ptr H.length 0),(4,.ptr (H.length+1) 0)] [14,15] zey zex])) (fun e:Empty=>H++(noE e++[.dfr,.slp (.done (noE e)) 28 [(3,.ptr H.length 0),(4,.ptr (H.length+1) 0)] [14,15] zey zex])) (z45 l):=by
 refine z4g H 2 yir (zy2 l) noE noE (z45 l) 28 [(3,.ptr H.length 0),(4,.ptr (H.length+1) 0)] [14,15] zey zex zvc zva (fun _=>rfl) ?_ ?_ ?_ ?_
 ·rintro (p|e)
  ·rfl
  ·exact e.elim
 ·rintro s (p|e) i o ho
  ·match i,ho with
   |0,ho=>simp[ze5,zy2]at ho;subst ho;exact .inl (by simp[zy2])
   |1,ho=>simp[ze5,zy2]at ho;subst ho;exact .inr fun a ha=>by simp at ha;subst ha;exact .int _ _
   |j+2,ho=>simp[ze5,zy2]at ho
  ·exact e.elim
 ·intro p hp;simp at hp;rcases hp with rfl|rfl <;> exact .ptr (by omega)
 ·rintro n ⟨i,a⟩ X r hst
  refine⟨[],?_⟩;unfold z45 at hst;simp only at hst
  cases hc:l[i]? with
  |none=>rw[hc]at hst;cases hst
  |some c=>
  rw[hc]at hst;simp only at hst
  split at hst
  ·rename_i hb
   cases hst;simp only[↓reduceIte,go_sem,zy2,yir,z49,isL,hc,zam (n:=c.t.o - a.o) (by omega) (by omega),zqt]
  ·cases hst
theorem yb8(l:List Cl)(vars:Nat)(hl:∀c∈l,c.ok vars):∀(t p:List Cl),l=p++t->∀n,0<=n/\n<=1000->zlx (z45 l) (zql t p.length) n=some (.inl (t.foldl (fun n c=>zgg c n c.f) n)):=by
 have one:∀(i:Nat) (c:Cl),l[i]?=some c->c.ok vars->∀(L:List At),(∀a∈L,0<=a.o/\a.o<=1000)->∀n,0<=n/\n<=1000->zlx (z45 l) (L.map fun a=>(i,a)) n=some (.inl (zgg c n L)):=by
  intro i c hc ho L
  induction L with
  |nil=>intro _ n hn;rfl
  |cons a L ih=>
   intro hL n hn;have ha:=hL a (by simp)
   have ht:=ho.to;rw[List.map_cons,zlx];have e:z45 l n (i,a)=some (.inl (max n (c.t.o - a.o))):=by
    unfold z45;simp only[hc];rw[if_pos (by omega)]
   rw[e];exact ih (fun b hb=>hL b (by simp[hb])) _ (by omega)
 intro t
 induction t with
 |nil=>intro p h n hn;rfl
 |cons c t ih=>
  intro p h n hn;have hc:l[p.length]?=some c:=by rw[h];simp
  have ho:=hl c (by rw[h];simp)
  have h1:=one p.length c hc ho (c.f++[c.t]) (fun a ha=>by
   rcases List.mem_append.1 ha with ha|ha
   ·have:=ho.at_ a ha;omega
   ·simp at ha;subst ha;have:=ho.to;omega) n hn
  have hb:=zrn ho c.f (fun _ h=>h) hn
  have e:zgg c n (c.f++[c.t])=zgg c n c.f:=by
   unfold zgg at hb ⊢;rw[List.foldl_append];simp only[List.foldl_cons,List.foldl_nil];omega
  rw[e]at h1;have h2:=ih (p++[c]) (by rw[h];simp) (zgg c n c.f) hb
  rw[zf5]at h2;rw[zql,zzg,h1];exact h2
theorem z99(vars:Nat)(l:List Cl)(h:zhy vars l=true)(H:List AO):F zo2 [.int .i64 vars,.sl (Cl.css l)] H=some (.ret (.tup [.int .i64 (zrp l),.int .i64 0]),H):=by
 have hR:=zga.1 h;have hr08:=fun H=>zwm vars l (by omega) (fun c hc=>by have:=(hR.2.2.2 c hc).len;omega) H
 have hr:=z32 l (by omega) (fun c hc=>by have:=(hR.2.2.2 c hc).len;omega) _ _ _ _ _ _ _ (most_ys H l) 0 [] _ (yb8 l vars hR.2.2.2 l [] rfl 0 (by omega))
 rw[<- zro]at hr;have he:=zth (H:=H) (DR:=zy2 l (zrp l)) (k:=2) rfl (st:=.ready) (nn:=28) (t:=[(3,.ptr H.length 0),(4,.ptr (H.length+1) 0)]) (ps:=[14,15]) (asg:=zey) (body:=zex);simp only[ze5,zy2,zsa,zgo,List.cons_append,List.nil_append,List.append_nil,Nat.add_assoc,Nat.reduceAdd]at hr he;rw[z52];simp only[↓reduceIte,go_sem,hr08,h,z0v,zsa,hr,he,List.mem_cons,List.not_mem_nil,or_false,forall_eq,List.nodup_cons,List.nodup_nil,not_false_eq_true,and_self];exact if_pos (.tup (by intro a ha;simp at ha;rcases ha with rfl|rfl <;> exact .int _ _))
theorem ycd(vars:Nat)(l:List Cl)(h:zhy vars l=true)(H:List AO):F zk3 [.int .i64 vars,.sl (Cl.css l)] H=some (.ret (.int .i64 (zhc vars l)),H):=by
 have hr:=zga.1 h;have hb:=zuc l hr.2.2.2 (n:=0) (by omega)
 rw[<- zro]at hb;have h1:0<=((vars:Int) - 1)*zrp l:=Int.mul_nonneg (by omega) hb.1
 have h2:((vars:Int) - 1)*zrp l<=15*1000:=Int.mul_le_mul (by omega) hb.2 hb.1 (by omega)
 rw[zzs,zhc];simp only[↓reduceIte,go_sem,z99 vars l h,zam (n:=(vars:Int) - 1) (by omega) (by omega),zam (n:=((vars:Int) - 1)*zrp l) (by omega) (by omega)]
end Go.Ab
end
section
set_option linter.unusedVariables false
set_option linter.unusedSimpArgs false
set_option maxRecDepth 100000
set_option maxHeartbeats 2000000
namespace Go.Ab
open Go.RowKit Go.Proofs
def zlj(m:List Int):List AV:=m.map fun n=>.int .i64 n
@[go_sem] theorem zhw(m:List Int):(zlj m).length=m.length:=by simp[zlj]
@[go_sem] theorem intA_one(m:List Int):(zlj m).all AV.one=true:=by simp[zlj,AV.one]
theorem zzc(m:List Int):(zlj m).map (fun a=>[a])=zaq m:=by simp[zlj,zaq]
theorem zvt(m:List Int):(zaq m).flatten=zlj m:=by
 induction m with
 |nil=>rfl
 |cons x m ih=>simp only[zaq,List.map_cons,List.flatten_cons,zlj]at ih ⊢;rw[ih];rfl
theorem z5c(n:Nat)(m:List Int):∀a∈zlj m,Lt n a:=by
 intro a ha;obtain⟨x,_,rfl⟩:=List.mem_map.1 ha;exact .int _ _
@[go_sem] theorem lt_intA(n:Nat)(m:List Int):(∀a∈zlj m,Lt n a)=True:=eq_true (z5c n m)
theorem zzf(n:Nat):∀(m:List Int) (h:List AO),zui n (zlj m) h=(zlj m,h)
 |[],h=>rfl
 |x::m,h=>by
  have ih:=zzf n m h;simp only[zlj,List.map_cons]at ih ⊢;rw[zui];simp only[z5i];rw[ih]
theorem zy1{α:Type}:∀(m z p:List α),m.length<=z.length->over (p++z) p.length m=p++(m++z.drop m.length)
 |[],z,p,_=>by simp[over]
 |x::m,[],p,h=>by simp at h
 |x::m,y::z,p,h=>by
  have ih:=zy1 m z (p++[x]) (by simpa using h)
  rw[over,List.set_append_right _ _ (Nat.le_refl _),Nat.sub_self,List.set_cons_zero];simp only[List.append_assoc,List.cons_append,List.nil_append,List.length_append,List.length_cons,List.length_nil,Nat.zero_add]at ih;rw[ih];simp
def zuu:List (List AV):=zaq (List.replicate 16 0)
theorem z1e:[[AV.int .i64 0],[AV.int .i64 0],[AV.int .i64 0],[AV.int .i64 0],[AV.int .i64 0],[AV.int .i64 0],[AV.int .i64 0],[AV.int .i64 0],[AV.int .i64 0],[AV.int .i64 0],[AV.int .i64 0],[AV.int .i64 0],[AV.int .i64 0],[AV.int .i64 0],[AV.int .i64 0],[AV.int .i64 0]]=zuu:=rfl
def zgk(m:List Int):List Int:=m++List.replicate (16 - m.length) 0
theorem zny(m:List Int)(h:m.length<=16):(zgk m).length=16:=by simp[zgk];omega
theorem over16(m:List Int)(hm:m.length<=16):over zuu 0 (List.take 16 (zaq m))=zaq (zgk m):=by
 have h:=zy1 (zaq m) zuu [] (by simp[zaq,zuu];exact hm)
 rw[List.take_of_length_le (by simp[zaq];exact hm)]
 simp only[List.nil_append,List.length_nil]at h;rw[h,show zuu=List.replicate 16 [AV.int .i64 0] from rfl,List.drop_replicate]
 simp[zaq,zgk,List.map_append]
theorem of_ok(m:List Int)(hm:m.length<=16)(H:List AO):F zra [.sl (zaq m)] H=some (.ret (.agg (zlj (zgk m))),H):=by
 have h1:(∀x:List AV,x∈zaq m->x.length=1)=True:=eq_true (by intro x hx;obtain⟨z,_,rfl⟩:=List.mem_map.1 hx;rfl)
 have hp:=zny m hm;have hz16:zuu.length=16:=rfl;have hi16:(zaq (zgk m)).length=16:=by rw[zpx];exact hp
 rw[z9d];simp only[↓reduceIte,go_sem,h1,z1e,over16 m hm,hp,zvt,hz16,hi16,zzc,zzf]
theorem zrk{α:Type}(z m:List α)(h:m.length=z.length):over z 0 m=m:=by
 have:=zy1 m z [] (by omega)
 simp only[List.nil_append,List.length_nil]at this;rw[this,h,List.drop_length,List.append_nil]
noncomputable def LRnd(H h:List AO)(id:Nat)(x7 x8 x9:AV)(v4:List AV):Option RH:=awL T [2,4,7,8,9] [4] zjq (zao 0 (thn (aw T (A zlc 6 .ret) (zah H [.c 16 true 4])) (zah H [.c 16 true 4]))) ⟨⟨28,[(2,.op id 0 1 0 0),(4,.lp 4 0),(7,.v x7),(8,.v x8),(9,.v x9)]⟩,[(4,v4)],h,[]⟩
theorem gRnd(H h:List AO)(id:Nat)(x7 x8 x9:AV)(v4:List AV):awL T [2,4,7,8,9] [4] zjq (zao 0 (thn (aw T (A zlc 6 .ret) (zah H [.c 16 true 4])) (zah H [.c 16 true 4]))) ⟨⟨28,[(2,.op id 0 1 0 0),(4,.lp 4 0),(7,.v x7),(8,.v x8),(9,.v x9)]⟩,[(4,v4)],h,[]⟩=LRnd H h id x7 x8 x9 v4:=rfl
theorem z8o(l:List Cl)(hl:∀c∈l,c.ok 16)(hb:l.length<=1000)(H:List AO)(v4:List AV)(h4:v4.length=16):∀(s p:List Cl),l=p++s->∀(B:Int) (m:List Int),bdM 16 B m->0<=B->B+1000*s.length<=1000000000 ->
  LRnd H (H++[.lst 0 1 (zaq m)]) H.length (.sl (Cl.css l)) (.int .i64 l.length) (.int .i64 p.length) v4=some (.ret (.agg (zlj (za1 s m))),H):=by
 intro s
 induction s with
 |nil=>
  intro p h B m hm h0 hB;rw[List.append_nil]at h;subst h;rw[LRnd,zab];have hl16:=hm.1;have ho:over v4 0 (zlj m)=zlj m:=zrk _ _ (by rw[zhw];omega)
  have hr:rd 16 true (zlj m)=some (.v (.agg (zlj m))):=zm6 (by rw[zhw];omega)
  have hfz:∀h,zui H.length (zlj m) h=(zlj m,h):=fun h=>zzf _ _ _
  simp only[↓reduceIte,go_sem,hl16,h4,zvt,za1,List.foldl_nil,ho,hr,hfz]
 |cons c s ih=>
  intro p h B m hm h0 hB;simp only[List.length_cons,Int.natCast_add,Int.natCast_one]at hB;have hc:=hl c (by rw[h];simp)
  have hga:l[p.length]?=some c:=by rw[h];simp
  have hp:p.length<l.length:=by rw[h];simp
  have hA:=yj0 c m 16 (hm.ok (by omega)) rfl hc (H++[.lst 0 1 (zaq m)]) H.length 0 (by simp)
  have hgm:=(hm.ok (by omega)).get hc.to.1 hc.to.2.1
  have hgl:=(hm.ok (by omega)).lt hc.to.1 hc.to.2.1
  have hl16:=hm.1;have ht2:c.t.v<16:=hc.to.2.1;have hset:(zaq m).set c.t.v.toNat [.int .i64 (max (gI m c.t.v) (ztr c m))]=zaq (zj8 m c):=by simp[zaq,List.map_set,zj8]
  have h1:=ih (p++[c]) (by rw[h];simp) (B+1000) (zj8 m c) (hm.step hc h0) (by omega) (by omega)
  simp only[zaf]at h1;have hround:za1 (c::s) m=za1 s (zj8 m c):=rfl;rw[LRnd,zab,hround];simp only[↓reduceIte,go_sem,hga,hp,show (p.length:Int)<(l.length:Int) by omega,hA,hc.to.1,hgm.1,hgl,hl16,ht2,zac (n:=p.length) (by omega),zqt,hset,gRnd,h1]
theorem yg3(l:List Cl)(hl:∀c∈l,c.ok 16)(hb:l.length<=1000)(m:List Int)(B:Int)(hm:bdM 16 B m)(h0:0<=B)(hB:B+1000*l.length<=1000000000)(H:List AO):F zem [.agg (zlj m),.sl (Cl.css l)] H=some (.ret (.agg (zlj (za1 l m))),H):=by
 have hl16:=hm.1;have h1:=fun v4 h4=>z8o l hl hb H v4 h4 l [] rfl B m hm h0 hB
 simp only[List.length_nil,Int.natCast_zero]at h1;rw[zqv];simp only[↓reduceIte,go_sem,hl16,zzc,gRnd];exact h1 _ rfl
theorem z7u:∀(a b:List Int),a.length=b.length->eqI (zlj a) (zlj b)=some (decide (a=b))
 |[],[],_=>rfl
 |[],_::_,h=>by simp at h
 |_::_,[],h=>by simp at h
 |x::a,y::b,h=>by
  have ih:=z7u a b (by simpa using h)
  simp only[zlj,List.map_cons]at ih ⊢;rw[eqI];by_cases e:x=y
  ·simp[e,ih]
  ·simp[e]
theorem yfr(H:List AO)(id ver:Nat)(l:List Int)(hl:l.length=16)(hH:H[id]?=some (.lst ver 1 (zaq l))):∀(s p:List Int) (n:Int),l=p++s->zcl H H (.ov id ver 1 0 16) (.int .i64 n) (.int .i64 p.length)=some (.ret (.int .i64 (zn8 s n)),H):=by
 intro s
 induction s with
 |nil=>
  intro p n h;rw[List.append_nil]at h;subst h;have htk:(List.take 16 (zaq l)).length=16:=by simp[zaq];omega
  rw[zcl,zab];simp only[↓reduceIte,go_sem,hH,hl,zn8,List.foldl_nil,htk,show ¬ (16:Int)<((16:Nat):Int) by omega]
 |cons x s ih=>
  intro p n h;have h1:=ih (p++[x]) (max n x) (by rw[h];simp)
  have hga:l[p.length]?=some x:=by rw[h];simp
  have hp:p.length<l.length:=by rw[h];simp
  have hmax:(if x > n then x else n)=max n x:=by split <;> omega
  simp only[zaf]at h1;have htk:(List.take 16 (zaq l)).length=16:=by simp[zaq];omega
  rw[zcl,zab];simp only[↓reduceIte,go_sem,hH,hl,hga,hp,show (p.length:Int)<16 by omega,show p.length<16 by omega,Nat.zero_add,hmax,htk,show (p.length:Int)<((16:Nat):Int) by omega,zac (n:=p.length) (by omega),h1]
  simp only[zn8,List.foldl_cons]
theorem MaxV_ok(H:List AO)(id ver:Nat)(x:Int)(l:List Int)(hl:(x::l).length=16)(hH:H[id]?=some (.lst ver 1 (zaq (x::l)))):F zd9 [.ov id ver 1 0 16] H=some (.ret (.int .i64 (zn8 l x)),H):=by
 have h1:=yfr H id ver (x::l) hl hH l [x] x rfl;rw[zoa];have h0:(x::l)[0]?=some x:=rfl;have htk:(List.take 16 (zaq (x::l))).length=16:=by simp[zaq]at hl ⊢;omega
 simp only[↓reduceIte,go_sem,hH,h0,hl,htk,show ¬ ((16:Nat):Int)<1 by omega]
 exact h1
theorem zud(B:Int):∀(l:List Int) (n:Int),B<zn8 l n ↔ B<n\/∃x∈l,B<x
 |[],n=>by simp[zn8]
 |y::l,n=>by
  have:=zud B l (max n y);simp only[zn8,List.foldl_cons]at this ⊢;rw[this];simp only[List.mem_cons,exists_eq_or_imp];rw[show B<max n y ↔ B<n\/B<y by omega,or_assoc]
theorem yby(m:List Int)(v:Int)(h0:0<=v)(h1:v<m.length):gI (zgk m) v=gI m v:=by
 unfold gI zgk;simp only[List.getD];rw[List.getElem?_append_left (by omega)]
theorem pad_set(m:List Int)(i:Nat)(x:Int)(h:i<m.length):(zgk m).set i x=zgk (m.set i x):=by
 unfold zgk;rw[List.set_append_left _ _ h,List.length_set]
theorem yhj(m:List Int)(c:Cl)(vars:Nat)(hc:c.ok vars)(hm:m.length=vars):ztr c (zgk m)=ztr c m:=by
 unfold ztr
 congr 2
 apply List.map_congr_left;intro a ha;have:=hc.at_ a ha;rw[yby m a.v this.1 (by omega)]
theorem yhi(m:List Int)(c:Cl)(vars:Nat)(hc:c.ok vars)(hm:m.length=vars):zj8 (zgk m) c=zgk (zj8 m c):=by
 have ht:=hc.to;unfold zj8;rw[yhj m c vars hc hm,yby m c.t.v ht.1 (by omega),pad_set m _ _ (by omega)]
theorem zrj(vars:Nat):∀(l:List Cl) (m:List Int),(∀c∈l,c.ok vars)->m.length=vars->za1 l (zgk m)=zgk (za1 l m)
 |[],m,_,_=>rfl
 |c::l,m,hl,hm=>by
  have:=zrj vars l (zj8 m c) (fun d hd=>hl d (by simp[hd])) (by rw[zq9,hm])
  have e:=yhi m c vars (hl c (by simp)) hm
  unfold za1 at this ⊢;rw[List.foldl_cons,List.foldl_cons,e,this]
theorem ybx{a b:List Int}(h:a.length=b.length):zgk a=zgk b ↔ a=b:=by
 unfold zgk;rw[h];constructor
 ·intro e;exact List.append_cancel_right e
 ·rintro rfl;rfl
theorem pad_bd{vars:Nat}{B:Int}{m:List Int}(h:bdM vars B m)(hv:vars<=16)(hB:0<=B):bdM 16 B (zgk m):=by
 refine⟨zny m (by rw[h.1];exact hv),fun x hx=>?_⟩
 unfold zgk at hx;rcases List.mem_append.1 hx with hx|hx
 ·exact h.2 x hx
 ·have:=(List.mem_replicate.1 hx).2;omega
theorem pad_max{m:List Int}{x:Int}{l:List Int}(e:zgk m=x::l)(B:Int)(hB:0<=B):B<zn8 l x ↔ ∃y∈m,B<y:=by
 rw[zud];have:(B<x\/∃y∈l,B<y) ↔ ∃y∈zgk m,B<y:=by rw[e];simp
 rw[this];unfold zgk;constructor
 ·rintro ⟨y,hy,h⟩
  rcases List.mem_append.1 hy with hy|hy
  ·exact⟨y,hy,h⟩
  ·have:=(List.mem_replicate.1 hy).2;omega
 ·rintro ⟨y,hy,h⟩
  exact⟨y,List.mem_append_left _ hy,h⟩
theorem ok16{vars:Nat}{c:Cl}(h:c.ok vars)(hv:vars<=16):c.ok 16 :=
 ⟨h.ne,h.len,fun a ha=>by have:=h.at_ a ha;omega,by have:=h.to;omega⟩
end Go.Ab
end
section
set_option linter.unusedVariables false
set_option linter.unusedSimpArgs false
set_option maxRecDepth 100000
set_option maxHeartbeats 2000000
namespace Go.Ab
open Go.RowKit Go.Proofs
def z08(l:List Cl)(fr:List Int)(most:Int)(out:List (List AV))(is:Bool)(looks:Int)(last cur:List Int):List AO :=
 [.box [.sl (Cl.css l)],.box [.sl (zaq fr)],.box [.int .i64 most],.box [.sl out],.box [.bool is],.box [.int .i64 looks],.box (zlj last),.box (zlj cur)]
abbrev encM(m:List Int):List AV:=[.agg (zlj m)]
structure RunSt where
 looks:Int
 last:List Int
 cur:List Int
structure RunEn where
 out:Option (List Int)
 looks:Int
 last:List Int
 cur:List Int
def z1t(n:Nat):List (Nat×AV):=[(3,.ptr n 0),(4,.ptr (n+1) 0),(5,.ptr (n+2) 0),(6,.ptr (n+3) 0),(7,.ptr (n+4) 0),(8,.ptr (n+5) 0),(9,.ptr (n+6) 0)]
def runJ(l:List Cl)(fr:List Int)(most:Int)(s:RunSt)(m:List Int):Option (RunSt ⊕ RunEn) :=
 if m.length=16/\s.last.length=16/\0<=s.looks/\s.looks<=1000000000000000/\l.length<=1000/\fr.length<=16 then
  if (m.any fun x=>decide (most<x))=true then some (.inr ⟨none,s.looks+l.length,s.last,s.cur⟩)
  else if m=s.last then some (.inr ⟨some (m.take fr.length),s.looks+l.length,s.last,s.cur⟩)
  else some (.inl ⟨s.looks+l.length,m,s.cur⟩)
 else none
def yf7(l:List Cl)(fr:List Int)(most:Int)(s:RunSt):List AO:=z08 l fr most [] false s.looks s.last s.cur
def z1s(l:List Cl)(fr:List Int)(most:Int)(e:RunEn):List AO:=z08 l fr most (z15 e.out) e.out.isSome e.looks e.last e.cur
theorem z4s(n:Nat)(l:List Cl)(fr:List Int)(most:Int)(out:Option (List Int))(is:Bool)(looks:Int)(last cur:List Int):∀o∈z08 l fr most (z15 out) is looks last cur,LtO n o:=by
 intro o ho;have hm:=lt_modL n out;simp[z08]at ho;rcases ho with rfl|rfl|rfl|rfl|rfl|rfl|rfl|rfl
 ·intro a ha;simp at ha;subst ha;exact .sl (z0r n l)
 ·intro a ha;simp at ha;subst ha;exact .sl (zrt n fr)
 ·intro a ha;simp at ha;subst ha;exact .int _ _
 ·intro a ha;simp at ha;subst ha;exact .sl (of_eq_true hm)
 ·intro a ha;simp at ha;subst ha;exact .bool _
 ·intro a ha;simp at ha;subst ha;exact .int _ _
 ·exact z5c n last
 ·exact z5c n cur
theorem yex(H:List AO)(id ver n:Nat)(l:List Int)(hl:l.length=16)(hn:n<=16)(hH:H[id]?=some (.lst ver 1 (zaq l))):F zau [.ov id ver 1 0 n] H=some (.ret (.sl (zaq (l.take n))),H):=by
 have he:zjs H (.ov id ver 1 0 n)=some (zaq (l.take n)):=by
  simp only[zjs,hH];rw[if_pos (by simp[zaq];omega)]
  simp[zaq,List.map_take]
 rw[zrz];unfold zwe;dsimp only;rw[he];dsimp only;rw[if_pos ⟨by omega,by omega,by rw[zpx];simp;omega,zze _,zrt _ _⟩]
theorem run_ys(H:List AO)(l:List Cl)(fr:List Int)(most:Int):Ys (.yd (H.length+8+1)) (H.length+8+2) encM (fun s=>H++(yf7 l fr most s++[.dfr,.slp .ready 38 (z1t H.length) [16] zb2 zb1])) (fun e=>H++(z1s l fr most e++[.dfr,.slp (.done .ret) 38 (z1t H.length) [16] zb2 zb1])) (runJ l fr most):=by
 refine z4g H 8 encM (yf7 l fr most) (z1s l fr most) (fun _=>.ret) (runJ l fr most) 38 (z1t H.length) [16] zb2 zb1 zvb zu9 (fun _=>rfl) ?_ ?_ ?_ ?_
 ·rintro (p|e) <;> rfl
 ·rintro s (p|e) i o ho
  ·exact .inr (z4s _ l fr most none _ _ _ _ o (List.mem_of_getElem? ho))
  ·exact .inr (z4s _ l fr most e.out _ _ _ _ o (List.mem_of_getElem? ho))
 ·intro p hp;simp[z1t]at hp;rcases hp with rfl|rfl|rfl|rfl|rfl|rfl|rfl <;> exact .ptr (by omega)
 ·rintro ⟨looks,last,cur⟩ m X r hst
  unfold runJ at hst;dsimp only at hst
  split at hst
  ·rename_i hc
   obtain⟨hm,hl,h0,h1,hll,hf⟩:=hc;obtain⟨x,q,e⟩:∃x q,m=x::q:=by
    cases m with
    |nil=>simp at hm
    |cons x q=>exact⟨x,q,rfl⟩
   have hA:(H++(z08 l fr most [] false (looks+l.length) last cur++(.dfr :: .slp .busy 38 (z1t H.length) [16] zb2 zb1::X))).length=H.length+(X.length+10):=by simp[z08]
   have hmax:=MaxV_ok (H++(z08 l fr most [] false (looks+l.length) last cur++(.dfr :: .slp .busy 38 (z1t H.length) [16] zb2 zb1::X))++[.lst 0 1 (zaq m)]) (H.length+(X.length+10)) 0 x q (by rw[<- e];exact hm) (by rw[<- hA,<- e,List.getElem?_append_right (Nat.le_refl _),Nat.sub_self];rfl)
   have hcl:=yex (H++(z08 l fr most [] false (looks+l.length) last cur++(.dfr :: .slp .busy 38 (z1t H.length) [16] zb2 zb1::X))++[.lst 0 1 (zaq m)]) (H.length+(X.length+10)) 0 fr.length m hm hf (by rw[<- hA,List.getElem?_append_right (Nat.le_refl _),Nat.sub_self];rfl)
   simp only[z08,z1t,List.append_assoc,List.cons_append,List.nil_append]at hmax hcl;have h01:¬ H.length=H.length+1:=by omega
   have h02:¬ H.length=H.length+2:=by omega
   have hwl:=zam (n:=looks+l.length) (by omega) (by omega)
   have hq:=z7u m last (by omega)
   have hov:(∃y∈m,most<y) ↔ most<zn8 q x:=by rw[zud,e];simp
   have hrl:rd 16 true (zlj last)=some (.v (.agg (zlj last))):=zm6 (by rw[zhw];omega)
   have hol:over (zlj last) 0 (zlj m)=zlj m:=zrk _ _ (by rw[zhw,zhw];omega)
   have hz16:zuu.length=16:=rfl;refine⟨[.lst 0 1 (zaq m)],?_⟩;simp only[↓reduceIte,go_sem,yf7,z08,z1t,encM,hm,zzc,z1e,hz16,hwl,hmax,hcl,zpx,zvt,hl,hq,hrl,hol,h01,h02];by_cases c1:(m.any fun x=>decide (most<x))=true
   ·have c1':most<zn8 q x:=hov.1 (by simpa using c1)
    rw[if_pos c1]at hst;cases hst;simp only[↓reduceIte,go_sem,c1',h01,h02,z49,isL,z1s,z08,z1t,z15,Option.isSome]
   ·have c1':¬ most<zn8 q x:=fun k=>c1 (by simpa using hov.2 k)
    rw[if_neg c1]at hst;by_cases c2:m=last
    ·rw[if_pos c2]at hst
     cases hst;subst c2
     simp only[↓reduceIte,go_sem,c1',h01,h02,hf,hcl,zpx,z49,isL,z1s,z08,z1t,z15,Option.isSome]
    ·rw[if_neg c2]at hst
     cases hst;simp only[↓reduceIte,go_sem,c1',c2,z49,isL,yf7,z08,z1t]
  ·cases hst
def z60(H:List AO)(l:List Cl)(fr:List Int)(most:Int)(s:RunSt):List AO:=H++(yf7 l fr most s++[.dfr,.slp .ready 38 (z1t H.length) [16] zb2 zb1])
def zyv(H:List AO)(l:List Cl)(fr:List Int)(most:Int)(e:RunEn):List AO:=H++(z1s l fr most e++[.dfr,.slp (.done .ret) 38 (z1t H.length) [16] zb2 zb1])
theorem run_fin(H:List AO)(l:List Cl)(fr:List Int)(most:Int)(s:RunSt)(e:RunEn):ze6 (z60 H l fr most s) (.ret (.tup [])) (zyv H l fr most e)=some (.ret (.tup []),zyv H l fr most e):=by
 have hlen:(z60 H l fr most s).length=H.length+10:=by simp[z60,yf7,z08]
 refine zpz (by simp[z60,zyv,yf7,z1s,z08]) (.tup (by simp)) fun id o ho=>?_
 by_cases h:id<H.length
 ·left
  unfold zyv at ho;unfold z60;rw[List.getElem?_append_left h]at ho ⊢;exact ho
 ·right
  unfold zyv at ho;rw[List.getElem?_append_right (by omega)]at ho
  rw[hlen];rcases List.mem_append.1 (List.mem_of_getElem? ho) with hm|hm
  ·exact z4s _ l fr most e.out _ _ _ _ o hm
  ·simp at hm
   rcases hm with rfl|rfl
   ·trivial
   ·intro p hp
    simp[z1t]at hp;rcases hp with rfl|rfl|rfl|rfl|rfl|rfl|rfl <;> exact .ptr (by omega)
theorem z8n(l:List Cl)(fr:List Int)(vars:Nat)(most:Int)(hl:∀c∈l,c.ok vars)(hb:l.length<=1000)(hv:vars<=16)(hv1:1<=vars)(hfr:fr.length=vars)(hm0:0<=most)(hm1:most<=1000000)(H:List AO)(s0:RunSt){m:List Int}{r:Option (List Int)}{n:Nat}(hr:RunS l most m r n):
  ∀(looks:Int),bdM vars most m->0<=looks->looks+n*l.length<=100000000000000 ->
  ∃e:RunEn,e.out=r/\e.looks=looks+n*l.length/\zb7 (z60 H l fr most s0) (z60 H l fr most ⟨looks,zgk m,zgk m⟩) (.yd (H.length+9)) (.ptr (H.length+7) 0) (.fp [.sl (Cl.css l)])=some (.ret (.tup []),zyv H l fr most e):=by
 have hy:=run_ys H l fr most;have step:∀(looks:Int) (m:List Int),bdM vars most m->0<=looks->looks<=100000000000000->∀q,runJ l fr most ⟨looks,zgk m,za1 l (zgk m)⟩ (za1 l (zgk m))=some q ->
   zb7 (z60 H l fr most s0) (z60 H l fr most ⟨looks,zgk m,zgk m⟩) (.yd (H.length+9)) (.ptr (H.length+7) 0) (.fp [.sl (Cl.css l)])=match q with
    |.inl s=>zb7 (z60 H l fr most s0) (z60 H l fr most s) (.yd (H.length+9)) (.ptr (H.length+7) 0) (.fp [.sl (Cl.css l)])
    |.inr e=>some (.ret (.tup []),zyv H l fr most e):=by
  intro looks m hbd h0 h1 q hq;have hp16:=zny m (by rw[hbd.1];exact hv)
  have hR:=fun H=>yg3 l (fun c hc=>ok16 (hl c hc) hv) hb (zgk m) most (pad_bd hbd hv hm0) hm0 (by omega) H
  have hlr:(za1 l (zgk m)).length=16:=by rw[zmt];exact hp16
  have hc:=hy.call ⟨looks,zgk m,za1 l (zgk m)⟩ (za1 l (zgk m)) [] q hq;have hrd:rd 16 true (zlj (zgk m))=some (.v (.agg (zlj (zgk m)))):=zm6 (by rw[zhw];omega)
  have hrd2:rd 16 true (zlj (za1 l (zgk m)))=some (.v (.agg (zlj (za1 l (zgk m))))):=zm6 (by rw[zhw];omega)
  have hov:over (zlj (zgk m)) 0 (zlj (za1 l (zgk m)))=zlj (za1 l (zgk m)):=zrk _ _ (by rw[zhw,zhw];omega)
  simp only[yf7,z08,encM,List.append_nil,List.append_assoc,List.cons_append,List.nil_append,Nat.add_assoc,Nat.reduceAdd]at hc;rw[zb7,zab]
  conv=>lhs;arg 4;rw[z60,yf7,z08]
  simp only[↓reduceIte,go_sem,hR,hrd,hrd2,hov,hc,hp16,hlr]
  cases q with
  |inl s=>rfl
  |inr e=>exact run_fin H l fr most s0 e
 have any_iff:∀m:List Int,m.length<=16->(((zgk m).any fun x=>decide (most<x))=true ↔ ∃x∈m,most<x):=by
  intro m hm;obtain⟨x,q,e⟩:∃x q,zgk m=x::q:=by
   cases h:zgk m with
   |nil=>have:=zny m hm;rw[h]at this;simp at this
   |cons x q=>exact⟨x,q,rfl⟩
  rw[<- pad_max e most hm0,zud,e];simp
 have jeq:∀(looks:Int) (m:List Int),bdM vars most m->0<=looks->looks<=100000000000000->∀c,runJ l fr most ⟨looks,zgk m,c⟩ (zgk (za1 l m)) =
   if (∃x∈za1 l m,most<x) then some (.inr ⟨none,looks+l.length,zgk m,c⟩)
   else if za1 l m=m then some (.inr ⟨some m,looks+l.length,zgk m,c⟩)
   else some (.inl ⟨looks+l.length,zgk (za1 l m),c⟩):=by
  intro looks m hbd h0 h1 c;have hlr:(za1 l m).length=m.length:=zmt l m;have hml:=hbd.1;unfold runJ;dsimp only;rw[if_pos ⟨zny _ (by omega),zny _ (by omega),h0,by omega,hb,by omega⟩]
  by_cases c1:∃x∈za1 l m,most<x
  ·rw[if_pos c1,if_pos ((any_iff _ (by omega)).2 c1)]
  ·rw[if_neg c1,if_neg (fun k=>c1 ((any_iff _ (by omega)).1 k))]
   by_cases c2:za1 l m=m
   ·rw[if_pos c2,if_pos ((ybx hlr).2 c2),c2]
    have:(zgk m).take fr.length=m:=by unfold zgk;rw[hfr,<- hml];simp
    rw[this]
   ·rw[if_neg c2,if_neg (fun k=>c2 ((ybx hlr).1 k))]
 induction hr with
 |over h=>
  intro looks hbd h0 h1;rename_i m;have hj:=jeq looks m hbd h0 (by omega) (za1 l (zgk m))
  rw[if_pos h]at hj;have hs:=step looks m hbd h0 (by omega) _ (by rw[zrj vars l m hl hbd.1]at hj ⊢;exact hj)
  exact⟨_,rfl,by simp,hs⟩
 |fix h hb2=>
  intro looks hbd h0 h1;rename_i m;have hj:=jeq looks m hbd h0 (by omega) (za1 l (zgk m))
  rw[if_neg (by rw[h];rintro ⟨x,hx,hlt⟩;have:=hb2 x hx;omega),if_pos h]at hj
  have hs:=step looks m hbd h0 (by omega) _ (by rw[zrj vars l m hl hbd.1]at hj ⊢;exact hj)
  exact⟨_,rfl,by simp,hs⟩
 |more h hb2 hr ih=>
  intro looks hbd h0 h1;rename_i m r n;have e:looks+l.length+n*(l.length:Int)=looks+((n+1:Nat):Int)*l.length:=by
   rw[Int.natCast_add,Int.add_mul];simp;omega
  have hn0:0<=n*(l.length:Int):=Int.mul_nonneg (by omega) (by omega)
  have hj:=jeq looks m hbd h0 (by omega) (za1 l (zgk m))
  rw[if_neg (by rintro ⟨x,hx,hlt⟩;have:=hb2 x hx;omega),if_neg h]at hj
  have hs:=step looks m hbd h0 (by omega) _ (by rw[zrj vars l m hl hbd.1]at hj ⊢;exact hj)
  have hrb:=hbd.round l hl hm0;obtain⟨en,h2,h3,h4⟩:=ih (looks+l.length) ⟨hrb.1,fun x hx=>⟨(hrb.2 x hx).1,hb2 x hx⟩⟩ (by omega) (by omega)
  refine⟨en,h2,by rw[h3,e],?_⟩
  rw[hs];exact h4
theorem z8m(m:List Int)(hm:m.length=16)(l:List Cl)(H:List AO):FK zcf [.agg (zlj m),.sl (Cl.css l)] H=some (.ret (.fn (.func zbu) [] [.ptr H.length 0,.fp [.sl (Cl.css l)]]),H++[.box (zlj m)]):=by
 rw[zo8];simp only[↓reduceIte,go_sem,hm]
theorem runP_ok(l:List Cl)(fr:List Int)(vars:Nat)(most:Int)(hl:∀c∈l,c.ok vars)(hb:l.length<=1000)(hv:vars<=16)(hv1:1<=vars)(hm0:0<=most)(hm1:most<=1000000)(H:List AO){r:Option (List Int)}{n:Nat}(hr:RunS l most fr r n)(hbd:bdM vars most fr)(hn:(n:Int)*l.length<=100000000000000):
  F zom [.sl (Cl.css l),.sl (zaq fr),.int .i64 most] H=some (.ret (.tup [.sl (z15 r),.bool r.isSome,.int .i64 (n*l.length)]),H):=by
 have hof:=fun H=>of_ok fr (by rw[hbd.1];exact hv) H
 have hp16:=zny fr (by rw[hbd.1];exact hv)
 obtain⟨e,h1,h2,h3⟩:=z8n l fr vars most hl hb hv hv1 hbd.1 hm0 hm1 H ⟨0,zgk fr,zgk fr⟩ hr 0 hbd (by omega) (by omega)
 rw[Int.zero_add]at h2;have hov:∀z,z.length=16->over z 0 (zlj (zgk fr))=zlj (zgk fr):=fun z hz=>zrk _ _ (by rw[zhw];omega)
 have hrd:rd 16 true (zlj (zgk fr))=some (.v (.agg (zlj (zgk fr)))):=zm6 (by rw[zhw];omega)
 have hK:=fun H=>z8m (zgk fr) hp16 l H
 have he:=zth (H:=H) (DR:=z1s l fr most e) (k:=8) rfl (st:=.done .ret) (nn:=38) (t:=z1t H.length) (ps:=[16]) (asg:=zb2) (body:=zb1);have h4:F zbu [.yd (H.length+9),.ptr (H.length+7) 0,.fp [.sl (Cl.css l)]] (z60 H l fr most ⟨0,zgk fr,zgk fr⟩)=some (.ret (.tup []),zyv H l fr most e):=by
  rw[zoc];simp only[↓reduceIte,go_sem];exact h3
 simp only[z60,zyv,yf7,z1s,z08,z1t,List.append_nil,List.append_assoc,List.cons_append,List.nil_append,Nat.add_assoc,Nat.reduceAdd]at h4 he;rw[z5t];simp only[↓reduceIte,go_sem,hof,hp16,hov,hrd,hK,h4,he,h1,h2,List.nodup_cons,List.nodup_nil,List.not_mem_nil,not_false_eq_true,and_self]
theorem z39(vars:Nat)(l:List Cl)(h:zhy vars l=true){r:Option (List Int)}{k:Nat}(hr:RunS l (zhc vars l) (List.replicate vars 0) r k)(H:List AO):F zk4 [.int .i64 vars,.sl (Cl.css l)] H=some (.ret (.tup [.sl (z15 r),.bool r.isSome,.int .i64 (k*l.length),.int .i64 0]),H):=by
 have hR:=zga.1 h;have hb:=zrs vars l h;obtain⟨r',k',h1,h2⟩:=run0 vars l h;obtain⟨_,e⟩:=hr.det h1;have hk:(k:Int)*l.length<=300001*60:=Int.mul_le_mul (by omega) (by omega) (by omega) (by omega)
 have hro:=fun H=>runP_ok l (List.replicate vars 0) vars (zhc vars l) hR.2.2.2 (by omega) (by omega) hR.1 hb.1 (by omega) H hr ⟨by simp,fun x hx=>by simp at hx;omega⟩ (by omega)
 have hri:=fun H=>zwm vars l (by omega) (fun c hc=>by have:=(hR.2.2.2 c hc).len;omega) H
 have hrep:List.replicate vars [AV.int .i64 0]=zaq (List.replicate vars 0):=by simp[zaq]
 rw[zzt];simp only[↓reduceIte,go_sem,hri,h,ycd vars l h,show (vars:Int)<=1073741824 by omega,hro,hrep]
end Go.Ab
end
section
set_option linter.unusedVariables false
set_option linter.unusedSimpArgs false
set_option maxRecDepth 100000
set_option maxHeartbeats 2000000
namespace Go.Ab
open Go.RowKit Go.Proofs
@[go_sem] theorem cocs_over(a b c d e f:AV)(x:Co):over [a,b,c,d,e,f] 0 x.cs=x.cs:=by rcases x with⟨⟨k,n,ks⟩,⟨k2,n2,ks2⟩⟩;rfl
theorem zr5(n:Nat)(l:List Co):∀a∈(Co.css l).flatten,Lt n a:=by
 intro a ha;obtain⟨e,he,h2⟩:=List.mem_flatten.1 ha;obtain⟨x,_,rfl⟩:=List.mem_map.1 he;rcases List.mem_append.1 h2 with h|h
 ·exact z9k n x.a a h
 ·exact z9k n x.b a h
def zp6(cons:List Co)(z:List Bool):List AV:=[.sl (Co.css cons),.sl (bls z)]
theorem zsb(cons:List Co)(z:List Bool)(l:Lv)(hl:l.ok)(H:List AO):F za9 [.agg (zp6 cons z),.agg l.cs] H=some (.ret (.sl (At.css (zap (za3 l z)))),H):=by
 have hF:=fun H=>z6l l hl z H
 have hg:=ziz l z;have loop:∀(so po:List Int) (ver:Nat),(za3 l z).o=po++so->zcz H (H++[.lst 0 2 [],.lst ver 2 (At.css (⟨0,(za3 l z).c⟩::ze7 po 1))]) (.ol (H.length+1) ver) (.sl (zaq (za3 l z).o)) (.int .i64 (za3 l z).o.length) (.int .i64 po.length)=some (.ret (.sl (At.css (zap (za3 l z)))),H):=by
  generalize za3 l z=f at hg ⊢;intro so
  induction so with
  |nil=>
   intro po ver h;rw[List.append_nil]at h;subst h;rw[zcz,zab];simp only[↓reduceIte,go_sem,Fl.cs,zap]
  |cons x so ih=>
   intro po ver h;have hga:f.o[po.length]?=some x:=by rw[h];simp
   have hp:po.length<f.o.length:=by rw[h];simp
   have hlen:=ztb po 1;rw[zcz,zab];by_cases hx:0<=x
   ·have h1:=ih (po++[x]) (ver+1) (by rw[h];simp)
    rw[zn5,if_pos hx]at h1;have hs:At.css ({ v:=0,o:=f.c } :: ze7 po 1)++[[.int .i64 ((po.length:Int)+1),.int .i64 x]]=At.css ({ v:=0,o:=f.c } :: (ze7 po 1++[⟨1+po.length,x⟩])):=by
     rw[<- List.cons_append,<- zyd,Int.add_comm];rfl
    simp only[zaf,Fl.cs]at h1;simp only[↓reduceIte,go_sem,Fl.cs,show (po.length:Int)<(f.o.length:Int) by omega,hga,hx,zac (n:=po.length) (by omega),hs,List.length_cons,show (ze7 po 1).length<=1073741822 by omega,h1]
   ·have h1:=ih (po++[x]) ver (by rw[h];simp)
    rw[zn5,if_neg hx,List.append_nil]at h1;simp only[zaf,Fl.cs]at h1;simp only[↓reduceIte,go_sem,Fl.cs,show (po.length:Int)<(f.o.length:Int) by omega,hga,hx,zac (n:=po.length) (by omega),h1]
 have h1:=loop (za3 l z).o [] 0 rfl;have e:At.css [⟨0,(za3 l z).c⟩]=[[.int .i64 0,.int .i64 (za3 l z).c]]:=rfl;simp only[List.length_nil,Int.natCast_zero,ze7,e]at h1;rw[zn2];simp only[↓reduceIte,go_sem,zp6,hF];exact h1
abbrev encC(c:Cl):List AV:=[.agg c.cs]
def clV(cons:List Co)(z:List Bool):AV:=.fn (.func zat) [] [.fp (zp6 cons z)]
theorem zwf(cons:List Co)(z:List Bool)(H:List AO):F zce [.agg (zp6 cons z)] H=some (.ret (clV cons z),H):=by
 have hcs:∀n,∀a∈(Co.css cons).flatten,Lt n a:=fun n=>zr5 n cons
 rw[zmh];simp only[↓reduceIte,go_sem,clV,zp6];exact if_pos (.fn (by simp) (by intro x hx;simp at hx;subst hx;exact .fp (by intro a ha;simp at ha;rcases ha with rfl|rfl;exact .sl (hcs _);exact .sl (ylb _ z))))
theorem yk8(cons:List Co)(hcons:∀c∈cons,c.ok)(hcl:cons.length<=60)(z:List Bool)(hz:z.length<=5):yfz (clV cons z) encC (zca cons z):=by
 intro S E y m W WE stp hy s X r hr;have hone:=hy.one;have hcell:y.cells=[y]:=by cases y <;> first|rfl|(simp[AV.one]at hone)
 unfold AV.cells at hcell;unfold AV.one at hone;have fin:=fun r=>zys hy s r X []
 simp only[List.append_nil]at fin;have loop1:∀(i:Nat) (fb:Fl) (L:List At) (rest:List Cl),i<1000->L.length<=1000 ->
   (∀a:S,zlx stp rest a=some r->zbc (W s++X) (W a++X) y (.fp (zp6 cons z)) (.sl (Co.css cons)) (.int .i64 cons.length) (.int .i64 (i+1))=some (.ret (.tup []),hp W WE r++X)) ->
   ∀(t p:List At),L=p++t->∀(a:S),zlx stp (t.map (fun a=>(⟨zap fb,a⟩:Cl))++rest) a=some r->zb3 (W s++X) (W a++X) y (.fp (zp6 cons z)) (.sl (At.css (zap fb))) (.sl (Co.css cons)) (.int .i64 cons.length) (.int .i64 i) (.sl (At.css L)) (.int .i64 L.length) (.int .i64 p.length)=some (.ret (.tup []),hp W WE r++X):=by
  intro i fb L rest hi hL hrest t
  induction t with
  |nil=>
   intro p h a hq;rw[List.append_nil]at h;subst h;have h1:=hrest a (by simpa using hq)
   rw[zb3,zab];simp only[↓reduceIte,go_sem,zac (n:=i) (by omega),h1]
  |cons x t ih=>
   intro p h a hq;have hga:L[p.length]?=some x:=by rw[h];simp
   have hpl:p.length<L.length:=by rw[h];simp
   rw[List.map_cons,List.cons_append,zlx]at hq
   cases hst:stp a ⟨zap fb,x⟩ with
   |none=>rw[hst]at hq;cases hq
   |some q=>
   rw[hst]at hq;have hc:=hy.call a ⟨zap fb,x⟩ X q hst;simp only[encC,Cl.cs]at hc;rw[zb3,zab]
   cases q with
   |inl b=>
    have ih:=ih (p++[x]) (by rw[h];simp) b hq
    simp only[ze5,zaf]at hc ih;simp only[↓reduceIte,go_sem,At.cs,show (p.length:Int)<(L.length:Int) by omega,hga,hc,isL,zac (n:=p.length) (by omega),ih]
   |inr e=>
    cases hq;simp only[zqi]at hc
    simp only[↓reduceIte,go_sem,At.cs,show (p.length:Int)<(L.length:Int) by omega,hga,hc,isL]
    exact fin (.inr e)
 have loop2:∀(t p:List Co),cons=p++t->∀(a:S),zlx stp (t.flatMap (yao z)) a=some r->zbc (W s++X) (W a++X) y (.fp (zp6 cons z)) (.sl (Co.css cons)) (.int .i64 cons.length) (.int .i64 p.length)=some (.ret (.tup []),hp W WE r++X):=by
  intro t
  induction t with
  |nil=>
   intro p h a hq;rw[List.append_nil]at h;subst h;rw[List.flatMap_nil,zlx]at hq;cases hq;rw[zbc,zab];simp only[↓reduceIte,go_sem];exact fin (.inl a)
  |cons c t ih=>
   intro p h a hq;have hga:cons[p.length]?=some c:=by rw[h];simp
   have hpl:p.length<cons.length:=by rw[h];simp
   have hx:=hcons c (by rw[h];simp)
   have hA:=fun H=>zsb cons z c.a hx.1 H
   have hB:=fun H=>zsb cons z c.b hx.2 H
   have h0:=loop1 p.length (za3 c.b z) (zap (za3 c.a z)) (t.flatMap (yao z)) (by omega) (by have:=zf9 c.a z;omega) (fun b hb=>by
    have:=ih (p++[c]) (by rw[h];simp) b hb
    simpa only[zaf] using this) (zap (za3 c.a z)) [] rfl a (by rw[List.flatMap_cons,yao]at hq;exact hq)
   simp only[List.length_nil,Int.natCast_zero]at h0;unfold zp6 at hA hB h0 ⊢;rw[zbc,zab];simp only[↓reduceIte,go_sem,show (p.length:Int)<(cons.length:Int) by omega,hga,hA,hB,h0]
 have loop0:∀(t p:List Bool),z=p++t->∀(a:S),zlx stp (ztj t ((p.length:Int)+1)++cons.flatMap (yao z)) a=some r->zbd (W s++X) (W a++X) y (.fp (zp6 cons z)) (.sl (bls z)) (.int .i64 z.length) (.int .i64 p.length)=some (.ret (.tup []),hp W WE r++X):=by
  intro t
  induction t with
  |nil=>
   intro p h a hq;rw[List.append_nil]at h;have h2:=loop2 cons [] rfl a (by simpa [ztj] using hq)
   simp only[List.length_nil,Int.natCast_zero]at h2;unfold zp6 at h2 ⊢;rw[zbd,zab,h];rw[h]at h2;simp only[↓reduceIte,go_sem,h2]
  |cons b t ih=>
   intro p h a hq;have hga:z[p.length]?=some b:=by rw[h];simp
   have hpl:p.length<z.length:=by rw[h];simp
   have e1:(((p++[b]).length:Int)+1)=(p.length:Int)+1+1:=by simp
   rw[ztj]at hq;cases b
   ·rw[if_neg (by simp),List.cons_append,zlx]at hq
    cases hst:stp a ⟨[⟨(p.length:Int)+1,0⟩],⟨0,1⟩⟩ with
    |none=>rw[hst]at hq;cases hq
    |some q=>
    rw[hst]at hq;have hc:=hy.call a ⟨[⟨(p.length:Int)+1,0⟩],⟨0,1⟩⟩ X q hst;simp only[encC,Cl.cs,At.css,List.map_cons,List.map_nil,At.cs]at hc;unfold zp6 at ih ⊢;rw[zbd,zab]
    cases q with
    |inl c=>
     have ih:=ih (p++[false]) (by rw[h];simp) c (by rw[e1];exact hq)
     simp only[ze5,zaf]at hc ih;simp only[↓reduceIte,go_sem,show (p.length:Int)<(z.length:Int) by omega,hga,hc,isL,zac (n:=p.length) (by omega),ih]
    |inr e=>
     cases hq;simp only[zqi]at hc
     simp only[↓reduceIte,go_sem,show (p.length:Int)<(z.length:Int) by omega,hga,hc,isL,zac (n:=p.length) (by omega)]
     exact fin (.inr e)
   ·rw[if_pos rfl]at hq
    have ih:=ih (p++[true]) (by rw[h];simp) a (by rw[e1];exact hq)
    unfold zp6 at ih ⊢;simp only[zaf]at ih;rw[zbd,zab];simp only[↓reduceIte,go_sem,show (p.length:Int)<(z.length:Int) by omega,hga,zac (n:=p.length) (by omega),ih]
 simp only[clV,zgo,List.cons_append,List.nil_append];show F zat _ _=_;rw[zlm];have:=loop0 z [] rfl s hr;unfold zp6 at this ⊢;simp only[↓reduceIte,go_sem];exact this
end Go.Ab
end
section
set_option linter.unusedVariables false
set_option linter.unusedSimpArgs false
set_option maxRecDepth 100000
set_option maxHeartbeats 2000000
namespace Go.Ab
open Go.RowKit Go.Proofs
def ylg(n:Nat)(p:Nat×List Cl):List AO:=[.lst p.1 3 (Cl.css p.2),.box [.ol n p.1]]
def appJ(p:Nat×List Cl)(x:Cl):Option ((Nat×List Cl) ⊕ Empty):=if p.2.length<1073741823 then some (.inl (p.1+1,p.2++[x])) else none
theorem app_ys(H:List AO):Ys (.yd (H.length+2+1)) (H.length+2+2) encC (fun p=>H++(ylg H.length p++[.dfr,.slp .ready 13 [(2,.ptr (H.length+1) 0)] [7] zas zar])) (fun e:Empty=>H++(noE e++[.dfr,.slp (.done (noE e)) 13 [(2,.ptr (H.length+1) 0)] [7] zas zar])) appJ:=by
 refine z4g H 2 encC (ylg H.length) noE noE appJ 13 [(2,.ptr (H.length+1) 0)] [7] zas zar zjo zjn (fun _=>rfl) ?_ ?_ ?_ ?_
 ·rintro (p|e)
  ·rfl
  ·exact e.elim
 ·rintro s (p|e) i o ho
  ·match i,ho with
   |0,ho=>simp[ze5,ylg]at ho;subst ho;exact .inr fun a ha=>z0r _ _ a ha
   |1,ho=>simp[ze5,ylg]at ho;subst ho;exact .inr fun a ha=>by simp at ha;subst ha;exact .ol (by omega)
   |j+2,ho=>simp[ze5,ylg]at ho
  ·exact e.elim
 ·intro p hp;simp at hp;subst hp;exact .ptr (by omega)
 ·rintro ⟨ver,es⟩ x X r hst
  refine⟨[],?_⟩;unfold appJ at hst;dsimp only at hst
  split at hst
  ·rename_i h2
   cases hst;simp only[↓reduceIte,go_sem,ylg,encC,z49,isL,show es.length<=1073741823 by omega,znm]
  ·cases hst
theorem z78:∀(xs:List Cl) (ver:Nat) (es:List Cl),es.length+xs.length<=1073741823->∃v,zlx appJ xs (ver,es)=some (.inl (v,es++xs))
 |[],ver,es,_=>⟨ver,by simp[zlx]⟩
 |x::r,ver,es,h=>by
  simp at h;obtain⟨v,hv⟩:=z78 r (ver+1) (es++[x]) (by simp;omega)
  refine⟨v,?_⟩;rw[zlx];unfold appJ;dsimp only;rw[if_pos (by omega)]
  rw[List.append_assoc]at hv;exact hv
theorem zwd(k:FuncId)(c:AV)(cap:List AV)(xs:List Cl)(hs:yfz (.fn (.func k) [] (c::cap)) encC xs)(hx:xs.length<=1073741823)(H:List AO):
  ∃v J,FK zbi [.fn (.func k) [] (c::cap)] H=some (.ret (.ol H.length v),H++(.lst v 3 (Cl.css xs)::J)):=by
 obtain⟨v,hv⟩:=z78 xs 0 [] (by simpa using hx)
 have hr:=hs _ _ _ _ _ _ _ (app_ys H) (0,[]) [] _ hv;have he:=zth (H:=H) (DR:=ylg H.length (v,xs)) (k:=2) rfl (st:=.ready) (nn:=13) (t:=[(2,.ptr (H.length+1) 0)]) (ps:=[7]) (asg:=zas) (body:=zar);have e0:Cl.css []=[]:=rfl;simp only[ze5,ylg,zgo,List.cons_append,List.nil_append,List.append_nil,Nat.add_assoc,Nat.reduceAdd,e0]at hr he;have hA:∃J,FK zaz [.nils 3,.fn (.func k) [] (c::cap)] H=some (.ret (.ol H.length v),H++(.lst v 3 (Cl.css xs)::J)):=by
  rw[zly];simp only[↓reduceIte,go_sem,hr,he,List.mem_cons,List.not_mem_nil,or_false,forall_eq,List.nodup_cons,List.nodup_nil,not_false_eq_true,and_self];exact⟨_,rfl⟩
 obtain⟨J,hA⟩:=hA;refine⟨v,J,?_⟩;rw[znf];simp only[↓reduceIte,go_sem,hA]
theorem z1j(z:List Bool)(hz:z.length<=5)(m:List Int)(hm:m.length=z.length+1)(hb:okM (z.length+1) m):∀(s p:List Bool),z=p++s->∀(o:List Int),o.length=z.length->∃vs,∀(H K:List AO),
  zbs H (H++(K++[.lst 0 1 (zaq o)])) (.sl (zaq m)) (.ol (H.length+K.length) 0) (.sl (bls z)) (.int .i64 z.length) (.int .i64 p.length)=some (.ret (.tup [.sl (zaq vs),.bool true]),H):=by
 have g0:=hb.get (v:=0) (by omega) (by omega)
 have e0:m[0]?=some (gI m 0):=g0.1;have lX:∀(H K:List AO) o,(H++(K++[o]))[H.length+K.length]?=some o:=fun H K o=>by
  rw[List.getElem?_append_right (by omega),List.getElem?_append_right (by omega)];simp
 have lS:∀(H K:List AO) o o',(H++(K++[o])).set (H.length+K.length) o' = H++(K++[o']):=fun H K o o'=>by
  rw[List.set_append_right _ _ (by omega),List.set_append_right _ _ (by omega)];simp
 intro s
 induction s with
 |nil=>
  intro p h o ho;rw[List.append_nil]at h;subst h;refine⟨o,fun H K=>?_⟩
  rw[zbs,zab];simp only[↓reduceIte,go_sem,lX,lS]
 |cons x s ih=>
  intro p h o ho;have hga:z[p.length]?=some x:=by rw[h];simp
  have hp:p.length<z.length:=by rw[h];simp
  have g1:=hb.get (v:=(p.length:Int)+1) (by omega) (by omega)
  have hnn:(0:Int)<=(p.length:Int)+1:=by omega
  have hpo:p.length<o.length:=by omega
  cases x
  ·obtain⟨vs,h1⟩:=ih (p++[false]) (by rw[h];simp) (o.set p.length (gI m 0 - gI m ((p.length:Int)+1))) (by simpa using ho)
   refine⟨vs,fun H K=>?_⟩
   have h1:=h1 H K;have hset:(zaq o).set p.length [.int .i64 (gI m 0 - gI m ((p.length:Int)+1))]=zaq (o.set p.length (gI m 0 - gI m ((p.length:Int)+1))):=by simp[zaq,List.map_set]
   obtain⟨w,hw⟩:∃w,o[p.length]?=some w:=⟨o[p.length],by simp[hpo]⟩
   simp only[zaf]at h1;rw[zbs,zab];simp only[↓reduceIte,go_sem,lX,lS,show (p.length:Int)<(z.length:Int) by omega,hga,e0,hnn,g1.1,hpo,hw,zac (n:=p.length) (by omega),zam (n:=gI m 0 - gI m ((p.length:Int)+1)) (by omega) (by omega),hset,h1]
  ·obtain⟨vs,h1⟩:=ih (p++[true]) (by rw[h];simp) o ho
   refine⟨vs,fun H K=>?_⟩
   have h1:=h1 H K;simp only[zaf]at h1;rw[zbs,zab];simp only[↓reduceIte,go_sem,show (p.length:Int)<(z.length:Int) by omega,hga,zac (n:=p.length) (by omega),h1]
theorem z8f(cons:List Co)(hcons:∀c∈cons,c.ok)(hcl:cons.length<=8)(z:List Bool)(hz:z.length<=5)(more:List Cl)(hm:more.length<=1000)(hR:zhy ((z.length+1:Nat):Int) (zca cons z++more)=true){r:Option (List Int)}{k:Nat}(hr:RunS (zca cons z++more) (zhc ((z.length+1:Nat):Int) (zca cons z++more)) (List.replicate (z.length+1) 0) r k):
  ∃vs,∀(H:List AO),F zcq [.agg (zp6 cons z),.sl (Cl.css more)] H=some (.ret (.tup [.sl (zaq vs),.bool r.isSome]),H):=by
 have hlen:=zpi cons z
 cases r with
 |none=>
  refine⟨[],fun H=>?_⟩
  obtain⟨v,J,hC⟩:=zwd zat (.fp (zp6 cons z)) [] (zca cons z) (yk8 cons hcons (by omega) z hz) (by omega) (H++[.lst 0 1 []])
  simp only[List.append_assoc,List.cons_append,List.nil_append,List.length_append,List.length_cons,List.length_nil,Nat.zero_add]at hC;have hcl:=fun H=>zwf cons z H
  have hS:=fun H=>z39 (z.length+1) (zca cons z++more) hR hr H
  simp only[Int.natCast_add,Int.natCast_one]at hS;rw[zhi];unfold clV at hcl;unfold zp6 at hC hcl ⊢;have hap:Cl.css (zca cons z)++Cl.css more=Cl.css (zca cons z++more):=by simp[Cl.css]
  have h3:(∀x:List AV,x∈Cl.css more->x.length=3)=True:=eq_true (by intro x hx;obtain⟨z,_,rfl⟩:=List.mem_map.1 hx;rfl)
  simp only[↓reduceIte,go_sem,hcl,hC,hap,h3,show (zca cons z).length+more.length<=1073741824 by omega,zac (n:=z.length) (by omega),hS,Option.isSome,z15,zfj]
 |some m=>
  have hmo:=ybk hR hr;obtain⟨vs,hL⟩:=z1j z hz m hmo.1 hmo z [] rfl (List.replicate z.length 0) (by simp)
  have hrep:List.replicate z.length [AV.int .i64 0]=zaq (List.replicate z.length 0):=by simp[zaq]
  refine⟨vs,fun H=>?_⟩
  obtain⟨v,J,hC⟩:=zwd zat (.fp (zp6 cons z)) [] (zca cons z) (yk8 cons hcons (by omega) z hz) (by omega) (H++[.lst 0 1 []])
  simp only[List.append_assoc,List.cons_append,List.nil_append,List.length_append,List.length_cons,List.length_nil,Nat.zero_add]at hC;have hcl:=fun H=>zwf cons z H
  have hS:=fun H=>z39 (z.length+1) (zca cons z++more) hR hr H
  simp only[Int.natCast_add,Int.natCast_one]at hS;rw[zhi];unfold clV at hcl;unfold zp6 at hC hcl ⊢;have hap:Cl.css (zca cons z)++Cl.css more=Cl.css (zca cons z++more):=by simp[Cl.css]
  have h3:(∀x:List AV,x∈Cl.css more->x.length=3)=True:=eq_true (by intro x hx;obtain⟨z,_,rfl⟩:=List.mem_map.1 hx;rfl)
  have hL:=hL H (AO.lst 0 1 [] :: .dead::J);simp only[List.append_assoc,List.cons_append,List.nil_append,List.length_append,List.length_cons,List.length_nil,Nat.zero_add,Nat.add_assoc,Nat.reduceAdd,Int.natCast_zero]at hL;simp only[↓reduceIte,go_sem,hcl,hC,hap,h3,show (zca cons z).length+more.length<=1073741824 by omega,zac (n:=z.length) (by omega),hS,Option.isSome,z15,show (z.length:Int)<=1073741824 by omega,hrep]
  exact hL
theorem leq1_in(cons:List Co)(hcons:∀c∈cons,c.ok)(hcl:cons.length<=8)(z:List Bool)(hz:z.length<=5)(a b:Lv)(x:At)(hx:x∈zap (za3 a z)):
  ∃vs is,(is=true ↔ zj9 (z.length+1) (zsu cons z b x))/\∀(G:List AO) (B:AV) (q:Nat) (hq:q<1000) (J:List AO) (t p:List At),zap (za3 b z)=p++t->∀ver,
   zh0 G (G++(J++[.lst ver 3 (Cl.css (zkb x p))])) B (.ol (G.length+J.length) ver) (.sl (At.css (zap (za3 a z)))) (.int .i64 (zap (za3 a z)).length) (.int .i64 q) (.sl (At.css (zap (za3 b z)))) (.int .i64 (zap (za3 b z)).length) (.int .i64 p.length) (zp6 cons z) x.cs =
   if is=true then some (.ret (.tup [.sl (zaq vs),.bool true]),G) else zdu G (G++(J++[.dead])) B (.sl (At.css (zap (za3 a z)))) (.int .i64 (zap (za3 a z)).length) (.int .i64 (q+1)) (zp6 cons z):=by
 have hright:=zvf cons hcl z hz a b x hx;obtain⟨r,k,hr,_⟩:=run0 (z.length+1) _ hright;have hbl:=zf9 b z;obtain⟨vs,hV⟩:=z8f cons hcons hcl z hz (zkb x (zap (za3 b z))) (by simp only[zkb,List.length_map];omega) hright hr
 refine⟨vs,r.isSome,?_,?_⟩
 ·constructor
  ·intro h
   cases r with
   |none=>cases h
   |some m=>exact⟨m,k,hr⟩
  ·rintro ⟨m,k',h2⟩
   rw[(hr.det h2).1];rfl
 intro G B q hq J t;have hV:=hV (G++(J++[.dead]))
 induction t with
 |nil=>
  intro p h ver;rw[List.append_nil]at h;rw[h]at hV ⊢;have lX:∀o,(G++(J++[o]))[G.length+J.length]?=some o:=fun o=>by
   rw[List.getElem?_append_right (by omega),List.getElem?_append_right (by omega)];simp
  have lS:∀o o',(G++(J++[o])).set (G.length+J.length) o' = G++(J++[o']):=fun o o'=>by
   rw[List.set_append_right _ _ (by omega),List.set_append_right _ _ (by omega)];simp
  unfold zp6 at hV ⊢;rw[zh0,zab];simp only[↓reduceIte,go_sem,lX,lS,hV,zac (n:=q) (by omega)]
 |cons y t ih=>
  intro p h ver;have hga:(zap (za3 b z))[p.length]?=some y:=by rw[h];simp
  have hpl:p.length<(zap (za3 b z)).length:=by rw[h];simp
  have hy:=znp b z y (by rw[h];simp)
  have ih:=ih (p++[y]) (by rw[h];simp) (ver+1)
  have lX:∀o,(G++(J++[o]))[G.length+J.length]?=some o:=fun o=>by
   rw[List.getElem?_append_right (by omega),List.getElem?_append_right (by omega)];simp
  have lS:∀o o',(G++(J++[o])).set (G.length+J.length) o' = G++(J++[o']):=fun o o'=>by
   rw[List.set_append_right _ _ (by omega),List.set_append_right _ _ (by omega)];simp
  have hml:(zkb x p).length<=1073741823:=by simp only[zkb,List.length_map];omega
  rw[zxr,<- znm]at ih;simp only[zaf]at ih;rw[zh0,zab];simp only[↓reduceIte,go_sem,At.cs,lX,lS,show (p.length:Int)<((zap (za3 b z)).length:Int) by omega,hga,zac (n:=p.length) (by omega),hml,zam (n:=y.o+1) (by omega) (by omega)]
  exact ih
theorem leq1_ok(cons:List Co)(hcons:∀c∈cons,c.ok)(hcl:cons.length<=8)(z:List Bool)(hz:z.length<=5)(a b:Lv)(ha:a.ok)(hb:b.ok):
  ∃vs is,(is=true ↔ zl8 cons a b z)/\∀(G:List AO) (A B:Nat) (hA:G[A]?=some (.box a.cs)) (hB:G[B]?=some (.box b.cs)),F zg1 [.agg (zp6 cons z),.ptr A 0,.ptr B 0] G=some (.ret (.tup [.sl (zaq vs),.bool is]),G):=by
 have hat:=fun H=>zsb cons z a ha H
 have hbt:=fun H=>zsb cons z b hb H
 have hla:=zf9 a z;have loop:∀(s q:List At),zap (za3 a z)=q++s->∃vs is,(is=true ↔ ∃x∈s,zj9 (z.length+1) (zsu cons z b x))/\∀(G:List AO) (B:Nat) (hB:G[B]?=some (.box b.cs)) (J:List AO),
   zdu G (G++J) (.ptr B 0) (.sl (At.css (zap (za3 a z)))) (.int .i64 (zap (za3 a z)).length) (.int .i64 q.length) (zp6 cons z)=some (.ret (.tup [.sl (zaq vs),.bool is]),G):=by
  intro s
  induction s with
  |nil=>
   intro q h;rw[List.append_nil]at h;refine⟨[],false,by simp,fun G B hB J=>?_⟩
   unfold zp6;rw[zdu,zab,h];simp only[↓reduceIte,go_sem,zfj]
  |cons x s ih=>
   intro q h;have hga:(zap (za3 a z))[q.length]?=some x:=by rw[h];simp
   have hql:q.length<(zap (za3 a z)).length:=by rw[h];simp
   obtain⟨vs,is,h1,h2⟩:=leq1_in cons hcons hcl z hz a b x (by rw[h];simp)
   obtain⟨vs',is',h4,h5⟩:=ih (q++[x]) (by rw[h];simp)
   simp only[zaf]at h5;have key:∀(G:List AO) (B:Nat) (hB:G[B]?=some (.box b.cs)) (J:List AO),zdu G (G++J) (.ptr B 0) (.sl (At.css (zap (za3 a z)))) (.int .i64 (zap (za3 a z)).length) (.int .i64 q.length) (zp6 cons z)=if is=true then some (.ret (.tup [.sl (zaq vs),.bool true]),G) else zdu G (G++(J++[.dead])) (.ptr B 0) (.sl (At.css (zap (za3 a z)))) (.int .i64 (zap (za3 a z)).length) (.int .i64 (q.length+1)) (zp6 cons z):=by
    intro G B hB J;have hBl:=(List.getElem?_eq_some_iff.1 hB).1;have h3:=h2 G (.ptr B 0) q.length (by omega) J (zap (za3 b z)) [] rfl 0
    have em:Cl.css (zkb x [])=[]:=rfl;simp only[em,List.length_nil,Int.natCast_zero]at h3;have hBJ:(G++J)[B]?=some (.box b.cs):=by rw[List.getElem?_append_left hBl];exact hB
    have hBK:∀o,(G++(J++[o]))[B]?=some (.box b.cs):=fun o=>by rw[List.getElem?_append_left hBl];exact hB
    rw[<- h3];unfold zp6 at hbt ⊢;rw[zdu,zab];simp only[↓reduceIte,go_sem,show (q.length:Int)<((zap (za3 a z)).length:Int) by omega,hga,hbt,hBJ,hBK]
   cases is with
   |true=>exact⟨vs,true,by simp[h1.1 rfl],fun G B hB J=>by rw[key G B hB J];simp⟩
   |false=>
    refine⟨vs',is',?_,fun G B hB J=>by rw[key G B hB J];simpa using h5 G B hB (J++[.dead])⟩
    rw[h4];have hn:¬ zj9 (z.length+1) (zsu cons z b x):=fun k=>by have:=h1.2 k;cases this
    simp[hn]
 obtain⟨vs,is,h1,h2⟩:=loop (zap (za3 a z)) [] rfl;refine⟨vs,is,h1,fun G A B hA hB=>?_⟩
 have h2:=h2 G B hB [];simp only[List.append_nil,List.length_nil,Int.natCast_zero]at h2;unfold zp6 at hat h2 ⊢;rw[zzn];simp only[↓reduceIte,go_sem,hA,hat];exact h2
end Go.Ab
end
section
set_option linter.unusedVariables false
set_option linter.unusedSimpArgs false
set_option maxRecDepth 100000
set_option maxHeartbeats 2000000
namespace Go.Ab
open Go.RowKit Go.Proofs
def zl5(cons:List Co)(out:List Int)(is:Bool):List AO:=[.box [.sl (Co.css cons)],.box [.sl (zaq out)],.box [.bool is]]
def zn9(tf:AV)(n:Nat):List (Nat×AV):=[(3,.ptr n 0),(5,.fp [tf]),(6,.ptr (n+1) 0),(7,.ptr (n+2) 0)]
def zx0(p:Nat)(bf:List Bool->Bool)(_:Unit)(z:List Bool):Option (Unit ⊕ List Bool):=if z.length=p then (if bf z=true then some (.inr z) else some (.inl ())) else none
theorem yd8(n:Nat)(cons:List Co)(out:List Int)(is:Bool):∀o∈zl5 cons out is,LtO n o:=by
 intro o ho;simp[zl5]at ho;rcases ho with rfl|rfl|rfl
 ·intro a ha;simp at ha;subst ha;exact .sl (zr5 n cons)
 ·intro a ha;simp at ha;subst ha;exact .sl (zrt n out)
 ·intro a ha;simp at ha;subst ha;exact .bool _
theorem yic(cons:List Co)(k:FuncId)(c:AV)(cap:List AV)(p:Nat)(vf:List Bool->List Int)(bf:List Bool->Bool)(H:List AO)(hlt:Lt H.length (.fn (.func k) [] (c::cap)))
  (ht:∀z:List Bool,z.length=p->∀X,cfl T (.fn (.func k) [] (c::cap)) [.agg (zp6 cons z)] (H++X)=some (.ret (.tup [.sl (zaq (vf z)),.bool (bf z)]),H++X)) :
  Ys (.yd (H.length+3+1)) (H.length+3+2) encZ (fun _=>H++(zl5 cons [] false++[.dfr,.slp .ready 24 (zn9 (.fn (.func k) [] (c::cap)) H.length) [13] zci zcd])) (fun z=>H++(zl5 cons (vf z) true++[.dfr,.slp (.done .ret) 24 (zn9 (.fn (.func k) [] (c::cap)) H.length) [13] zci zcd])) (zx0 p bf):=by
 refine z4g H 3 encZ (fun _=>zl5 cons [] false) (fun z=>zl5 cons (vf z) true) (fun _=>.ret) (zx0 p bf) 24 (zn9 (.fn (.func k) [] (c::cap)) H.length) [13] zci zcd zsr zsp (fun _=>rfl) ?_ ?_ ?_ ?_
 ·rintro (q|e) <;> rfl
 ·rintro s (q|e) i o ho
  ·exact .inl ho
  ·exact .inr (yd8 _ cons (vf e) true o (List.mem_of_getElem? ho))
 ·intro q hq
  simp[zn9]at hq;rcases hq with rfl|rfl|rfl|rfl
  ·exact .ptr (by omega)
  ·exact .fp (by intro a ha;simp at ha;subst ha;exact hlt.mono (by omega))
  ·exact .ptr (by omega)
  ·exact .ptr (by omega)
 ·rintro ⟨⟩ z X r hst
  refine⟨[],?_⟩;unfold zx0 at hst
  split at hst
  ·rename_i hz
   have h2:=ht z hz (zl5 cons [] false++(.dfr :: .slp .busy 24 (zn9 (.fn (.func k) [] (c::cap)) H.length) [13] zci zcd::X));unfold zp6 at h2;simp only[zl5,zn9,zfj,List.cons_append,List.nil_append,zgo]at h2
   cases hb:bf z
   ·rw[hb]at hst h2
    cases hst;simp only[↓reduceIte,go_sem,zl5,zn9,h2,zfj,encZ,z49,isL]
   ·rw[hb]at hst h2
    cases hst;simp only[↓reduceIte,go_sem,zl5,zn9,h2,zfj,encZ,z49,isL]
  ·cases hst
theorem z88(p:Nat)(bf:List Bool->Bool):∀(j n:Nat),∃r,zlx (zx0 p bf) (zno p n j) ()=some r/\((∃z,r = .inr z/\z∈zno p n j/\bf z=true)\/(r = .inl ()/\∀z∈zno p n j,bf z=false)):=by
 intro j
 induction j with
 |zero=>intro n;exact⟨_,rfl,.inr ⟨rfl,by simp[zno]⟩⟩
 |succ j ih=>
  intro n;obtain⟨r,h1,h2⟩:=ih (n+1);rw[zno,zlx];have e:zx0 p bf () (zcx n p)=if bf (zcx n p)=true then some (.inr (zcx n p)) else some (.inl ()):=by
   unfold zx0;rw[if_pos (zgp n p)]
  rw[e]
  cases hb:bf (zcx n p)
  ·refine⟨r,by simpa using h1,?_⟩
   rcases h2 with⟨z,rfl,h3,h4⟩|⟨rfl,h3⟩
   ·exact .inl ⟨z,rfl,by simp[h3],h4⟩
   ·exact .inr ⟨rfl,by intro z hz;rcases List.mem_cons.1 hz with rfl|hz;exact hb;exact h3 z hz⟩
  ·exact⟨.inr (zcx n p),by simp,.inl ⟨_,rfl,by simp,hb⟩⟩
theorem zx9(p:Nat)(z:List Bool):∀(j n:Nat),z∈zno p n j ↔ ∃k,n<=k/\k<n+j/\z=zcx k p:=by
 intro j
 induction j with
 |zero=>intro n;simp only[zno,List.not_mem_nil,false_iff];rintro ⟨k,h1,h2,_⟩;omega
 |succ j ih=>
  intro n;rw[zno,List.mem_cons,ih];constructor
  ·rintro (rfl|⟨k,h1,h2,h3⟩)
   ·exact⟨n,by omega,by omega,rfl⟩
   ·exact⟨k,by omega,by omega,h3⟩
  ·rintro ⟨k,h1,h2,h3⟩
   by_cases h:k=n
   ·subst h;exact .inl h3
   ·exact .inr ⟨k,by omega,by omega,h3⟩
theorem yd7(cons:List Co)(k:FuncId)(c:AV)(cap:List AV)(p:Nat)(h5:p<=5)(vf:List Bool->List Int)(bf:List Bool->Bool)(H:List AO)(hlt:Lt H.length (.fn (.func k) [] (c::cap)))
  (ht:∀z:List Bool,z.length=p->∀X,cfl T (.fn (.func k) [] (c::cap)) [.agg (zp6 cons z)] (H++X)=some (.ret (.tup [.sl (zaq (vf z)),.bool (bf z)]),H++X)) :
  ∃vs is,(is=true ↔ ∃n<2 ^ p,bf (zcx n p)=true)/\F zky [.sl (Co.css cons),.int .i64 p,.fn (.func k) [] (c::cap)] H=some (.ret (.tup [.sl (zaq vs),.bool is]),H):=by
 obtain⟨r,h1,h2⟩:=z88 p bf (2 ^ p) 0;have hr:=yje p h5 _ _ _ _ _ _ _ (yic cons k c cap p vf bf H hlt ht) () [] r h1;have hAl:=fun H=>AllP_ok p H
 rcases h2 with⟨z,rfl,h3,h4⟩|⟨rfl,h3⟩
 ·refine⟨vf z,true,?_,?_⟩
  ·obtain⟨n,_,h6,h7⟩:=(zx9 p z _ _).1 h3
   simp only[true_iff];exact⟨n,by omega,by rw[<- h7];exact h4⟩
  have he:=zth (H:=H) (DR:=zl5 cons (vf z) true) (k:=3) rfl (st:=.done .ret) (nn:=24) (t:=zn9 (.fn (.func k) [] (c::cap)) H.length) (ps:=[13]) (asg:=zci) (body:=zcd);simp only[zqi,zl5,zn9,ylh,zgo,zfj,List.cons_append,List.nil_append,List.append_nil,Nat.add_assoc,Nat.reduceAdd]at hr he;rw[zrw];simp only[↓reduceIte,go_sem,hAl,ylh,hr,he,List.nodup_cons,List.nodup_nil,List.not_mem_nil,not_false_eq_true,and_self]
 ·refine⟨[],false,?_,?_⟩
  ·simp only[Bool.false_eq_true,false_iff]
   rintro ⟨n,hn,hb⟩
   have:=h3 (zcx n p) ((zx9 p _ _ _).2 ⟨n,by omega,by omega,rfl⟩)
   rw[hb]at this;cases this
  have he:=zth (H:=H) (DR:=zl5 cons [] false) (k:=3) rfl (st:=.ready) (nn:=24) (t:=zn9 (.fn (.func k) [] (c::cap)) H.length) (ps:=[13]) (asg:=zci) (body:=zcd);simp only[ze5,zl5,zn9,ylh,zgo,zfj,List.cons_append,List.nil_append,List.append_nil,Nat.add_assoc,Nat.reduceAdd]at hr he;rw[zrw];simp only[↓reduceIte,go_sem,hAl,ylh,hr,he,zfj,List.nodup_cons,List.nodup_nil,List.not_mem_nil,not_false_eq_true,and_self]
open Classical in
theorem LeqP_ok(cons:List Co)(hcons:∀c∈cons,c.ok)(p:Nat)(a b:Lv)(ha:a.ok)(hb:b.ok)(hC:zdt cons p=true)(hA:zax a p 0=true)(hB:zax b p 0=true)(H:List AO):
  ∃vs,F zmo [.sl (Co.css cons),.int .i64 p,.agg a.cs,.agg b.cs] H=some (.ret (.tup [.bool (z1c cons p a b),.sl (zaq vs),.int .i64 0]),H):=by
 have hc:=hC;simp only[zdt,Bool.and_eq_true,decide_eq_true_eq]at hc;have h5:p<=5:=by omega
 have hr:=fun H=>zun cons (by omega) hcons p H
 have hra:=fun H=>zgq a ha p 0 H
 have hrb:=fun H=>zgq b hb p 0 H
 have hall:∀z:List Bool,∃vb:List Int×Bool,z.length=p->(vb.2=true ↔ zl8 cons a b z)/\∀(G:List AO) (A B:Nat) (hA:G[A]?=some (.box a.cs)) (hB:G[B]?=some (.box b.cs)),F zg1 [.agg (zp6 cons z),.ptr A 0,.ptr B 0] G=some (.ret (.tup [.sl (zaq vb.1),.bool vb.2]),G):=by
  intro z;by_cases hz:z.length=p
  ·obtain⟨vs,is,h1,h2⟩:=leq1_ok cons hcons hc.1.2 z (by omega) a b ha hb
   exact⟨(vs,is),fun _=>⟨h1,h2⟩⟩
  ·exact⟨([],false),fun h=>absurd h hz⟩
 let vb:List Bool->List Int×Bool:=fun z=>Classical.choose (hall z)
 have hvb:∀z,_:=fun z=>Classical.choose_spec (hall z)
 obtain⟨vs,is,h1,h2⟩:=yd7 cons zg1 (.ptr H.length 0) [.ptr (H.length+1) 0] p h5 (fun z=>(vb z).1) (fun z=>(vb z).2) (H++[.box a.cs,.box b.cs]) (.fn (by simp) (by intro x hx;simp at hx;rcases hx with rfl|rfl <;> exact .ptr (by simp))) (fun z hz X=>by
  have:=(hvb z hz).2 (H++[.box a.cs,.box b.cs]++X) H.length (H.length+1) (by simp) (by simp)
  simp only[zgo,List.cons_append,List.nil_append];exact this)
 refine⟨vs,?_⟩;have hl:z1c cons p a b = !is:=by
  rcases his:is with _|_
  ·show _=true
   refine zpu.2 fun n hn hbr=>?_
   have:=h1.2 ⟨n,hn,(hvb _ (zgp n p)).1.2 hbr⟩;rw[his]at this;cases this
  ·show _=false
   obtain⟨n,hn,hb2⟩:=h1.1 his;rcases hq:z1c cons p a b with _|_
   ·rfl
   ·exact absurd ((hvb _ (zgp n p)).1.1 hb2) (zpu.1 hq n hn)
 rw[zvx,hl];simp only[↓reduceIte,go_sem,hr,hra,hrb,hC,hA,hB,h2]
theorem LeqP_er(cons:List Co)(hcons:∀c∈cons,c.ok)(hl:cons.length<=140737488355328)(p:Int)(a b:Lv)(ha:a.ok)(hb:b.ok)(hC:(zdt cons p && zax a p 0 && zax b p 0)=false)(H:List AO):
  F zmo [.sl (Co.css cons),.int .i64 p,.agg a.cs,.agg b.cs] H=some (.ret (.tup [.bool false,.sl [],.int .i64 1]),H):=by
 have hr:=fun H=>zun cons hl hcons p H
 have hra:=fun H=>zgq a ha p 0 H
 have hrb:=fun H=>zgq b hb p 0 H
 rw[zvx]
 cases h1:zdt cons p
 ·simp only[↓reduceIte,go_sem,hr,hra,hrb,h1]
 cases h2:zax a p 0
 ·simp only[↓reduceIte,go_sem,hr,hra,hrb,h1,h2]
 cases h3:zax b p 0
 ·simp only[↓reduceIte,go_sem,hr,hra,hrb,h1,h2,h3]
 ·simp[h1,h2,h3]at hC
end Go.Ab
end
section
set_option linter.unusedVariables false
set_option linter.unusedSimpArgs false
set_option maxRecDepth 100000
set_option maxHeartbeats 2000000
namespace Go.Ab
open Go.RowKit Go.Proofs
theorem yks(k n:Int)(ks:List Lv):(Lv.mk k n ks).ok=(ks.length<=140737488355328/\∀x∈ks,x.ok):=propext ⟨fun h=>⟨h.len,h.all⟩,fun h=>.mk h.1 h.2⟩
theorem zxq(k n:Int)(ls:List Lv)(ks:List Te):(Te.mk k n ls ks).ok=(ks.length<=140737488355328/\ls.length<=140737488355328/\(∀x∈ls,x.ok)/\∀x∈ks,x.ok):=propext ⟨fun h=>⟨h.len,h.len2,h.all2,h.all⟩,fun h=>.mk h.1 h.2.1 h.2.2.1 h.2.2.2⟩
theorem z6p{t:Te}(h:t.ok):(zuw t).1.ok:=by
 unfold zuw
 split
 ·exact h
 ·simp[zeroT,zxq]
theorem yjt{t:Te}(h:t.ok)(f b:Int):(zhz t f b).1.ok:=by
 unfold zhz
 split
 ·simp[zeroT,zxq]
 ·exact z6p (zy5 b t h f)
theorem yjq{t u:Te}(h:t.ok)(hu:u.ok):(zlw t u).1.ok:=by
 unfold zlw
 split
 ·simp[zeroT,zxq]
 ·exact z6p (z41 u hu t h 0)
mutual
theorem lvEq_refl:∀a:Lv,lvEq a a=true
 |.mk k n ks=>by rw[lvEq,lvsEq_refl ks];simp
theorem lvsEq_refl:∀a:List Lv,lvsEq a a=true
 |[]=>rfl
 |x::r=>by rw[lvsEq,lvEq_refl x,lvsEq_refl r];rfl
end
theorem z38(l:Lv)(H:List AO):F zku [.agg l.cs] H=some (.ret (.agg (Te.mk 2 0 [l] []).cs),H):=by
 rw[z3f];simp only[↓reduceIte,go_sem,Te.cs,Lv.css,Te.css]
end Go.Ab
end
section
set_option linter.unusedVariables false
set_option linter.unusedSimpArgs false
set_option maxRecDepth 100000
set_option maxHeartbeats 2000000
namespace Go.Ab
open Go.RowKit Go.Proofs
def zwq(env:List De)(n:Int)(ls:List Lv):Option De:=match env[n.toNat]? with
 |some d=>if d.has=true/\(ls.length:Int)=d.p then some d else none
 |none=>none
inductive Hd (env:List De):Nat->Te->Te->Nat->Prop
 |stuck {n:Nat} {k N:Int} {ls:List Lv} {ks:List Te}:k≠4->k≠7->(k=3->0<=N/\zwq env N ls=none)->Hd env n (.mk k N ls ks) (.mk k N ls ks) n
 |lett {n:Nat} {N:Int} {ls:List Lv} {s v b r t':Te} {n':Nat}:zlw b v=(r,0)->Hd env n r t' n' -> Hd env (n+1) (.mk 7 N ls [s,v,b]) t' n'
 |const {n:Nat} {N:Int} {ls:List Lv} {ks:List Te} {d:De} {r t':Te} {n':Nat}:0<=N->zwq env N ls=some d->zpk d.value ls []=(r,0)->Hd env n r t' n' -> Hd env (n+1) (.mk 3 N ls ks) t' n'
 |app {n:Nat} {N:Int} {ls:List Lv} {f a f':Te} {n':Nat}:Hd env n f f' n' -> f'.kind≠5->Hd env n (.mk 4 N ls [f,a]) (.mk 4 0 [] [f',a]) n'
 |beta {n:Nat} {N:Int} {ls:List Lv} {f a:Te} {N2:Int} {ls2:List Lv} {s b:Te} {m:Nat} {r t':Te} {n':Nat}:Hd env n f (.mk 5 N2 ls2 [s,b]) (m+1)->zlw b a=(r,0)->Hd env m r t' n' -> Hd env n (.mk 4 N ls [f,a]) t' n'
inductive He (env:List De):Nat->Te->Nat->Int->Prop
 |let0 {N:Int} {ls:List Lv} {s v b:Te}:He env 0 (.mk 7 N ls [s,v,b]) 0 40
 |let2 {n:Nat} {N:Int} {ls:List Lv} {s v b r:Te} {e:Int}:zlw b v=(r,e)->e≠0->He env (n+1) (.mk 7 N ls [s,v,b]) n e
 |letr {n:Nat} {N:Int} {ls:List Lv} {s v b r:Te} {n':Nat} {e:Int}:zlw b v=(r,0)->He env n r n' e->He env (n+1) (.mk 7 N ls [s,v,b]) n' e
 |const0 {N:Int} {ls:List Lv} {ks:List Te} {d:De}:0<=N->zwq env N ls=some d->He env 0 (.mk 3 N ls ks) 0 40
 |const2 {n:Nat} {N:Int} {ls:List Lv} {ks:List Te} {d:De} {r:Te} {e:Int}:0<=N->zwq env N ls=some d->zpk d.value ls []=(r,e)->e≠0->He env (n+1) (.mk 3 N ls ks) n e
 |constr {n:Nat} {N:Int} {ls:List Lv} {ks:List Te} {d:De} {r:Te} {n':Nat} {e:Int}:0<=N->zwq env N ls=some d->zpk d.value ls []=(r,0)->He env n r n' e->He env (n+1) (.mk 3 N ls ks) n' e
 |appf {n:Nat} {N:Int} {ls:List Lv} {f a:Te} {n':Nat} {e:Int}:He env n f n' e->He env n (.mk 4 N ls [f,a]) n' e
 |beta0 {n:Nat} {N:Int} {ls:List Lv} {f a:Te} {N2:Int} {ls2:List Lv} {s b:Te}:Hd env n f (.mk 5 N2 ls2 [s,b]) 0->He env n (.mk 4 N ls [f,a]) 0 40
 |beta2 {n:Nat} {N:Int} {ls:List Lv} {f a:Te} {N2:Int} {ls2:List Lv} {s b:Te} {m:Nat} {r:Te} {e:Int}:Hd env n f (.mk 5 N2 ls2 [s,b]) (m+1)->zlw b a=(r,e)->e≠0->He env n (.mk 4 N ls [f,a]) m e
 |betar {n:Nat} {N:Int} {ls:List Lv} {f a:Te} {N2:Int} {ls2:List Lv} {s b:Te} {m:Nat} {r:Te} {n':Nat} {e:Int}:Hd env n f (.mk 5 N2 ls2 [s,b]) (m+1)->zlw b a=(r,0)->He env m r n' e->He env n (.mk 4 N ls [f,a]) n' e
theorem He.ne{env:List De}{n:Nat}{t:Te}{n':Nat}{e:Int}(h:He env n t n' e):e≠0:=by
 induction h <;> first|decide|assumption
theorem Hd.le{env:List De}{n:Nat}{t t':Te}{n':Nat}(h:Hd env n t t' n'):n' <= n:=by
 induction h <;> omega
theorem zns{env:List De}{n:Int}{ls:List Lv}{d:De}(h:zwq env n ls=some d):env[n.toNat]?=some d/\d.has=true/\(ls.length:Int)=d.p:=by
 unfold zwq at h
 cases hg:env[n.toNat]? with
 |none=>rw[hg]at h;cases h
 |some x=>
  rw[hg]at h;dsimp only at h
  split at h
  ·cases h;rename_i h;exact⟨rfl,h⟩
  ·cases h
theorem ze8{b v r:Te}{e:Int}(h:zlw b v=(r,e))(hb:b.ok)(hv:v.ok):r.ok:=by
 have:=yjq hb hv;rw[h]at this;exact this
theorem zrm:zso []:=by intro x hx;cases hx
theorem zp1{env:List De}(he:zty env){n:Int}{ls:List Lv}{ks:List Te}{d:De}{r:Te}{e:Int}(ht:(Te.mk 3 n ls ks).ok)(hu:zwq env n ls=some d)(hs:zpk d.value ls []=(r,e)):r.ok:=by
 have hd:=he.2 d (List.mem_of_getElem? (zns hu).1);have:=yjl hd.2.2.2 (ps:=ls) (ms:=[]) ht.all2 zrm;rw[hs]at this;exact this
theorem Hd.ok{env:List De}(he:zty env){n:Nat}{t t':Te}{n':Nat}(h:Hd env n t t' n'):t.ok->t'.ok:=by
 induction h with
 |stuck=>exact id
 |lett ho _ ih=>
  intro ht;exact ih (ze8 ho (ht.all _ (by simp)) (ht.all _ (by simp)))
 |const _ hu hs _ ih=>exact fun ht=>ih (zp1 he ht hu hs)
 |app _ _ ih=>
  intro ht;have hf:=ih (ht.all _ (by simp))
  have ha:=ht.all _ (show _∈[_,_] from List.mem_cons_of_mem _ (List.mem_singleton.2 rfl))
  exact .mk (by simp) (by simp) (by intro x hx;cases hx) (by intro x hx;simp at hx;rcases hx with rfl|rfl <;> assumption)
 |beta _ ho _ ih1 ih2=>
  intro ht;have hf:=ih1 (ht.all _ (by simp))
  exact ih2 (ze8 ho (hf.all _ (by simp)) (ht.all _ (by simp)))
theorem decs_lt(n:Nat)(d:De):∀a∈d.cs,Lt n a:=by
 rcases d with⟨p,cons,t,h,v⟩;intro a ha;simp only[De.cs,De.p,De.cons,De.type,De.has,De.value,List.mem_append,List.mem_cons,List.not_mem_nil,or_false]at ha;rcases ha with (((rfl|rfl)|ha)|rfl)|ha
 ·exact .int _ _
 ·refine .sl fun x hx=>?_
  obtain⟨l,hl,hx⟩:=List.mem_flatten.1 hx;obtain⟨c,_,rfl⟩:=List.mem_map.1 hl;rcases List.mem_append.1 hx with hx|hx
  ·exact z9k n c.a x hx
  ·exact z9k n c.b x hx
 ·exact ztf n t a ha
 ·exact .bool _
 ·exact ztf n v a ha
theorem z0o(n:Nat)(env:List De):∀a∈(De.css env).flatten,Lt n a:=by
 intro a ha;obtain⟨l,hl,hx⟩:=List.mem_flatten.1 ha;obtain⟨d,_,rfl⟩:=List.mem_map.1 hl;exact decs_lt n d a hx
theorem zme(n:Nat)(env:List De)(f e:Int)(R:List AV)(hR:∀a∈R,Lt n a):LtO n (.box (.sl (De.css env) :: .int .i64 f :: .int .i64 e::R)):=by
 intro a ha;simp at ha;rcases ha with rfl|rfl|rfl|ha
 ·exact .sl (z0o n env)
 ·exact .int _ _
 ·exact .int _ _
 ·exact hR a ha
theorem zoz(n:Nat)(env:List De)(f e:Int):LtO n (.box [.sl (De.css env),.int .i64 f,.int .i64 e]):=zme n env f e [] (fun a ha=>by cases ha)
theorem zd6(env:List De)(n:Int)(hn:0<=n/\n<=1000000)(A X:List AO)(R:List AV)(hR:∀a∈R,Lt (A.length+(X.length+1)) a):F za7 [.ptr A.length 0] (A++(.box (.sl (De.css env) :: .int .i64 n :: .int .i64 0::R)::X)) =
  if n=0 then some (.ret (.bool false),A++(.box (.sl (De.css env) :: .int .i64 0 :: .int .i64 40::R)::X)) else some (.ret (.bool true),A++(.box (.sl (De.css env) :: .int .i64 (n - 1) :: .int .i64 0::R)::X)):=by
 have hf:=fun (o o':AO) r J (ho:LtO (A.length+(X.length+1)) o')=>zp0 (A:=A) (X:=X) (J:=J) (o:=o) (o':=o') (r:=r) ho
 have hf0:=fun (o o':AO) r (ho:LtO (A.length+(X.length+1)) o')=>zff (A:=A) (X:=X) (o:=o) (o':=o') (r:=r) ho
 have mB:=fun f e=>zme (A.length+(X.length+1)) env f e R hR
 rw[zqd];by_cases h:n=0
 ·subst h
  simp only[↓reduceIte,go_sem,hf,hf0,mB,show (0:Int)<1 by decide]
 ·simp only[↓reduceIte,go_sem,hf,hf0,mB,h,show ¬ n<1 by omega,zam (n:=n - 1) (by omega) (by omega)]
theorem z4e(env:List De)(n e:Int)(A X:List AO)(R:List AV)(hR:∀a∈R,Lt (A.length+(X.length+1)) a):F zbv [.ptr A.length 0,.int .i64 e] (A++(.box (.sl (De.css env) :: .int .i64 n :: .int .i64 0::R)::X)) =
  some (.ret (.tup []),A++(.box (.sl (De.css env) :: .int .i64 n :: .int .i64 e::R)::X)):=by
 have hf0:=fun (o o':AO) r (ho:LtO (A.length+(X.length+1)) o')=>zff (A:=A) (X:=X) (o:=o) (o':=o') (r:=r) ho
 have mB:=fun f e=>zme (A.length+(X.length+1)) env f e R hR
 rw[zqc];simp only[↓reduceIte,go_sem,hf0,mB]
theorem zeg(env:List De)(t:Te)(n e:Int)(A X:List AO)(R:List AV)(hR:∀a∈R,Lt (A.length+(X.length+1)) a):F zbp [.ptr A.length 0,.agg t.cs,.int .i64 e] (A++(.box (.sl (De.css env) :: .int .i64 n :: .int .i64 0::R)::X)) =
  some (.ret (.agg t.cs),A++(.box (.sl (De.css env) :: .int .i64 n :: .int .i64 e::R)::X)):=by
 have hf0:=fun (o o':AO) r (ho:LtO (A.length+(X.length+1)) o')=>zff (A:=A) (X:=X) (o:=o) (o':=o') (r:=r) ho
 have mB:=fun f e=>zme (A.length+(X.length+1)) env f e R hR
 rw[zq0];by_cases h:e=0
 ·subst h
  simp only[↓reduceIte,go_sem,hf0,mB]
 ·simp only[↓reduceIte,go_sem,hf0,mB,h,z4e env n e A X R hR]
theorem zej(env:List De)(n e:Int)(k N:Int)(ls:List Lv)(ks:List Te)(hN:k=3->0<=N)(A X:List AO)(R:List AV)(hR:∀a∈R,Lt (A.length+(X.length+1)) a):F zc4 [.ptr A.length 0,.agg [.int .i64 k,.int .i64 N,.sl (Lv.css ls),.sl (Te.css ks)]] (A++(.box (.sl (De.css env) :: .int .i64 n :: .int .i64 e::R)::X)) =
  some (.ret (.bool (decide (k=3) && (zwq env N ls).isSome)),A++(.box (.sl (De.css env) :: .int .i64 n :: .int .i64 e::R)::X)):=by
 have hf0:=fun (o o':AO) r (ho:LtO (A.length+(X.length+1)) o')=>zff (A:=A) (X:=X) (o:=o) (o':=o') (r:=r) ho
 have mB:=fun f e=>zme (A.length+(X.length+1)) env f e R hR
 rw[zn4];by_cases h:k=3
 ·subst h
  have hN:=hN rfl;obtain⟨j,rfl⟩:=Int.eq_ofNat_of_zero_le hN;unfold zwq;simp only[Int.toNat_natCast]
  cases hg:env[j]? with
  |none=>
   have hl:=List.getElem?_eq_none_iff.1 hg;simp only[↓reduceIte,go_sem,hf0,mB,show ¬ (j:Int)<(env.length:Int) by omega,Option.isSome_none]
  |some d=>
   have hl:j<env.length:=by
    rcases Nat.lt_or_ge j env.length with h|h
    ·exact h
    ·rw[List.getElem?_eq_none h]at hg;cases hg
   have hlI:(j:Int)<(env.length:Int):=by omega
   cases hh:d.has
   ·simp only[↓reduceIte,go_sem,hf0,mB,hl,hlI,hg,hh,Option.isSome_none,Option.isSome_some,Bool.false_eq_true,false_and]
   ·by_cases hp:(ls.length:Int)=d.p
    ·simp only[↓reduceIte,go_sem,hf0,mB,hl,hlI,hg,hh,hp,Option.isSome_none,Option.isSome_some]
    ·simp only[↓reduceIte,go_sem,hf0,mB,hl,hlI,hg,hh,hp,Option.isSome_none,Option.isSome_some]
 ·simp only[↓reduceIte,go_sem,hf0,mB,h]
theorem zll(env:List De)(x:Te)(n:Int)(e:Int)(A X:List AO)(R:List AV)(hR:∀a∈R,Lt (A.length+(X.length+1)) a)(he:e≠0)(n0 e0:Int)(v4:List AV)(hv:v4=[.int .i64 0,.int .i64 0,.sl [],.sl []]):
  zad (A++(.box (.sl (De.css env) :: .int .i64 n0 :: .int .i64 e0::R)::X)) (A++(.box (.sl (De.css env) :: .int .i64 n :: .int .i64 e::R)::X)) (.ptr A.length 0) x.cs v4 =
  some (.ret (.agg x.cs),A++(.box (.sl (De.css env) :: .int .i64 n :: .int .i64 e::R)::X)):=by
 have hf0:=fun (o o':AO) r (ho:LtO (A.length+(X.length+1)) o')=>zff (A:=A) (X:=X) (o:=o) (o':=o') (r:=r) ho
 subst hv;have mB:=fun f e=>zme (A.length+(X.length+1)) env f e R hR
 rw[zad,zab];simp only[↓reduceIte,go_sem,hf0,mB,he]
theorem zkl(env:List De)(t:Te)(n e:Int)(A X:List AO)(R:List AV):F zav [.ptr A.length 0,.agg t.cs] (A++(.box (.sl (De.css env) :: .int .i64 n :: .int .i64 e::R)::X)) =
  zad (A++(.box (.sl (De.css env) :: .int .i64 n :: .int .i64 e::R)::X)) (A++(.box (.sl (De.css env) :: .int .i64 n :: .int .i64 e::R)::X)) (.ptr A.length 0) t.cs [.int .i64 0,.int .i64 0,.sl [],.sl []]:=by
 rw[zqb];simp only[↓reduceIte,go_sem]
@[go_sem] theorem toNat_two:Int.toNat 2=2:=rfl
theorem zru(env:List De)(hE:zty env){n:Nat}{t t':Te}{n':Nat}(h:Hd env n t t' n'):t.ok->n<=1000000->∀(A X:List AO) (R:List AV) (hR:∀a∈R,Lt (A.length+(X.length+1)) a) (n0 e0:Int),
  zad (A++(.box (.sl (De.css env) :: .int .i64 n0 :: .int .i64 e0::R)::X)) (A++(.box (.sl (De.css env) :: .int .i64 n :: .int .i64 0::R)::X)) (.ptr A.length 0) t.cs [.int .i64 0,.int .i64 0,.sl [],.sl []] =
  some (.ret (.agg t'.cs),A++(.box (.sl (De.css env) :: .int .i64 n' :: .int .i64 0::R)::X)):=by
 have hf0:=fun (A X:List AO) (o o':AO) r (ho:LtO (A.length+(X.length+1)) o')=>zff (A:=A) (X:=X) (o:=o) (o':=o') (r:=r) ho
 induction h with
 |@stuck n k N ls ks h4 h7 h3=>
  intro ht hn A X R hR n0 e0;have mB:=fun f e=>zme (A.length+(X.length+1)) env f e R hR
  have hP:=fun t n e=>zeg env t n e A X R hR
  have hu:=zej env n 0 k N ls ks (fun h=>(h3 h).1) A X R hR
  have hfl:(decide (k=3) && (zwq env N ls).isSome)=false:=by
   by_cases h:k=3
   ·rw[(h3 h).2];simp
   ·simp[h]
  rw[hfl]at hu;rw[zad,zab];simp only[↓reduceIte,go_sem,Te.cs,h7,h4,hu,hf0,mB]
 |@lett n N ls s v b r t' n' ho hd ih=>
  intro ht hn A X R hR n0 e0;have mB:=fun f e=>zme (A.length+(X.length+1)) env f e R hR
  have hP:=fun t n e=>zeg env t n e A X R hR
  have hb:=ht.all b (by simp)
  have hv:=ht.all v (by simp)
  have:=ih (ze8 ho hb hv) (by omega) A X R hR n0 e0
  have hO:=fun H=>znr b v hb hv H
  simp only[ho,zjh]at hO;have hB:=zd6 env ((n+1:Nat):Int) (by omega) A X R hR
  rw[if_neg (by omega),show (((n+1:Nat):Int) - 1)=n by omega]at hB
  rw[zad,zab];simp only[↓reduceIte,go_sem,Te.cs,Te.css,hB,hO,hP,this]
 |@const n N ls ks d r t' n' hN hu hs hd ih=>
  intro ht hn A X R hR n0 e0;have mB:=fun f e=>zme (A.length+(X.length+1)) env f e R hR
  have hP:=fun t n e=>zeg env t n e A X R hR
  have hm:=zns hu;have hU:=zej env ((n+1:Nat):Int) 0 3 N ls ks (fun _=>hN) A X R hR
  rw[hu]at hU;have:=ih (zp1 hE ht hu hs) (by omega) A X R hR n0 e0
  have hS:=fun H=>zwl d.value ls [] (hE.2 d (List.mem_of_getElem? hm.1)).2.2.2 ht.all2 zrm ht.len2 (by simp) H
  simp only[hs,zjh,Lv.css]at hS;have hB:=zd6 env ((n+1:Nat):Int) (by omega) A X R hR
  rw[if_neg (by omega),show (((n+1:Nat):Int) - 1)=n by omega]at hB
  rw[zad,zab];simp only[↓reduceIte,go_sem,Te.cs,Te.css,hU,hB,hN,hm.1,hS,hP,this,decide_true,Bool.true_and,Option.isSome_some]
 |@app n N ls f a f' n' hd hk ih=>
  intro ht hn A X R hR n0 e0;have mB:=fun f e=>zme (A.length+(X.length+1)) env f e R hR
  have hP:=fun t n e=>zeg env t n e A X R hR
  have hf:=ht.all f (by simp)
  have:=ih hf hn A X R hR n 0;rw[<- zkl]at this;have hU:=zej env n 0 4 N ls [f,a] (fun h=>absurd h (by decide)) A X R hR
  simp only[Te.css,show decide ((4:Int)=3)=false from rfl,Bool.false_and]at hU
  cases f' with
  |mk k2 n2 ls2 ks2=>
  have hk2:¬ k2=5:=hk;simp only[Te.cs]at this;rw[zad,zab];simp only[↓reduceIte,go_sem,Te.cs,Te.css,Lv.css,hU,this,hk2,hf0,mB]
 |@beta n N ls f a N2 ls2 s b m r t' n' hd ho hd2 ih1 ih2=>
  intro ht hn A X R hR n0 e0;have mB:=fun f e=>zme (A.length+(X.length+1)) env f e R hR
  have hP:=fun t n e=>zeg env t n e A X R hR
  have hf:=ht.all f (by simp)
  have ha:=ht.all a (by simp)
  have hl:=hd.ok hE hf;have hle:=hd.le;have hb:=hl.all b (by simp)
  have:=ih1 hf hn A X R hR n 0;rw[<- zkl]at this;have h2:=ih2 (ze8 ho hb ha) (by omega) A X R hR n0 e0
  have hU:=zej env n 0 4 N ls [f,a] (fun h=>absurd h (by decide)) A X R hR
  simp only[Te.css,show decide ((4:Int)=3)=false from rfl,Bool.false_and]at hU
  have hO:=fun H=>znr b a hb ha H
  simp only[ho,zjh]at hO;have hB:=zd6 env ((m+1:Nat):Int) (by omega) A X R hR
  rw[if_neg (by omega),show (((m+1:Nat):Int) - 1)=m by omega]at hB
  simp only[Te.cs,Te.css]at this;rw[zad,zab];simp only[↓reduceIte,go_sem,Te.cs,Te.css,hU,this,hB,hO,hP,h2]
theorem ydu(env:List De)(hE:zty env){n:Nat}{t:Te}{n':Nat}{e:Int}(h:He env n t n' e):t.ok->n<=1000000->∀(A X:List AO) (R:List AV) (hR:∀a∈R,Lt (A.length+(X.length+1)) a) (n0 e0:Int),∃x:Te,x.ok /\
  zad (A++(.box (.sl (De.css env) :: .int .i64 n0 :: .int .i64 e0::R)::X)) (A++(.box (.sl (De.css env) :: .int .i64 n :: .int .i64 0::R)::X)) (.ptr A.length 0) t.cs [.int .i64 0,.int .i64 0,.sl [],.sl []] =
  some (.ret (.agg x.cs),A++(.box (.sl (De.css env) :: .int .i64 n' :: .int .i64 e::R)::X)):=by
 have hf0:=fun (A X:List AO) (o o':AO) r (ho:LtO (A.length+(X.length+1)) o')=>zff (A:=A) (X:=X) (o:=o) (o':=o') (r:=r) ho
 induction h with
 |@let0 N ls s v b=>
  intro ht hn A X R hR n0 e0;have mB:=fun f e=>zme (A.length+(X.length+1)) env f e R hR
  have hP:=fun t n e=>zeg env t n e A X R hR
  have hB:=zd6 env 0 (by omega) A X R hR
  rw[if_pos rfl]at hB;have hi:=fun x=>zll env x 0 40 A X R hR (by decide) n0 e0 _ rfl
  refine⟨_,ht,?_⟩;rw[zad,zab];have:=hi (.mk 7 N ls [s,v,b]);simp only[Te.cs,Te.css]at this;simp only[↓reduceIte,go_sem,Te.cs,Te.css,hB,this]
 |@let2 n N ls s v b r e ho he=>
  intro ht hn A X R hR n0 e0;have mB:=fun f e=>zme (A.length+(X.length+1)) env f e R hR
  have hP:=fun t n e=>zeg env t n e A X R hR
  have hb:=ht.all b (by simp)
  have hv:=ht.all v (by simp)
  have hO:=fun H=>znr b v hb hv H
  simp only[ho,zjh]at hO;have hB:=zd6 env ((n+1:Nat):Int) (by omega) A X R hR
  rw[if_neg (by omega),show (((n+1:Nat):Int) - 1)=n by omega]at hB
  have hi:=zll env r n e A X R hR he n0 e0 _ rfl;refine⟨r,ze8 ho hb hv,?_⟩;rw[zad,zab];simp only[↓reduceIte,go_sem,Te.cs,Te.css,hB,hO,hP,hi]
 |@letr n N ls s v b r n' e ho hd ih=>
  intro ht hn A X R hR n0 e0;have mB:=fun f e=>zme (A.length+(X.length+1)) env f e R hR
  have hP:=fun t n e=>zeg env t n e A X R hR
  have hb:=ht.all b (by simp)
  have hv:=ht.all v (by simp)
  obtain⟨x,hx,this⟩:=ih (ze8 ho hb hv) (by omega) A X R hR n0 e0
  have hO:=fun H=>znr b v hb hv H
  simp only[ho,zjh]at hO;have hB:=zd6 env ((n+1:Nat):Int) (by omega) A X R hR
  rw[if_neg (by omega),show (((n+1:Nat):Int) - 1)=n by omega]at hB
  refine⟨x,hx,?_⟩;rw[zad,zab];simp only[↓reduceIte,go_sem,Te.cs,Te.css,hB,hO,hP,this]
 |@const0 N ls ks d hN hu=>
  intro ht hn A X R hR n0 e0;have mB:=fun f e=>zme (A.length+(X.length+1)) env f e R hR
  have hP:=fun t n e=>zeg env t n e A X R hR
  have hm:=zns hu;have hU:=zej env 0 0 3 N ls ks (fun _=>hN) A X R hR
  rw[hu]at hU;have hB:=zd6 env 0 (by omega) A X R hR
  rw[if_pos rfl]at hB;have hi:=zll env (.mk 3 N ls ks) 0 40 A X R hR (by decide) n0 e0 _ rfl
  simp only[Te.cs]at hi;refine⟨_,ht,?_⟩;rw[zad,zab];simp only[↓reduceIte,go_sem,Te.cs,Te.css,hU,hB,hN,hm.1,hi,decide_true,Bool.true_and,Option.isSome_some]
 |@const2 n N ls ks d r e hN hu hs he=>
  intro ht hn A X R hR n0 e0;have mB:=fun f e=>zme (A.length+(X.length+1)) env f e R hR
  have hP:=fun t n e=>zeg env t n e A X R hR
  have hm:=zns hu;have hU:=zej env ((n+1:Nat):Int) 0 3 N ls ks (fun _=>hN) A X R hR
  rw[hu]at hU;have hS:=fun H=>zwl d.value ls [] (hE.2 d (List.mem_of_getElem? hm.1)).2.2.2 ht.all2 zrm ht.len2 (by simp) H
  simp only[hs,zjh,Lv.css]at hS;have hB:=zd6 env ((n+1:Nat):Int) (by omega) A X R hR
  rw[if_neg (by omega),show (((n+1:Nat):Int) - 1)=n by omega]at hB
  have hi:=zll env r n e A X R hR he n0 e0 _ rfl;refine⟨r,zp1 hE ht hu hs,?_⟩;rw[zad,zab];simp only[↓reduceIte,go_sem,Te.cs,Te.css,hU,hB,hN,hm.1,hS,hP,hi,decide_true,Bool.true_and,Option.isSome_some]
 |@constr n N ls ks d r n' e hN hu hs hd ih=>
  intro ht hn A X R hR n0 e0;have mB:=fun f e=>zme (A.length+(X.length+1)) env f e R hR
  have hP:=fun t n e=>zeg env t n e A X R hR
  have hm:=zns hu;have hU:=zej env ((n+1:Nat):Int) 0 3 N ls ks (fun _=>hN) A X R hR
  rw[hu]at hU;obtain⟨x,hx,this⟩:=ih (zp1 hE ht hu hs) (by omega) A X R hR n0 e0
  have hS:=fun H=>zwl d.value ls [] (hE.2 d (List.mem_of_getElem? hm.1)).2.2.2 ht.all2 zrm ht.len2 (by simp) H
  simp only[hs,zjh,Lv.css]at hS;have hB:=zd6 env ((n+1:Nat):Int) (by omega) A X R hR
  rw[if_neg (by omega),show (((n+1:Nat):Int) - 1)=n by omega]at hB
  refine⟨x,hx,?_⟩;rw[zad,zab];simp only[↓reduceIte,go_sem,Te.cs,Te.css,hU,hB,hN,hm.1,hS,hP,this,decide_true,Bool.true_and,Option.isSome_some]
 |@appf n N ls f a n' e hd ih=>
  intro ht hn A X R hR n0 e0;have mB:=fun f e=>zme (A.length+(X.length+1)) env f e R hR
  have hP:=fun t n e=>zeg env t n e A X R hR
  have hf:=ht.all f (by simp)
  have ha:=ht.all a (by simp)
  have hne:=hd.ne;obtain⟨x,hx,this⟩:=ih hf hn A X R hR n 0;rw[<- zkl]at this;have hU:=zej env n 0 4 N ls [f,a] (fun h=>absurd h (by decide)) A X R hR
  simp only[Te.css,show decide ((4:Int)=3)=false from rfl,Bool.false_and]at hU
  refine⟨.mk 4 0 [] [x,a],.mk (by simp) (by simp) (by intro x hx;cases hx) (by intro y hy;simp at hy;rcases hy with rfl|rfl <;> assumption),?_⟩
  cases x with
  |mk k2 n2 ls2 ks2=>
  simp only[Te.cs]at this;rw[zad,zab];simp only[↓reduceIte,go_sem,Te.cs,Te.css,Lv.css,hU,this,hne,hf0,mB]
 |@beta0 n N ls f a N2 ls2 s b hd=>
  intro ht hn A X R hR n0 e0;have mB:=fun f e=>zme (A.length+(X.length+1)) env f e R hR
  have hP:=fun t n e=>zeg env t n e A X R hR
  have hf:=ht.all f (by simp)
  have ha:=ht.all a (by simp)
  have:=zru env hE hd hf hn A X R hR n 0;rw[<- zkl]at this;have hU:=zej env n 0 4 N ls [f,a] (fun h=>absurd h (by decide)) A X R hR
  simp only[Te.css,show decide ((4:Int)=3)=false from rfl,Bool.false_and]at hU
  have hB:=zd6 env 0 (by omega) A X R hR
  rw[if_pos rfl]at hB;have hi:=zll env (.mk 4 N ls [f,a]) 0 40 A X R hR (by decide) n0 e0 _ rfl
  simp only[Te.cs,Te.css]at hi;refine⟨_,ht,?_⟩;simp only[Te.cs,Te.css,Int.natCast_zero]at this;rw[zad,zab];simp only[↓reduceIte,go_sem,Te.cs,Te.css,hU,this,hB,hi]
 |@beta2 n N ls f a N2 ls2 s b m r e hd ho he=>
  intro ht hn A X R hR n0 e0;have mB:=fun f e=>zme (A.length+(X.length+1)) env f e R hR
  have hP:=fun t n e=>zeg env t n e A X R hR
  have hf:=ht.all f (by simp)
  have ha:=ht.all a (by simp)
  have hl:=hd.ok hE hf;have hle:=hd.le;have hb:=hl.all b (by simp)
  have:=zru env hE hd hf hn A X R hR n 0;rw[<- zkl]at this;have hU:=zej env n 0 4 N ls [f,a] (fun h=>absurd h (by decide)) A X R hR
  simp only[Te.css,show decide ((4:Int)=3)=false from rfl,Bool.false_and]at hU
  have hO:=fun H=>znr b a hb ha H
  simp only[ho,zjh]at hO;have hB:=zd6 env ((m+1:Nat):Int) (by omega) A X R hR
  rw[if_neg (by omega),show (((m+1:Nat):Int) - 1)=m by omega]at hB
  have hi:=zll env r m e A X R hR he n0 e0 _ rfl;refine⟨r,ze8 ho hb ha,?_⟩;simp only[Te.cs,Te.css]at this;rw[zad,zab];simp only[↓reduceIte,go_sem,Te.cs,Te.css,hU,this,hB,hO,hP,hi]
 |@betar n N ls f a N2 ls2 s b m r n' e hd ho hd2 ih2=>
  intro ht hn A X R hR n0 e0;have mB:=fun f e=>zme (A.length+(X.length+1)) env f e R hR
  have hP:=fun t n e=>zeg env t n e A X R hR
  have hf:=ht.all f (by simp)
  have ha:=ht.all a (by simp)
  have hl:=hd.ok hE hf;have hle:=hd.le;have hb:=hl.all b (by simp)
  have:=zru env hE hd hf hn A X R hR n 0;rw[<- zkl]at this;obtain⟨x,hx,h2⟩:=ih2 (ze8 ho hb ha) (by omega) A X R hR n0 e0
  have hU:=zej env n 0 4 N ls [f,a] (fun h=>absurd h (by decide)) A X R hR
  simp only[Te.css,show decide ((4:Int)=3)=false from rfl,Bool.false_and]at hU
  have hO:=fun H=>znr b a hb ha H
  simp only[ho,zjh]at hO;have hB:=zd6 env ((m+1:Nat):Int) (by omega) A X R hR
  rw[if_neg (by omega),show (((m+1:Nat):Int) - 1)=m by omega]at hB
  refine⟨x,hx,?_⟩;simp only[Te.cs,Te.css]at this;rw[zad,zab];simp only[↓reduceIte,go_sem,Te.cs,Te.css,hU,this,hB,hO,hP,h2]
end Go.Ab
end
section
set_option linter.unusedVariables false
set_option linter.unusedSimpArgs false
set_option maxRecDepth 100000
set_option maxHeartbeats 2000000
namespace Go.Ab
open Go.RowKit Go.Proofs
theorem z07(env:List De)(n e:Int)(A X:List AO):F zbj [.ptr A.length 0,.int .i64 e] (A++(.box [.sl (De.css env),.int .i64 n,.int .i64 0]::X)) =
  some (.ret (.bool false),A++(.box [.sl (De.css env),.int .i64 n,.int .i64 e]::X)):=by
 have hf0:=fun (o o':AO) r (ho:LtO (A.length+(X.length+1)) o')=>zff (A:=A) (X:=X) (o:=o) (o':=o') (r:=r) ho
 rw[zpd];simp only[↓reduceIte,go_sem,hf0,zoz]
theorem zma(env:List De)(n:Int)(hn:0<=n/\n<=1000000)(A X:List AO):F zai [.ptr A.length 0] (A++(.box [.sl (De.css env),.int .i64 n,.int .i64 0]::X)) =
  if n=0 then some (.ret (.bool false),A++(.box [.sl (De.css env),.int .i64 0,.int .i64 40]::X)) else some (.ret (.bool true),A++(.box [.sl (De.css env),.int .i64 (n - 1),.int .i64 0]::X)):=by
 have hf0:=fun (o o':AO) r (ho:LtO (A.length+(X.length+1)) o')=>zff (A:=A) (X:=X) (o:=o) (o':=o') (r:=r) ho
 rw[zpe];by_cases h:n=0
 ·subst h
  simp only[↓reduceIte,go_sem,hf0,zoz,z07]
 ·simp only[↓reduceIte,go_sem,hf0,zoz,h,zam (n:=n - 1) (by omega) (by omega)]
theorem z04(env:List De)(t:Te)(n e:Int)(A X:List AO):F zbw [.ptr A.length 0,.agg t.cs,.int .i64 e] (A++(.box [.sl (De.css env),.int .i64 n,.int .i64 0]::X)) =
  some (.ret (.agg t.cs),A++(.box [.sl (De.css env),.int .i64 n,.int .i64 e]::X)):=by
 have hf0:=fun (o o':AO) r (ho:LtO (A.length+(X.length+1)) o')=>zff (A:=A) (X:=X) (o:=o) (o':=o') (r:=r) ho
 rw[zqe];by_cases h:e=0
 ·subst h
  simp only[↓reduceIte,go_sem,hf0,zoz]
 ·simp only[↓reduceIte,go_sem,hf0,zoz,h,z07]
theorem yfi{A Y Z:List AO}{o1 o1' o2 o2' o3 o3':AO}{n:Nat}(h1:LtO n o1')(h2:LtO n o2')(h3:LtO n o3'):∀(id:Nat) (o:AO),(A++(o1' :: (Y++(o2' :: o3' :: Z))))[id]?=some o->(A++(o1::(Y++(o2::o3::Z))))[id]?=some o\/LtO n o:=by
 intro id o ho;by_cases hi:id<A.length
 ·rw[List.getElem?_append_left hi]at ho ⊢;exact .inl ho
 rw[List.getElem?_append_right (by omega)]at ho ⊢
 cases hj:id - A.length with
 |zero=>rw[hj]at ho;simp at ho;subst ho;exact .inr h1
 |succ j=>
  rw[hj]at ho;simp only[List.getElem?_cons_succ]at ho ⊢;by_cases hy:j<Y.length
  ·rw[List.getElem?_append_left hy]at ho ⊢;exact .inl ho
  rw[List.getElem?_append_right (by omega)]at ho ⊢
  match j - Y.length,ho with
  |0,ho=>simp at ho;subst ho;exact .inr h2
  |1,ho=>simp at ho;subst ho;exact .inr h3
  |i+2,ho=>simp at ho;exact .inl (by simpa using ho)
theorem zu0{A Y Z:List AO}{env:List De}{n e n' e':Int}{ver ver':Nat}{es es':List Te}{k N k' N':Int}{ls ls':List Lv}{ks ks':List Te}{b:Bool}:
  ze6 (A++(.box [.sl (De.css env),.int .i64 n,.int .i64 e]::(Y++(.lst ver 4 (Te.css es) :: .box [.ptr A.length 0,.int .i64 k,.int .i64 N,.sl (Lv.css ls),.sl (Te.css ks),.ol (A.length+(Y.length+1)) ver]::Z)))) (.ret (.bool b))
   (A++(.box [.sl (De.css env),.int .i64 n',.int .i64 e']::(Y++(.lst ver' 4 (Te.css es') :: .box [.ptr A.length 0,.int .i64 k',.int .i64 N',.sl (Lv.css ls'),.sl (Te.css ks'),.ol (A.length+(Y.length+1)) ver']::Z)))) =
  some (.ret (.bool b),A++(.box [.sl (De.css env),.int .i64 n',.int .i64 e']::(Y++(.lst ver' 4 (Te.css es') :: .box [.ptr A.length 0,.int .i64 k',.int .i64 N',.sl (Lv.css ls'),.sl (Te.css ks'),.ol (A.length+(Y.length+1)) ver']::Z)))):=by
 refine zpz (by simp) (.bool _) (yfi (zoz _ _ _ _) (fun a ha=>of_eq_true (z47 _ es') a ha) ?_)
 intro a ha;simp at ha;rcases ha with rfl|rfl|rfl|rfl|rfl|rfl
 ·exact .ptr (by simp)
 ·exact .int _ _
 ·exact .int _ _
 ·exact .sl fun a ha=>of_eq_true (z7e _ ls') a ha
 ·exact .sl fun a ha=>of_eq_true (z47 _ ks') a ha
 ·exact .ol (by simp)
theorem let_ok(env:List De)(n:Nat)(hn:n+1<=1000000)(A Y Z:List AO)(ver:Nat)(es:List Te)(N:Int)(ls:List Lv)(s v b k2:Te)(hb:b.ok)(hv:v.ok)(r:Te)(e:Int)(ho:zlw b v=(r,e)):
  F zcm [.ptr (A.length+(Y.length+2)) 0] (A++(.box [.sl (De.css env),.int .i64 (n+1:Nat),.int .i64 0]::(Y++(.lst ver 4 (Te.css es) :: .box [.ptr A.length 0,.int .i64 7,.int .i64 N,.sl (Lv.css ls),.sl (Te.css [s,v,b]),.ol (A.length+(Y.length+1)) ver]::Z)))) =
  some (.ret (.bool true),A++(.box [.sl (De.css env),.int .i64 n,.int .i64 e]::(Y++(.lst ver 4 (Te.css es) :: .box (.ptr A.length 0::(r.cs++[.ol (A.length+(Y.length+1)) ver]))::Z)))):=by
 have hO:=fun H=>z8e b v hb hv H
 simp only[ho,zjh]at hO;have hB:∀X,F zai [.ptr A.length 0] (A++(.box [.sl (De.css env),.int .i64 (n+1:Nat),.int .i64 0]::X))=some (.ret (.bool true),A++(.box [.sl (De.css env),.int .i64 n,.int .i64 0]::X)):=by
  intro X;have hB:=zma env ((n+1:Nat):Int) (by omega) A X
  rwa [if_neg (by omega),show (((n+1:Nat):Int) - 1)=n by omega]at hB
 cases r with
 |mk k' n' ls' ks'=>
 have hP:=fun e X=>z04 env (.mk k' n' ls' ks') n e A X
 simp only[Te.cs]at hP hO;rw[zl6];simp only[↓reduceIte,go_sem,Te.cs,hB,hO,hP,zu0]
theorem let0_ok(env:List De)(A Y Z:List AO)(ver:Nat)(es:List Te)(N:Int)(ls:List Lv)(ks:List Te):
  F zcm [.ptr (A.length+(Y.length+2)) 0] (A++(.box [.sl (De.css env),.int .i64 0,.int .i64 0]::(Y++(.lst ver 4 (Te.css es) :: .box [.ptr A.length 0,.int .i64 7,.int .i64 N,.sl (Lv.css ls),.sl (Te.css ks),.ol (A.length+(Y.length+1)) ver]::Z)))) =
  some (.ret (.bool true),A++(.box [.sl (De.css env),.int .i64 0,.int .i64 40]::(Y++(.lst ver 4 (Te.css es) :: .box [.ptr A.length 0,.int .i64 7,.int .i64 N,.sl (Lv.css ls),.sl (Te.css ks),.ol (A.length+(Y.length+1)) ver]::Z)))):=by
 have hB:∀X,F zai [.ptr A.length 0] (A++(.box [.sl (De.css env),.int .i64 0,.int .i64 0]::X))=some (.ret (.bool false),A++(.box [.sl (De.css env),.int .i64 0,.int .i64 40]::X)):=by
  intro X;have hB:=zma env 0 (by omega) A X
  rwa [if_pos rfl]at hB
 rw[zl6];simp only[↓reduceIte,go_sem,hB,zu0]
theorem ya2{env:List De}{j:Nat}{ls:List Lv}(h:zwq env (j:Int) ls=none):(env.length<=j)\/∃d,env[j]?=some d/\j<env.length/\(d.has=false\/d.has=true/\¬ (ls.length:Int)=d.p):=by
 unfold zwq at h;simp only[Int.toNat_natCast]at h
 cases hg:env[j]? with
 |none=>exact .inl (List.getElem?_eq_none_iff.1 hg)
 |some d=>
  have hl:j<env.length:=by
   rcases Nat.lt_or_ge j env.length with h|h
   ·exact h
   ·rw[List.getElem?_eq_none h]at hg;cases hg
  rw[hg]at h;dsimp only at h;refine .inr ⟨d,rfl,hl,?_⟩
  split at h
  ·cases h
  ·rename_i hn
   cases hh:d.has
   ·exact .inl rfl
   ·exact .inr ⟨rfl,fun hp=>hn ⟨hh,hp⟩⟩
theorem yeu(env:List De)(n e:Int)(A Y Z:List AO)(ver:Nat)(es:List Te)(N:Int)(hN:0<=N)(ls:List Lv)(ks:List Te)(hu:zwq env N ls=none):
  F za2 [.ptr (A.length+(Y.length+2)) 0] (A++(.box [.sl (De.css env),.int .i64 n,.int .i64 e]::(Y++(.lst ver 4 (Te.css es) :: .box [.ptr A.length 0,.int .i64 3,.int .i64 N,.sl (Lv.css ls),.sl (Te.css ks),.ol (A.length+(Y.length+1)) ver]::Z)))) =
  some (.ret (.bool false),A++(.box [.sl (De.css env),.int .i64 n,.int .i64 e]::(Y++(.lst ver 4 (Te.css es) :: .box [.ptr A.length 0,.int .i64 3,.int .i64 N,.sl (Lv.css ls),.sl (Te.css ks),.ol (A.length+(Y.length+1)) ver]::Z)))):=by
 obtain⟨j,rfl⟩:=Int.eq_ofNat_of_zero_le hN;rw[ze0];rcases ya2 hu with h|⟨d,hg,hl,hh|⟨hh,hp⟩⟩
 ·simp only[↓reduceIte,go_sem,show (env.length:Int)<=(j:Int) by omega,zu0]
 ·simp only[↓reduceIte,go_sem,show ¬ (env.length:Int)<=(j:Int) by omega,hg,hh,zu0]
 ·simp only[↓reduceIte,go_sem,show ¬ (env.length:Int)<=(j:Int) by omega,hg,hh,hp,zu0]
theorem yet(env:List De)(hE:zty env)(n:Nat)(hn:n+1<=1000000)(A Y Z:List AO)(ver:Nat)(es:List Te)(N:Int)(hN:0<=N)(ls:List Lv)(hls:zso ls)(hll:ls.length<=140737488355328)(ks:List Te)(d:De)(hu:zwq env N ls=some d)(r:Te)(e:Int)(hs:zpk d.value ls []=(r,e)):
  F za2 [.ptr (A.length+(Y.length+2)) 0] (A++(.box [.sl (De.css env),.int .i64 (n+1:Nat),.int .i64 0]::(Y++(.lst ver 4 (Te.css es) :: .box [.ptr A.length 0,.int .i64 3,.int .i64 N,.sl (Lv.css ls),.sl (Te.css ks),.ol (A.length+(Y.length+1)) ver]::Z)))) =
  some (.ret (.bool true),A++(.box [.sl (De.css env),.int .i64 n,.int .i64 e]::(Y++(.lst ver 4 (Te.css es) :: .box (.ptr A.length 0::(r.cs++[.ol (A.length+(Y.length+1)) ver]))::Z)))):=by
 have hm:=zns hu;obtain⟨j,rfl⟩:=Int.eq_ofNat_of_zero_le hN;simp only[Int.toNat_natCast]at hm;have hS:=fun H=>TSub_ok d.value ls [] (hE.2 d (List.mem_of_getElem? hm.1)).2.2.2 hls zrm hll (by simp) H
 simp only[hs,zjh,Lv.css]at hS;have hl:(j:Int)<(env.length:Int):=by
  have:=(List.getElem?_eq_some_iff.1 hm.1).1;omega
 have hB:∀X,F zai [.ptr A.length 0] (A++(.box [.sl (De.css env),.int .i64 (n+1:Nat),.int .i64 0]::X))=some (.ret (.bool true),A++(.box [.sl (De.css env),.int .i64 n,.int .i64 0]::X)):=by
  intro X;have hB:=zma env ((n+1:Nat):Int) (by omega) A X
  rwa [if_neg (by omega),show (((n+1:Nat):Int) - 1)=n by omega]at hB
 cases r with
 |mk k' n' ls' ks'=>
 have hP:=fun e X=>z04 env (.mk k' n' ls' ks') n e A X
 simp only[Te.cs]at hP hS;rw[ze0];simp only[↓reduceIte,go_sem,Te.cs,show ¬ (env.length:Int)<=(j:Int) by omega,hl,hm.1,hm.2.1,hm.2.2,hB,hS,hP,zu0]
theorem yev(env:List De)(A Y Z:List AO)(ver:Nat)(es:List Te)(N:Int)(hN:0<=N)(ls:List Lv)(ks:List Te)(d:De)(hu:zwq env N ls=some d):
  F za2 [.ptr (A.length+(Y.length+2)) 0] (A++(.box [.sl (De.css env),.int .i64 0,.int .i64 0]::(Y++(.lst ver 4 (Te.css es) :: .box [.ptr A.length 0,.int .i64 3,.int .i64 N,.sl (Lv.css ls),.sl (Te.css ks),.ol (A.length+(Y.length+1)) ver]::Z)))) =
  some (.ret (.bool true),A++(.box [.sl (De.css env),.int .i64 0,.int .i64 40]::(Y++(.lst ver 4 (Te.css es) :: .box [.ptr A.length 0,.int .i64 3,.int .i64 N,.sl (Lv.css ls),.sl (Te.css ks),.ol (A.length+(Y.length+1)) ver]::Z)))):=by
 have hm:=zns hu;obtain⟨j,rfl⟩:=Int.eq_ofNat_of_zero_le hN;simp only[Int.toNat_natCast]at hm;have hl:(j:Int)<(env.length:Int):=by
  have:=(List.getElem?_eq_some_iff.1 hm.1).1;omega
 have hB:∀X,F zai [.ptr A.length 0] (A++(.box [.sl (De.css env),.int .i64 0,.int .i64 0]::X))=some (.ret (.bool false),A++(.box [.sl (De.css env),.int .i64 0,.int .i64 40]::X)):=by
  intro X;have hB:=zma env 0 (by omega) A X
  rwa [if_pos rfl]at hB
 rw[ze0];simp only[↓reduceIte,go_sem,show ¬ (env.length:Int)<=(j:Int) by omega,hl,hm.1,hm.2.1,hm.2.2,hB,zu0]
theorem lamN_ok(env:List De)(n e:Int)(A Y Z:List AO)(ver:Nat)(k N:Int)(ls:List Lv)(ks:List Te):
  F zba [.ptr (A.length+(Y.length+2)) 0] (A++(.box [.sl (De.css env),.int .i64 n,.int .i64 e]::(Y++(.lst ver 4 (Te.css []) :: .box [.ptr A.length 0,.int .i64 k,.int .i64 N,.sl (Lv.css ls),.sl (Te.css ks),.ol (A.length+(Y.length+1)) ver]::Z)))) =
  some (.ret (.bool false),A++(.box [.sl (De.css env),.int .i64 n,.int .i64 e]::(Y++(.lst ver 4 (Te.css []) :: .box [.ptr A.length 0,.int .i64 k,.int .i64 N,.sl (Lv.css ls),.sl (Te.css ks),.ol (A.length+(Y.length+1)) ver]::Z)))):=by
 rw[zfw];simp only[↓reduceIte,go_sem,List.length_nil,Int.natCast_zero,show IntKind.i64.wrap (-1) = -1 from by decide,show ((-1:Int)<0) from by decide,zu0]
theorem lam_ok(env:List De)(n:Nat)(hn:n+1<=1000000)(A Y Z:List AO)(ver:Nat)(es:List Te)(hes:es.length<=1073741824)(a:Te)(ha:a.ok)(k N:Int)(ls:List Lv)(s b:Te)(hb:b.ok)(r:Te)(e:Int)(ho:zlw b a=(r,e)):
  F zba [.ptr (A.length+(Y.length+2)) 0] (A++(.box [.sl (De.css env),.int .i64 (n+1:Nat),.int .i64 0]::(Y++(.lst ver 4 (Te.css (es++[a])) :: .box [.ptr A.length 0,.int .i64 k,.int .i64 N,.sl (Lv.css ls),.sl (Te.css [s,b]),.ol (A.length+(Y.length+1)) ver]::Z)))) =
  some (.ret (.bool true),A++(.box [.sl (De.css env),.int .i64 n,.int .i64 e]::(Y++(.lst (ver+1) 4 (Te.css es) :: .box (.ptr A.length 0::(r.cs++[.ol (A.length+(Y.length+1)) (ver+1)]))::Z)))):=by
 have hO:=fun H=>z8e b a hb ha H
 simp only[ho,zjh]at hO;have hB:∀X,F zai [.ptr A.length 0] (A++(.box [.sl (De.css env),.int .i64 (n+1:Nat),.int .i64 0]::X))=some (.ret (.bool true),A++(.box [.sl (De.css env),.int .i64 n,.int .i64 0]::X)):=by
  intro X;have hB:=zma env ((n+1:Nat):Int) (by omega) A X
  rwa [if_neg (by omega),show (((n+1:Nat):Int) - 1)=n by omega]at hB
 simp only[Int.natCast_add,Int.natCast_one]at hB;have htk:(Te.css (es++[a])).take es.length=Te.css es:=by simp[Te.css_eq]
 cases r with
 |mk k' n' ls' ks'=>
 have hP:=fun e X=>z04 env (.mk k' n' ls' ks') n e A X
 simp only[Te.cs]at hP hO;rw[zfw];simp only[↓reduceIte,go_sem,Te.cs,zf5,Int.natCast_add,Int.natCast_one,zam (n:=(es.length:Int)) (by omega) (by omega),show ¬ (es.length:Int)<0 by omega,show es.length<es.length+1 by omega,show (es.length:Int)<=(es.length:Int)+1 by omega,Int.add_sub_cancel,hB,hO,hP,htk,zu0]
theorem lam0_ok(env:List De)(A Y Z:List AO)(ver:Nat)(es:List Te)(hes:es.length<=1073741824)(a:Te)(k N:Int)(ls:List Lv)(ks:List Te):
  F zba [.ptr (A.length+(Y.length+2)) 0] (A++(.box [.sl (De.css env),.int .i64 0,.int .i64 0]::(Y++(.lst ver 4 (Te.css (es++[a])) :: .box [.ptr A.length 0,.int .i64 k,.int .i64 N,.sl (Lv.css ls),.sl (Te.css ks),.ol (A.length+(Y.length+1)) ver]::Z)))) =
  some (.ret (.bool true),A++(.box [.sl (De.css env),.int .i64 0,.int .i64 40]::(Y++(.lst (ver+1) 4 (Te.css es) :: .box [.ptr A.length 0,.int .i64 k,.int .i64 N,.sl (Lv.css ls),.sl (Te.css ks),.ol (A.length+(Y.length+1)) (ver+1)]::Z)))):=by
 have hB:∀X,F zai [.ptr A.length 0] (A++(.box [.sl (De.css env),.int .i64 0,.int .i64 0]::X))=some (.ret (.bool false),A++(.box [.sl (De.css env),.int .i64 0,.int .i64 40]::X)):=by
  intro X;have hB:=zma env 0 (by omega) A X
  rwa [if_pos rfl]at hB
 have htk:(Te.css (es++[a])).take es.length=Te.css es:=by simp[Te.css_eq]
 rw[zfw];simp only[↓reduceIte,go_sem,Te.cs,zf5,Int.natCast_add,Int.natCast_one,zam (n:=(es.length:Int)) (by omega) (by omega),show ¬ (es.length:Int)<0 by omega,show es.length<es.length+1 by omega,show (es.length:Int)<=(es.length:Int)+1 by omega,Int.add_sub_cancel,hB,htk,zu0]
theorem ygx(es:List Te)(z:List AV)(x:Te):(Te.css es++[z]).set es.length x.cs=Te.css (es++[x]):=by
 rw[List.set_append_right _ _ (by rw[zq8];exact Nat.le_refl _),zq8,Nat.sub_self]
 simp[Te.css_eq]
theorem z3l(es:List Te)(z:List AV):(Te.css es++[z]).length=es.length+1:=by rw[List.length_append,zq8];rfl
theorem z3m(es:List Te)(z:List AV):(Te.css es++[z])[es.length]?=some z:=by rw[List.getElem?_append_right (by rw[zq8];exact Nat.le_refl _),zq8,Nat.sub_self];rfl
theorem ygu(env:List De)(n e:Int)(A Y Z:List AO)(ver:Nat)(es:List Te)(hes:es.length<1073741824)(k N:Int)(ls:List Lv)(f a:Te):
  F zdc [.ptr (A.length+(Y.length+2)) 0] (A++(.box [.sl (De.css env),.int .i64 n,.int .i64 e]::(Y++(.lst ver 4 (Te.css es) :: .box [.ptr A.length 0,.int .i64 k,.int .i64 N,.sl (Lv.css ls),.sl (Te.css [f,a]),.ol (A.length+(Y.length+1)) ver]::Z)))) =
  some (.ret (.bool true),A++(.box [.sl (De.css env),.int .i64 n,.int .i64 e]::(Y++(.lst (ver+1) 4 (Te.css (es++[a])) :: .box (.ptr A.length 0::(f.cs++[.ol (A.length+(Y.length+1)) (ver+1)]))::Z)))):=by
 cases f with
 |mk k' n' ls' ks'=>
 rw[zr0];simp only[↓reduceIte,go_sem,Te.cs,z3l,z3m,ygx,show es.length<es.length+1 by omega,show es.length+(0+1)<=1073741824 by omega,zu0]
def zqh:List (AV×AV):=[(.int .i64 7,.fn (.func zcm) [] []),(.int .i64 3,.fn (.func za2) [] []),(.int .i64 5,.fn (.func zba) [] []),(.int .i64 4,.fn (.func zdc) [] [])]
theorem ygr(H:List AO):F zjl [] H=some (.ret (.fmap zqh),H):=by
 rw[zw0];simp only[↓reduceIte,go_sem,zmf,zgn,zqh]
theorem zfc:zmf .i64 zqh=true:=rfl
theorem z8i(k:Int)(h:k≠7/\k≠3/\k≠5/\k≠4):zgn k zqh=some none:=by
 simp only[zgn,zqh,if_neg h.1,if_neg h.2.1,if_neg h.2.2.1,if_neg h.2.2.2]
theorem ya9:zgn 7 zqh=some (some (.fn (.func zcm) [] [])):=rfl
theorem z4p:zgn 3 zqh=some (some (.fn (.func za2) [] [])):=rfl
theorem z4o:zgn 5 zqh=some (some (.fn (.func zba) [] [])):=rfl
theorem steps_4:zgn 4 zqh=some (some (.fn (.func zdc) [] [])):=rfl
abbrev encP(p:Int×Te):List AV:=[.int .i64 p.1,.agg p.2.cs]
def bkr:List Te->List (Int×Te)
 |[]=>[]
 |x::r=>(r.length,x)::bkr r
def z9y(id ver:Nat):AV:=.fn (.func zbe) [] [.fp [.ol id ver]]
theorem back_ok(id ver:Nat)(H:List AO)(hi:id<H.length):F zdj [.ol id ver] H=some (.ret (z9y id ver),H):=by
 rw[zof];have h:Lt H.length (.fn (.func zbe) [] [.fp [.ol id ver]])=True:=by
  simp only[eq_iff_iff,iff_true];refine .fn (by simp) ?_
  intro x hx;simp at hx;subst hx;exact .fp (by intro a ha;simp at ha;subst ha;exact .ol hi)
 simp only[↓reduceIte,go_sem,z9y,h]
theorem yi1{S E:Type}{y:AV}{m:Nat}{W:S->List AO}{WE:E->List AO}{stp:S->Int×Te->Option (S ⊕ E)}(hy:Ys y m encP W WE stp)(id ver:Nat)(es:List Te)(hes:es.length<=1073741824)(hW:∀s,(W s)[id]?=some (.lst ver 4 (Te.css es)))
  (s:S) (X:List AO) (r:S ⊕ E) (hr:zlx stp (bkr es.reverse) s=some r):F zbe [y,.fp [.ol id ver]] (W s++X)=some (.ret (.tup []),hp W WE r++X):=by
 have hone:=hy.one;have hcell:y.cells=[y]:=by cases y <;> first|rfl|(simp[AV.one]at hone)
 unfold AV.cells at hcell;unfold AV.one at hone;have l1:∀s,(W s).length=m:=fun s=>hy.len (.inl s)
 have hid:id<m:=by
  have:=hW s;have:=(List.getElem?_eq_some_iff.1 this).1;rw[l1 s]at this;exact this
 have hWX:∀s,(W s++X)[id]?=some (.lst ver 4 (Te.css es)):=fun s=>by rw[List.getElem?_append_left (by rw[l1];exact hid),hW s]
 have hfin:∀r:S ⊕ E,ze6 (W s++X) (.ret (.tup [])) (hp W WE r++X)=some (.ret (.tup []),hp W WE r++X):=fun r=>by
  have hf:=zzk (H:=W s) (A:=hp W WE r) (X:=X) (J:=[]) (r:=.ret (.tup [])) (by rw[hy.len r];exact (l1 s).symm) (by rw[l1 s];exact hy.fr s r) (show Lt _ _ from .tup (by simp))
  rwa [List.append_nil]at hf
 have loop:∀(rev post:List Te) (a:S),es=rev.reverse++post->zlx stp (bkr rev) a=some r ->
   zcp (W s++X) (W a++X) y (.fp [.ol id ver]) (.int .i64 ((rev.length:Int) - 1))=some (.ret (.tup []),hp W WE r++X):=by
  intro rev
  induction rev with
  |nil=>
   intro post a e hq;simp only[bkr,zlx]at hq;cases hq;have:=hfin (.inl a);simp only[ze5]at this;rw[zcp,zab];simp only[↓reduceIte,go_sem,List.length_nil,Int.natCast_zero,show ¬ (0:Int) <= -1 by decide,this]
  |cons x rev ih=>
   intro post a e hq;have hl:rev.length<es.length:=by rw[e];simp
   have hg:es[rev.length]?=some x:=by
    rw[e];simp
   rw[bkr,zlx]at hq;obtain⟨q,hst⟩:∃q,stp a (rev.length,x)=some q:=by
    cases h:stp a (rev.length,x) with
    |none=>rw[h]at hq;cases hq
    |some q=>exact⟨q,rfl⟩
   rw[hst]at hq;have hc:=hy.call a (rev.length,x) X q hst;simp only[encP]at hc;rw[zcp,zab]
   cases q with
   |inl a'=>
    have:=ih (x::post) a' (by rw[e];simp) hq
    simp only[ze5]at hc;simp only[↓reduceIte,go_sem,List.length_cons,Int.natCast_add,Int.natCast_one,Int.add_sub_cancel,show (0:Int)<=(rev.length:Int) by omega,hWX,hg,hl,hc,isL,hone,hcell,zam (n:=(rev.length:Int) - 1) (by omega) (by omega),this]
   |inr e=>
    dsimp only at hq;cases hq;simp only[zqi]at hc;have:=hfin (.inr e);simp only[zqi]at this;simp only[↓reduceIte,go_sem,List.length_cons,Int.natCast_add,Int.natCast_one,Int.add_sub_cancel,show (0:Int)<=(rev.length:Int) by omega,hWX,hg,hl,hc,isL,hone,hcell,this]
 have:=loop es.reverse [] s (by simp) hr
 simp only[List.length_reverse]at this;rw[zng];simp only[↓reduceIte,go_sem,hWX,zam (n:=(es.length:Int) - 1) (by omega) (by omega),this]
def z5f(p:AV)(n ver:Nat)(es:List Te)(s:Te):List AO:=[.lst 0 3 [],.lst 0 4 [],.lst ver 4 (Te.css es),.box (p::(s.cs++[.ol (n+2) ver])),.box [.ptr (n+3) 0]]
def yh3(s:Te)(x:Int×Te):Option (Te ⊕ Empty):=some (.inl (.mk 4 0 [] [s,x.2]))
theorem yh4(p:AV)(n ver:Nat)(es:List Te)(N:Nat)(hp:Lt N p)(hn:n+3<N)(s:Te):∀o∈z5f p n ver es s,LtO N o:=by
 intro o ho;simp only[z5f,List.mem_cons,List.not_mem_nil,or_false]at ho;rcases ho with rfl|rfl|rfl|rfl|rfl
 ·intro a ha;simp at ha
 ·intro a ha;simp at ha
 ·exact fun a ha=>of_eq_true (z47 _ es) a ha
 ·intro a ha
  rcases List.mem_cons.1 ha with rfl|ha
  ·exact hp
  ·rcases List.mem_append.1 ha with ha|ha
   ·exact ztf _ s a ha
   ·simp at ha;subst ha;exact .ol (by omega)
 ·intro a ha
  simp at ha;subst ha;exact .ptr (by omega)
theorem head_ys(H:List AO)(p:AV)(hp:Lt H.length p)(ver:Nat)(es:List Te):Ys (.yd (H.length+5+1)) (H.length+5+2) encP (fun s=>H++(z5f p H.length ver es s++[.dfr,.slp .ready 60 [(5,.ptr (H.length+4) 0)] [44,45] za0 zay])) (fun e:Empty=>H++(noE e++[.dfr,.slp (.done (noE e)) 60 [(5,.ptr (H.length+4) 0)] [44,45] za0 zay])) yh3:=by
 refine z4g H 5 encP (z5f p H.length ver es) noE noE yh3 60 [(5,.ptr (H.length+4) 0)] [44,45] za0 zay zmd zmc (fun _=>rfl) ?_ ?_ ?_ ?_
 ·rintro (s|e)
  ·rfl
  ·exact e.elim
 ·rintro s (s' | e) i o ho
  ·exact .inr (yh4 p H.length ver es _ (hp.mono (by omega)) (by omega) s' o (List.mem_of_getElem? ho))
  ·exact e.elim
 ·intro q hq;simp at hq;subst hq;exact .ptr (by omega)
 ·rintro ⟨k,n,ls,ks⟩ ⟨i,a⟩ X r hst
  refine⟨[],?_⟩;unfold yh3 at hst;cases hst;rcases a with⟨k2,n2,ls2,ks2⟩;simp only[↓reduceIte,go_sem,z5f,encP,Te.cs,Te.css,Lv.css,z49,isL]
def reb:Te->List (Int×Te)->Te
 |t,[]=>t
 |t,x::r=>reb (.mk 4 0 [] [t,x.2]) r
theorem z2i:∀(xs:List (Int×Te)) (t:Te),zlx yh3 xs t=some (.inl (reb t xs))
 |[],t=>rfl
 |x::r,t=>by rw[zlx,reb];exact z2i r _
def znx(t:Te)(es:List Te):Te:=reb t (bkr es.reverse)
theorem z4x(t:Te):znx t []=t:=rfl
theorem z1z(t a:Te)(es:List Te):znx t (es++[a])=znx (.mk 4 0 [] [t,a]) es:=by
 rw[znx,List.reverse_append,List.reverse_cons,List.reverse_nil,List.nil_append,List.cons_append,List.nil_append,bkr,reb];rfl
end Go.Ab
end
section
set_option linter.unusedVariables false
set_option linter.unusedSimpArgs false
set_option maxRecDepth 100000
set_option maxHeartbeats 2000000
namespace Go.Ab
open Go.RowKit Go.Proofs
def hdH(A X:List AO)(env:List De)(n e:Int)(ver:Nat)(es:List Te)(t:Te):List AO :=
 A++(.box [.sl (De.css env),.int .i64 n,.int .i64 e]::(X++[.lst 0 3 [],.lst 0 4 [],.lst ver 4 (Te.css es),.box (.ptr A.length 0::(t.cs++[.ol (A.length+(X.length+3)) ver])),.box [.ptr (A.length+(X.length+4)) 0]]))
noncomputable def Lh(A X:List AO)(env:List De)(n0 e0 n e:Int)(ver:Nat)(es:List Te)(t:Te):Option RH :=
 zan (A++(.box [.sl (De.css env),.int .i64 n0,.int .i64 e0]::X)) (hdH A X env n e ver es t) [] (.ptr A.length 0) (.ptr (A.length+(X.length+5)) 0) (.fmap zqh) [.int .i64 0,.int .i64 0,.sl [],.sl []]
theorem z6k(env:List De)(t:Te)(n e:Int)(A X:List AO):F zaw [.ptr A.length 0,.agg t.cs] (A++(.box [.sl (De.css env),.int .i64 n,.int .i64 e]::X))=Lh A X env n e n e 0 [] t:=by
 rw[zpc,Lh,hdH];rcases t with⟨k,N,ls,ks⟩;simp only[↓reduceIte,go_sem,ygr,Te.cs,Te.css]
theorem yfx(A X:List AO)(env:List De)(n0 e0 n e:Int)(ver:Nat)(es:List Te)(hes:es.length<=1073741824)(k N:Int)(ls:List Lv)(ks:List Te)
  (hst:e≠0\/e=0/\(k≠7/\k≠3/\k≠5/\k≠4\/k=3/\0<=N/\zwq env N ls=none\/k=5/\es=[])) :
  Lh A X env n0 e0 n e ver es (.mk k N ls ks)=some (.ret (.agg (znx (.mk k N ls ks) es).cs),A++(.box [.sl (De.css env),.int .i64 n,.int .i64 e]::X)):=by
 have hl:(A++(.box [.sl (De.css env),.int .i64 n,.int .i64 e]::X)).length=A.length+(X.length+1):=by simp
 have hr:=yi1 (head_ys (A++(.box [.sl (De.css env),.int .i64 n,.int .i64 e]::X)) (.ptr A.length 0) (.ptr (by simp)) ver es) (A.length+(X.length+3)) ver es hes (fun s=>by
  rw[show A.length+(X.length+3)=(A++(AO.box [.sl (De.css env),.int .i64 n,.int .i64 e]::X)).length+2 by rw[hl];omega,z0y];rfl) (.mk k N ls ks) [] _ (z2i _ _)
 have he:=zth (H:=A++(.box [.sl (De.css env),.int .i64 n,.int .i64 e]::X)) (DR:=z5f (.ptr A.length 0) (A++(.box [.sl (De.css env),.int .i64 n,.int .i64 e]::X)).length ver es (znx (.mk k N ls ks) es)) (k:=5) rfl (st:=.ready) (nn:=60) (t:=[(5,.ptr (A.length+(X.length+5)) 0)]) (ps:=[44,45]) (asg:=za0) (body:=zay);rw[show reb (.mk k N ls ks) (bkr es.reverse)=znx (.mk k N ls ks) es from rfl]at hr
 simp only[hl]at hr he;have hf:=fun (o o':AO) r J (ho:LtO (A.length+(X.length+1)) o')=>zp0 (A:=A) (X:=X) (J:=J) (o:=o) (o':=o') (r:=r) ho
 have hb:=fun c1 c2 c3 c4=>back_ok (A.length+(X.length+3)) ver (A++(.box [.sl (De.css env),.int .i64 n,.int .i64 e]::(X++[.lst 0 3 [],.lst 0 4 [],.lst ver 4 (Te.css es),.box [.ptr A.length 0,c1,c2,c3,c4,.ol (A.length+(X.length+3)) ver],.box [.ptr (A.length+(X.length+4)) 0]]))) (by simp)
 rcases hq:znx (.mk k N ls ks) es with⟨k2,N2,ls2,ks2⟩;simp only[hq,ze5,z5f,Te.cs,zgo,List.cons_append,List.nil_append,List.append_nil,List.append_assoc,Nat.add_assoc,Nat.reduceAdd]at hr he;rw[Lh,zan,zab,hdH];have hc:=fun (h:0<=N) (hu:zwq env N ls=none)=>yeu env n 0 A (X++[.lst 0 3 [],.lst 0 4 []]) [.box [.ptr (A.length+(X.length+4)) 0]] ver es N h ls ks hu
 have hm:=lamN_ok env n 0 A (X++[.lst 0 3 [],.lst 0 4 []]) [.box [.ptr (A.length+(X.length+4)) 0]] ver 5 N ls ks;simp only[List.append_assoc,List.cons_append,List.nil_append,List.length_append,List.length_cons,List.length_nil,Nat.add_assoc,Nat.reduceAdd]at hc hm;rcases hst with h|⟨rfl,h|⟨rfl,h2,h3⟩|⟨rfl,rfl⟩⟩
 ·simp only[↓reduceIte,go_sem,Te.cs,h,hb,z9y,hr,he,hf,zoz,Nat.add_le_add_iff_left,Nat.reduceLeDiff,List.nodup_cons,List.not_mem_nil,not_false_eq_true,List.nodup_nil,and_self]
 ·simp only[↓reduceIte,go_sem,Te.cs,zfc,z8i k h,hb,z9y,hr,he,hf,zoz,Nat.add_le_add_iff_left,Nat.reduceLeDiff,List.nodup_cons,List.not_mem_nil,not_false_eq_true,List.nodup_nil,and_self]
 ·have hc:=hc h2 h3
  simp only[↓reduceIte,go_sem,Te.cs,zfc,z4p,hc,hb,z9y,hr,he,hf,zoz,Nat.add_le_add_iff_left,Nat.reduceLeDiff,List.nodup_cons,List.not_mem_nil,not_false_eq_true,List.nodup_nil,and_self]
 ·simp only[↓reduceIte,go_sem,Te.cs,zfc,z4o,hm,hb,z9y,hr,he,hf,zoz,Nat.add_le_add_iff_left,Nat.reduceLeDiff,List.nodup_cons,List.not_mem_nil,not_false_eq_true,List.nodup_nil,and_self]
variable (A X : List AO) (env : List De) (n0 e0 : Int)
theorem yfv(n:Nat)(hn:n+1<=1000000)(ver:Nat)(es:List Te)(N:Int)(ls:List Lv)(s v b:Te)(hb:b.ok)(hv:v.ok)(r:Te)(e:Int)(ho:zlw b v=(r,e)):
  Lh A X env n0 e0 (n+1:Nat) 0 ver es (.mk 7 N ls [s,v,b])=Lh A X env n0 e0 n e ver es r:=by
 have h:=let_ok env n hn A (X++[.lst 0 3 [],.lst 0 4 []]) [.box [.ptr (A.length+(X.length+4)) 0]] ver es N ls s v b s hb hv r e ho;simp only[List.append_assoc,List.cons_append,List.nil_append,List.length_append,List.length_cons,List.length_nil,Nat.add_assoc,Nat.reduceAdd]at h;rcases r with⟨k',n',ls',ks'⟩;simp only[Te.cs,List.cons_append,List.nil_append]at h
 conv=>lhs;rw[Lh,zan,zab,hdH]
 simp only[↓reduceIte,go_sem,Te.cs,zfc,ya9,h,Lh,hdH]
theorem Lh_let0(ver:Nat)(es:List Te)(N:Int)(ls:List Lv)(ks:List Te):
  Lh A X env n0 e0 0 0 ver es (.mk 7 N ls ks)=Lh A X env n0 e0 0 40 ver es (.mk 7 N ls ks):=by
 have h:=let0_ok env A (X++[.lst 0 3 [],.lst 0 4 []]) [.box [.ptr (A.length+(X.length+4)) 0]] ver es N ls ks;simp only[List.append_assoc,List.cons_append,List.nil_append,List.length_append,List.length_cons,List.length_nil,Nat.add_assoc,Nat.reduceAdd]at h
 conv=>lhs;rw[Lh,zan,zab,hdH]
 simp only[↓reduceIte,go_sem,Te.cs,zfc,ya9,h,Lh,hdH]
theorem z05(hE:zty env)(n:Nat)(hn:n+1<=1000000)(ver:Nat)(es:List Te)(N:Int)(hN:0<=N)(ls:List Lv)(hls:zso ls)(hll:ls.length<=140737488355328)(ks:List Te)(d:De)(hu:zwq env N ls=some d)(r:Te)(e:Int)(hs:zpk d.value ls []=(r,e)):
  Lh A X env n0 e0 (n+1:Nat) 0 ver es (.mk 3 N ls ks)=Lh A X env n0 e0 n e ver es r:=by
 have h:=yet env hE n hn A (X++[.lst 0 3 [],.lst 0 4 []]) [.box [.ptr (A.length+(X.length+4)) 0]] ver es N hN ls hls hll ks d hu r e hs;simp only[List.append_assoc,List.cons_append,List.nil_append,List.length_append,List.length_cons,List.length_nil,Nat.add_assoc,Nat.reduceAdd]at h;rcases r with⟨k',n',ls',ks'⟩;simp only[Te.cs,List.cons_append,List.nil_append]at h
 conv=>lhs;rw[Lh,zan,zab,hdH]
 simp only[↓reduceIte,go_sem,Te.cs,zfc,z4p,h,Lh,hdH]
theorem yfy(ver:Nat)(es:List Te)(N:Int)(hN:0<=N)(ls:List Lv)(ks:List Te)(d:De)(hu:zwq env N ls=some d):
  Lh A X env n0 e0 0 0 ver es (.mk 3 N ls ks)=Lh A X env n0 e0 0 40 ver es (.mk 3 N ls ks):=by
 have h:=yev env A (X++[.lst 0 3 [],.lst 0 4 []]) [.box [.ptr (A.length+(X.length+4)) 0]] ver es N hN ls ks d hu;simp only[List.append_assoc,List.cons_append,List.nil_append,List.length_append,List.length_cons,List.length_nil,Nat.add_assoc,Nat.reduceAdd]at h
 conv=>lhs;rw[Lh,zan,zab,hdH]
 simp only[↓reduceIte,go_sem,Te.cs,zfc,z4p,h,Lh,hdH]
theorem yfw(n:Nat)(hn:n+1<=1000000)(ver:Nat)(es:List Te)(hes:es.length<=1073741824)(a:Te)(ha:a.ok)(N:Int)(ls:List Lv)(s b:Te)(hb:b.ok)(r:Te)(e:Int)(ho:zlw b a=(r,e)):
  Lh A X env n0 e0 (n+1:Nat) 0 ver (es++[a]) (.mk 5 N ls [s,b])=Lh A X env n0 e0 n e (ver+1) es r:=by
 have h:=lam_ok env n hn A (X++[.lst 0 3 [],.lst 0 4 []]) [.box [.ptr (A.length+(X.length+4)) 0]] ver es hes a ha 5 N ls s b hb r e ho;simp only[List.append_assoc,List.cons_append,List.nil_append,List.length_append,List.length_cons,List.length_nil,Nat.add_assoc,Nat.reduceAdd]at h;rcases r with⟨k',n',ls',ks'⟩;simp only[Te.cs,List.cons_append,List.nil_append]at h
 conv=>lhs;rw[Lh,zan,zab,hdH]
 simp only[↓reduceIte,go_sem,Te.cs,zfc,z4o,h,Lh,hdH]
theorem Lh_lam0(ver:Nat)(es:List Te)(hes:es.length<=1073741824)(a:Te)(N:Int)(ls:List Lv)(ks:List Te):
  Lh A X env n0 e0 0 0 ver (es++[a]) (.mk 5 N ls ks)=Lh A X env n0 e0 0 40 (ver+1) es (.mk 5 N ls ks):=by
 have h:=lam0_ok env A (X++[.lst 0 3 [],.lst 0 4 []]) [.box [.ptr (A.length+(X.length+4)) 0]] ver es hes a 5 N ls ks;simp only[List.append_assoc,List.cons_append,List.nil_append,List.length_append,List.length_cons,List.length_nil,Nat.add_assoc,Nat.reduceAdd]at h
 conv=>lhs;rw[Lh,zan,zab,hdH]
 simp only[↓reduceIte,go_sem,Te.cs,zfc,z4o,h,Lh,hdH]
theorem ztv(n:Int)(ver:Nat)(es:List Te)(hes:es.length<1073741824)(N:Int)(ls:List Lv)(f a:Te):
  Lh A X env n0 e0 n 0 ver es (.mk 4 N ls [f,a])=Lh A X env n0 e0 n 0 (ver+1) (es++[a]) f:=by
 have h:=ygu env n 0 A (X++[.lst 0 3 [],.lst 0 4 []]) [.box [.ptr (A.length+(X.length+4)) 0]] ver es hes 4 N ls f a;simp only[List.append_assoc,List.cons_append,List.nil_append,List.length_append,List.length_cons,List.length_nil,Nat.add_assoc,Nat.reduceAdd]at h;rcases f with⟨k',n',ls',ks'⟩;simp only[Te.cs,List.cons_append,List.nil_append]at h
 conv=>lhs;rw[Lh,zan,zab,hdH]
 simp only[↓reduceIte,go_sem,Te.cs,zfc,steps_4,h,Lh,hdH]
end Go.Ab
end
section
set_option linter.unusedVariables false
set_option linter.unusedSimpArgs false
set_option maxRecDepth 100000
set_option maxHeartbeats 2000000
namespace Go.Ab
open Go.RowKit Go.Proofs
def sz(t:Te):Nat:=(subs t).length
theorem zyr{t:Te}(h:zcc t=true):sz t<=600:=by
 have:parts t 601<=600:=by unfold zcc zc6 at h;simp at h;exact h.1
 have:=subs_parts t 601 (by omega)
 unfold sz;omega
theorem zus{b v r:Te}(h:zlw b v=(r,0)):zcc b=true/\zcc v=true/\r=openT v b 0/\zcc r=true:=by
 unfold zlw at h
 split at h
 ·simp at h
 ·rename_i hh
  simp only[not_or,Bool.not_eq_false]at hh;unfold zuw at h
  split at h
  ·rename_i hs
   simp only[Prod.mk.injEq,and_true]at h;subst h;exact⟨hh.1,hh.2,rfl,hs⟩
  ·simp at h
mutual
theorem subs_subT(ps ms:List Lv):∀t:Te,(subs (subT ps ms t)).length=(subs t).length
 |.mk k n ls ks=>by rw[subT,subs,subs,List.length_cons,List.length_cons,subss_subT ps ms ks]
theorem subss_subT(ps ms:List Lv):∀ks:List Te,(subss (subTs ps ms ks)).length=(subss ks).length
 |[]=>rfl
 |x::r=>by rw[subTs,subss,subss,List.length_append,List.length_append,subs_subT ps ms x,subss_subT ps ms r]
end
theorem z03{t r:Te}{ps ms:List Lv}(h:zpk t ps ms=(r,0)):zcc t=true/\r=subT ps ms t/\okTm ps ms t=true:=by
 unfold zpk at h
 split at h
 ·simp at h
 ·rename_i hh
  simp only[not_or,Bool.not_eq_false]at hh
  split at h
  ·rename_i hs
   simp only[Prod.mk.injEq,and_true]at h;exact⟨hh.1,h.symm,hs⟩
  ·simp at h
theorem zp4{b v r:Te}(h:zlw b v=(r,0)):sz r<=600:=zyr (zus h).2.2.2
theorem z02{t r:Te}{ps ms:List Lv}(h:zpk t ps ms=(r,0)):sz r<=600:=by
 obtain⟨h1,rfl,_⟩:=z03 h;have:=zyr h1;unfold sz at *;rw[subs_subT];exact this
theorem zqg(N:Int)(ls:List Lv)(f a:Te):sz (.mk 4 N ls [f,a])=sz f+sz a+1:=by
 simp[sz,subs,subss]
theorem Hd.sz{env:List De}{n:Nat}{t t':Te}{n':Nat}(h:Hd env n t t' n'):sz t' + 600*n' <= sz t+600*n:=by
 induction h with
 |stuck=>exact Nat.le_refl _
 |lett ho _ ih=>have:=zp4 ho;omega
 |const _ _ hs _ ih=>have:=z02 hs;omega
 |app _ _ ih=>rw[zqg,zqg];omega
 |beta h1 ho _ ih1 ih2=>have:=zp4 ho;have:=h1.le;rw[zqg];omega
variable (A X : List AO) (env : List De) (n0 e0 : Int)
theorem z7m(hE:zty env){n:Nat}{t t':Te}{n':Nat}(h:Hd env n t t' n'):t.ok->n<=1000000->∀(ver:Nat) (es:List Te),es.length+sz t+600*n<=1073741823->∃ver',ver<=ver' /\ Lh A X env n0 e0 n 0 ver es t=Lh A X env n0 e0 n' 0 ver' es t':=by
 induction h with
 |stuck=>exact fun _ _ ver es _=>⟨ver,Nat.le_refl _,rfl⟩
 |@lett n N ls s v b r t' n' ho hd ih=>
  intro ht hn ver es hs;have hb:=ht.all b (by simp)
  have hv:=ht.all v (by simp)
  have hz:=zp4 ho;obtain⟨w,h1,h2⟩:=ih (ze8 ho hb hv) (by omega) ver es (by omega)
  exact⟨w,h1,by rw[yfv A X env n0 e0 n hn ver es N ls s v b hb hv r 0 ho,h2]⟩
 |@const n N ls ks d r t' n' hN hu hs hd ih=>
  intro ht hn ver es hz;have hz:=z02 hs;obtain⟨w,h1,h2⟩:=ih (zp1 hE ht hu hs) (by omega) ver es (by omega)
  exact⟨w,h1,by rw[z05 A X env n0 e0 hE n hn ver es N hN ls ht.all2 ht.len2 ks d hu r 0 hs,h2]⟩
 |@app n N ls f a f' n' hd hk ih=>
  intro ht hn ver es hs;rw[zqg]at hs;obtain⟨w,h1,h2⟩:=ih (ht.all f (by simp)) hn (ver+1) (es++[a]) (by simp;omega)
  obtain⟨w,rfl⟩:∃u,w=u+1:=⟨w - 1,by omega⟩
  exact⟨w,by omega,by rw[ztv A X env n0 e0 n ver es (by omega) N ls f a,h2,ztv A X env n0 e0 n' w es (by omega) 0 [] f' a]⟩
 |@beta n N ls f a N2 ls2 s b m r t' n' hd ho hd2 ih1 ih2=>
  intro ht hn ver es hs;rw[zqg]at hs;have hf:=ht.all f (by simp)
  have ha:=ht.all a (by simp)
  have hl:=hd.ok hE hf;have hle:=hd.le;have hb:=hl.all b (by simp)
  have hz:=zp4 ho;obtain⟨w,h1,h2⟩:=ih1 hf hn (ver+1) (es++[a]) (by simp;omega)
  obtain⟨u,h3,h4⟩:=ih2 (ze8 ho hb ha) (by omega) (w+1) es (by omega)
  exact⟨u,by omega,by rw[ztv A X env n0 e0 n ver es (by omega) N ls f a,h2,yfw A X env n0 e0 m (by omega) w es (by omega) a ha N2 ls2 s b hb r 0 ho,h4]⟩
theorem nfP_ok{n:Nat}{t t':Te}{n':Nat}(h:Hd env n t t' n'):∀(m:Nat) (ver:Nat) (es:List Te),(t'.kind=5->es=[])->es.length+sz t' <= 1073741823->Lh A X env n0 e0 m 0 ver es t' = some (.ret (.agg (znx t' es).cs),A++(.box [.sl (De.css env),.int .i64 m,.int .i64 0]::X)):=by
 induction h with
 |@stuck n k N ls ks h4 h7 h3=>
  intro m ver es h5 hs;refine yfx A X env n0 e0 m 0 ver es (by omega) k N ls ks (.inr ⟨rfl,?_⟩)
  by_cases k3:k=3
  ·exact .inr (.inl ⟨k3,h3 k3⟩)
  ·by_cases k5:k=5
   ·exact .inr (.inr ⟨k5,h5 k5⟩)
   ·exact .inl ⟨h7,k3,k5,h4⟩
 |lett _ _ ih=>exact ih
 |const _ _ _ _ ih=>exact ih
 |@app n N ls f a f' n' hd hk ih=>
  intro m ver es _ hs;rw[zqg]at hs;rw[ztv A X env n0 e0 m ver es (by omega) 0 [] f' a,ih m (ver+1) (es++[a]) (fun h=>absurd h hk) (by simp;omega),z1z]
 |beta _ _ _ _ ih=>exact ih
theorem heP_ok(hE:zty env){n:Nat}{t:Te}{n':Nat}{e:Int}(h:He env n t n' e):t.ok->n<=1000000->∀(ver:Nat) (es:List Te),es.length+sz t+600*n<=1073741823 ->
  ∃x:Te,Lh A X env n0 e0 n 0 ver es t=some (.ret (.agg x.cs),A++(.box [.sl (De.css env),.int .i64 n',.int .i64 e]::X)):=by
 have fin:∀(m e:Int) (ver:Nat) (es:List Te) (x:Te),e≠0->es.length<=1073741824->∃y:Te,Lh A X env n0 e0 m e ver es x=some (.ret (.agg y.cs),A++(.box [.sl (De.css env),.int .i64 m,.int .i64 e]::X)):=by
  intro m e ver es x he hes;rcases x with⟨k,N,ls,ks⟩;exact⟨_,yfx A X env n0 e0 m e ver es hes k N ls ks (.inl he)⟩
 induction h with
 |@let0 N ls s v b=>
  intro ht hn ver es hs;have:=Lh_let0 A X env n0 e0 ver es N ls [s,v,b];rw[Int.natCast_zero,this];exact fin 0 40 ver es _ (by decide) (by omega)
 |@let2 n N ls s v b r e ho he=>
  intro ht hn ver es hs;rw[yfv A X env n0 e0 n hn ver es N ls s v b (ht.all b (by simp)) (ht.all v (by simp)) r e ho]
  exact fin n e ver es r he (by omega)
 |@letr n N ls s v b r n' e ho hd ih=>
  intro ht hn ver es hs;have hb:=ht.all b (by simp)
  have hv:=ht.all v (by simp)
  have hz:=zp4 ho;rw[yfv A X env n0 e0 n hn ver es N ls s v b hb hv r 0 ho];exact ih (ze8 ho hb hv) (by omega) ver es (by omega)
 |@const0 N ls ks d hN hu=>
  intro ht hn ver es hs;have:=yfy A X env n0 e0 ver es N hN ls ks d hu;rw[Int.natCast_zero,this];exact fin 0 40 ver es _ (by decide) (by omega)
 |@const2 n N ls ks d r e hN hu hs he=>
  intro ht hn ver es hz;rw[z05 A X env n0 e0 hE n hn ver es N hN ls ht.all2 ht.len2 ks d hu r e hs];exact fin n e ver es r he (by omega)
 |@constr n N ls ks d r n' e hN hu hs hd ih=>
  intro ht hn ver es hz;have hz:=z02 hs;rw[z05 A X env n0 e0 hE n hn ver es N hN ls ht.all2 ht.len2 ks d hu r 0 hs];exact ih (zp1 hE ht hu hs) (by omega) ver es (by omega)
 |@appf n N ls f a n' e hd ih=>
  intro ht hn ver es hs;rw[zqg]at hs;rw[ztv A X env n0 e0 n ver es (by omega) N ls f a]
  exact ih (ht.all f (by simp)) hn (ver+1) (es++[a]) (by simp;omega)
 |@beta0 n N ls f a N2 ls2 s b hd=>
  intro ht hn ver es hs;rw[zqg]at hs;obtain⟨w,h1,h2⟩:=z7m A X env n0 e0 hE hd (ht.all f (by simp)) hn (ver+1) (es++[a]) (by simp;omega)
  rw[ztv A X env n0 e0 n ver es (by omega) N ls f a,h2,Int.natCast_zero,Lh_lam0 A X env n0 e0 w es (by omega) a N2 ls2 [s,b]]
  exact fin 0 40 _ es _ (by decide) (by omega)
 |@beta2 n N ls f a N2 ls2 s b m r e hd ho he=>
  intro ht hn ver es hs;rw[zqg]at hs;have hf:=ht.all f (by simp)
  have ha:=ht.all a (by simp)
  have hl:=hd.ok hE hf;have hle:=hd.le;have hb:=hl.all b (by simp)
  obtain⟨w,h1,h2⟩:=z7m A X env n0 e0 hE hd hf hn (ver+1) (es++[a]) (by simp;omega)
  rw[ztv A X env n0 e0 n ver es (by omega) N ls f a,h2,yfw A X env n0 e0 m (by omega) w es (by omega) a ha N2 ls2 s b hb r e ho]
  exact fin m e _ es r he (by omega)
 |@betar n N ls f a N2 ls2 s b m r n' e hd ho hd2 ih2=>
  intro ht hn ver es hs;rw[zqg]at hs;have hf:=ht.all f (by simp)
  have ha:=ht.all a (by simp)
  have hl:=hd.ok hE hf;have hle:=hd.le;have hb:=hl.all b (by simp)
  have hz:=zp4 ho;obtain⟨w,h1,h2⟩:=z7m A X env n0 e0 hE hd hf hn (ver+1) (es++[a]) (by simp;omega)
  rw[ztv A X env n0 e0 n ver es (by omega) N ls f a,h2,yfw A X env n0 e0 m (by omega) w es (by omega) a ha N2 ls2 s b hb r 0 ho]
  exact ih2 (ze8 ho hb ha) (by omega) (w+1) es (by omega)
theorem yjx(hE:zty env){n:Nat}{t t':Te}{n':Nat}(h:Hd env n t t' n')(ht:t.ok)(hs:sz t+600*n<=500000000):
  F zaw [.ptr A.length 0,.agg t.cs] (A++(.box [.sl (De.css env),.int .i64 n,.int .i64 0]::X))=some (.ret (.agg t'.cs),A++(.box [.sl (De.css env),.int .i64 n',.int .i64 0]::X)):=by
 obtain⟨w,_,h2⟩:=z7m A X env n 0 hE h ht (by omega) 0 [] (by simp;omega)
 have:=h.sz;rw[z6k,h2,nfP_ok A X env n 0 h n' w [] (fun _=>rfl) (by simp;omega),z4x]
theorem yjy(hE:zty env){n:Nat}{t:Te}{n':Nat}{e:Int}(h:He env n t n' e)(ht:t.ok)(hs:sz t+600*n<=500000000):
  ∃x:Te,F zaw [.ptr A.length 0,.agg t.cs] (A++(.box [.sl (De.css env),.int .i64 n,.int .i64 0]::X))=some (.ret (.agg x.cs),A++(.box [.sl (De.css env),.int .i64 n',.int .i64 e]::X)):=by
 rw[z6k];exact heP_ok A X env n 0 hE h ht (by omega) 0 [] (by simp;omega)
theorem yab(R:List AV)(hR:∀a∈R,Lt (A.length+(X.length+1)) a)(hE:zty env){n:Nat}{t t':Te}{n':Nat}(h:Hd env n t t' n')(ht:t.ok)(hn:n<=1000000):
  F zav [.ptr A.length 0,.agg t.cs] (A++(.box (.sl (De.css env) :: .int .i64 n :: .int .i64 0::R)::X))=some (.ret (.agg t'.cs),A++(.box (.sl (De.css env) :: .int .i64 n' :: .int .i64 0::R)::X)):=by
 rw[zkl];exact zru env hE h ht hn A X R hR n 0
theorem yac(R:List AV)(hR:∀a∈R,Lt (A.length+(X.length+1)) a)(hE:zty env){n:Nat}{t:Te}{n':Nat}{e:Int}(h:He env n t n' e)(ht:t.ok)(hn:n<=1000000):
  ∃x:Te,F zav [.ptr A.length 0,.agg t.cs] (A++(.box (.sl (De.css env) :: .int .i64 n :: .int .i64 0::R)::X))=some (.ret (.agg x.cs),A++(.box (.sl (De.css env) :: .int .i64 n' :: .int .i64 e::R)::X)):=by
 obtain⟨x,_,h⟩:=ydu env hE h ht hn A X R hR n 0;exact⟨x,by rw[zkl];exact h⟩
mutual
def wfT:Te->Bool
 |.mk k n ls ks=>decide ((ks.length:Int)=zfs k) && (decide (k≠3) || decide (0<=n)) && wfTs ks
def wfTs:List Te->Bool
 |[]=>true
 |x::r=>wfT x && wfTs r
end
mutual
theorem right_wf{p m:Int}:∀{t:Te} {v d:Int},rightT p m t v d=true->wfT t=true
 |.mk k n ls ks,v,d,h=>by
  have hi:=zf2 h;obtain⟨h1,h2,h3,h4,h5⟩:=hi;rw[wfT];have:=right_wfs h5;simp only[this,Bool.and_true,Bool.and_eq_true,decide_eq_true_eq,Bool.or_eq_true];refine⟨h2,?_⟩;by_cases k3:k=3
  ·right
   subst k3;unfold zl1 at h4;simp at h4;exact h4.1.1
  ·exact .inl k3
theorem right_wfs{p m k:Int}:∀{ks:List Te} {i v d:Int},rightTs p m k ks i v d=true->wfTs ks=true
 |[],_,_,_,_=>rfl
 |x::r,i,v,d,h=>by
  rw[rightTs]at h;simp at h;rw[wfTs,right_wf h.1,right_wfs h.2];rfl
end
theorem zyq{t:Te}(h:zcc t=true):wfT t=true:=right_wf (zfo h)
mutual
theorem sub_wf(ps ms:List Lv):∀t:Te,wfT (subT ps ms t)=wfT t
 |.mk k n ls ks=>by
  rw[subT,wfT,wfT,subs_wf ps ms ks,zt8,List.length_map]
theorem subs_wf(ps ms:List Lv):∀ks:List Te,wfTs (subTs ps ms ks)=wfTs ks
 |[]=>rfl
 |x::r=>by rw[subTs,wfTs,wfTs,sub_wf ps ms x,subs_wf ps ms r]
end
theorem z8d{t r:Te}{ps ms:List Lv}(h:zpk t ps ms=(r,0)):wfT r=true:=by
 obtain⟨h1,rfl,_⟩:=z03 h;rw[sub_wf];exact zyq h1
theorem zur{b v r:Te}(h:zlw b v=(r,0)):wfT r=true:=zyq (zus h).2.2.2
theorem zyn{ks:List Te}(h:(ks.length:Int)=2):∃a b,ks=[a,b]:=by
 match ks,h with
 |[a,b],_=>exact⟨a,b,rfl⟩
 |[],h=>simp at h
 |[_],h=>simp at h
 |_::_::_::_,h=>simp at h;omega
theorem z8g{ks:List Te}(h:(ks.length:Int)=3):∃a b c,ks=[a,b,c]:=by
 match ks,h with
 |[a,b,c],_=>exact⟨a,b,c,rfl⟩
 |[],h=>simp at h
 |[_],h=>simp at h
 |[_,_],h=>simp at h
 |_::_::_::_::_,h=>simp at h;omega
theorem zxw(env:List De):∀(n:Nat) (t:Te),wfT t=true->(∃t' n',Hd env n t t' n' /\ wfT t' = true)\/∃n' e,He env n t n' e:=by
 intro n
 induction n using Nat.strongRecOn with
 |ind n ihn=>
 intro t
 induction t using Te.ind with
 |h k N ls ks iht=>
 intro hw;have hw0:=hw;rw[wfT]at hw;simp only[Bool.and_eq_true,decide_eq_true_eq,Bool.or_eq_true]at hw;obtain⟨⟨hk,hN⟩,hks⟩:=hw;by_cases k7:k=7
 ·subst k7
  obtain⟨s,v,b,rfl⟩:=z8g hk;rcases n with _|n
  ·exact .inr ⟨0,40,.let0⟩
  rcases ho:zlw b v with⟨r,e⟩;by_cases he:e=0
  ·subst he
   rcases ihn n (by omega) r (zur ho) with⟨t',n',h1,h2⟩|⟨n',e,h1⟩
   ·exact .inl ⟨t',n',.lett ho h1,h2⟩
   ·exact .inr ⟨n',e,.letr ho h1⟩
  ·exact .inr ⟨n,e,.let2 ho he⟩
 by_cases k4:k=4
 ·subst k4
  obtain⟨f,a,rfl⟩:=zyn hk;simp only[wfTs,Bool.and_eq_true]at hks;rcases iht f (by simp) hks.1 with⟨f',m,h1,h2⟩|⟨n',e,h1⟩
  ·rcases f' with⟨k2,N2,ls2,ks2⟩
   by_cases k5:k2=5
   ·subst k5
    have h3:=h2;rw[wfT]at h3;simp only[Bool.and_eq_true,decide_eq_true_eq]at h3;obtain⟨s,b,rfl⟩:=zyn h3.1.1;rcases m with _|m
    ·exact .inr ⟨0,40,.beta0 h1⟩
    have hle:=h1.le;rcases ho:zlw b a with⟨r,e⟩;by_cases he:e=0
    ·subst he
     rcases ihn m (by omega) r (zur ho) with⟨t',n',h4,h5⟩|⟨n',e,h4⟩
     ·exact .inl ⟨t',n',.beta h1 ho h4,h5⟩
     ·exact .inr ⟨n',e,.betar h1 ho h4⟩
    ·exact .inr ⟨m,e,.beta2 h1 ho he⟩
   ·refine .inl ⟨_,m,.app h1 k5,?_⟩
    rw[wfT];simp[wfTs,hks.2.1,h2,zfs]
  ·exact .inr ⟨n',e,.appf h1⟩
 by_cases k3:k=3
 ·subst k3
  have hN:0<=N:=by simpa using hN
  cases hu:zwq env N ls with
  |none=>exact .inl ⟨_,n,.stuck (by decide) (by decide) (fun _=>⟨hN,hu⟩),hw0⟩
  |some d=>
   rcases n with _|n
   ·exact .inr ⟨0,40,.const0 hN hu⟩
   rcases hs:zpk d.value ls [] with⟨r,e⟩;by_cases he:e=0
   ·subst he
    rcases ihn n (by omega) r (z8d hs) with⟨t',n',h1,h2⟩|⟨n',e,h1⟩
    ·exact .inl ⟨t',n',.const hN hu hs h1,h2⟩
    ·exact .inr ⟨n',e,.constr hN hu hs h1⟩
   ·exact .inr ⟨n,e,.const2 hN hu hs he⟩
 ·exact .inl ⟨_,n,.stuck k4 k7 (fun h=>absurd h k3),hw0⟩
end Go.Ab
end
section
set_option linter.unusedVariables false
set_option linter.unusedSimpArgs false
set_option maxRecDepth 100000
set_option maxHeartbeats 2000000
namespace Go.Ab
open Go.RowKit Go.Proofs
structure Gr where
 env:List De
 params:Int
 metas:Int
 cons:List Co
 mode:Int
def Gr.cs(g:Gr):List AV:=[.sl (De.css g.env),.int .i64 g.params,.int .i64 g.metas,.sl (Co.css g.cons),.int .i64 g.mode]
noncomputable def zgh(g:Gr)(s:Int×List Co)(a b:Lv):Bool×Int×List Co :=
 if s.1≠0 then (false,s)
 else if g.mode=2 then (if 100<=s.2.length then (false,2,s.2) else (true,0,s.2++[.mk a b]))
 else if (zdt g.cons g.params && zax a g.params 0 && zax b g.params 0)=true then (z1c g.cons g.params.toNat a b,s)
 else (false,1,s.2)
def zjt(A:List AO)(g:Gr)(n e:Int)(ver:Nat)(out:List Co)(X:List AO):List AO :=
 A++(.lst ver 6 (Co.css out) :: .box ([.sl (De.css g.env),.int .i64 n,.int .i64 e]++(g.cs++[.ol A.length ver]))::X)
def zhk(A:List AO)(g:Gr)(n e:Int)(ver:Nat)(out:List Co)(X:List AO):List AO :=
 A++(.box [.sl (De.css g.env),.int .i64 n,.int .i64 e] :: .lst 0 11 [] :: .lst 0 6 [] :: .lst ver 6 (Co.css out) :: .box (.ptr A.length 0::(g.cs++[.ol (A.length+3) ver]))::X)
theorem yjr(g:Gr)(f:Int)(H:List AO):F zor [.agg g.cs,.int .i64 f] H=some (.ret (.ptr (H.length+4) 0),zjt (H++[.lst 0 11 [],.lst 0 11 [],.lst 0 6 []]) g f 0 0 [] []):=by
 have e:Co.css []=[]:=rfl;rw[z5u];simp only[↓reduceIte,go_sem,Gr.cs,zjt,e,List.append_assoc,List.cons_append,List.nil_append,List.length_append,List.length_cons,List.length_nil]
theorem NewP_ok(g:Gr)(f:Int)(H:List AO):F zr3 [.agg g.cs,.int .i64 f] H=some (.ret (.ptr (H.length+4) 0),zhk H g f 0 0 [] []):=by
 have e:Co.css []=[]:=rfl;rw[z9h];simp only[↓reduceIte,go_sem,Gr.cs,zhk,e,List.append_assoc,List.cons_append,List.nil_append,List.length_append,List.length_cons,List.length_nil]
theorem gr_lt(N:Nat)(g:Gr):∀a∈g.cs,Lt N a:=by
 intro a ha;simp[Gr.cs]at ha;rcases ha with rfl|rfl|rfl|rfl|rfl
 ·exact .sl (z0o N g.env)
 ·exact .int _ _
 ·exact .int _ _
 ·exact .sl (zr5 N g.cons)
 ·exact .int _ _
theorem zq3(A X:List AO)(g:Gr)(ver:Nat)(out:List Co):∀a∈g.cs++[.ol A.length ver],Lt ((A++[AO.lst ver 6 (Co.css out)]).length+(X.length+1)) a:=by
 intro a ha;rcases List.mem_append.1 ha with h|h
 ·exact gr_lt _ g a h
 ·simp at h;subst h;exact .ol (by simp;omega)
theorem zf8(A X:List AO)(g:Gr)(n e:Int)(ver:Nat)(out:List Co):zjt A g n e ver out X=(A++[.lst ver 6 (Co.css out)])++(.box (.sl (De.css g.env) :: .int .i64 n :: .int .i64 e::(g.cs++[.ol A.length ver]))::X):=by
 simp[zjt]
theorem z4d(g:Gr)(e:Int)(A X:List AO)(n:Int)(ver:Nat)(out:List Co):F zbv [.ptr (A.length+1) 0,.int .i64 e] (zjt A g n 0 ver out X)=some (.ret (.tup []),zjt A g n e ver out X):=by
 have h:=z4e g.env n e (A++[.lst ver 6 (Co.css out)]) X (g.cs++[.ol A.length ver]) (zq3 A X g ver out);have hl:(A++[AO.lst ver 6 (Co.css out)]).length=A.length+1:=by simp
 rw[<- zf8,<- zf8,hl]at h;exact h
theorem app_two{A Z:List AO}{o1 o1' o2 o2':AO}{n:Nat}(h1:LtO n o1')(h2:LtO n o2'):∀(id:Nat) (o:AO),(A++(o1' :: o2' :: Z))[id]?=some o->(A++(o1::o2::Z))[id]?=some o\/LtO n o:=by
 intro id o ho;by_cases hi:id<A.length
 ·rw[List.getElem?_append_left hi]at ho ⊢;exact .inl ho
 rw[List.getElem?_append_right (by omega)]at ho ⊢
 match hj:id - A.length,ho with
 |0,ho=>simp at ho;subst ho;exact .inr h1
 |1,ho=>simp at ho;subst ho;exact .inr h2
 |j+2,ho=>exact .inl ho
theorem z7x(n ver:Nat)(out:List Co):LtO n (.lst ver 6 (Co.css out)):=zr5 n out
theorem z7v(A X:List AO)(g:Gr)(n e:Int)(ver:Nat)(out:List Co)(n' e':Int)(ver':Nat)(out':List Co)(r:Res)(hr:LtR (zjt A g n e ver out X).length r):ze6 (zjt A g n e ver out X) r (zjt A g n' e' ver' out' X)=some (r,zjt A g n' e' ver' out' X):=by
 refine zpz (by simp[zjt]) hr ?_
 unfold zjt;refine app_two (z7x _ _ _) fun a ha=>?_
 rcases List.mem_append.1 ha with h|h
 ·simp at h
  rcases h with rfl|rfl|rfl
  ·exact .sl (z0o _ g.env)
  ·exact .int _ _
  ·exact .int _ _
 ·rcases List.mem_append.1 h with h|h
  ·exact gr_lt _ g a h
  ·simp at h;subst h;exact .ol (by simp)
theorem zeq(A X:List AO)(g:Gr)(n e:Int)(ver:Nat)(out:List Co)(n' e':Int)(ver':Nat)(out':List Co)(b:Bool):ze6 (zjt A g n e ver out X) (.ret (.bool b)) (zjt A g n' e' ver' out' X)=some (.ret (.bool b),zjt A g n' e' ver' out' X) :=
 z7v A X g n e ver out n' e' ver' out' _ (.bool b)
theorem z06(g:Gr)(hcons:∀c∈g.cons,c.ok)(hl:g.cons.length<=1000)(hmode:g.mode=1\/g.mode=2)(a b:Lv)(ha:a.ok)(hb:b.ok)(A X:List AO)(n e:Int)(ver:Nat)(out:List Co)(ho:out.length<=100):
  ∃ver',F zcu [.ptr (A.length+1) 0,.agg a.cs,.agg b.cs] (zjt A g n e ver out X)=some (.ret (.bool (zgh g (e,out) a b).1),zjt A g n (zgh g (e,out) a b).2.1 ver' (zgh g (e,out) a b).2.2 X):=by
 rw[zqz];by_cases h1:e=0
 ·subst h1
  rcases hmode with h2|h2
  ·have hm:¬ g.mode=2:=by omega
   by_cases h3:(zdt g.cons g.params && zax a g.params 0 && zax b g.params 0)=true
   ·have e1:zgh g (0,out) a b=(z1c g.cons g.params.toNat a b,0,out):=by
     unfold zgh;rw[if_neg (by simp),if_neg hm,if_pos h3]
    simp only[Bool.and_eq_true]at h3;have hp:g.params=(g.params.toNat:Int):=by
     have:=h3.1.1;simp only[zdt,Bool.and_eq_true,decide_eq_true_eq]at this;omega
    obtain⟨vs,hL⟩:=yjv g.cons hcons g.params.toNat a b ha hb (by rw[<- hp];exact h3.1.1) (by rw[<- hp];exact h3.1.2) (by rw[<- hp];exact h3.2) (zjt A g n 0 ver out X)
    rw[<- hp]at hL;rw[e1];refine⟨ver,?_⟩;have hfin:=fun b=>zeq A X g n 0 ver out n 0 ver out b
    simp only[zjt,Gr.cs,List.cons_append,List.nil_append,h2]at hL hfin;simp only[↓reduceIte,go_sem,zjt,Gr.cs,h2,hL,show ¬ (1:Int)=2 by omega]
    cases z1c g.cons g.params.toNat a b
    ·simp
    ·simp
   ·have e1:zgh g (0,out) a b=(false,1,out):=by
     unfold zgh;rw[if_neg (by simp),if_neg hm,if_neg h3]
    have hL:=yjw g.cons hcons (by omega) g.params a b ha hb (by simpa using h3) (zjt A g n 0 ver out X)
    have hF:=z4d g 1 A X n ver out;have hfin:=zeq A X g n 0 ver out n 1 ver out false;rw[e1];refine⟨ver,?_⟩;simp only[zjt,Gr.cs,List.cons_append,List.nil_append,h2]at hL hfin hF;simp only[↓reduceIte,go_sem,zjt,Gr.cs,h2,hL,hF,show ¬ (1:Int)=2 by omega]
    exact hfin
  ·have e1:zgh g (0,out) a b=if 100<=out.length then (false,2,out) else (true,0,out++[.mk a b]):=by
    unfold zgh;rw[if_neg (by simp),if_pos h2]
   rw[e1];by_cases h3:100<=out.length
   ·simp only[if_pos h3]
    have hF:=z4d g 2 A X n ver out;simp only[zjt,Gr.cs,List.cons_append,List.nil_append,h2]at hF;refine⟨ver,?_⟩;simp only[↓reduceIte,go_sem,zjt,Gr.cs,h2,show (100:Int)<=out.length by omega,hF]
    have hfin:=zeq A X g n 0 ver out n 2 ver out false;simp only[zjt,Gr.cs,List.cons_append,List.nil_append,h2]at hfin;exact hfin
   ·simp only[if_neg h3]
    rcases a with⟨k1,n1,ks1⟩;rcases b with⟨k2,n2,ks2⟩;have hcs:Co.css out++[[.int .i64 k1,.int .i64 n1,.sl (Lv.css ks1),.int .i64 k2,.int .i64 n2,.sl (Lv.css ks2)]]=Co.css (out++[.mk (.mk k1 n1 ks1) (.mk k2 n2 ks2)]):=by simp[Co.css,Co.cs,Co.a,Co.b,Lv.cs]
    refine⟨ver+1,?_⟩;simp only[↓reduceIte,go_sem,zjt,Gr.cs,Lv.cs,h2,show ¬ (100:Int)<=out.length by omega,show out.length<=1073741823 by omega,hcs]
    have hfin:=zeq A X g n 0 ver out n 0 (ver+1) (out++[.mk (.mk k1 n1 ks1) (.mk k2 n2 ks2)]) true;simp only[zjt,Gr.cs,List.cons_append,List.nil_append,h2]at hfin;exact hfin
 ·have e1:zgh g (e,out) a b=(false,e,out):=by unfold zgh;rw[if_pos h1]
  rw[e1];refine⟨ver,?_⟩;simp only[↓reduceIte,go_sem,zjt,Gr.cs,h1]
theorem yi8{A Z:List AO}{o1 o1' o4 o4' o5 o5' b2 b3:AO}{n:Nat}(h1:LtO n o1')(h4:LtO n o4')(h5:LtO n o5'):∀(id:Nat) (o:AO),(A++(o1' :: b2::b3::o4' :: o5' :: Z))[id]?=some o->(A++(o1::b2::b3::o4::o5::Z))[id]?=some o\/LtO n o:=by
 intro id o ho;by_cases hi:id<A.length
 ·rw[List.getElem?_append_left hi]at ho ⊢;exact .inl ho
 rw[List.getElem?_append_right (by omega)]at ho ⊢
 match hj:id - A.length,ho with
 |0,ho=>simp at ho;subst ho;exact .inr h1
 |1,ho=>exact .inl ho
 |2,ho=>exact .inl ho
 |3,ho=>simp at ho;subst ho;exact .inr h4
 |4,ho=>simp at ho;subst ho;exact .inr h5
 |j+5,ho=>exact .inl ho
theorem z65(A X:List AO)(g:Gr)(n e:Int)(ver:Nat)(out:List Co)(n' e':Int)(ver':Nat)(out':List Co)(r:Res)(hr:LtR (zhk A g n e ver out X).length r):ze6 (zhk A g n e ver out X) r (zhk A g n' e' ver' out' X)=some (r,zhk A g n' e' ver' out' X):=by
 refine zpz (by simp[zhk]) hr ?_
 unfold zhk;refine yi8 (zoz _ _ _ _) (z7x _ _ _) fun a ha=>?_
 rcases List.mem_cons.1 ha with rfl|h
 ·exact .ptr (by simp)
 ·rcases List.mem_append.1 h with h|h
  ·exact gr_lt _ g a h
  ·simp at h;subst h;exact .ol (by simp)
theorem zc5(A X:List AO)(g:Gr)(n e:Int)(ver:Nat)(out:List Co)(n' e':Int)(ver':Nat)(out':List Co)(b:Bool):ze6 (zhk A g n e ver out X) (.ret (.bool b)) (zhk A g n' e' ver' out' X)=some (.ret (.bool b),zhk A g n' e' ver' out' X) :=
 z65 A X g n e ver out n' e' ver' out' _ (.bool b)
theorem zwn(g:Gr)(hcons:∀c∈g.cons,c.ok)(hl:g.cons.length<=1000)(hmode:g.mode=1\/g.mode=2)(a b:Lv)(ha:a.ok)(hb:b.ok)(A X:List AO)(n e:Int)(ver:Nat)(out:List Co)(ho:out.length<=100):
  ∃ver',F zdf [.ptr (A.length+4) 0,.agg a.cs,.agg b.cs] (zhk A g n e ver out X)=some (.ret (.bool (zgh g (e,out) a b).1),zhk A g n (zgh g (e,out) a b).2.1 ver' (zgh g (e,out) a b).2.2 X):=by
 have hF:=fun e=>z07 g.env n e A (.lst 0 11 [] :: .lst 0 6 [] :: .lst ver 6 (Co.css out) :: .box (.ptr A.length 0::(g.cs++[.ol (A.length+3) ver]))::X)
 rw[zr1];by_cases h1:e=0
 ·subst h1
  rcases hmode with h2|h2
  ·have hm:¬ g.mode=2:=by omega
   by_cases h3:(zdt g.cons g.params && zax a g.params 0 && zax b g.params 0)=true
   ·have e1:zgh g (0,out) a b=(z1c g.cons g.params.toNat a b,0,out):=by
     unfold zgh;rw[if_neg (by simp),if_neg hm,if_pos h3]
    simp only[Bool.and_eq_true]at h3;have hp:g.params=(g.params.toNat:Int):=by
     have:=h3.1.1;simp only[zdt,Bool.and_eq_true,decide_eq_true_eq]at this;omega
    obtain⟨vs,hL⟩:=LeqP_ok g.cons hcons g.params.toNat a b ha hb (by rw[<- hp];exact h3.1.1) (by rw[<- hp];exact h3.1.2) (by rw[<- hp];exact h3.2) (zhk A g n 0 ver out X)
    rw[<- hp]at hL;rw[e1];refine⟨ver,?_⟩;have hfin:=fun b=>zc5 A X g n 0 ver out n 0 ver out b
    simp only[zhk,Gr.cs,List.cons_append,List.nil_append,h2]at hL hfin;simp only[↓reduceIte,go_sem,zhk,Gr.cs,h2,hL,hfin,show ¬ (1:Int)=2 by omega]
   ·have e1:zgh g (0,out) a b=(false,1,out):=by
     unfold zgh;rw[if_neg (by simp),if_neg hm,if_neg h3]
    have hL:=LeqP_er g.cons hcons (by omega) g.params a b ha hb (by simpa using h3) (zhk A g n 0 ver out X)
    have hfin:=zc5 A X g n 0 ver out n 1 ver out false;rw[e1];refine⟨ver,?_⟩;simp only[zhk,Gr.cs,List.cons_append,List.nil_append,h2]at hL hfin hF;simp only[↓reduceIte,go_sem,zhk,Gr.cs,h2,hL,hF,hfin,show ¬ (1:Int)=2 by omega]
  ·have e1:zgh g (0,out) a b=if 100<=out.length then (false,2,out) else (true,0,out++[.mk a b]):=by
    unfold zgh;rw[if_neg (by simp),if_pos h2]
   rw[e1];by_cases h3:100<=out.length
   ·have h4:out.length=100:=by omega
    simp only[if_pos h3];have hfin:=zc5 A X g n 0 ver out n 2 ver out false;simp only[zhk,Gr.cs,List.cons_append,List.nil_append,h2]at hF hfin;refine⟨ver,?_⟩;simp only[↓reduceIte,go_sem,zhk,Gr.cs,h2,h4,hF,hfin,show ¬ (2:Int)=1 by omega]
   ·simp only[if_neg h3]
    rcases a with⟨k1,n1,ks1⟩;rcases b with⟨k2,n2,ks2⟩;have hcs:Co.css out++[[.int .i64 k1,.int .i64 n1,.sl (Lv.css ks1),.int .i64 k2,.int .i64 n2,.sl (Lv.css ks2)]]=Co.css (out++[.mk (.mk k1 n1 ks1) (.mk k2 n2 ks2)]):=by simp[Co.css,Co.cs,Co.a,Co.b,Lv.cs]
    have hfin:=zc5 A X g n 0 ver out n 0 (ver+1) (out++[.mk (.mk k1 n1 ks1) (.mk k2 n2 ks2)]) true;simp only[zhk,Gr.cs,List.cons_append,List.nil_append,h2]at hfin;refine⟨ver+1,?_⟩;simp only[↓reduceIte,go_sem,zhk,Gr.cs,Lv.cs,h2,show ¬ (out.length:Int)=100 by omega,show out.length<=1073741823 by omega,hcs,hfin,show ¬ (2:Int)=1 by omega]
 ·have e1:zgh g (e,out) a b=(false,e,out):=by unfold zgh;rw[if_pos h1]
  rw[e1];refine⟨ver,?_⟩;simp only[↓reduceIte,go_sem,zhk,Gr.cs,h1]
end Go.Ab
end
