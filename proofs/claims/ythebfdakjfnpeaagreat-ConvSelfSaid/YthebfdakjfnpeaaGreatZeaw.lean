/- What the law ConvSelf of layer 17 comes to, part 23. Conditions: none. -/
import Derived.Test.YthebfdakjfnpeaaGreatZeav
section
set_option linter.unusedVariables false
set_option linter.unusedSimpArgs false
set_option maxRecDepth 100000
set_option maxHeartbeats 2000000
namespace Go.Ab
open Go.RowKit Go.Proofs
theorem anyF_ok(xs:List (List AV))(hlen:xs.length<=140737488355328)(hsz:∀e∈xs,e.length=3)(f:AV)(p:List AV->Bool)(H:List AO)(hf:∀e∈xs,cfl T f [.agg e] H=some (.ret (.bool (p e)),H)):
  F zal [.sl xs,f] H=some (.ret (.bool (xs.any p)),H):=by
 have loop:∀(suf pre:List (List AV)),xs=pre++suf->∃r:Int,zb3 H H (.sl xs) f (.int .i64 xs.length) (.int .i64 pre.length)=some (.ret (.int .i64 r),H)/\decide (0<=r)=suf.any p:=by
  intro suf
  induction suf with
  |nil=>
   intro pre e;subst e;refine⟨-1,?_,rfl⟩;rw[zb3,zab];simp only[↓reduceIte,go_sem]
  |cons x suf ih=>
   intro pre e;subst e;obtain⟨r,h1,h2⟩:=ih (pre++[x]) (by simp)
   simp only[zah]at h1;have hx:=hsz x (by simp)
   have hfx:=hf x (by simp)
   simp at hlen
   cases hp:p x with
   |true=>
    refine⟨pre.length,?_,by simp[hp]⟩
    rw[zb3,zab];simp only[↓reduceIte,go_sem,hx,zmi hx,hfx,hp]
   |false=>
    refine⟨r,?_,by simp[hp,h2]⟩
    rw[zb3,zab];simp only[↓reduceIte,go_sem,hx,zmi hx,hfx,hp,zad (n:=pre.length) (by omega),h1]
 obtain⟨r,h1,h2⟩:=loop xs [] rfl;simp only[List.length_nil,Int.natCast_zero]at h1;rw[zk2];have:F zc4 [.sl xs,f] H=some (.ret (.int .i64 r),H):=by
  rw[zmr];simp only[↓reduceIte,go_sem,h1]
 simp only[↓reduceIte,go_sem,this,h2]
theorem zz3(ks:List Lv)(hlen:ks.length<=140737488355328)(f:AV)(p:Lv->Bool)(H:List AO)(hf:∀x∈ks,cfl T f [.agg x.cs] H=some (.ret (.bool (p x)),H)):
  F zal [.sl (Lv.css ks),f] H=some (.ret (.bool (ks.any p)),H):=by
 let q:List AV->Bool:=fun e=>match cfl T f [.agg e] H with
  |some (.ret (.bool b),_)=>b
  |_=>false
 have hq:∀x∈ks,q x.cs=p x:=fun x hx=>by simp only[q,hf x hx]
 have:=anyF_ok (Lv.css ks) (by rw[css_len];exact hlen) (fun e he=>by rw[Lv.css_eq]at he;obtain⟨x,_,rfl⟩:=List.mem_map.1 he;exact yc7 x) f q H (fun e he=>by
  rw[Lv.css_eq]at he;obtain⟨x,hx,rfl⟩:=List.mem_map.1 he;rw[hf x hx,hq x hx])
 rw[this,Lv.css_eq,List.any_map]
 congr 4
 have:∀l:List Lv,(∀x∈l,q x.cs=p x)->l.any (q ∘ Lv.cs)=l.any p:=by
  intro l
  induction l with
  |nil=>intro _;rfl
  |cons a l ih=>intro h;simp[h a (by simp),ih fun x hx=>h x (by simp[hx])]
 exact this ks hq
def zw3:List (AV×AV):=[(.int .i64 1,.agg [.int .i64 0,.fn (.func zhe) [] []]),(.int .i64 2,.agg [.int .i64 1,.fn (.func zhd) [] []]),(.int .i64 3,.agg [.int .i64 2,.fn (.func zhc) [] []]),
 (.int .i64 4,.agg [.int .i64 2,.fn (.func zhb) [] []]),(.int .i64 5,.agg [.int .i64 0,.fn (.func zha) [] []]),(.int .i64 6,.agg [.int .i64 0,.fn (.func zg9) [] []])]
theorem ztt(H:List AO):F zkw [] H=some (.ret (.fmap zw3),H):=by
 rw[zzk];simp only[↓reduceIte,go_sem,zlu,zgg,zw3]
theorem yaz(k n:Int)(ks:List Lv)(p m:Int)(H:List AO):F zkv [.agg [.int .i64 k,.int .i64 n,.sl (Lv.css ks)],.int .i64 p,.int .i64 m] H=some (.ret (.bool (if k=5 then decide (0<=n) && decide (n<p) else if k=6 then decide (0<=n) && decide (n<m) else decide (n=0))),H):=by
 rw[zzj];simp only[↓reduceIte,go_sem]
 repeat' split
 all_goals (simp_all;try omega)
def kindF(k:Int):FuncId:=if k=1 then zhe else if k=2 then zhd else if k=3 then zhc else if k=4 then zhb else if k=5 then zha else zg9
theorem zo9:zlu .i64 zw3=true:=rfl
theorem zr5(k:Int)(h:1<=k/\k<=6):zgg k zw3=some (some (.agg [.int .i64 (zgf k),.fn (.func (kindF k)) [] []])):=by
 have:k=1\/k=2\/k=3\/k=4\/k=5\/k=6:=by omega
 rcases this with rfl|rfl|rfl|rfl|rfl|rfl <;> rfl
theorem z71(k:Int)(h:¬ (1<=k/\k<=6)):zgg k zw3=some none:=by
 simp only[zgg,zw3]
 repeat' split
 all_goals first|omega|rfl
theorem yb5(k:Int)(h:¬ (1<=k/\k<=6)):zgf k = -1:=by
 unfold zgf;grind
theorem yad(p m:Int)(l:Lv):l.ok->∀(d:Int),-1000<=d/\d<=1000->∀(H:List AO),F zig [.agg l.cs,.int .i64 p,.int .i64 m,.int .i64 d] H=some (.ret (.bool (rightB p m l d)),H):=by
 induction l using Lv.ind with
 |h k n ks ih=>
 intro hl d hd H;have hlen:=hl.len;have hc:0<d->F zal [.sl (Lv.css ks),.fn (.func zg8) [] [.ptr H.length 0,.ptr (H.length+1) 0,.ptr (H.length+2) 0]] (H++[.box [.int .i64 p],.box [.int .i64 m],.box [.int .i64 d]])=some (.ret (.bool (ks.any fun x=>!rightB p m x (d - 1))),H++[.box [.int .i64 p],.box [.int .i64 m],.box [.int .i64 d]]):=by
  intro hd0;refine zz3 ks hlen _ _ _ fun x hx=>?_
  simp only[↓reduceIte,go_sem,zve,Lv.cs,zap (n:=d - 1) (by omega) (by omega),ih x hx (hl.all x hx) (d - 1) (by omega)]
 rw[zzh,rightB];by_cases hk:1<=k/\k<=6
 ·by_cases hd0:0<d
  ·by_cases hkl:(ks.length:Int)=zgf k
   ·have e:(ks.any fun x=>!rightB p m x (d - 1)) = !rightsB p m ks (d - 1):=by rw[zp7,List.not_all_eq_any_not]
    have e5:k=5\/k=6->ks=[]:=by
     intro h;apply List.eq_nil_of_length_eq_zero;rcases h with rfl|rfl <;> (simp[zgf]at hkl;simp[hkl])
    simp only[↓reduceIte,go_sem,Lv.cs,ztt,zo9,zr5 k hk,yaz,hc hd0,hd0,hkl,e];by_cases h5:k=5
    ·subst h5
     rw[e5 (.inl rfl)];simp[rightsB,show ¬ d<1 by omega]
     grind
    ·by_cases h6:k=6
     ·subst h6
      rw[e5 (.inr rfl)];simp[rightsB,show ¬ d<1 by omega]
      grind
     ·simp[h5,h6,show ¬ d<1 by omega]
      grind
   ·simp only[↓reduceIte,go_sem,Lv.cs,ztt,zo9,zr5 k hk,hd0,hkl]
    simp[hkl]
  ·simp only[↓reduceIte,go_sem,Lv.cs,ztt,zo9,zr5 k hk,hd0]
   simp[show d<1 by omega]
 ·simp only[↓reduceIte,go_sem,Lv.cs,ztt,zo9,z71 k hk]
  have:¬ (ks.length:Int)=zgf k:=by rw[yb5 k hk];omega
  simp[this]
theorem zgi(l:Lv)(hl:l.ok)(p m:Int)(H:List AO):F zdo [.agg l.cs,.int .i64 p,.int .i64 m] H=some (.ret (.bool (zax l p m)),H):=by
 rw[zzl,zax];simp only[↓reduceIte,go_sem,yax l hl 101 (by omega),yad p m l hl 12 (by omega)]
 grind
theorem yjm(a b:List Lv)(hlen:a.length<=140737488355328)(f:AV)(H:List AO)(hf:∀x∈a,∀y,cfl T f [.agg x.cs,.agg y.cs] H=some (.ret (.bool (lvEq x y)),H)):
  F zb7 [.sl (Lv.css a),.sl (Lv.css b),f] H=some (.ret (.bool (lvsEq a b)),H):=by
 have loop:a.length=b.length->∀(suf pre suf' pre':List Lv),a=pre++suf->b=pre' ++ suf' -> pre.length=pre'.length ->
   zc1 H H (.sl (Lv.css b)) f (.sl (Lv.css a)) (.int .i64 a.length) (.int .i64 pre.length)=some (.ret (.bool (lvsEq suf suf')),H):=by
  intro hll suf
  induction suf with
  |nil=>
   intro pre suf' pre' e e' he;subst e;subst e';have:suf' = []:=List.eq_nil_of_length_eq_zero (by simp at hll;omega)
   subst this;rw[zc1,zab];simp only[↓reduceIte,go_sem,lvsEq]
  |cons x suf ih2=>
   intro pre suf' pre' e e' he;subst e;subst e';simp at hlen
   cases suf' with
   |nil=>simp at hll;omega
   |cons y suf'=>
   have hy:(pre' ++ y::suf')[pre.length]?=some y:=by rw[he];simp
   have:=ih2 (pre++[x]) suf' (pre' ++ [y]) (by simp) (by simp) (by simp[he])
   simp only[zah]at this;rw[zc1,zab,lvsEq];simp only[↓reduceIte,go_sem,hy,hf x (by simp) y,zad (n:=pre.length) (by omega),this]
   cases lvEq x y <;> simp
 rw[zms];by_cases h3:a.length=b.length
 ·have:=loop h3 a [] b [] rfl rfl rfl
  simp only[List.length_nil,Int.natCast_zero]at this;have h3':(a.length:Int)=b.length:=by omega
  simp only[↓reduceIte,go_sem,h3',not_true_eq_false];rw[<- h3',this]
 ·have h3':¬ (a.length:Int)=(b.length:Int):=by omega
  simp only[↓reduceIte,go_sem,h3',zq0 h3]
theorem yfi(a:Lv):a.ok->∀(b:Lv) (H:List AO),F zgy [.agg a.cs,.agg b.cs] H=some (.ret (.bool (lvEq a b)),H):=by
 induction a using Lv.ind with
 |h k n ks ih=>
 intro hl b H;obtain⟨k',n',ks'⟩:=b;have:=yjm ks ks' hl.len (.fn (.func zgy) [] []) H (fun x hx y=>ih x hx (hl.all x hx) y H)
 rw[z12,lvEq];simp only[↓reduceIte,go_sem,Lv.cs,this]
 grind
end Go.Ab
end
section
set_option linter.unusedVariables false
set_option linter.unusedSimpArgs false
set_option maxRecDepth 100000
set_option maxHeartbeats 2000000
namespace Go.Ab
open Go.RowKit Go.Proofs
inductive Te where
 |mk (k n:Int) (ls:List Lv) (ks:List Te)
mutual
def Te.cs:Te->List AV
 |.mk k n ls ks=>[.int .i64 k,.int .i64 n,.sl (Lv.css ls),.sl (Te.css ks)]
def Te.css:List Te->List (List AV)
 |[]=>[]
 |l::r=>l.cs::Te.css r
end
theorem Te.css_eq:∀ks:List Te,Te.css ks=ks.map Te.cs
 |[]=>rfl
 |l::r=>by rw[Te.css,Te.css_eq r];rfl
theorem tm_sz{k n:Int}{ls:List Lv}{ks:List Te}{l:Te}(h:l∈ks):SizeOf.sizeOf l<SizeOf.sizeOf (Te.mk k n ls ks):=by
 have:=List.sizeOf_lt_of_mem h;simp;omega
theorem Te.ind{p:Te->Prop}(h:∀k n ls ks,(∀x∈ks,p x)->p (.mk k n ls ks)):∀l,p l
 |.mk k n ls ks=>h k n ls ks fun x hx=>Te.ind h x
termination_by l=>l
decreasing_by exact tm_sz hx
inductive Te.ok:Te->Prop
 |mk {k n:Int} {ls:List Lv} {ks:List Te} (hl:ks.length<=140737488355328) (hm:ls.length<=140737488355328) (hx:∀x∈ls,x.ok) (h:∀x∈ks,x.ok):Te.ok (.mk k n ls ks)
section
variable {k n : Int} {ls : List Lv} {ks : List Te} (h : (Te.mk k n ls ks).ok)
include h
theorem Te.ok.len:ks.length<=140737488355328:=by cases h;assumption
theorem Te.ok.len2:ls.length<=140737488355328:=by cases h;assumption
theorem Te.ok.all:∀x∈ks,x.ok:=by cases h;assumption
theorem Te.ok.all2:∀x∈ls,x.ok:=by cases h;assumption
end
@[go_sem] theorem tcss_get(ks:List Te)(j:Nat):(Te.css ks)[j]?=ks[j]?.map Te.cs:=by rw[Te.css_eq];simp
@[go_sem] theorem zqk(ks:List Te):(Te.css ks).length=ks.length:=by rw[Te.css_eq];simp
theorem ye2(a b:List Te):Te.css (a++b)=Te.css a++Te.css b:=by simp[Te.css_eq]
@[go_sem] theorem z9z(a:List Te)(x:Te):Te.css a++[x.cs]=Te.css (a++[x]):=by rw[ye2];rfl
@[go_sem] theorem tcs_len(l:Te):l.cs.length=4:=by cases l;rfl
@[go_sem] theorem rd_tcs(l:Te):rd 4 true l.cs=some (.v (.agg l.cs)):=zmi (tcs_len l)
@[go_sem] theorem tcs_one(l:Te):l.cs.all AV.one=true:=by cases l;rfl
@[go_sem] theorem over_tcs(x y z u:AV)(l:Te):over [x,y,z,u] 0 l.cs=l.cs:=by cases l;rfl
@[go_sem] theorem frz_tcs(n:Nat)(l:Te)(h:List AO):zv1 n l.cs h=(l.cs,h):=by cases l;rfl
theorem zub(n:Nat)(l:Te):∀a∈l.cs,Lt n a:=by
 induction l using Te.ind with
 |h k m ls ks ih=>
  intro a ha;simp[Te.cs]at ha;rcases ha with rfl|rfl|rfl|rfl
  ·exact .int _ _
  ·exact .int _ _
  ·exact .sl (of_eq_true (z57 n ls))
  ·refine .sl fun a ha=>?_
   obtain⟨e,he,h2⟩:=List.mem_flatten.1 ha;rw[Te.css_eq]at he;obtain⟨x,hx,rfl⟩:=List.mem_map.1 he;exact ih x hx a h2
@[go_sem] theorem lt_tcs(n:Nat)(l:Te):(∀a∈l.cs,Lt n a)=True:=eq_true (zub n l)
@[go_sem] theorem z3z(n:Nat)(ks:List Te):(∀a∈(Te.css ks).flatten,Lt n a)=True:=by
 refine eq_true fun a ha=>?_
 obtain⟨e,he,h2⟩:=List.mem_flatten.1 ha;rw[Te.css_eq]at he;obtain⟨x,hx,rfl⟩:=List.mem_map.1 he;exact zub n x a h2
mutual
def parts:Te->Int->Int
 |.mk _ _ _ ks,most=>partsL ks most 1
def partsL:List Te->Int->Int->Int
 |[],_,n=>n
 |l::r,most,n=>if n<most then partsL r most (n+parts l (most - n)) else n
end
theorem zob:∀(ks:List Te) (most n:Int),n<=partsL ks most n
 |[],_,n=>by rw[partsL];omega
 |.mk a b u l::r,most,n=>by
  rw[partsL]
  split
  ·have h1:=zob l (most - n) 1
   have h2:=zob r most (n+parts (.mk a b u l) (most - n));rw[parts]at h2 ⊢;omega
  ·omega
theorem zuk:∀(ks:List Te) (most n:Int),partsL ks most n<=max n most
 |[],_,n=>by rw[partsL];omega
 |.mk a b u l::r,most,n=>by
  rw[partsL]
  split
  ·have h1:=zuk l (most - n) 1
   have h2:=zuk r most (n+parts (.mk a b u l) (most - n));rw[parts]at h2 ⊢;omega
  ·omega
theorem z50(l:Te)(most:Int):1<=parts l most:=by cases l;rw[parts];exact zob _ _ _
theorem z5z(l:Te)(most:Int):parts l most<=max 1 most:=by cases l;rw[parts];exact zuk _ _ _
theorem z3s{ks:List Te}{most n:Int}(h:¬ n<most):partsL ks most n=n:=by
 cases ks with
 |nil=>rfl
 |cons l r=>rw[partsL,if_neg h]
theorem z7q(l:Te):l.ok->∀(most:Int),-1000000<=most/\most<=1000000->∀H,F zic [.agg l.cs,.int .i64 most] H=some (.ret (.int .i64 (parts l most)),H):=by
 induction l using Te.ind with
 |h k n ls ks ih=>
 intro hl most hm H;have hlen:=hl.len;have loop:∀(suf pre:List Te) (m:Int),ks=pre++suf->1<=m/\m<=1000000 ->
   zhr H H (.int .i64 most) (.int .i64 m) (.int .i64 pre.length) [.int .i64 k,.int .i64 n,.sl (Lv.css ls),.sl (Te.css ks)]=some (.ret (.int .i64 (partsL suf most m)),H):=by
  intro suf
  induction suf with
  |nil=>
   intro pre m e hm;subst e;rw[zhr,zab];simp only[↓reduceIte,go_sem,partsL]
  |cons x suf ih2=>
   intro pre m e hm;subst e;simp at hlen;rw[zhr,zab,partsL];by_cases hn:m<most
   ·have hge:=z50 x (most - m)
    have hle:=z5z x (most - m);have:=ih2 (pre++[x]) (m+parts x (most - m)) (by simp) (by omega)
    simp only[zah]at this;simp only[↓reduceIte,go_sem,hn,zap (n:=most - m) (by omega) (by omega),zap (n:=m+parts x (most - m)) (by omega) (by omega),ih x (by simp) (hl.all x (by simp)) (most - m) (by omega) H,zad (n:=pre.length) (by omega),this]
   ·simp only[↓reduceIte,go_sem,hn]
 rw[zzb];simp only[↓reduceIte,go_sem,Te.cs];exact loop ks [] 1 rfl (by omega)
theorem yaq(l:Te):l.ok->∀(most:Int),-1000000<=most/\most<=1000000->∀H,F zj2 [.agg l.cs,.int .i64 most] H=some (.ret (.int .i64 (parts l most)),H):=by
 induction l using Te.ind with
 |h k n ls ks ih=>
 intro hl most hm H;have hlen:=hl.len;have loop:∀(suf pre:List Te) (m:Int),ks=pre++suf->1<=m/\m<=1000000 ->
   zit H H (.int .i64 most) (.int .i64 m) (.sl (Te.css ks)) (.int .i64 ks.length) (.int .i64 pre.length)=some (.ret (.int .i64 (partsL suf most m)),H):=by
  intro suf
  induction suf with
  |nil=>
   intro pre m e hm;subst e;rw[zit,zab];simp only[↓reduceIte,go_sem,partsL]
  |cons x suf ih2=>
   intro pre m e hm;subst e;simp at hlen;rw[zit,zab,partsL];by_cases hn:m<most
   ·have hge:=z50 x (most - m)
    have hle:=z5z x (most - m);have:=ih2 (pre++[x]) (m+parts x (most - m)) (by simp) (by omega)
    simp only[zah]at this;simp only[↓reduceIte,go_sem,hn,zap (n:=most - m) (by omega) (by omega),zap (n:=m+parts x (most - m)) (by omega) (by omega),ih x (by simp) (hl.all x (by simp)) (most - m) (by omega) H,zad (n:=pre.length) (by omega),this]
   ·have:=ih2 (pre++[x]) m (by simp) (by omega)
    simp only[zah]at this;simp only[↓reduceIte,go_sem,hn,zad (n:=pre.length) (by omega),this,z3s hn]
 rw[z1o];simp only[↓reduceIte,go_sem,Te.cs];exact loop ks [] 1 rfl (by omega)
def zdx(k:Int):Int:=if k=1\/k=2\/k=3 then 0 else if k=4\/k=5\/k=6 then 2 else if k=7 then 3 else -1
theorem yb6(k:Int)(H:List AO):F zme [.int .i64 k] H=some (.ret (.int .i64 (zdx k)),H):=by
 rw[z1u];simp only[↓reduceIte,go_sem];unfold zdx
 grind
def binds(k i:Int):Int:=if (k=5\/k=6)/\i=1\/k=7/\i=2 then 1 else 0
theorem zio(k i:Int):0<=binds k i/\binds k i<=1:=by unfold binds;split <;> omega
theorem zsm(k i:Int)(H:List AO):F zgr [.int .i64 k,.int .i64 i] H=some (.ret (.int .i64 (binds k i)),H):=by
 rw[zy8];simp only[↓reduceIte,go_sem];unfold binds
 grind
def zc9(k n:Int)(ls:List Lv)(v:Int):Bool :=
 if k=1 then decide (0<=n) && decide (n<v) && decide (ls.length=0)
 else if k=2 then decide (n=0) && decide (ls.length=1)
 else if k=3 then decide (0<=n) && decide (n<20) && decide (ls.length<=5)
 else decide (n=0) && decide (ls.length=0)
theorem z7w(k n:Int)(ls:List Lv)(ks:List Te)(hl:ls.length<=140737488355328)(ha:∀x∈ls,x.ok)(v p m:Int)(H:List AO):
  F zkp [.agg [.int .i64 k,.int .i64 n,.sl (Lv.css ls),.sl (Te.css ks)],.int .i64 v,.int .i64 p,.int .i64 m] H=some (.ret (.bool ((ls.all fun x=>zax x p m) && zc9 k n ls v)),H):=by
 have loop:∀(suf pre:List Lv),ls=pre++suf ->
   zhq H H (.int .i64 v) (.int .i64 p) (.int .i64 m) (.int .i64 pre.length) [.int .i64 k,.int .i64 n,.sl (Lv.css ls),.sl (Te.css ks)]=some (.ret (.bool ((suf.all fun x=>zax x p m) && zc9 k n ls v)),H):=by
  intro suf
  induction suf with
  |nil=>
   intro pre e;subst e;rw[zhq,zab];simp only[↓reduceIte,go_sem,List.all_nil,Bool.true_and,zc9];have e0:∀z:Int,0<=z->((pre.length:Int)=z ↔ pre.length=z.toNat):=by intro z hz;omega
   repeat' split
   all_goals (simp_all;try omega)
  |cons x suf ih2=>
   intro pre e;subst e;simp at hl;have:=ih2 (pre++[x]) (by simp)
   simp only[zah]at this;rw[zhq,zab];simp only[↓reduceIte,go_sem,ziq x (ha x (by simp)),zad (n:=pre.length) (by omega),this,List.all_cons]
   cases zax x p m <;> simp
 rw[zy7];simp only[↓reduceIte,go_sem];exact loop ls [] rfl
end Go.Ab
end
