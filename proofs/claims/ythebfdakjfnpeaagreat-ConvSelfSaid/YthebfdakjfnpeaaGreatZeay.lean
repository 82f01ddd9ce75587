/- What the law ConvSelf of layer 17 comes to, part 25. Conditions: none. -/
import Derived.Test.YthebfdakjfnpeaaGreatZeaw
section
set_option linter.unusedVariables false
set_option linter.unusedSimpArgs false
set_option maxRecDepth 100000
set_option maxHeartbeats 2000000
namespace Go.Ab
open Go.RowKit Go.Proofs
variable {α S E : Type}
def zlc(stp:S->α->Option (S ⊕ E)):List α->S->Option (S ⊕ E)
 |[],s=>some (.inl s)
 |x::r,s=>match stp s x with
  |some (.inl s')=>zlc stp r s'
  |some (.inr e)=>some (.inr e)
  |none=>none
theorem zyp(stp:S->α->Option (S ⊕ E)):∀(a b:List α) (s:S),zlc stp (a++b) s=match zlc stp a s with
  |some (.inl s')=>zlc stp b s'
  |some (.inr e)=>some (.inr e)
  |none=>none
 |[],b,s=>rfl
 |x::a,b,s=>by
  rw[List.cons_append,zlc,zlc]
  cases stp s x with
  |none=>rfl
  |some r=>cases r with
   |inl s'=>exact zyp stp a b s'
   |inr e=>rfl
def hp(W:S->List AO)(WE:E->List AO):S ⊕ E->List AO
 |.inl s=>W s
 |.inr e=>WE e
@[go_sem] theorem zfa(W:S->List AO)(WE:E->List AO)(s:S):hp W WE (.inl s)=W s:=rfl
@[go_sem] theorem zpx(W:S->List AO)(WE:E->List AO)(e:E):hp W WE (.inr e)=WE e:=rfl
def isL:S ⊕ E->Bool
 |.inl _=>true
 |.inr _=>false
structure Ys (y:AV) (n:Nat) (enc:α->List AV) (W:S->List AO) (WE:E->List AO) (stp:S->α->Option (S ⊕ E)):Prop where
 one:y.one=true
 lt:Lt n y
 len:∀r,(hp W WE r).length=n
 fr:∀s r (id:Nat) (o:AO),(hp W WE r)[id]?=some o->(W s)[id]?=some o\/LtO n o
 call:∀s x X r,stp s x=some r->cfl T y (enc x) (W s++X)=some (.ret (.bool (isL r)),hp W WE r++X)
def yee(fv:AV)(enc:α->List AV)(xs:List α):Prop :=
 ∀(S E:Type) (y:AV) (n:Nat) (W:S->List AO) (WE:E->List AO) (stp:S->α->Option (S ⊕ E)),Ys y n enc W WE stp->∀s X r,zlc stp xs s=some r->cfl T fv [y] (W s++X)=some (.ret (.tup []),hp W WE r++X)
theorem Lt.mono{n m:Nat}(hm:n<=m){a:AV}(h:Lt n a):Lt m a:=by
 induction h with
 |bool b=>exact .bool b
 |int k x=>exact .int k x
 |str s=>exact .str s
 |nilp=>exact .nilp
 |ptr h=>exact .ptr (by omega)
 |nils z=>exact .nils z
 |sl h ih=>exact .sl ih
 |ol h=>exact .ol (by omega)
 |nilm=>exact .nilm
 |fmap hk hv ihk ihv=>exact .fmap ihk ihv
 |mp h=>exact .mp (by omega)
 |fn ha hb iha ihb=>exact .fn iha ihb
 |nilf=>exact .nilf
 |agg h ih=>exact .agg ih
 |tup h ih=>exact .tup ih
 |iface h ih=>exact .iface ih
 |nili=>exact .nili
 |fp h ih=>exact .fp ih
 |yd h=>exact .yd (by omega)
 |ze=>exact .ze
 |ov h=>exact .ov (by omega)
 |fk k=>exact .fk k
 |junk=>exact .junk
theorem LtO.mono{n m:Nat}(hm:n<=m){o:AO}(h:LtO n o):LtO m o:=by
 cases o with
 |dead=>trivial
 |box cs=>exact fun a ha=>(h a ha).mono hm
 |lst v s es=>exact fun a ha=>(h a ha).mono hm
 |mapo es=>exact⟨fun p hp=>(h.1 p hp).mono hm,fun p hp=>(h.2 p hp).mono hm⟩
 |dfr=>trivial
 |slp st k t ps x y=>exact fun p hp=>(h p hp).mono hm
theorem zyt{H A X J:List AO}{r:Res}(hlen:A.length=H.length)(hfr:∀(id:Nat) (o:AO),A[id]?=some o->H[id]?=some o\/LtO H.length o)(hr:LtR (H++X).length r):zez (H++X) r (A++X++J)=some (r,A++X):=by
 unfold zez;have e:(A++X++J).take (H++X).length=A++X:=List.take_left' (by simp[hlen])
 have hc:∀(id:Nat) (o:AO),(A++X++J)[id]?=some o->id<(H++X).length->(H++X)[id]?=some o\/LtO (H++X).length o:=by
  intro id o ho hi;have hi2:id<(A++X).length:=by rw[List.length_append]at hi ⊢;omega
  rw[List.getElem?_append_left hi2]at ho;by_cases h1:id<A.length
  ·rw[List.getElem?_append_left h1]at ho
   rcases hfr id o ho with k|k
   ·exact .inl (by rw[List.getElem?_append_left (by omega)];exact k)
   ·exact .inr (k.mono (by simp))
  ·rw[List.getElem?_append_right (by omega)]at ho
   exact .inl (by rw[List.getElem?_append_right (by omega),<- hlen];exact ho)
 rw[if_pos ⟨hr,hc⟩,e]
@[go_sem] theorem lt_fp{n:Nat}{l:List AV}:Lt n (.fp l)=∀a∈l,Lt n a:=propext ⟨fun h=>by cases h;assumption,.fp⟩
def z31(JE:E->Jmp):S ⊕ E->LSt
 |.inl _=>.ready
 |.inr e=>.done (JE e)
theorem yex{H D D' X J:List AO}{nn:Nat}{t:List (Nat×AV)}{ps:List Nat}{asg body:FC}{st:LSt}{b:Bool}(hl:D'.length=D.length)
  (hfr:∀(i:Nat) (o:AO),D'[i]?=some o->D[i]?=some o\/LtO (H.length+D.length+2) o) (ht:∀p∈t,Lt (H.length+D.length+2) p.2) :
  zrn (H++(D++(.dfr :: .slp .ready nn t ps asg body::X))) (H.length+D.length+1) st b (H++(D' ++ (.dfr :: .slp .busy nn t ps asg body::(X++J))))=some (.ret (.bool b),H++(D' ++ (.dfr :: .slp st nn t ps asg body::X))):=by
 have hg:(H++(D' ++ (.dfr :: .slp .busy nn t ps asg body::(X++J))))[H.length+D.length+1]?=some (.slp .busy nn t ps asg body):=by
  rw[List.getElem?_append_right (by omega),List.getElem?_append_right (by omega),show H.length+D.length+1 - H.length - D'.length=1 by omega];rfl
 rw[z5f hg];have hs:(H++(D' ++ (.dfr :: .slp .busy nn t ps asg body::(X++J)))).set (H.length+D.length+1) (.slp st nn t ps asg body)=(H++(D' ++ (.dfr :: .slp st nn t ps asg body::X)))++J:=by
  rw[List.set_append_right _ _ (by omega),List.set_append_right _ _ (by omega),show H.length+D.length+1 - H.length - D'.length=1 by omega];simp
 rw[hs];unfold zez;have hlen:(H++(D++(.dfr :: .slp .ready nn t ps asg body::X))).length=(H++(D' ++ (.dfr :: .slp st nn t ps asg body::X))).length:=by simp[hl]
 have hle:H.length+D.length+2<=(H++(D++(AO.dfr :: .slp .ready nn t ps asg body::X))).length:=by simp;omega
 rw[List.take_left' hlen.symm,if_pos];refine⟨.bool _,fun id o ho hi=>?_⟩
 rw[hlen]at hi;rw[List.getElem?_append_left hi]at ho;by_cases h1:id<H.length
 ·rw[List.getElem?_append_left h1]at ho ⊢;exact .inl ho
 rw[List.getElem?_append_right (by omega)]at ho ⊢
 by_cases h2:id - H.length<D.length
 ·rw[List.getElem?_append_left (by omega)]at ho ⊢
  rcases hfr _ _ ho with k|k
  ·exact .inl k
  ·exact .inr (k.mono hle)
 rw[List.getElem?_append_right (by omega),hl]at ho
 rw[List.getElem?_append_right (by omega)]
 match hj:id - H.length - D.length,ho with
 |0,ho=>exact .inl ho
 |1,ho=>simp at ho;subst ho;exact .inr fun p hp=>(ht p hp).mono hle
 |j+2,ho=>exact .inl ho
theorem z3c(H:List AO)(k:Nat)(enc:α->List AV)(D:S->List AO)(DE:E->List AO)(JE:E->Jmp)(stp:S->α->Option (S ⊕ E))(nn:Nat)(t:List (Nat×AV))(ps:List Nat)(asg body:FC)(ha:asg.okd=true)(hb:body.okd=true)(hps:∀x,(enc x).length=ps.length)
  (hk:∀r,(hp D DE r).length=k) (hfr:∀s r (i:Nat) (o:AO),(hp D DE r)[i]?=some o->(D s)[i]?=some o\/LtO (H.length+k+2) o) (ht:∀p∈t,Lt (H.length+k+2) p.2)
  (call:∀s x X r,stp s x=some r->∃J,aw T asg (yK T (H++(D s++(.dfr :: .slp .ready nn t ps asg body::X))) (H.length+k+1) body) ⟨setPs ps (enc x) ⟨nn,yek t⟩,[],H++(D s++(.dfr :: .slp .ready nn t ps asg body::X)),[H.length+k+1]⟩ =
   zrn (H++(D s++(.dfr :: .slp .ready nn t ps asg body::X))) (H.length+k+1) (z31 JE r) (isL r) (H++(hp D DE r++(.dfr :: .slp .busy nn t ps asg body::(X++J))))) :
  Ys (.yd (H.length+k+1)) (H.length+k+2) enc (fun s=>H++(D s++[.dfr,.slp .ready nn t ps asg body])) (fun e=>H++(DE e++[.dfr,.slp (.done (JE e)) nn t ps asg body])) stp:=by
 have hhp:∀r:S ⊕ E,hp (fun s=>H++(D s++[AO.dfr,.slp .ready nn t ps asg body])) (fun e=>H++(DE e++[.dfr,.slp (.done (JE e)) nn t ps asg body])) r=H++(hp D DE r++[.dfr,.slp (z31 JE r) nn t ps asg body]):=fun r=>by cases r <;> rfl
 have hkD:∀s,(D s).length=k:=fun s=>hk (.inl s)
 refine⟨rfl,.yd (by omega),fun r=>?_,fun s r id o ho=>?_,fun s x X r hst=>?_⟩
 ·rw[hhp];have:=hk r;simp;omega
 ·rw[hhp]at ho
  by_cases h1:id<H.length
  ·rw[List.getElem?_append_left h1]at ho ⊢;exact .inl ho
  rw[List.getElem?_append_right (by omega)]at ho ⊢
  by_cases h2:id - H.length<k
  ·rw[List.getElem?_append_left (by rw[hk];omega)]at ho
   rw[List.getElem?_append_left (by rw[hkD];omega)]
   exact hfr s r _ _ ho
  rw[List.getElem?_append_right (by rw[hk];omega),hk]at ho
  rw[List.getElem?_append_right (by rw[hkD];omega),hkD]
  match hj:id - H.length - k,ho with
  |0,ho=>exact .inl ho
  |1,ho=>simp at ho;subst ho;exact .inr ht
  |j+2,ho=>simp at ho
 ·obtain⟨J,e⟩:=call s x X r hst
  rw[hhp];have hg:(H++(D s++(AO.dfr :: .slp .ready nn t ps asg body::X)))[H.length+k+1]?=some (.slp .ready nn t ps asg body):=by
   rw[List.getElem?_append_right (by omega),List.getElem?_append_right (by rw[hkD];omega),hkD,show H.length+k+1 - H.length - k=1 by omega];rfl
  simp only[List.append_assoc,List.cons_append,List.nil_append];rw[yjp hg (hps x) ha hb,e];have:=yex (H:=H) (D:=D s) (D':=hp D DE r) (X:=X) (J:=J) (nn:=nn) (t:=t) (ps:=ps) (asg:=asg) (body:=body) (st:=z31 JE r) (b:=isL r) (by rw[hk,hkD]) (fun i o h=>by rw[hkD];exact hfr s r i o h) (by rw[hkD];exact ht)
  rw[hkD]at this;exact this
theorem zss{H DR:List AO}{k:Nat}(hk:DR.length=k){st:LSt}{nn:Nat}{t:List (Nat×AV)}{ps:List Nat}{asg body:FC}:
  (H++(DR++[AO.dfr,.slp st nn t ps asg body]))[H.length+k+1]?=some (.slp st nn t ps asg body)/\(H++(DR++[AO.dfr,.slp st nn t ps asg body])).set (H.length+k+1) .dead=H++(DR++[.dfr,.dead]):=by
 constructor
 ·rw[List.getElem?_append_right (by omega),List.getElem?_append_right (by omega),show H.length+k+1 - H.length - DR.length=1 by omega];rfl
 ·rw[List.set_append_right _ _ (by omega),List.set_append_right _ _ (by omega),show H.length+k+1 - H.length - DR.length=1 by omega];rfl
end Go.Ab
end
section
set_option linter.unusedVariables false
set_option linter.unusedSimpArgs false
set_option maxRecDepth 100000
set_option maxHeartbeats 2000000
namespace Go.Ab
open Go.RowKit Go.Proofs
theorem ygz{A A' W Z:List AO}{o o':AO}{r:Res}(hlen:A'.length=A.length)(hfr:∀(id:Nat) (x:AO),A'[id]?=some x->A[id]?=some x\/LtO A.length x)(ho:LtO (A++(W++o::Z)).length o')(hr:LtR (A++(W++o::Z)).length r):
  zez (A++(W++o::Z)) r (A' ++ (W++o' :: Z))=some (r,A' ++ (W++o' :: Z)):=by
 unfold zez;have e:(A' ++ (W++o' :: Z)).take (A++(W++o::Z)).length=A' ++ (W++o' :: Z):=List.take_of_length_le (by simp[hlen])
 have hc:∀(id:Nat) (x:AO),(A' ++ (W++o' :: Z))[id]?=some x->id<(A++(W++o::Z)).length->(A++(W++o::Z))[id]?=some x\/LtO (A++(W++o::Z)).length x:=by
  intro id x hx hi;by_cases h1:id<A'.length
  ·rw[List.getElem?_append_left h1]at hx
   rcases hfr id x hx with k|k
   ·exact .inl (by rw[List.getElem?_append_left (by omega)];exact k)
   ·exact .inr (k.mono (by simp))
  ·rw[List.getElem?_append_right (by omega)]at hx
   rw[List.getElem?_append_right (by omega),<- hlen]
   by_cases h2:id - A'.length<W.length
   ·rw[List.getElem?_append_left h2]at hx ⊢;exact .inl hx
   ·rw[List.getElem?_append_right (by omega)]at hx ⊢
    cases h3:id - A'.length - W.length with
    |zero=>rw[h3]at hx;simp at hx;subst hx;exact .inr ho
    |succ j=>rw[h3]at hx;simp at hx ⊢;exact .inl hx
 rw[if_pos ⟨hr,hc⟩,e]
theorem ya2{A W Z:List AO}{o:AO}:(A++(W++o::Z))[A.length+W.length]?=some o:=by
 rw[List.getElem?_append_right (by omega),List.getElem?_append_right (by omega)];simp
theorem ya1{A W Z:List AO}{o p:AO}:(A++(W++o::Z)).set (A.length+W.length) p=A++(W++p::Z):=by
 rw[List.set_append_right _ _ (by omega),List.set_append_right _ _ (by omega)];simp
end Go.Ab
end
section
set_option linter.unusedVariables false
set_option linter.unusedSimpArgs false
set_option maxRecDepth 100000
set_option maxHeartbeats 2000000
namespace Go.Ab
open Go.RowKit Go.Proofs
def jk:Nat->List AO
 |0=>[]
 |m+1=>jk m++[.dfr,.dead]
def dsl(b:Nat):Nat->List Nat
 |0=>[]
 |m+1=>(b+2*m)::dsl b m
theorem zoh:∀m,(jk m).length=2*m
 |0=>rfl
 |m+1=>by rw[jk,List.length_append,zoh m];simp;omega
theorem jk_at(A Z:List AO)(m:Nat):(A++(jk (m+1)++Z))[A.length+2*m]?=some .dfr:=by
 rw[List.getElem?_append_right (by omega),show A.length+2*m - A.length=2*m by omega,jk,List.append_assoc,List.getElem?_append_right (by rw[zoh];omega),zoh]
 simp
theorem zvj(b:Nat):∀m,∀i∈dsl b m,b<=i/\i<b+2*m
 |0,i,h=>by simp[dsl]at h
 |m+1,i,h=>by
  simp[dsl]at h;rcases h with rfl|h
  ·omega
  ·have:=zvj b m i h;omega
theorem z2e(b:Nat):∀m,(dsl b m).Nodup
 |0=>by simp[dsl]
 |m+1=>by
  rw[dsl,List.nodup_cons];exact⟨fun h=>by have:=zvj b m _ h;omega,z2e b m⟩
theorem yc4(A:List AO):∀(m:Nat) (Z:List AO),yeu (A++(jk m++Z)) (dsl A.length m)=true
 |0,Z=>rfl
 |m+1,Z=>by
  rw[dsl,yeu,jk_at];dsimp only;have:=yc4 A m ([.dfr,.dead]++Z);rw[jk,List.append_assoc];exact this
theorem inRd_jk(A:List AO):∀(m:Nat) (Z:List AO),yet (A++(jk m++Z)) (dsl A.length m)=false
 |0,Z=>rfl
 |1,Z=>by
  have:=jk_at A Z 0;simp only[dsl,yet,Nat.mul_zero,Nat.add_zero]at this ⊢;rw[this]
 |m+2,Z=>rfl
theorem set_jk(A Z:List AO)(m:Nat):∃D,D.length=2/\(A++(jk (m+1)++Z)).set (A.length+2*m) .dead=A++(jk m++(D++Z)):=by
 refine⟨[.dead,.dead],rfl,?_⟩;rw[List.set_append_right _ _ (by omega),show A.length+2*m - A.length=2*m by omega,jk,List.append_assoc,List.set_append_right _ _ (by rw[zoh];omega),zoh]
 simp
theorem z6u(A:List AO):∀(m:Nat) (Z:List AO),∃D,D.length=2*m+Z.length/\zin (A++(jk m++Z)) (dsl A.length m)=A++D
 |0,Z=>⟨Z,by simp,rfl⟩
 |m+1,Z=>by
  obtain⟨D,hD,e⟩:=set_jk A Z m;obtain⟨D',hD',e'⟩:=z6u A m (D++Z);refine⟨D',by simp at hD';omega,?_⟩
  rw[dsl,zin,e,e']
theorem finF_jk{A H0:List AO}(hA:A.length=H0.length)(m:Nat):∃D:List AO,∀(rs:List RS) (o:Out) (t:Ts) (ls:List (Nat×List AV)),zam H0 rs o ⟨t,ls,A++jk m,dsl A.length m⟩=zam H0 rs o ⟨t,ls,A++D,[]⟩:=by
 obtain⟨D,_,e⟩:=z6u A m [];rw[List.append_nil]at e;refine⟨D,fun rs o t ls=>?_⟩
 cases m with
 |zero=>simp only[dsl,zin]at e;rw[dsl,e]
 |succ m=>
  have h1:∀i∈dsl A.length (m+1),H0.length<=i:=fun i hi=>by have:=zvj _ _ i hi;omega
  have h2:=z2e A.length (m+1);rw[dsl]at h1 h2 e ⊢;rw[ycs,if_pos ⟨h1,h2⟩,e]
theorem ycr{S E α:Type}{y:AV}{n:Nat}{enc:α->List AV}{W:S->List AO}{WE:E->List AO}{stp:S->α->Option (S ⊕ E)}(hy:Ys y n enc W WE stp)(s:S)(r:S ⊕ E)(X:List AO)(m:Nat){o:Out}(ho:o = .normal\/o = .ret)(t:Ts)(ls:List (Nat×List AV)):
  zam (W s++X) [] o ⟨t,ls,hp W WE r++(X++jk m),dsl (n+X.length) m⟩=some (.ret (.tup []),hp W WE r++X):=by
 have l1:(W s).length=n:=hy.len (.inl s);have l2:=hy.len r;obtain⟨D,e⟩:=finF_jk (A:=hp W WE r++X) (H0:=W s++X) (by simp[l1,l2]) m
 rw[<- List.append_assoc,show n+X.length=(hp W WE r++X).length by simp[l2],e]
 have hf:=zyt (H:=W s) (A:=hp W WE r) (X:=X) (J:=D) (r:=.ret (.tup [])) (by rw[l1,l2]) (by rw[l1];exact hy.fr s r) (show Lt _ _ from .tup (by simp))
 rcases ho with rfl|rfl
 ·rw[z4c];simp only[zi2];exact hf
 ·rw[ygy];simp only[zi2];exact hf
end Go.Ab
end
section
set_option linter.unusedVariables false
set_option linter.unusedSimpArgs false
set_option maxRecDepth 100000
set_option maxHeartbeats 2000000
namespace Go.Ab
open Go.RowKit Go.Proofs
def zbe(L:List Int):List (List AV):=L.map fun b=>[.int .i64 b]
@[go_sem] theorem zpb(L:List Int):(zbe L).length=L.length:=by simp[zbe]
@[go_sem] theorem i64s_get(L:List Int)(i:Nat):(zbe L)[i]?=L[i]?.map fun b=>[.int .i64 b]:=by simp[zbe]
@[go_sem] theorem zhh:zbe []=[]:=rfl
theorem z1e(a:List Int)(n:Int):zbe a++[[.int .i64 n]]=zbe (a++[n]):=by simp[zbe]
theorem z38(n:Nat)(L:List Int):∀a∈(zbe L).flatten,Lt n a:=by
 intro a ha;obtain⟨e,he,h2⟩:=List.mem_flatten.1 ha;obtain⟨x,hx,rfl⟩:=List.mem_map.1 he;simp at h2;subst h2;exact .int _ _
@[go_sem] theorem lt_i64s(n:Nat)(L:List Int):(∀a∈(zbe L).flatten,Lt n a)=True:=eq_true (z38 n L)
def zfq:List Int->List Int->List Int
 |out,[]=>out
 |out,n::r=>zfq (if out.contains n then out else out++[n]) r
theorem zoc:∀(a b out:List Int),zfq out (a++b)=zfq (zfq out a) b
 |[],b,out=>rfl
 |n::a,b,out=>by rw[List.cons_append,zfq,zfq,zoc a b]
theorem zks:∀(a out:List Int),(zfq out a).length<=out.length+a.length
 |[],out=>by simp[zfq]
 |n::a,out=>by
  rw[zfq];have:=zks a (if out.contains n then out else out++[n])
  split at this <;> simp at * <;> split <;> simp_all <;> omega
def noE{β:Type}(e:Empty):β:=e.elim
end Go.Ab
end
section
set_option linter.unusedVariables false
set_option linter.unusedSimpArgs false
set_option maxRecDepth 100000
set_option maxHeartbeats 2000000
namespace Go.Ab
open Go.RowKit Go.Proofs
theorem zpe(a:List Lv)(x:Lv):Lv.css a++[x.cs]=Lv.css (a++[x]):=by rw[z4z];rfl
def byL(ps ms:List Lv)(k n:Int):Option Lv:=if k=5 then ps[n.toNat]? else if k=6 then ms[n.toNat]? else none
mutual
def subL(ps ms:List Lv):Lv->Lv
 |.mk k n ks=>match byL ps ms k n with
  |some x=>x
  |none=>.mk k n (subLs ps ms ks)
def subLs(ps ms:List Lv):List Lv->List Lv
 |[]=>[]
 |x::r=>subL ps ms x::subLs ps ms r
end
theorem z5i(ps ms:List Lv):∀ks:List Lv,subLs ps ms ks=ks.map (subL ps ms)
 |[]=>rfl
 |x::r=>by rw[subLs,z5i ps ms r];rfl
theorem zwr{p m k n:Int}{ks:List Lv}{d:Int}(h:rightB p m (.mk k n ks) d=true):1<=d/\(ks.length:Int)=zgf k/\0<=n/\(k=5->n<p)/\(k=6->n<m)/\(k≠5->k≠6->n=0)/\rightsB p m ks (d - 1)=true:=by
 rw[rightB]at h
 split at h
 ·cases h
 split at h
 ·cases h
 rename_i h1 h2;have h2:(ks.length:Int)=zgf k:=by simpa using h2
 split at h
 ·rename_i h5
  subst h5;have:ks=[]:=List.eq_nil_of_length_eq_zero (by simp[zgf]at h2;simp[h2])
  subst this;simp at h;exact⟨by omega,h2,h.1,fun _=>h.2,by omega,by omega,rfl⟩
 split at h
 ·rename_i h5
  subst h5;have:ks=[]:=List.eq_nil_of_length_eq_zero (by simp[zgf]at h2;simp[h2])
  subst this;simp at h;exact⟨by omega,h2,h.1,by omega,fun _=>h.2,by omega,rfl⟩
 ·simp at h
  exact⟨by omega,h2,by omega,by omega,by omega,fun _ _=>h.2,h.1⟩
theorem zwo{p m:Int}{ks:List Lv}{d:Int}(h:rightsB p m ks d=true){x:Lv}(hx:x∈ks):rightB p m x d=true:=by
 rw[zp7,List.all_eq_true]at h;exact h x hx
theorem zs5{l:Lv}{p m:Int}(h:zax l p m=true):rightB p m l 12=true:=by
 unfold zax at h;simp only[Bool.and_eq_true]at h;exact h.2
theorem z1b(k:Int):zgf k<=2:=by unfold zgf;grind
def zrv(l:List Lv):Prop:=∀x∈l,x.ok
theorem byL_ok{ps ms:List Lv}(hp:zrv ps)(hm:zrv ms){k n:Int}{x:Lv}(h:byL ps ms k n=some x):x.ok:=by
 unfold byL at h
 split at h
 ·exact hp x (List.mem_of_getElem? h)
 ·split at h
  ·exact hm x (List.mem_of_getElem? h)
  ·cases h
theorem z3i{ps ms:List Lv}(hp:zrv ps)(hm:zrv ms)(l:Lv):l.ok->(subL ps ms l).ok:=by
 induction l using Lv.ind with
 |h k n ks ih=>
 intro hl;rw[subL]
 split
 ·rename_i x h;exact byL_ok hp hm h
 ·rw[z5i]
  refine .mk (by simpa using hl.len) fun x hx=>?_
  obtain⟨y,hy,rfl⟩:=List.mem_map.1 hx;exact ih y hy (hl.all y hy)
def z3o:Lv×Int->AV
 |(l,e)=>.tup [.agg l.cs,.int .i64 e]
def zeroL:Lv:=.mk 0 0 []
def zbm(l:List Lv):Bool:=l.all fun x=>zax x 5 10
def zp5(l:Lv)(ps ms:List Lv):Lv×Int :=
 if zax l 5 10=false\/5<ps.length\/10<ms.length\/zbm ps=false\/zbm ms=false then (zeroL,1)
 else if zax (subL ps ms l) 5 10 then (subL ps ms l,0) else (zeroL,2)
theorem zwt(xs:List Lv)(hlen:xs.length<=140737488355328)(hx:zrv xs)(H:List AO):F zid [.sl (Lv.css xs)] H=some (.ret (.bool (zbm xs)),H):=by
 have loop:∀(suf pre:List Lv),xs=pre++suf->zht H H (.sl (Lv.css xs)) (.int .i64 pre.length)=some (.ret (.bool (zbm suf)),H):=by
  intro suf
  induction suf with
  |nil=>
   intro pre e;subst e;rw[zht,zab];simp only[↓reduceIte,go_sem,zbm,List.all_nil]
  |cons x suf ih=>
   intro pre e;subst e;simp at hlen;have:=ih (pre++[x]) (by simp)
   simp only[zah]at this;have hr:=ziq x (hx x (by simp)) 5 10 H
   rw[zht,zab];unfold zbm at *;rw[List.all_cons]
   cases h:zax x 5 10 <;> simp only[h]at hr <;> simp only[↓reduceIte,go_sem,hr,zad (n:=pre.length) (by omega),this,Bool.true_and,Bool.false_and]
 have:=loop xs [] rfl;simp only[List.length_nil,Int.natCast_zero]at this;rw[zzd];simp only[↓reduceIte,go_sem,this]
theorem ye8(p m:Int)(ps ms:List Lv)(l:Lv):l.ok->∀(d:Int),rightB p m l d=true->∀(H:List AO),F zmg [.agg l.cs,.sl (Lv.css ps),.sl (Lv.css ms)] H=some (.ret (.agg (subL ps ms l).cs),H):=by
 induction l using Lv.ind with
 |h k n ks ih=>
 intro hl d hr H;obtain⟨hd,hk,hn,h5,h6,h0,hks⟩:=zwr hr;have hk3:=z1b k;have loop:∀(suf pre done:List Lv),ks=pre++suf->done.length=pre.length ->
   zjz H (H++[.lst 0 3 [],.lst done.length 3 (Lv.css done),.lst 0 3 []]) (.sl (Lv.css ps)) (.sl (Lv.css ms)) (.int .i64 pre.length) [.int .i64 k,.int .i64 n,.sl (Lv.css ks)]
    [.int .i64 0,.int .i64 0,.ol H.length 0] [.int .i64 k,.int .i64 n,.ol (H.length+1) done.length]=some (.ret (.agg (Lv.mk k n (done++subLs ps ms suf)).cs),H):=by
  intro suf
  induction suf with
  |nil=>
   intro pre done e he;subst e;rw[zjz,zab];simp only[↓reduceIte,go_sem,subLs,Lv.cs]
  |cons x suf ih2=>
   intro pre done e he;subst e;simp at hk;have:=ih2 (pre++[x]) (done++[subL ps ms x]) (by simp) (by simp[he])
   simp only[zah]at this;simp only[zd7,List.append_assoc,List.cons_append,List.nil_append]at this;have hdl:done.length<=1073741823:=by omega
   rw[zjz,zab,subLs];simp only[↓reduceIte,go_sem,ih x (by simp) (hl.all x (by simp)) (d - 1) (zwo hks (by simp)),zad (n:=pre.length) (by omega),hdl,zpe,this]
 have l0:=loop ks [] [] rfl rfl;simp only[List.length_nil,Int.natCast_zero,List.nil_append,Lv.css,Lv.cs]at l0;rw[z4p,subL,byL];have hN:(n.toNat:Int)=n:=Int.toNat_of_nonneg hn;by_cases e5:k=5
 ·subst e5
  by_cases hlt:n<(ps.length:Int)
  ·obtain⟨x,hx⟩:∃x,ps[n.toNat]?=some x:=⟨ps[n.toNat],by simp⟩
   simp only[↓reduceIte,go_sem,Lv.cs,hlt,hn,hx]
  ·have hx:ps[n.toNat]?=none:=List.getElem?_eq_none (by omega)
   simp only[↓reduceIte,go_sem,Lv.cs,hlt,hx,l0]
 ·by_cases e6:k=6
  ·subst e6
   by_cases hlt:n<(ms.length:Int)
   ·obtain⟨x,hx⟩:∃x,ms[n.toNat]?=some x:=⟨ms[n.toNat],by simp⟩
    simp only[↓reduceIte,go_sem,Lv.cs,hlt,hn,hx]
   ·have hx:ms[n.toNat]?=none:=List.getElem?_eq_none (by omega)
    simp only[↓reduceIte,go_sem,Lv.cs,hlt,hx,l0]
  ·simp only[↓reduceIte,go_sem,Lv.cs,e5,e6,l0]
theorem yic(l:Lv)(ps ms:List Lv)(hl:l.ok)(hp:zrv ps)(hm:zrv ms)(hpl:ps.length<=140737488355328)(hml:ms.length<=140737488355328)(H:List AO):
  F zoa [.agg l.cs,.sl (Lv.css ps),.sl (Lv.css ms)] H=some (.ret (z3o (zp5 l ps ms)),H):=by
 rw[z4q,zp5];have h1:=ziq l hl 5 10 H;have h2:=zwt ps hpl hp H;have h3:=zwt ms hml hm H;by_cases hr:zax l 5 10=true
 ·by_cases a1:5<ps.length
  ·have a1':(5:Int)<ps.length:=by omega
   simp only[↓reduceIte,go_sem,h1,hr,a1,a1',z3o,zeroL,Lv.cs,Lv.css,Bool.true_eq_false,false_or,true_or]
  by_cases a2:10<ms.length
  ·have a1':¬ (5:Int)<ps.length:=by omega
   have a2':(10:Int)<ms.length:=by omega
   simp only[↓reduceIte,go_sem,h1,hr,a1,a1',a2,a2',z3o,zeroL,Lv.cs,Lv.css,Bool.true_eq_false,false_or,true_or]
  have a1':¬ (5:Int)<ps.length:=by omega
  have a2':¬ (10:Int)<ms.length:=by omega
  cases b1:zbm ps with
  |false=>simp only[↓reduceIte,go_sem,h1,h2,hr,a1,a1',a2,a2',b1,z3o,zeroL,Lv.cs,Lv.css,Bool.true_eq_false,false_or,true_or]
  |true=>
  cases b2:zbm ms with
  |false=>simp only[↓reduceIte,go_sem,h1,h2,h3,hr,a1,a1',a2,a2',b1,b2,z3o,zeroL,Lv.cs,Lv.css,Bool.true_eq_false,false_or,true_or]
  |true=>
  have h4:=ye8 5 10 ps ms l hl 12 (zs5 hr) H;have h5:=ziq (subL ps ms l) (z3i hp hm l hl) 5 10 H
  cases b3:zax (subL ps ms l) 5 10 <;> simp only[b3]at h5 <;> simp only[↓reduceIte,go_sem,h1,h2,h3,h4,h5,hr,a1,a1',a2,a2',b1,b2,b3,z3o,zeroL,Lv.cs,Lv.css,Bool.true_eq_false,Bool.false_eq_true,or_self,true_or]
 ·simp only[Bool.not_eq_true]at hr
  simp only[↓reduceIte,go_sem,h1,hr,z3o,zeroL,Lv.cs,Lv.css,true_or]
theorem yaw(l:Lv)(hl:l.ok)(H:List AO):F zlh [.agg l.cs] H=some (.ret (.bool (!zax l 5 10)),H):=by
 rw[z8a];simp only[↓reduceIte,go_sem,zgi l hl]
theorem grow_ok(n:Int)(h0:0<=n)(hn:n<=1073741824)(H:List AO):F zex [.ze,.int .i64 n] H=if n=0 then some (.ret .ze,H) else some (.ret (.ol H.length 1),H++[.lst 1 3 []]):=by
 rw[zqc];by_cases h:n=0
 ·subst h
  have e1:IntKind.wrap .i64 0=0:=zap (by omega) (by omega)
  simp only[↓reduceIte,go_sem,Int.sub_self,e1]
 ·simp only[↓reduceIte,go_sem,h,show ¬ n<0 by omega,show 0<n by omega,Int.sub_self,Int.sub_zero,zap (n:=0) (by omega) (by omega),zap (n:=n) (by omega) (by omega),hn]
inductive AccL (H:List AO):AV->List Lv->List AO->Prop
 |ze:AccL H .ze [] H
 |ol (ver:Nat) (es:List Lv):AccL H (.ol H.length ver) es (H++[.lst ver 3 (Lv.css es)])
def sls(xs:List (List Lv)):List (List AV):=xs.map fun x=>[.sl (Lv.css x)]
@[go_sem] theorem sls_len(xs:List (List Lv)):(sls xs).length=xs.length:=by simp[sls]
@[go_sem] theorem sls_get(xs:List (List Lv))(i:Nat):(sls xs)[i]?=xs[i]?.map fun x=>[.sl (Lv.css x)]:=by simp[sls]
@[go_sem] theorem css_all3(ks:List Lv):(∀e∈Lv.css ks,e.length=3)=True:=by
 refine eq_true fun e he=>?_
 rw[Lv.css_eq]at he;obtain⟨x,_,rfl⟩:=List.mem_map.1 he;exact yc7 x
theorem z2m(xs:List (List Lv))(hlen:xs.length<=1000)(ht:xs.flatten.length<=1073741824)(H:List AO):
  F zc5 [.sl (sls xs)] H=some (.ret (.sl (Lv.css xs.flatten)),H):=by
 have loop1:∀(suf pre:List (List Lv)) {v:AV} {es:List Lv} {H1:List AO},xs=pre++suf->AccL (H++[.lst 0 3 []]) v es H1->es.length+suf.flatten.length<=1073741824 ->
   zdz H H1 v (.sl (sls xs)) (.int .i64 xs.length) (.int .i64 pre.length)=some (.ret (.sl (Lv.css (es++suf.flatten))),H):=by
  intro suf
  induction suf with
  |nil=>
   intro pre v es H1 e ha hb;subst e;rw[zdz,zab]
   cases ha with
   |ze=>simp only[↓reduceIte,go_sem,List.flatten_nil,Lv.css]
   |ol ver=>simp only[↓reduceIte,go_sem,List.flatten_nil]
  |cons x suf ih=>
   intro pre v es H1 e ha hb;subst e;simp at hlen;rw[List.flatten_cons,List.length_append]at hb;rw[zdz,zab]
   cases ha with
   |ze=>
    cases x with
    |nil=>
     have:=ih (pre++[[]]) (by simp) (AccL.ze (H:=H++[.lst 0 3 []])) (by simpa using hb)
     simp only[zah]at this;simp only[↓reduceIte,go_sem,Lv.css,zad (n:=pre.length) (by omega),this,List.flatten_cons]
    |cons y ys=>
     have:=ih (pre++[y::ys]) (by simp) (AccL.ol (H:=H++[.lst 0 3 []]) 0 (y::ys)) (by simpa using hb)
     simp only[zah]at this;simp only[↓reduceIte,go_sem,Lv.css]at this;simp at hb;simp only[↓reduceIte,go_sem,Lv.css,zad (n:=pre.length) (by omega),show ys.length<1073741824 by omega,this,List.flatten_cons]
   |ol ver=>
    have:=ih (pre++[x]) (by simp) (AccL.ol (H:=H++[.lst 0 3 []]) (ver+1) (es++x)) (by simp at hb ⊢;omega)
    simp only[zah]at this;simp only[↓reduceIte,go_sem]at this;simp only[↓reduceIte,go_sem,zad (n:=pre.length) (by omega),show es.length+x.length<=1073741824 by omega,<- z4z,this,List.flatten_cons,List.append_assoc]
 have loop0:∀(suf pre:List (List Lv)),xs=pre++suf ->
   zd0 H (H++[.lst 0 3 []]) (.sl (sls xs)) (.int .i64 pre.flatten.length) (.sl (sls xs)) (.int .i64 xs.length) (.int .i64 pre.length)=some (.ret (.sl (Lv.css xs.flatten)),H):=by
  intro suf
  induction suf with
  |nil=>
   intro pre e;subst e;simp only[List.append_nil]at *;have hg:=grow_ok pre.flatten.length (by omega) (by omega) (H++[.lst 0 3 []])
   rw[zd0,zab];by_cases h0:pre.flatten.length=0
   ·have h1:=loop1 pre [] rfl (AccL.ze (H:=H++[.lst 0 3 []])) (by simpa using ht)
    simp only[List.length_nil,Int.natCast_zero,List.nil_append]at h1;rw[if_pos (by omega)]at hg
    simp only[↓reduceIte,go_sem,hg,h1]
   ·have h1:=loop1 pre [] rfl (AccL.ol (H:=H++[.lst 0 3 []]) 1 []) (by simpa using ht)
    simp only[List.length_nil,Int.natCast_zero,List.nil_append]at h1;rw[if_neg (by omega)]at hg
    simp only[↓reduceIte,go_sem,Lv.css]at hg h1;simp only[↓reduceIte,go_sem,hg,h1]
  |cons x suf ih=>
   intro pre e;subst e;simp at hlen;have:=ih (pre++[x]) (by simp)
   have hl:((pre++[x]).flatten.length:Int)=(pre.flatten.length:Int)+(x.length:Int):=by simp
   rw[hl]at this;simp only[zah]at this;simp only[List.flatten_append,List.flatten_cons,List.length_append]at ht;rw[zd0,zab];simp only[↓reduceIte,go_sem,zad (n:=pre.length) (by omega),zap (n:=(pre.flatten.length:Int)+(x.length:Int)) (by omega) (by omega),show ¬ (pre.flatten.length:Int)+(x.length:Int)<0 by omega]
   rw[this]
 have h0:=loop0 xs [] rfl;simp only[List.length_nil,Int.natCast_zero,List.flatten_nil]at h0;rw[zoq];simp only[↓reduceIte,go_sem,h0]
def GoodL(fv:AV)(ps ms:List Lv)(H:List AO):Prop:=∀(X:List AO) (k n:Int) (ks:List Lv),0<=n->cfl T fv [.agg (Lv.mk k n ks).cs] (H++X)=some (.ret (.tup [.agg ((byL ps ms k n).getD (.mk k n ks)).cs,.bool (byL ps ms k n).isSome]),H++X)
theorem GoodL.ext{fv:AV}{ps ms:List Lv}{H:List AO}(h:GoodL fv ps ms H)(Y:List AO):GoodL fv ps ms (H++Y):=fun X k n ks hn=>by rw[List.append_assoc];exact h (Y++X) k n ks hn
theorem yez(p m:Int)(fv:AV)(hfv:fv.one=true)(ps ms:List Lv)(l:Lv):l.ok->∀(d:Int),rightB p m l d=true->∀(H:List AO),GoodL fv ps ms H ->
  F zmj [.agg l.cs,fv] H=some (.ret (.agg (subL ps ms l).cs),H):=by
 induction l using Lv.ind with
 |h k n ks ih=>
 intro hl d hr H hg;obtain⟨hd,hk,hn,h5,h6,h0,hks⟩:=zwr hr;have hk3:=z1b k;have loop:∀(suf pre done:List Lv),ks=pre++suf->done.length=pre.length ->
   zj0 H (H++[.lst 0 3 [],.lst 0 3 [],.lst done.length 3 (Lv.css done),.lst 0 3 []]) fv (.sl (Lv.css ks)) (.int .i64 ks.length) (.int .i64 pre.length)
    [.int .i64 0,.int .i64 0,.ol H.length 0] [.int .i64 k,.int .i64 n,.ol (H.length+2) done.length]=some (.ret (.agg (Lv.mk k n (done++subLs ps ms suf)).cs),H):=by
  intro suf
  induction suf with
  |nil=>
   intro pre done e he;subst e;rw[zj0,zab];simp only[↓reduceIte,go_sem,subLs,Lv.cs]
  |cons x suf ih2=>
   intro pre done e he;subst e;simp at hk;have:=ih2 (pre++[x]) (done++[subL ps ms x]) (by simp) (by simp[he])
   simp only[zah]at this;simp only[zd7,List.append_assoc,List.cons_append,List.nil_append]at this;have hdl:done.length<=1073741823:=by omega
   rw[zj0,zab,subLs];simp only[↓reduceIte,go_sem,ih x (by simp) (hl.all x (by simp)) (d - 1) (zwo hks (by simp)) _ (hg.ext _),zad (n:=pre.length) (by omega),hdl,zpe,this]
 have l0:=loop ks [] [] rfl rfl;simp only[List.length_nil,Int.natCast_zero,List.nil_append,Lv.css,Lv.cs]at l0;have hb:=hg [.lst 0 3 []] k n ks hn;rw[z4r,subL]
 cases hx:byL ps ms k n with
 |some x=>
  simp only[hx,Option.getD_some,Option.isSome_some]at hb;rw[Lv.cs]at hb ⊢;simp only[↓reduceIte,go_sem,hb]
 |none=>
  simp only[hx,Option.getD_none,Option.isSome_none]at hb;rw[Lv.cs]at hb;rw[Lv.cs];simp only[↓reduceIte,go_sem,hb,l0];rfl
theorem Sub_ok(l:Lv)(ps ms:List Lv)(hl:l.ok)(hp:zrv ps)(hm:zrv ms)(hpl:ps.length<=140737488355328)(hml:ms.length<=140737488355328)(H:List AO):
  F zq1 [.agg l.cs,.sl (Lv.css ps),.sl (Lv.css ms)] H=some (.ret (z3o (zp5 l ps ms)),H):=by
 have h1:=yaw l hl (H++[.box [.sl (Lv.css ps)],.box [.sl (Lv.css ms)]]);rw[z8b,zp5];by_cases hr:zax l 5 10=true
 ·by_cases a1:5<ps.length
  ·have a1':(5:Int)<ps.length:=by omega
   simp only[↓reduceIte,go_sem,h1,hr,a1,a1',z3o,zeroL,Lv.cs,Lv.css,Bool.true_eq_false,false_or,true_or]
  by_cases a2:10<ms.length
  ·have a1':¬ (5:Int)<ps.length:=by omega
   have a2':(10:Int)<ms.length:=by omega
   simp only[↓reduceIte,go_sem,h1,hr,a1,a1',a2,a2',z3o,zeroL,Lv.cs,Lv.css,Bool.true_eq_false,false_or,true_or]
  have a1':¬ (5:Int)<ps.length:=by omega
  have a2':¬ (10:Int)<ms.length:=by omega
  have hc:=z2m [ps,ms] (by simp) (by simp;omega) (H++[.box [.sl (Lv.css ps)],.box [.sl (Lv.css ms)]])
  simp only[sls,List.map_cons,List.map_nil,List.flatten_cons,List.flatten_nil,List.append_nil]at hc;have ha:=zz3 (ps++ms) (by simp;omega) (.fn (.func zlh) [] []) (fun x=>!zax x 5 10) (H++[.box [.sl (Lv.css ps)],.box [.sl (Lv.css ms)]]) (fun x hx=>by
   simp only[z6v];exact yaw x (by rcases List.mem_append.1 hx with h|h;exact hp x h;exact hm x h) _)
  rw[<- List.not_all_eq_any_not,List.all_append]at ha;rw[show (ps.all fun x=>zax x 5 10)=zbm ps from rfl,show (ms.all fun x=>zax x 5 10)=zbm ms from rfl]at ha
  by_cases hb:(zbm ps && zbm ms)=true
  ·have hb2:=hb
   rw[Bool.and_eq_true]at hb2;have hg:GoodL (.fn (.func zmk) [] [.ptr H.length 0,.ptr (H.length+1) 0]) ps ms (H++[.box [.sl (Lv.css ps)],.box [.sl (Lv.css ms)]]):=by
    intro X k n ks hn;simp only[zgh,List.cons_append,List.nil_append,List.append_assoc,z11];have e:((H++AO.box [.sl (Lv.css ps)]::AO.box [.sl (Lv.css ms)]::X)[H.length+1]?)=some (.box [.sl (Lv.css ms)]):=by rw[ztz];rfl
    have e0:((H++AO.box [.sl (Lv.css ps)]::AO.box [.sl (Lv.css ms)]::X)[H.length]?)=some (.box [.sl (Lv.css ps)]):=by rw[zt0];rfl
    generalize H++AO.box [.sl (Lv.css ps)]::AO.box [.sl (Lv.css ms)]::X=H' at *;unfold byL;have hN:(n.toNat:Int)=n:=Int.toNat_of_nonneg hn;by_cases e5:k=5
    ·subst e5
     by_cases hlt:n<(ps.length:Int)
     ·obtain⟨x,hx⟩:∃x,ps[n.toNat]?=some x:=⟨ps[n.toNat],by simp⟩
      simp only[↓reduceIte,go_sem,Lv.cs,e,e0,hlt,hn,hx,Option.getD_some,Option.isSome_some]
     ·have hx:ps[n.toNat]?=none:=List.getElem?_eq_none (by omega)
      simp only[↓reduceIte,go_sem,Lv.cs,e,e0,hlt,hx,Option.getD_none,Option.isSome_none]
    ·by_cases e6:k=6
     ·subst e6
      by_cases hlt:n<(ms.length:Int)
      ·obtain⟨x,hx⟩:∃x,ms[n.toNat]?=some x:=⟨ms[n.toNat],by simp⟩
       simp only[↓reduceIte,go_sem,Lv.cs,e,e0,hlt,hn,hx,Option.getD_some,Option.isSome_some]
      ·have hx:ms[n.toNat]?=none:=List.getElem?_eq_none (by omega)
       simp only[↓reduceIte,go_sem,Lv.cs,e,e0,hlt,hx,Option.getD_none,Option.isSome_none]
     ·simp only[↓reduceIte,go_sem,Lv.cs,e,e0,e5,e6,Option.getD_none,Option.isSome_none]
   have ht:=yez 5 10 _ rfl ps ms l hl 12 (zs5 hr) _ hg;have h5:=yaw (subL ps ms l) (z3i hp hm l hl) (H++[.box [.sl (Lv.css ps)],.box [.sl (Lv.css ms)]]);simp only[hb]at ha
   cases b3:zax (subL ps ms l) 5 10 <;> simp only[b3]at h5 <;> simp only[↓reduceIte,go_sem,h1,hr,a1,a1',a2,a2',hb2.1,hb2.2,hc,ha,ht,h5,b3,z3o,zeroL,Lv.cs,Lv.css,Bool.true_eq_false,Bool.false_eq_true,or_self,true_or,false_or]
  ·have hb':zbm ps=false\/zbm ms=false:=by
    cases h1:zbm ps <;> cases h2:zbm ms <;> simp_all
   simp only[Bool.not_eq_true]at hb;simp only[hb]at ha;simp only[↓reduceIte,go_sem,h1,hr,a1,a1',a2,a2',hb',hc,ha,z3o,zeroL,Lv.cs,Lv.css,Bool.true_eq_false,or_self,true_or,or_true,false_or]
 ·simp only[Bool.not_eq_true]at hr
  simp only[↓reduceIte,go_sem,h1,hr,z3o,zeroL,Lv.cs,Lv.css,true_or]
end Go.Ab
end
section
set_option linter.unusedVariables false
set_option linter.unusedSimpArgs false
set_option maxRecDepth 100000
set_option maxHeartbeats 2000000
namespace Go.Ab
open Go.RowKit Go.Proofs
mutual
def rightT(p m:Int):Te->Int->Int->Bool
 |.mk k n ls ks,v,d=>if d<1 then false else if (ks.length:Int)≠zdx k then false else if ((ls.all fun x=>zax x p m) && zc9 k n ls v)=false then false else rightTs p m k ks 0 v (d - 1)
def rightTs(p m:Int)(k:Int):List Te->Int->Int->Int->Bool
 |[],_,_,_=>true
 |x::r,i,v,d=>rightT p m x (v+binds k i) d && rightTs p m k r (i+1) v d
end
theorem z7m(p m:Int)(t:Te):t.ok->∀(v d:Int),-1000<=d/\d<=1000->0<=v/\v+d<=1000000->∀(H:List AO),F zgq [.agg t.cs,.int .i64 v,.int .i64 p,.int .i64 m,.int .i64 d] H=some (.ret (.bool (rightT p m t v d)),H):=by
 induction t using Te.ind with
 |h k n ls ks ih=>
 intro hl v d hd hv H;have hlen:=hl.len;have loop:¬ d<1->∀(suf pre:List Te),ks=pre++suf ->
   zhp H H (.int .i64 v) (.int .i64 p) (.int .i64 m) (.int .i64 d) (.int .i64 pre.length) [.int .i64 k,.int .i64 n,.sl (Lv.css ls),.sl (Te.css ks)]=some (.ret (.bool (rightTs p m k suf pre.length v (d - 1))),H):=by
  intro hd1 suf
  induction suf with
  |nil=>
   intro pre e;subst e;rw[zhp,zab];simp only[↓reduceIte,go_sem,rightTs]
  |cons x suf ih2=>
   intro pre e;subst e;simp at hlen;have:=ih2 (pre++[x]) (by simp)
   simp only[zah]at this;have hb:=zio k pre.length;rw[zhp,zab,rightTs];simp only[↓reduceIte,go_sem,zsm,zap (n:=d - 1) (by omega) (by omega),zap (n:=v+binds k pre.length) (by omega) (by omega),ih x (by simp) (hl.all x (by simp)) (v+binds k pre.length) (d - 1) (by omega) (by omega) H,zad (n:=pre.length) (by omega),this]
   cases rightT p m x (v+binds k pre.length) (d - 1) <;> simp
 have:=fun h=>loop h ks [] rfl
 simp only[List.length_nil,Int.natCast_zero]at this;rw[zy6,rightT];simp only[↓reduceIte,go_sem,Te.cs,yb6,z7w k n ls ks hl.len2 hl.all2];by_cases h1:d<1
 ·simp[h1]
 ·simp only[this h1]
  grind
def zc0(t:Te)(v p m:Int):Bool:=decide (0<=v) && decide (v<=1000) && decide (0<=p) && decide (p<=5) && decide (0<=m) && decide (m<=10) && decide (parts t 601<=600) && rightT p m t v 30
theorem znm(t:Te)(hl:t.ok)(v p m:Int)(H:List AO):F zfu [.agg t.cs,.int .i64 v,.int .i64 p,.int .i64 m] H=some (.ret (.bool (zc0 t v p m)),H):=by
 rw[zza,zc0];have hr:0<=v->v<=1000->F zgq [.agg t.cs,.int .i64 v,.int .i64 p,.int .i64 m,.int .i64 30] H=some (.ret (.bool (rightT p m t v 30)),H):=fun h1 h2=>z7m p m t hl v 30 (by omega) (by omega) H
 by_cases h1:0<=v <;> by_cases h2:v<=1000 <;> simp only[↓reduceIte,go_sem,h1,h2,z7q t hl 601 (by omega),hr] <;> grind
def za6(t:Te):Bool:=zc0 t 1000 5 10
theorem zch(t:Te)(hl:t.ok)(H:List AO):F zdm [.agg t.cs] H=some (.ret (.bool (za6 t)),H):=by
 rw[zy9,za6];simp only[↓reduceIte,go_sem,znm t hl]
mutual
def teEq:Te->Te->Bool
 |.mk a b l ks,.mk c d m js=>decide (a=c) && decide (b=d) && lvsEq l m && tesEq ks js
def tesEq:List Te->List Te->Bool
 |[],[]=>true
 |x::l,y::m=>teEq x y && tesEq l m
 |_,_=>false
end
theorem zt9:∀{l m:List Te},l.length≠m.length->tesEq l m=false
 |[],[],h=>absurd rfl h
 |[],_::_,_=>by rw[tesEq];all_goals simp
 |_::_,[],_=>by rw[tesEq];all_goals simp
 |x::l,y::m,h=>by rw[tesEq,zt9 (l:=l) (m:=m) (by simpa using h)];simp
theorem z98(a:Te):a.ok->∀(b:Te) (H:List AO),F zj4 [.agg a.cs,.agg b.cs] H=some (.ret (.bool (teEq a b)),H):=by
 induction a using Te.ind with
 |h k n ls ks ih=>
 intro hl b H;obtain⟨k',n',ls',ks'⟩:=b;have hlen:=hl.len;have hlen2:=hl.len2;have loop2:ks.length=ks'.length->∀(suf pre suf' pre':List Te),ks=pre++suf->ks' = pre' ++ suf' -> pre.length=pre'.length ->
   ziw H H (.int .i64 pre.length) [.int .i64 k,.int .i64 n,.sl (Lv.css ls),.sl (Te.css ks)] [.int .i64 k',.int .i64 n',.sl (Lv.css ls'),.sl (Te.css ks')]=some (.ret (.bool (tesEq suf suf')),H):=by
  intro hll suf
  induction suf with
  |nil=>
   intro pre suf' pre' e e' he;subst e;subst e';have:suf' = []:=List.eq_nil_of_length_eq_zero (by simp at hll;omega)
   subst this;rw[ziw,zab];simp only[↓reduceIte,go_sem,tesEq]
  |cons x suf ih2=>
   intro pre suf' pre' e e' he;subst e;subst e';simp at hlen
   cases suf' with
   |nil=>simp at hll;omega
   |cons y suf'=>
   have hy:(pre' ++ y::suf')[pre.length]?=some y:=by rw[he];simp
   have:=ih2 (pre++[x]) suf' (pre' ++ [y]) (by simp) (by simp) (by simp[he])
   simp only[zah]at this;rw[ziw,zab,tesEq];simp only[↓reduceIte,go_sem,hy,ih x (by simp) (hl.all x (by simp)) y H,zad (n:=pre.length) (by omega),this]
   cases teEq x y <;> simp
 have loop1:ks.length=ks'.length->ls.length=ls'.length->∀(suf pre suf' pre':List Lv),ls=pre++suf->ls' = pre' ++ suf' -> pre.length=pre'.length ->
   zix H H (.int .i64 pre.length) [.int .i64 k,.int .i64 n,.sl (Lv.css ls),.sl (Te.css ks)] [.int .i64 k',.int .i64 n',.sl (Lv.css ls'),.sl (Te.css ks')]=some (.ret (.bool (lvsEq suf suf' && tesEq ks ks')),H):=by
  intro hkk hll suf
  induction suf with
  |nil=>
   intro pre suf' pre' e e' he;subst e;subst e';have:suf' = []:=List.eq_nil_of_length_eq_zero (by simp at hll;omega)
   subst this;rw[zix,zab];have:=loop2 hkk ks [] ks' [] rfl rfl rfl;simp only[List.length_nil,Int.natCast_zero,List.append_nil]at this;simp only[↓reduceIte,go_sem,lvsEq,this,Bool.true_and]
  |cons x suf ih2=>
   intro pre suf' pre' e e' he;subst e;subst e';simp at hlen2
   cases suf' with
   |nil=>simp at hll;omega
   |cons y suf'=>
   have hy:(pre' ++ y::suf')[pre.length]?=some y:=by rw[he];simp
   have:=ih2 (pre++[x]) suf' (pre' ++ [y]) (by simp) (by simp) (by simp[he])
   simp only[zah]at this;rw[zix,zab,lvsEq];simp only[↓reduceIte,go_sem,hy,z99 x (hl.all2 x (by simp)) y H,zad (n:=pre.length) (by omega),this]
   cases lvEq x y <;> simp
 rw[z1v,teEq];simp only[↓reduceIte,go_sem,Te.cs];by_cases h3:ks.length=ks'.length
 ·by_cases h4:ls.length=ls'.length
  ·have:=loop1 h3 h4 ls [] ls' [] rfl rfl rfl
   simp only[List.length_nil,Int.natCast_zero]at this;rw[this]
   grind
  ·have h4':¬ (ls.length:Int)=(ls'.length:Int):=by omega
   rw[zq0 h4];simp[h4']
 ·have h3':¬ (ks.length:Int)=(ks'.length:Int):=by omega
  rw[zt9 h3];simp[h3']
end Go.Ab
end
section
set_option linter.unusedVariables false
set_option linter.unusedSimpArgs false
set_option maxRecDepth 100000
set_option maxHeartbeats 2000000
namespace Go.Ab
open Go.RowKit Go.Proofs
mutual
def liftT(b:Int):Te->Int->Te
 |.mk k n ls ks,f=>.mk k (if k=1/\f<=n then n+b else n) ls (liftTs b k ks 0 f)
def liftTs(b k:Int):List Te->Int->Int->List Te
 |[],_,_=>[]
 |x::r,i,f=>liftT b x (f+binds k i)::liftTs b k r (i+1) f
end
mutual
def openT(u:Te):Te->Int->Te
 |.mk k n ls ks,f=>if k=1/\n=f then liftT f u 0 else .mk k (if k=1/\f<n then n - 1 else n) ls (openTs u k ks 0 f)
def openTs(u:Te)(k:Int):List Te->Int->Int->List Te
 |[],_,_=>[]
 |x::r,i,f=>openT u x (f+binds k i)::openTs u k r (i+1) f
end
theorem zmo(k:Int):zdx k<=3:=by unfold zdx;grind
theorem zb8{p m k n v d:Int}{ls:List Lv}{ks:List Te}(h:rightT p m (.mk k n ls ks) v d=true):
  1<=d/\(ks.length:Int)=zdx k/\(ls.all fun x=>zax x p m)=true/\zc9 k n ls v=true/\rightTs p m k ks 0 v (d - 1)=true:=by
 rw[rightT]at h
 split at h
 ·cases h
 ·split at h
  ·cases h
  ·split at h
   ·cases h
   ·rename_i h1 h2 h3
    simp at h3;exact⟨by omega,by simpa using h2,by simpa using h3.1,h3.2,h⟩
theorem zug{p m k v d:Int}:∀{a b:List Te} {i:Int},rightTs p m k (a++b) i v d=true->rightTs p m k a i v d=true/\rightTs p m k b (i+a.length) v d=true
 |[],b,i,h=>⟨rfl,by simpa using h⟩
 |x::a,b,i,h=>by
  rw[List.cons_append,rightTs,Bool.and_eq_true]at h;obtain⟨h1,h2⟩:=zug h.2;refine⟨by rw[rightTs,h.1,h1];rfl,?_⟩
  have:i+((x::a).length:Int)=i+1+(a.length:Int):=by simp;omega
  rw[this];exact h2
theorem zkn{p m k v d:Int}{a b:List Te}{x:Te}(h:rightTs p m k (a++x::b) 0 v d=true):rightT p m x (v+binds k a.length) d=true:=by
 have:=(zug h).2;rw[rightTs,Bool.and_eq_true]at this;simpa using this.1
theorem zkt{n v:Int}{ls:List Lv}(h:zc9 1 n ls v=true):0<=n/\n<v/\ls=[]:=by
 unfold zc9 at h;simp at h;exact⟨h.1.1,h.1.2,h.2⟩
theorem z05(p m b:Int)(hb:0<=b/\b<=1000000)(t:Te):t.ok->∀(v d f:Int),rightT p m t v d=true->d<=1000->0<=v/\v+d<=1000000 -> -1000000<=f/\f+d<=1000000->∀(H:List AO),
  F zib [.agg t.cs,.int .i64 f,.int .i64 b] H=some (.ret (.agg (liftT b t f).cs),H):=by
 induction t using Te.ind with
 |h k n ls ks ih=>
 intro hl v d f hr hd hv hf H;obtain⟨hd1,hk,hls,hn,hks⟩:=zb8 hr;have hk3:=zmo k;have loop:∀(n':Int) (suf pre done:List Te),ks=pre++suf->done.length=pre.length ->
   ziv H (H++[.lst 0 3 [],.lst 0 4 [],.lst 0 3 [],.lst done.length 4 (Te.css done),.lst 0 3 [],.lst 0 4 []]) (.int .i64 f) (.int .i64 b) (.int .i64 pre.length) [.int .i64 k,.int .i64 n,.sl (Lv.css ls),.sl (Te.css ks)]
    [.int .i64 0,.int .i64 0,.ol H.length 0,.ol (H.length+1) 0] [.int .i64 k,.int .i64 n',.sl (Lv.css ls),.ol (H.length+3) done.length]=some (.ret (.agg (Te.mk k n' ls (done++liftTs b k suf pre.length f)).cs),H):=by
  intro n' suf
  induction suf with
  |nil=>
   intro pre done e he;subst e;rw[ziv,zab];simp only[↓reduceIte,go_sem,liftTs,Te.cs]
  |cons x suf ih2=>
   intro pre done e he;subst e;simp at hk;have:=ih2 (pre++[x]) (done++[liftT b x (f+binds k pre.length)]) (by simp) (by simp[he])
   simp only[zah]at this;simp only[zd7,List.append_assoc,List.cons_append,List.nil_append]at this;have hdl:done.length<=1073741823:=by omega
   have hbr:=zio k pre.length;rw[ziv,zab,liftTs];simp only[↓reduceIte,go_sem,zsm,zap (n:=f+binds k pre.length) (by omega) (by omega),ih x (by simp) (hl.all x (by simp)) (v+binds k pre.length) (d - 1) (f+binds k pre.length) (zkn hks) (by omega) (by omega) (by omega),zad (n:=pre.length) (by omega),hdl,this]
 have l0:=fun n'=>loop n' ks [] [] rfl rfl
 simp only[List.length_nil,Int.natCast_zero,List.nil_append,Te.css,Te.cs]at l0;rw[z1t,liftT];by_cases h1:k=1
 ·subst h1
  obtain⟨h2,h3,h4⟩:=zkt hn;simp only[↓reduceIte,go_sem,Te.cs,zap (n:=n+b) (by omega) (by omega),l0]
  split <;> simp_all
 ·simp only[↓reduceIte,go_sem,Te.cs,h1,l0,false_and]
theorem yjn{k n:Int}{ls:List Lv}{ks:List Te}(h:(Te.mk k n ls ks).ok)(n':Int){js:List Te}(hl:js.length=ks.length)(hj:∀x∈js,x.ok):(Te.mk k n' ls js).ok:=by
 cases h with
 |mk a b c d=>exact .mk (by omega) b c hj
theorem zr3(b k:Int):∀(ks:List Te) (i f:Int),(liftTs b k ks i f).length=ks.length
 |[],_,_=>rfl
 |x::r,i,f=>by rw[liftTs];simp[zr3 b k r]
theorem zrt(u:Te)(k:Int):∀(ks:List Te) (i f:Int),(openTs u k ks i f).length=ks.length
 |[],_,_=>rfl
 |x::r,i,f=>by rw[openTs];simp[zrt u k r]
theorem zwy{b k:Int}{p:Te->Prop}:∀{ks:List Te} {i f:Int},(∀x∈ks,∀f,p (liftT b x f))->∀y∈liftTs b k ks i f,p y
 |[],_,_,_,y,hy=>by cases hy
 |x::r,i,f,h,y,hy=>by
  rw[liftTs]at hy;rcases List.mem_cons.1 hy with rfl|hy
  ·exact h x (by simp) _
  ·exact zwy (fun z hz=>h z (by simp[hz])) y hy
theorem zwx{u:Te}{k:Int}{p:Te->Prop}:∀{ks:List Te} {i f:Int},(∀x∈ks,∀f,p (openT u x f))->∀y∈openTs u k ks i f,p y
 |[],_,_,_,y,hy=>by cases hy
 |x::r,i,f,h,y,hy=>by
  rw[openTs]at hy;rcases List.mem_cons.1 hy with rfl|hy
  ·exact h x (by simp) _
  ·exact zwx (fun z hz=>h z (by simp[hz])) y hy
theorem zyd(b:Int)(t:Te):t.ok->∀f,(liftT b t f).ok:=by
 induction t using Te.ind with
 |h k n ls ks ih=>intro h f;rw[liftT];exact yjn h _ (zr3 _ _ _ _ _) (zwy fun x hx=>ih x hx (h.all x hx))
theorem z3t(u:Te)(hu:u.ok)(t:Te):t.ok->∀f,(openT u t f).ok:=by
 induction t using Te.ind with
 |h k n ls ks ih=>
  intro h f;rw[openT]
  split
  ·exact zyd f u hu 0
  ·exact yjn h _ (zrt _ _ _ _ _) (zwx fun x hx=>ih x hx (h.all x hx))
theorem yat(p m:Int)(u:Te)(huk:u.ok)(vu du:Int)(hu:rightT p m u vu du=true)(hdu:du<=1000)(hvu:0<=vu/\vu+du<=1000000)(t:Te):t.ok->∀(v d f:Int),rightT p m t v d=true->d<=1000->0<=v/\v+d<=1000000->0<=f/\f+d<=1000000->∀(H:List AO),
  F zj3 [.agg t.cs,.int .i64 f,.agg u.cs] H=some (.ret (.agg (openT u t f).cs),H):=by
 induction t using Te.ind with
 |h k n ls ks ih=>
 intro hl v d f hr hd hv hf H;obtain⟨hd1,hk,hls,hn,hks⟩:=zb8 hr;have hk3:=zmo k;have loop:∀(n':Int) (suf pre done:List Te),ks=pre++suf->done.length=pre.length ->
   ziu H (H++[.lst 0 3 [],.lst 0 4 [],.lst 0 3 [],.lst done.length 4 (Te.css done),.lst 0 3 [],.lst 0 4 []]) (.int .i64 f) (.int .i64 pre.length) [.int .i64 k,.int .i64 n,.sl (Lv.css ls),.sl (Te.css ks)] u.cs
    [.int .i64 0,.int .i64 0,.ol H.length 0,.ol (H.length+1) 0] [.int .i64 k,.int .i64 n',.sl (Lv.css ls),.ol (H.length+3) done.length]=some (.ret (.agg (Te.mk k n' ls (done++openTs u k suf pre.length f)).cs),H):=by
  intro n' suf
  induction suf with
  |nil=>
   intro pre done e he;subst e;rw[ziu,zab];simp only[↓reduceIte,go_sem,openTs,Te.cs]
  |cons x suf ih2=>
   intro pre done e he;subst e;simp at hk;have:=ih2 (pre++[x]) (done++[openT u x (f+binds k pre.length)]) (by simp) (by simp[he])
   simp only[zah]at this;simp only[zd7,List.append_assoc,List.cons_append,List.nil_append]at this;have hdl:done.length<=1073741823:=by omega
   have hbr:=zio k pre.length;rw[ziu,zab,openTs];simp only[↓reduceIte,go_sem,zsm,zap (n:=f+binds k pre.length) (by omega) (by omega),ih x (by simp) (hl.all x (by simp)) (v+binds k pre.length) (d - 1) (f+binds k pre.length) (zkn hks) (by omega) (by omega) (by omega),zad (n:=pre.length) (by omega),hdl,this]
 have l0:=fun n'=>loop n' ks [] [] rfl rfl
 simp only[List.length_nil,Int.natCast_zero,List.nil_append,Te.css,Te.cs]at l0;have hL:=fun h1=>z05 p m f ⟨h1,by omega⟩ u huk vu du 0 hu hdu hvu (by omega)
 rw[z1s,openT];by_cases h1:k=1
 ·subst h1
  obtain⟨h2,h3,h4⟩:=zkt hn;by_cases h5:n=f
  ·simp only[↓reduceIte,go_sem,Te.cs,h5,hL hf.1,and_self]
  ·simp only[↓reduceIte,go_sem,Te.cs,zap (n:=n - 1) (by omega) (by omega),l0,h5]
   split <;> simp_all
 ·simp only[↓reduceIte,go_sem,Te.cs,h1,l0,false_and]
end Go.Ab
end
section
set_option linter.unusedVariables false
set_option linter.unusedSimpArgs false
set_option maxRecDepth 100000
set_option maxHeartbeats 2000000
namespace Go.Ab
open Go.RowKit Go.Proofs
def zeroT:Te:=.mk 0 0 [] []
theorem ze9{t:Te}(h:za6 t=true):rightT 5 10 t 1000 30=true:=by
 unfold za6 zc0 at h;simp at h;exact h.2
def zs7(t:Te):Te×Int:=if za6 t=true then (t,0) else (zeroT,2)
abbrev zi4(x:Te×Int):AV:=.tup [.agg x.1.cs,.int .i64 x.2]
def zh1(t:Te)(f b:Int):Te×Int:=if za6 t=false\/f<0\/1000<f\/b<0\/1000<b then (zeroT,1) else zs7 (liftT b t f)
def zjp(t u:Te):Te×Int:=if za6 t=false\/za6 u=false then (zeroT,1) else zs7 (openT u t 0)
theorem yd9(t:Te)(hl:t.ok)(f b:Int)(H:List AO):F zmf [.agg t.cs,.int .i64 f,.int .i64 b] H=some (.ret (zi4 (zh1 t f b)),H):=by
 rw[z1x,zh1];by_cases h:za6 t=false\/f<0\/1000<f\/b<0\/1000<b
 ·simp only[h,↓reduceIte]
  by_cases h1:za6 t=true
  ·simp[h1]at h
   by_cases h2:f<0
   ·simp only[↓reduceIte,go_sem,zch t hl,h1,h2,zi4,zeroT,Te.cs,Lv.css,Te.css]
   by_cases h3:1000<f
   ·simp only[↓reduceIte,go_sem,zch t hl,h1,h2,h3,zi4,zeroT,Te.cs,Lv.css,Te.css]
   by_cases h4:b<0
   ·simp only[↓reduceIte,go_sem,zch t hl,h1,h2,h3,h4,zi4,zeroT,Te.cs,Lv.css,Te.css]
   have h5:1000<b:=by omega
   simp only[↓reduceIte,go_sem,zch t hl,h1,h2,h3,h4,h5,zi4,zeroT,Te.cs,Lv.css,Te.css]
  ·simp only[Bool.not_eq_true]at h1
   simp only[↓reduceIte,go_sem,zch t hl,h1,zi4,zeroT,Te.cs,Lv.css,Te.css]
 ·simp only[h,↓reduceIte]
  simp at h;have hs:=ze9 h.1;have h2:¬ f<0:=by omega
  have h3:¬ 1000<f:=by omega
  have h4:¬ b<0:=by omega
  have h5:¬ 1000<b:=by omega
  have hL:=z05 5 10 b (by omega) t hl 1000 30 f hs (by omega) (by omega) (by omega)
  have ho:=zch _ (zyd b t hl f);unfold zs7 zi4;simp only[↓reduceIte,go_sem,zch t hl,h.1,h2,h3,h4,h5,hL,ho,zi4,zeroT,Te.cs,Lv.css,Te.css]
  cases za6 (liftT b t f) <;> simp[Te.cs,Lv.css,Te.css]
theorem zm5(t u:Te)(hl:t.ok)(hu:u.ok)(H:List AO):F zj5 [.agg t.cs,.agg u.cs] H=some (.ret (zi4 (zjp t u)),H):=by
 rw[z1w,zjp];by_cases h:za6 t=false\/za6 u=false
 ·simp only[h,↓reduceIte]
  cases h1:za6 t with
  |true=>
   have h2:za6 u=false:=by simpa [h1] using h
   simp only[↓reduceIte,go_sem,zch t hl,zch u hu,h1,h2,zi4,zeroT,Te.cs,Lv.css,Te.css]
  |false=>simp only[↓reduceIte,go_sem,zch t hl,h1,zi4,zeroT,Te.cs,Lv.css,Te.css]
 ·simp only[h,↓reduceIte]
  simp at h;have hO:=yat 5 10 u hu 1000 30 (ze9 h.2) (by omega) (by omega) t hl 1000 30 0 (ze9 h.1) (by omega) (by omega) (by omega)
  have ho:=zch _ (z3t u hu t hl 0);unfold zs7 zi4;simp only[↓reduceIte,go_sem,zch t hl,zch u hu,h.1,h.2,hO,ho,zi4,zeroT,Te.cs,Lv.css,Te.css]
  cases za6 (openT u t 0) <;> simp[Te.cs,Lv.css,Te.css]
end Go.Ab
end
section
set_option linter.unusedVariables false
set_option linter.unusedSimpArgs false
set_option maxRecDepth 100000
set_option maxHeartbeats 2000000
namespace Go.Ab
open Go.RowKit Go.Proofs
def zrr:List (AV×AV):=[(.int .i64 1,.agg [.int .i64 0,.int .i64 (-1)]),(.int .i64 2,.agg [.int .i64 0,.int .i64 (-1)]),(.int .i64 3,.agg [.int .i64 0,.int .i64 (-1)]),(.int .i64 4,.agg [.int .i64 2,.int .i64 (-1)]),
 (.int .i64 5,.agg [.int .i64 2,.int .i64 1]),(.int .i64 6,.agg [.int .i64 2,.int .i64 1]),(.int .i64 7,.agg [.int .i64 3,.int .i64 2])]
theorem zn7(H:List AO):F zh4 [] H=some (.ret (.fmap zrr),H):=by
 rw[zyy];simp only[↓reduceIte,go_sem,zlu,zgg,zrr]
def ydn(k:Int):Int:=if k=5\/k=6 then 1 else if k=7 then 2 else -1
theorem zkm:zlu .i64 zrr=true:=rfl
theorem zm8(k:Int)(h:1<=k/\k<=7):zgg k zrr=some (some (.agg [.int .i64 (zdx k),.int .i64 (ydn k)])):=by
 have:k=1\/k=2\/k=3\/k=4\/k=5\/k=6\/k=7:=by omega
 rcases this with rfl|rfl|rfl|rfl|rfl|rfl|rfl <;> rfl
theorem z3l(k:Int)(h:¬ (1<=k/\k<=7)):zgg k zrr=some none:=by
 simp only[zgg,zrr]
 repeat' split
 all_goals first|omega|rfl
theorem z33(k:Int)(h:¬ (1<=k/\k<=7)):zdx k = -1:=by
 unfold zdx;grind
theorem z32{k:Int}(h:0<=zdx k):1<=k/\k<=7:=by
 unfold zdx at h;grind
theorem z2u(k i:Int)(hi:0<=i):(if ydn k=i then (1:Int) else 0)=binds k i:=by
 unfold ydn binds;grind
theorem yho(k n:Int)(ls:List Lv)(ks:List Te)(i:Int)(hk:1<=k/\k<=7)(hi:0<=i)(H:List AO):F zh6 [.agg [.int .i64 k,.int .i64 n,.sl (Lv.css ls),.sl (Te.css ks)],.int .i64 i] H=some (.ret (.int .i64 (binds k i)),H):=by
 rw[z1p,<- z2u k i hi];simp only[↓reduceIte,go_sem,zn7,zkm,zm8 k hk]
 split <;> simp_all
theorem z2t(k n:Int)(ls:List Lv)(ks:List Te)(i:Int)(hk:0<=zdx k)(hi:0<=i)(H:List AO):F zh6 [.agg [.int .i64 k,.int .i64 n,.sl (Lv.css ls),.sl (Te.css ks)],.int .i64 i] H=some (.ret (.int .i64 (binds k i)),H) :=
 yho k n ls ks i (z32 hk) hi H
theorem yay(v p m k n:Int)(ls:List Lv)(ks:List Te)(H:List AO):F zfs [.agg [.int .i64 v,.int .i64 p,.int .i64 m],.agg [.int .i64 k,.int .i64 n,.sl (Lv.css ls),.sl (Te.css ks)]] H=some (.ret (.bool (zc9 k n ls v)),H):=by
 rw[zsh];simp only[↓reduceIte,go_sem,zc9]
 repeat' split
 all_goals (simp_all;try omega)
theorem z7l(p m:Int)(t:Te):t.ok->∀(v d:Int),0<=d/\d<=1000->0<=v/\v+d<=1000000->∀(H:List AO),F zev [.agg [.int .i64 v,.int .i64 p,.int .i64 m],.agg t.cs,.int .i64 d] H=some (.ret (.bool (rightT p m t v d)),H):=by
 induction t using Te.ind with
 |h k n ls ks ih=>
 intro hl v d hd hv H;have hlen:=hl.len;have hc:F zal [.sl (Lv.css ls),.fn (.func zeu) [] [.ptr H.length 0]] (H++[.box [.int .i64 v,.int .i64 p,.int .i64 m]])=some (.ret (.bool (ls.any fun x=>!zax x p m)),H++[.box [.int .i64 v,.int .i64 p,.int .i64 m]]):=by
  refine zz3 ls hl.len2 _ _ _ fun x hx=>?_
  simp only[↓reduceIte,go_sem,zqa,zgi x (hl.all2 x hx)]
 rw[<- List.not_all_eq_any_not]at hc;have loop:0<=zdx k->¬ d<1->∀(suf pre:List Te),ks=pre++suf ->
   ze7 H (H++[.box [.int .i64 v,.int .i64 p,.int .i64 m]]) (.int .i64 d) (.ptr H.length 0) (.sl (Te.css ks)) (.int .i64 ks.length) (.int .i64 pre.length) [.int .i64 k,.int .i64 n,.sl (Lv.css ls),.sl (Te.css ks)]=some (.ret (.bool (rightTs p m k suf pre.length v (d - 1))),H):=by
  intro hk0 hd1 suf
  induction suf with
  |nil=>
   intro pre e;subst e;rw[ze7,zab];simp only[↓reduceIte,go_sem,rightTs]
  |cons x suf ih2=>
   intro pre e;subst e;simp at hlen;have:=ih2 (pre++[x]) (by simp)
   simp only[zah]at this;have hb:=zio k pre.length;rw[ze7,zab,rightTs];simp only[↓reduceIte,go_sem,z2t k n ls _ pre.length hk0 (by omega),zap (n:=d - 1) (by omega) (by omega),zap (n:=v+binds k pre.length) (by omega) (by omega),ih x (by simp) (hl.all x (by simp)) (v+binds k pre.length) (d - 1) (by omega) (by omega),zad (n:=pre.length) (by omega),this]
   cases rightT p m x (v+binds k pre.length) (d - 1) <;> simp
 have:=fun h0 h1=>loop h0 h1 ks [] rfl
 simp only[List.length_nil,Int.natCast_zero]at this;rw[zsg,rightT];by_cases hk:1<=k/\k<=7
 ·by_cases hd0:d=0
  ·subst hd0
   simp only[↓reduceIte,go_sem,Te.cs,zn7,zkm,zm8 k hk,show (0:Int)<1 from by decide]
  ·have hd1:¬ d<1:=by omega
   by_cases hkl:(ks.length:Int)=zdx k
   ·simp only[↓reduceIte,go_sem,Te.cs,zn7,zkm,zm8 k hk,hd0,hd1,hkl,yay,hc]
    rw[<- hkl,this (by omega) hd1]
    cases zc9 k n ls v <;> cases (ls.all fun x=>zax x p m) <;> simp
   ·simp only[↓reduceIte,go_sem,Te.cs,zn7,zkm,zm8 k hk,hd0,hd1,hkl]
    simp[hkl]
 ·simp only[↓reduceIte,go_sem,Te.cs,zn7,zkm,z3l k hk]
  have:¬ (ks.length:Int)=zdx k:=by rw[z33 k hk];omega
  simp[this]
theorem zik(t:Te)(hl:t.ok)(v p m:Int)(hv:0<=v/\v<=1000)(H:List AO):F zda [.agg [.int .i64 v,.int .i64 p,.int .i64 m],.agg t.cs] H=some (.ret (.bool (decide (parts t 601<=600) && rightT p m t v 30)),H):=by
 rw[ztg];simp only[↓reduceIte,go_sem,yaq t hl 601 (by omega),z7l p m t hl v 30 (by omega) (by omega)]
 grind
theorem zp3(H:List AO):F zlf [] H=some (.ret (.agg [.int .i64 1000,.int .i64 5,.int .i64 10]),H):=by
 rw[z78];simp only[↓reduceIte,go_sem]
theorem zfh(t:Te):(decide (parts t 601<=600) && rightT 5 10 t 1000 30)=za6 t:=by simp[za6,zc0]
theorem zkd(t:Te)(hl:t.ok)(v p m:Int)(H:List AO):F zgt [.agg t.cs,.int .i64 v,.int .i64 p,.int .i64 m] H=some (.ret (.bool (zc0 t v p m)),H):=by
 rw[z1q,zc0];by_cases h1:v<0
 ·simp only[↓reduceIte,go_sem,h1]
  simp;omega
 by_cases h2:1000<v
 ·simp only[↓reduceIte,go_sem,h1,h2]
  simp;omega
 simp only[↓reduceIte,go_sem,h1,h2,zik t hl v p m (by omega)]
 have h3:0<=v:=by omega
 have h4:v<=1000:=by omega
 simp only[h3,h4,decide_true,Bool.true_and];by_cases h5:p<0
 ·simp[h5];omega
 by_cases h6:5<p
 ·simp[h5,h6];omega
 by_cases h7:m<0
 ·simp[h5,h6,h7];omega
 by_cases h8:10<m
 ·simp[h5,h6,h7,h8];omega
 simp[h5,h6,h7,h8];simp[show 0<=p by omega,show p<=5 by omega,show 0<=m by omega,show m<=10 by omega]
mutual
def turnT(g:Int->Int->Te):Te->Int->Te
 |.mk k n ls ks,f=>if k=1 then g n f else .mk k n ls (turnTs g k ks 0 f)
def turnTs(g:Int->Int->Te)(k:Int):List Te->Int->Int->List Te
 |[],_,_=>[]
 |x::r,i,f=>turnT g x (f+binds k i)::turnTs g k r (i+1) f
end
def Good(fv:AV)(g:Int->Int->Te)(B:Int)(H:List AO):Prop:=∀(X:List AO) (n f:Int),0<=n/\n<=B->0<=f/\f<=B->cfl T fv [.int .i64 n,.int .i64 f] (H++X)=some (.ret (.agg (g n f).cs),H++X)
theorem Good.ext{fv:AV}{g:Int->Int->Te}{B:Int}{H:List AO}(h:Good fv g B H)(Y:List AO):Good fv g B (H++Y):=fun X n f hn hf=>by rw[List.append_assoc];exact h (Y++X) n f hn hf
theorem z9x(p m:Int)(fv:AV)(hfv:fv.one=true)(g:Int->Int->Te)(B:Int)(t:Te):t.ok->∀(v d f:Int),rightT p m t v d=true->d<=1000->0<=v/\v+d<=B+1->0<=f/\f+d<=B+1->B<=1000000->∀(H:List AO),Good fv g B H ->
  F zkh [.agg t.cs,.int .i64 f,fv] H=some (.ret (.agg (turnT g t f).cs),H):=by
 induction t using Te.ind with
 |h k n ls ks ih=>
 intro hl v d f hr hd hv hf hB H hg;obtain⟨hd1,hk,hls,hn,hks⟩:=zb8 hr;have hk3:=zmo k;have loop:∀(suf pre done:List Te),ks=pre++suf->done.length=pre.length ->
   zjw H (H++[.lst 0 3 [],.lst 0 4 [],.lst 0 3 [],.lst done.length 4 (Te.css done),.lst 0 3 [],.lst 0 4 []]) (.int .i64 f) fv (.sl (Te.css ks)) (.int .i64 ks.length) (.int .i64 pre.length) [.int .i64 k,.int .i64 n,.sl (Lv.css ls),.sl (Te.css ks)]
    [.int .i64 0,.int .i64 0,.ol H.length 0,.ol (H.length+1) 0] [.int .i64 k,.int .i64 n,.sl (Lv.css ls),.ol (H.length+3) done.length]=some (.ret (.agg (Te.mk k n ls (done++turnTs g k suf pre.length f)).cs),H):=by
  intro suf
  induction suf with
  |nil=>
   intro pre done e he;subst e;rw[zjw,zab];simp only[↓reduceIte,go_sem,turnTs,Te.cs]
  |cons x suf ih2=>
   intro pre done e he;subst e;simp at hk;have:=ih2 (pre++[x]) (done++[turnT g x (f+binds k pre.length)]) (by simp) (by simp[he])
   simp only[zah]at this;simp only[zd7,List.append_assoc,List.cons_append,List.nil_append]at this;have hdl:done.length<=1073741823:=by omega
   have hbr:=zio k pre.length;rw[zjw,zab,turnTs];simp only[↓reduceIte,go_sem,z2t k n ls _ pre.length (by omega) (by omega),zap (n:=f+binds k pre.length) (by omega) (by omega),ih x (by simp) (hl.all x (by simp)) (v+binds k pre.length) (d - 1) (f+binds k pre.length) (zkn hks) (by omega) (by omega) (by omega) hB _ (hg.ext _),zad (n:=pre.length) (by omega),hdl,this]
 have l0:=loop ks [] [] rfl rfl;simp only[List.length_nil,Int.natCast_zero,List.nil_append,Te.css,Te.cs]at l0;rw[z4g,turnT];by_cases h1:k=1
 ·subst h1
  obtain⟨h2,h3,h4⟩:=zkt hn;have:=hg [.lst 0 3 [],.lst 0 4 []] n f (by omega) (by omega)
  simp only[↓reduceIte,go_sem,Te.cs,this]
 ·simp only[↓reduceIte,go_sem,Te.cs,h1,l0]
theorem zp6(n:Int)(H:List AO):F zf3 [.int .i64 n] H=some (.ret (.agg (Te.mk 1 n [] []).cs),H):=by
 rw[zvc];simp only[↓reduceIte,go_sem,Te.cs,Lv.css,Te.css]
def z70(f b:Int)(n d:Int):Te:=.mk 1 (if f+d<=n then n+b else n) [] []
mutual
theorem turn_lift(p m f b:Int):∀(t:Te) (v d δ:Int),rightT p m t v d=true->turnT (z70 f b) t δ=liftT b t (f+δ)
 |.mk k n ls ks,v,d,δ,h=>by
  obtain⟨hd1,hk,hls,hn,hks⟩:=zb8 h;rw[turnT,liftT];by_cases h1:k=1
  ·subst h1
   obtain⟨h2,h3,h4⟩:=zkt hn;have:ks=[]:=List.eq_nil_of_length_eq_zero (by simp[zdx]at hk;simp[hk])
   subst this;subst h4;simp[z70,liftTs]
  ·rw[if_neg h1,turn_lifts p m f b k ks 0 v (d - 1) δ hks]
   simp[h1]
theorem turn_lifts(p m f b k:Int):∀(ks:List Te) (i v d δ:Int),rightTs p m k ks i v d=true->turnTs (z70 f b) k ks i δ=liftTs b k ks i (f+δ)
 |[],i,v,d,δ,h=>rfl
 |x::r,i,v,d,δ,h=>by
  rw[rightTs,Bool.and_eq_true]at h;rw[turnTs,liftTs,turn_lift p m f b x _ _ _ h.1,turn_lifts p m f b k r _ _ _ _ h.2,Int.add_assoc]
end
theorem z59(p m:Int)(t:Te)(hl:t.ok)(v d f b:Int)(hr:rightT p m t v d=true)(hd:d<=1000)(hv:0<=v/\v+d<=100000)(hf:0<=f/\f<=100000)(hb:0<=b/\b<=100000)(H:List AO):
  F zl6 [.agg t.cs,.int .i64 f,.int .i64 b] H=some (.ret (.agg (liftT b t f).cs),H):=by
 have hg:Good (.fn (.func zh5) [] [.ptr H.length 0,.ptr (H.length+1) 0]) (z70 f b) 100000 (H++[.box [.int .i64 f],.box [.int .i64 b]]):=by
  intro X n δ hn hδ;simp only[zgh,List.cons_append,List.nil_append,zyz,List.append_assoc];have e:((H++AO.box [.int .i64 f]::AO.box [.int .i64 b]::X)[H.length+1]?)=some (.box [.int .i64 b]):=by rw[ztz];rfl
  have e0:((H++AO.box [.int .i64 f]::AO.box [.int .i64 b]::X)[H.length]?)=some (.box [.int .i64 f]):=by rw[zt0];rfl
  generalize H++AO.box [.int .i64 f]::AO.box [.int .i64 b]::X=H' at *;unfold z70;simp only[↓reduceIte,go_sem,e,e0,zp6,zap (n:=f+δ) (by omega) (by omega),zap (n:=n+b) (by omega) (by omega)]
  split <;> simp_all
 have:=z9x p m (.fn (.func zh5) [] [.ptr H.length 0,.ptr (H.length+1) 0]) rfl (z70 f b) 100000 t hl v d 0 hr hd (by omega) (by omega) (by omega) _ hg
 rw[turn_lift p m f b t v d 0 hr,Int.add_zero]at this;rw[z4i];simp only[↓reduceIte,go_sem,this]
def z7r(u:Te)(n d:Int):Te:=if n=d then liftT d u 0 else if d<n then .mk 1 (n - 1) [] [] else .mk 1 n [] []
mutual
theorem turn_open(p m:Int)(u:Te):∀(t:Te) (v d δ:Int),rightT p m t v d=true->turnT (z7r u) t δ=openT u t δ
 |.mk k n ls ks,v,d,δ,h=>by
  obtain⟨hd1,hk,hls,hn,hks⟩:=zb8 h;rw[turnT,openT];by_cases h1:k=1
  ·subst h1
   obtain⟨h2,h3,h4⟩:=zkt hn;have:ks=[]:=List.eq_nil_of_length_eq_zero (by simp[zdx]at hk;simp[hk])
   subst this;subst h4;simp[z7r,openTs];by_cases h5:n=δ
   ·simp[h5]
   ·simp[h5]
    split <;> rfl
  ·rw[if_neg h1,turn_opens p m u k ks 0 v (d - 1) δ hks]
   simp[h1]
theorem turn_opens(p m:Int)(u:Te)(k:Int):∀(ks:List Te) (i v d δ:Int),rightTs p m k ks i v d=true->turnTs (z7r u) k ks i δ=openTs u k ks i δ
 |[],i,v,d,δ,h=>rfl
 |x::r,i,v,d,δ,h=>by
  rw[rightTs,Bool.and_eq_true]at h;rw[turnTs,openTs,turn_open p m u x _ _ _ h.1,turn_opens p m u k r _ _ _ _ h.2]
end
theorem z9y(t:Te)(hl:t.ok)(H:List AO):F zl5 [.agg t.cs] H=some (.ret (zi4 (zs7 t)),H):=by
 rw[z4h,zs7];simp only[↓reduceIte,go_sem,zp3,zik t hl 1000 5 10 (by omega),zfh,zi4,zeroT,Te.cs,Lv.css,Te.css]
 cases za6 t <;> simp[Te.cs,Lv.css,Te.css]
theorem yif(t:Te)(hl:t.ok)(f b:Int)(H:List AO):F zn3 [.agg t.cs,.int .i64 f,.int .i64 b] H=some (.ret (zi4 (zh1 t f b)),H):=by
 rw[z4l,zh1];by_cases h:za6 t=false\/f<0\/1000<f\/b<0\/1000<b
 ·simp only[h,↓reduceIte]
  by_cases h1:za6 t=true
  ·simp[h1]at h
   by_cases h2:f<0
   ·simp only[↓reduceIte,go_sem,zp3,zik t hl 1000 5 10 (by omega),zfh,h1,h2,zi4,zeroT,Te.cs,Lv.css,Te.css]
   by_cases h3:1000<f
   ·simp only[↓reduceIte,go_sem,zp3,zik t hl 1000 5 10 (by omega),zfh,h1,h2,h3,zi4,zeroT,Te.cs,Lv.css,Te.css]
   by_cases h4:b<0
   ·simp only[↓reduceIte,go_sem,zp3,zik t hl 1000 5 10 (by omega),zfh,h1,h2,h3,h4,zi4,zeroT,Te.cs,Lv.css,Te.css]
   have h5:1000<b:=by omega
   simp only[↓reduceIte,go_sem,zp3,zik t hl 1000 5 10 (by omega),zfh,h1,h2,h3,h4,h5,zi4,zeroT,Te.cs,Lv.css,Te.css]
  ·simp only[Bool.not_eq_true]at h1
   simp only[↓reduceIte,go_sem,zp3,zik t hl 1000 5 10 (by omega),zfh,h1,zi4,zeroT,Te.cs,Lv.css,Te.css]
 ·simp only[h,↓reduceIte]
  simp at h;have h2:¬ f<0:=by omega
  have h3:¬ 1000<f:=by omega
  have h4:¬ b<0:=by omega
  have h5:¬ 1000<b:=by omega
  have hL:=z59 5 10 t hl 1000 30 f b (ze9 h.1) (by omega) (by omega) (by omega) (by omega)
  simp only[↓reduceIte,go_sem,zp3,zik t hl 1000 5 10 (by omega),zfh,h.1,h2,h3,h4,h5,hL,z9y _ (zyd b t hl f)]
theorem z67(t u:Te)(hl:t.ok)(hu:u.ok)(H:List AO):F zl7 [.agg t.cs,.agg u.cs] H=some (.ret (zi4 (zjp t u)),H):=by
 rw[z4k,zjp];by_cases h:za6 t=false\/za6 u=false
 ·simp only[h,↓reduceIte]
  cases h1:za6 t with
  |true=>
   have h2:za6 u=false:=by simpa [h1] using h
   simp only[↓reduceIte,go_sem,zp3,zik t hl 1000 5 10 (by omega),zik u hu 1000 5 10 (by omega),zfh,h1,h2,zi4,zeroT,Te.cs,Lv.css,Te.css]
  |false=>simp only[↓reduceIte,go_sem,zp3,zik t hl 1000 5 10 (by omega),zfh,h1,zi4,zeroT,Te.cs,Lv.css,Te.css]
 ·simp only[h,↓reduceIte]
  simp at h;have hsu:=ze9 h.2;have hg:Good (.fn (.func zh7) [] [.ptr H.length 0]) (z7r u) 2000 (H++[.box u.cs]):=by
   intro X n δ hn hδ;simp only[zgh,List.cons_append,List.nil_append,zy0,List.append_assoc];have e0:((H++AO.box u.cs::X)[H.length]?)=some (.box u.cs):=by rw[zt0];rfl
   generalize H++AO.box u.cs::X=H' at *;have hL:=fun f hf=>z59 5 10 u hu 1000 30 0 f hsu (by omega) (by omega) (by omega) hf
   unfold z7r;by_cases h5:n=δ
   ·subst h5
    simp only[↓reduceIte,go_sem,e0,hL n (by omega)]
   ·by_cases h6:δ<n
    ·simp only[↓reduceIte,go_sem,e0,h5,h6,zap (n:=n - 1) (by omega) (by omega),zp6]
    ·simp only[↓reduceIte,go_sem,e0,h5,h6,zp6]
  have hT:=z9x 5 10 (.fn (.func zh7) [] [.ptr H.length 0]) rfl (z7r u) 2000 t hl 1000 30 0 (ze9 h.1) (by omega) (by omega) (by omega) (by omega) _ hg
  rw[turn_open 5 10 u t 1000 30 0 (ze9 h.1)]at hT;simp only[↓reduceIte,go_sem,zp3,zik t hl 1000 5 10 (by omega),zik u hu 1000 5 10 (by omega),zfh,h.1,h.2,hT,z9y _ (z3t u hu t hl 0)]
theorem eqT_ok(a b:List Te)(hlen:a.length<=140737488355328)(f:AV)(H:List AO)(hf:∀x∈a,∀y,cfl T f [.agg x.cs,.agg y.cs] H=some (.ret (.bool (teEq x y)),H)):
  F zdf [.sl (Te.css a),.sl (Te.css b),f] H=some (.ret (.bool (tesEq a b)),H):=by
 have loop:a.length=b.length->∀(suf pre suf' pre':List Te),a=pre++suf->b=pre' ++ suf' -> pre.length=pre'.length ->
   zdd H H (.sl (Te.css b)) f (.sl (Te.css a)) (.int .i64 a.length) (.int .i64 pre.length)=some (.ret (.bool (tesEq suf suf')),H):=by
  intro hll suf
  induction suf with
  |nil=>
   intro pre suf' pre' e e' he;subst e;subst e';have:suf' = []:=List.eq_nil_of_length_eq_zero (by simp at hll;omega)
   subst this;rw[zdd,zab];simp only[↓reduceIte,go_sem,tesEq]
  |cons x suf ih2=>
   intro pre suf' pre' e e' he;subst e;subst e';simp at hlen
   cases suf' with
   |nil=>simp at hll;omega
   |cons y suf'=>
   have hy:(pre' ++ y::suf')[pre.length]?=some y:=by rw[he];simp
   have:=ih2 (pre++[x]) suf' (pre' ++ [y]) (by simp) (by simp) (by simp[he])
   simp only[zah]at this;rw[zdd,zab,tesEq];simp only[↓reduceIte,go_sem,hy,hf x (by simp) y,zad (n:=pre.length) (by omega),this]
   cases teEq x y <;> simp
 rw[znj];by_cases h3:a.length=b.length
 ·have:=loop h3 a [] b [] rfl rfl rfl
  simp only[List.length_nil,Int.natCast_zero]at this;have h3':(a.length:Int)=b.length:=by omega
  simp only[↓reduceIte,go_sem,h3',not_true_eq_false];rw[<- h3',this]
 ·have h3':¬ (a.length:Int)=(b.length:Int):=by omega
  simp only[↓reduceIte,go_sem,h3',zt9 h3]
theorem z97(a:Te):a.ok->∀(b:Te) (H:List AO),F zki [.agg a.cs,.agg b.cs] H=some (.ret (.bool (teEq a b)),H):=by
 induction a using Te.ind with
 |h k n ls ks ih=>
 intro hl b H;obtain⟨k',n',ls',ks'⟩:=b;have h1:=yjm ls ls' hl.len2 (.fn (.func zgy) [] []) H (fun x hx y=>yfi x (hl.all2 x hx) y H)
 have h2:=eqT_ok ks ks' hl.len (.fn (.func zki) [] []) H (fun x hx y=>ih x hx (hl.all x hx) y H)
 rw[z4j,teEq];simp only[↓reduceIte,go_sem,Te.cs,h1,h2]
 grind
end Go.Ab
end
section
set_option linter.unusedVariables false
set_option linter.unusedSimpArgs false
set_option maxRecDepth 100000
set_option maxHeartbeats 2000000
namespace Go.Ab
open Go.RowKit Go.Proofs
def mxE(a b:Int):Int:=if b > a then b else a
mutual
def subT(ps ms:List Lv):Te->Te
 |.mk k n ls ks=>.mk k n (ls.map fun l=>(zp5 l ps ms).1) (subTs ps ms ks)
def subTs(ps ms:List Lv):List Te->List Te
 |[]=>[]
 |x::r=>subT ps ms x::subTs ps ms r
end
mutual
def errT(ps ms:List Lv):Te->Int->Int
 |.mk _ _ ls ks,e=>errTs ps ms ks (errLs ps ms ls e)
def errTs(ps ms:List Lv):List Te->Int->Int
 |[],e=>e
 |x::r,e=>errTs ps ms r (errT ps ms x e)
def errLs(ps ms:List Lv):List Lv->Int->Int
 |[],e=>e
 |l::r,e=>errLs ps ms r (mxE e (zp5 l ps ms).2)
end
mutual
def okTm(ps ms:List Lv):Te->Bool
 |.mk _ _ ls ks=>(ls.all fun l=>decide ((zp5 l ps ms).2=0)) && okTms ps ms ks
def okTms(ps ms:List Lv):List Te->Bool
 |[]=>true
 |x::r=>okTm ps ms x && okTms ps ms r
end
theorem yib(l:Lv)(ps ms:List Lv):(zp5 l ps ms).2=0\/(zp5 l ps ms).2=1\/(zp5 l ps ms).2=2:=by
 unfold zp5;split
 ·simp
 ·split <;> simp
theorem zxd(ps ms:List Lv):∀(ls:List Lv) (e:Int),0<=e->(0<=errLs ps ms ls e/\(errLs ps ms ls e=0 ↔ e=0/\(ls.all fun l=>decide ((zp5 l ps ms).2=0))=true))
 |[],e,h=>by simp[errLs,h]
 |l::r,e,h=>by
  have hs:=yib l ps ms;have hm:0<=mxE e (zp5 l ps ms).2:=by unfold mxE;split <;> omega
  have hz:mxE e (zp5 l ps ms).2=0 ↔ e=0/\(zp5 l ps ms).2=0:=by unfold mxE;split <;> omega
  have:=zxd ps ms r _ hm;rw[errLs];refine⟨this.1,?_⟩;rw[this.2,hz];simp[and_assoc]
mutual
theorem errT_zero(ps ms:List Lv):∀(t:Te) (e:Int),0<=e->(0<=errT ps ms t e/\(errT ps ms t e=0 ↔ e=0/\okTm ps ms t=true))
 |.mk k n ls ks,e,h=>by
  have h1:=zxd ps ms ls e h;have h2:=errTs_zero ps ms ks _ h1.1;rw[errT,okTm];refine⟨h2.1,?_⟩;rw[h2.2,h1.2,Bool.and_eq_true,and_assoc]
theorem errTs_zero(ps ms:List Lv):∀(ks:List Te) (e:Int),0<=e->(0<=errTs ps ms ks e/\(errTs ps ms ks e=0 ↔ e=0/\okTms ps ms ks=true))
 |[],e,h=>by simp[errTs,okTms,h]
 |x::r,e,h=>by
  have h1:=errT_zero ps ms x e h;have h2:=errTs_zero ps ms r _ h1.1;rw[errTs,okTms];refine⟨h2.1,?_⟩;rw[h2.2,h1.2,Bool.and_eq_true,and_assoc]
end
theorem yia{l:Lv}{ps ms:List Lv}(hl:l.ok)(hp:zrv ps)(hm:zrv ms):(zp5 l ps ms).1.ok:=by
 have hz:zeroL.ok:=.mk (by simp) (by intro x hx;cases hx)
 unfold zp5
 split
 ·exact hz
 ·split
  ·exact z3i hp hm l hl
  ·exact hz
theorem zql(ps ms:List Lv):∀ks:List Te,subTs ps ms ks=ks.map (subT ps ms)
 |[]=>rfl
 |x::r=>by rw[subTs,zql ps ms r];rfl
theorem subT_ok{ps ms:List Lv}(hp:zrv ps)(hm:zrv ms)(t:Te):t.ok->(subT ps ms t).ok:=by
 induction t using Te.ind with
 |h k n ls ks ih=>
 intro hl;rw[subT,zql];refine .mk (by simpa using hl.len) (by simpa using hl.len2) (fun x hx=>?_) (fun x hx=>?_)
 ·obtain⟨y,hy,rfl⟩:=List.mem_map.1 hx
  exact yia (hl.all2 y hy) hp hm
 ·obtain⟨y,hy,rfl⟩:=List.mem_map.1 hx
  exact ih y hy (hl.all y hy)
def znl(t:Te)(ps ms:List Lv):Te×Int :=
 if za6 t=false\/5<ps.length\/10<ms.length\/zbm ps=false\/zbm ms=false then (zeroT,1)
 else if okTm ps ms t=true then (subT ps ms t,0) else (zeroT,2)
theorem yh9{t:Te}{ps ms:List Lv}(ht:t.ok)(hp:zrv ps)(hm:zrv ms):(znl t ps ms).1.ok:=by
 have hz:zeroT.ok:=.mk (by simp) (by simp) (by intro x hx;cases hx) (by intro x hx;cases hx)
 unfold znl
 split
 ·exact hz
 ·split
  ·exact subT_ok hp hm t ht
  ·exact hz
open Classical in
theorem zpd{A X J:List AO}{o o':AO}{r:Res}(ho:LtO (A.length+(X.length+1)) o'):zez (A++(o::X)) r (A++(o' :: (X++J)))=if LtR (A++(o::X)).length r then some (r,A++(o' :: X)) else none:=by
 have e:A++(o' :: (X++J))=(A++(o::X)).set A.length o' ++ J:=by simp
 have hl:(A++(o::X)).length=A.length+(X.length+1):=by simp
 rw[e,zq7 (by rw[hl];exact ho)]
 simp
open Classical in
theorem zfk{A X:List AO}{o o':AO}{r:Res}(ho:LtO (A.length+(X.length+1)) o'):zez (A++(o::X)) r (A++(o' :: X))=if LtR (A++(o::X)).length r then some (r,A++(o' :: X)) else none:=by
 have:=zpd (A:=A) (X:=X) (J:=[]) (o:=o) (o':=o') (r:=r) ho
 rwa [List.append_nil]at this
theorem putB_lt(n:Nat)(ps ms:List Lv)(e:Int):LtO n (.box [.sl (Lv.css ps),.sl (Lv.css ms),.int .i64 e]):=by
 intro a ha;simp at ha;rcases ha with rfl|rfl|rfl
 ·exact .sl fun a ha=>of_eq_true (z57 n ps) a ha
 ·exact .sl fun a ha=>of_eq_true (z57 n ms) a ha
 ·exact .int _ _
theorem yan(ps ms:List Lv)(hp:zrv ps)(hm:zrv ms)(hpl:ps.length<=140737488355328)(hml:ms.length<=140737488355328)(p m:Int)(t:Te):t.ok->∀(v d:Int),rightT p m t v d=true->∀(A X:List AO) (e:Int),
  F zec [.ptr A.length 0,.agg t.cs] (A++(.box [.sl (Lv.css ps),.sl (Lv.css ms),.int .i64 e]::X))=some (.ret (.agg (subT ps ms t).cs),A++(.box [.sl (Lv.css ps),.sl (Lv.css ms),.int .i64 (errT ps ms t e)]::X)):=by
 induction t using Te.ind with
 |h k n ls ks ih=>
 intro hl v d hr A X e;obtain⟨hd1,hk,hls,hn,hks⟩:=zb8 hr;have hk3:=zmo k;have hl5:ls.length<=5:=by
  unfold zc9 at hn
  split at hn
  ·simp at hn;simp[hn.2]
  ·split at hn
   ·simp at hn;omega
   ·split at hn
    ·simp at hn;exact hn.2
    ·simp at hn;simp[hn.2]
 have hf:=fun (o o':AO) r J (ho:LtO (A.length+(X.length+1)) o')=>zpd (A:=A) (X:=X) (J:=J) (o:=o) (o':=o') (r:=r) ho
 have loop1:∀(suf pre done:List Te) (e':Int),ks=pre++suf->done.length=pre.length ->
   zer (A++(.box [.sl (Lv.css ps),.sl (Lv.css ms),.int .i64 e]::X)) (A++(.box [.sl (Lv.css ps),.sl (Lv.css ms),.int .i64 e']::(X++[.lst 0 3 [],.lst 0 4 [],.lst ls.length 3 (Lv.css (ls.map fun l=>(zp5 l ps ms).1)),.lst done.length 4 (Te.css done),.lst 0 3 [],.lst 0 4 []])))
    (.ptr A.length 0) (.sl (Te.css ks)) (.int .i64 ks.length) (.int .i64 pre.length) [.int .i64 0,.int .i64 0,.ol (A.length+(X.length+1)) 0,.ol (A.length+(X.length+2)) 0] [.int .i64 k,.int .i64 n,.ol (A.length+(X.length+3)) ls.length,.ol (A.length+(X.length+4)) done.length] =
   some (.ret (.agg (Te.mk k n (ls.map fun l=>(zp5 l ps ms).1) (done++subTs ps ms suf)).cs),A++(.box [.sl (Lv.css ps),.sl (Lv.css ms),.int .i64 (errTs ps ms suf e')]::X)):=by
  intro suf
  induction suf with
  |nil=>
   intro pre done e' eq he;subst eq;rw[zer,zab];simp only[↓reduceIte,go_sem,subTs,Te.cs,errTs,hf,putB_lt,Nat.add_le_add_iff_left,Nat.reduceLeDiff]
  |cons x suf ih2=>
   intro pre done e' eq he;subst eq;simp at hk;have:=ih2 (pre++[x]) (done++[subT ps ms x]) (errT ps ms x e') (by simp) (by simp[he])
   simp only[zah]at this;simp only[zd7,List.append_assoc,List.cons_append,List.nil_append]at this;have hdl:done.length<=1073741823:=by omega
   rw[zer,zab,subTs,errTs];simp only[↓reduceIte,go_sem,ih x (by simp) (hl.all x (by simp)) _ _ (zkn hks),zad (n:=pre.length) (by omega),hdl,this]
 have loop0:∀(suf pre:List Lv) (e':Int),ls=pre++suf ->
   zes (A++(.box [.sl (Lv.css ps),.sl (Lv.css ms),.int .i64 e]::X)) (A++(.box [.sl (Lv.css ps),.sl (Lv.css ms),.int .i64 e']::(X++[.lst 0 3 [],.lst 0 4 [],.lst pre.length 3 (Lv.css (pre.map fun l=>(zp5 l ps ms).1)),.lst 0 4 [],.lst 0 3 [],.lst 0 4 []])))
    (.ptr A.length 0) (.sl (Lv.css ls)) (.int .i64 ls.length) (.int .i64 pre.length) [.int .i64 k,.int .i64 n,.sl (Lv.css ls),.sl (Te.css ks)] [.int .i64 0,.int .i64 0,.ol (A.length+(X.length+1)) 0,.ol (A.length+(X.length+2)) 0] [.int .i64 k,.int .i64 n,.ol (A.length+(X.length+3)) pre.length,.ol (A.length+(X.length+4)) 0] =
   some (.ret (.agg (Te.mk k n (ls.map fun l=>(zp5 l ps ms).1) (subTs ps ms ks)).cs),A++(.box [.sl (Lv.css ps),.sl (Lv.css ms),.int .i64 (errTs ps ms ks (errLs ps ms suf e'))]::X)):=by
  intro suf
  induction suf with
  |nil=>
   intro pre e' eq;subst eq;rw[List.append_nil]at *;have h1:=loop1 ks [] [] e' rfl rfl;simp only[List.length_nil,Int.natCast_zero,List.nil_append,Te.css]at h1;rw[zes,zab];simp only[↓reduceIte,go_sem,errLs,h1]
  |cons l suf ih2=>
   intro pre e' eq;subst eq;simp at hl5;have:=ih2 (pre++[l]) (mxE e' (zp5 l ps ms).2) (by simp)
   simp only[zah]at this;simp only[zd7,List.map_append,List.map_cons,List.map_nil]at this;have hs:=fun H=>Sub_ok l ps ms (hl.all2 l (by simp)) hp hm hpl hml H
   simp only[z3o]at hs;rw[zes,zab,errLs];simp only[↓reduceIte,go_sem,hs,zad (n:=pre.length) (by omega),zpe,List.length_map,show pre.length+(0+1)<=1073741824 by omega]
   unfold mxE at this ⊢;rw[this];simp only[List.map_append,List.map_cons]
 have h0:=loop0 ls [] e rfl;simp only[List.length_nil,Int.natCast_zero,List.map_nil,Lv.css]at h0;rw[zq9,subT,errT];simp only[↓reduceIte,go_sem,Te.cs];exact h0
theorem ye0(l:Lv)(hl:l.ok)(H:List AO):F zo1 [.agg l.cs] H=some (.ret (.bool (!zax l 5 10)),H):=by
 rw[z75];simp only[↓reduceIte,go_sem,zgi l hl]
theorem z26(t:Te):zc0 t 1000 5 10=za6 t:=rfl
theorem TSub_ok(t:Te)(ps ms:List Lv)(ht:t.ok)(hp:zrv ps)(hm:zrv ms)(hpl:ps.length<=140737488355328)(hml:ms.length<=140737488355328)(H:List AO):
  F zqj [.agg t.cs,.sl (Lv.css ps),.sl (Lv.css ms)] H=some (.ret (zi4 (znl t ps ms)),H):=by
 have h1:=fun H=>zkd t ht 1000 5 10 H
 simp only[z26]at h1;rw[z77,znl];by_cases hr:za6 t=true
 ·by_cases a1:5<ps.length
  ·have a1':(5:Int)<ps.length:=by omega
   simp only[↓reduceIte,go_sem,h1,hr,a1,a1',zi4,zeroT,Te.cs,Lv.css,Te.css,Bool.true_eq_false,false_or,true_or]
  by_cases a2:10<ms.length
  ·have a1':¬ (5:Int)<ps.length:=by omega
   have a2':(10:Int)<ms.length:=by omega
   simp only[↓reduceIte,go_sem,h1,hr,a1,a1',a2,a2',zi4,zeroT,Te.cs,Lv.css,Te.css,Bool.true_eq_false,false_or,true_or]
  have a1':¬ (5:Int)<ps.length:=by omega
  have a2':¬ (10:Int)<ms.length:=by omega
  have hc:=z2m [ps,ms] (by simp) (by simp;omega) H
  simp only[sls,List.map_cons,List.map_nil,List.flatten_cons,List.flatten_nil,List.append_nil]at hc;have ha:=zz3 (ps++ms) (by simp;omega) (.fn (.func zo1) [] []) (fun x=>!zax x 5 10) H (fun x hx=>by
   simp only[z6v];exact ye0 x (by rcases List.mem_append.1 hx with h|h;exact hp x h;exact hm x h) _)
  rw[<- List.not_all_eq_any_not,List.all_append]at ha;rw[show (ps.all fun x=>zax x 5 10)=zbm ps from rfl,show (ms.all fun x=>zax x 5 10)=zbm ms from rfl]at ha
  by_cases hb:(zbm ps && zbm ms)=true
  ·have hb2:=hb
   rw[Bool.and_eq_true]at hb2;have hq:=yan ps ms hp hm hpl hml 5 10 t ht 1000 30 (ze9 hr) H [] 0;have hz:=errT_zero ps ms t 0 (by omega)
   simp only[hb]at ha;by_cases b3:okTm ps ms t=true
   ·have b4:errT ps ms t 0=0:=hz.2.2 ⟨rfl,b3⟩
    rw[b4]at hq;simp only[↓reduceIte,go_sem,h1,hr,a1,a1',a2,a2',hb2.1,hb2.2,hc,ha,hq,b3,zi4,zeroT,Te.cs,Lv.css,Te.css,Bool.true_eq_false,Bool.false_eq_true,or_self,true_or,false_or]
   ·have b4:¬ errT ps ms t 0=0:=fun h=>b3 (hz.2.1 h).2
    simp only[Bool.not_eq_true]at b3;simp only[↓reduceIte,go_sem,h1,hr,a1,a1',a2,a2',hb2.1,hb2.2,hc,ha,hq,b3,b4,zi4,zeroT,Te.cs,Lv.css,Te.css,Bool.true_eq_false,Bool.false_eq_true,or_self,true_or,false_or]
  ·have hb':zbm ps=false\/zbm ms=false:=by
    cases h1:zbm ps <;> cases h2:zbm ms <;> simp_all
   simp only[Bool.not_eq_true]at hb;simp only[hb]at ha;simp only[↓reduceIte,go_sem,h1,hr,a1,a1',a2,a2',hb',hc,ha,zi4,zeroT,Te.cs,Lv.css,Te.css,Bool.true_eq_false,or_self,true_or,or_true,false_or]
 ·simp only[Bool.not_eq_true]at hr
  simp only[↓reduceIte,go_sem,h1,hr,zi4,zeroT,Te.cs,Lv.css,Te.css,true_or]
theorem zws(xs:List Lv)(hlen:xs.length<=140737488355328)(hx:zrv xs)(H:List AO):F zia [.sl (Lv.css xs)] H=some (.ret (.bool (zbm xs)),H):=by
 have loop:∀(suf pre:List Lv),xs=pre++suf->zho H H (.sl (Lv.css xs)) (.int .i64 pre.length)=some (.ret (.bool (zbm suf)),H):=by
  intro suf
  induction suf with
  |nil=>
   intro pre e;subst e;rw[zho,zab];simp only[↓reduceIte,go_sem,zbm,List.all_nil]
  |cons x suf ih=>
   intro pre e;subst e;simp at hlen;have:=ih (pre++[x]) (by simp)
   simp only[zah]at this;have hr:=ziq x (hx x (by simp)) 5 10 H
   rw[zho,zab];unfold zbm at *;rw[List.all_cons]
   cases h:zax x 5 10 <;> simp only[h]at hr <;> simp only[↓reduceIte,go_sem,hr,zad (n:=pre.length) (by omega),this,Bool.true_and,Bool.false_and]
 have:=loop xs [] rfl;simp only[List.length_nil,Int.natCast_zero]at this;rw[zy5];simp only[↓reduceIte,go_sem,this]
def yit(ps ms:List Lv)(t:Te):AV:=.tup [.agg (if okTm ps ms t=true then subT ps ms t else zeroT).cs,.bool (okTm ps ms t)]
theorem ye7(ps ms:List Lv)(hp:zrv ps)(hm:zrv ms)(hpl:ps.length<=140737488355328)(hml:ms.length<=140737488355328)(p m:Int)(t:Te):t.ok->∀(v d:Int),rightT p m t v d=true->∀(H:List AO),
  F zmd [.agg t.cs,.sl (Lv.css ps),.sl (Lv.css ms)] H=some (.ret (yit ps ms t),H):=by
 induction t using Te.ind with
 |h k n ls ks ih=>
 intro hl v d hr H;obtain⟨hd1,hk,hls,hn,hks⟩:=zb8 hr;have hk3:=zmo k;have hl5:ls.length<=5:=by
  unfold zc9 at hn
  split at hn
  ·simp at hn;simp[hn.2]
  ·split at hn
   ·simp at hn;omega
   ·split at hn
    ·simp at hn;exact hn.2
    ·simp at hn;simp[hn.2]
 have loop1:(ls.all fun l=>decide ((zp5 l ps ms).2=0))=true->∀(suf pre done:List Te),ks=pre++suf->done.length=pre.length->(okTms ps ms ks=true->done=subTs ps ms pre)->okTms ps ms ks=okTms ps ms suf ->
   zjx H (H++[.lst 0 3 [],.lst 0 4 [],.lst ls.length 3 (Lv.css (ls.map fun l=>(zp5 l ps ms).1)),.lst done.length 4 (Te.css done),.lst 0 3 [],.lst 0 4 []])
    (.sl (Lv.css ps)) (.sl (Lv.css ms)) (.int .i64 pre.length) [.int .i64 k,.int .i64 n,.sl (Lv.css ls),.sl (Te.css ks)] [.int .i64 0,.int .i64 0,.ol H.length 0,.ol (H.length+1) 0] [.int .i64 k,.int .i64 n,.ol (H.length+2) ls.length,.ol (H.length+3) done.length] =
   some (.ret (yit ps ms (.mk k n ls ks)),H):=by
  intro hls0 suf
  induction suf with
  |nil=>
   intro pre done eq he hdn hok;subst eq;rw[List.append_nil]at *;have h1:okTms ps ms pre=true:=hok;have h2:okTm ps ms (.mk k n ls pre)=true:=by rw[okTm,hls0,h1];rfl
   rw[zjx,zab];unfold yit;rw[h2,if_pos rfl,subT,<- hdn h1];simp only[↓reduceIte,go_sem,Te.cs]
  |cons x suf ih2=>
   intro pre done eq he hdn hok;subst eq;simp at hk;have hx:=ih x (by simp) (hl.all x (by simp)) _ _ (zkn hks)
   unfold yit at hx;have hdl:done.length<=1073741823:=by omega
   rw[zjx,zab];rw[okTms]at hok
   cases hxk:okTm ps ms x with
   |true=>
    rw[hxk,Bool.true_and]at hok;have:=ih2 (pre++[x]) (done++[subT ps ms x]) (by simp) (by simp[he]) (fun h=>by rw[hdn h];simp[zql]) hok
    simp only[zah]at this;simp only[zd7,List.append_assoc,List.cons_append,List.nil_append]at this;simp only[hxk]at hx;simp only[↓reduceIte,go_sem,hx,zad (n:=pre.length) (by omega),hdl,z9z,this]
   |false=>
    rw[hxk,Bool.false_and]at hok;simp only[hxk]at hx;have h2:okTm ps ms (.mk k n ls (pre++x::suf))=false:=by rw[okTm,hok];simp
    unfold yit;rw[h2];simp only[↓reduceIte,go_sem,hx,zeroT,Te.cs,Lv.css,Te.css,Bool.false_eq_true,Nat.add_le_add_iff_left,Nat.reduceLeDiff]
 have loop0:∀(suf pre:List Lv),ls=pre++suf->(ls.all fun l=>decide ((zp5 l ps ms).2=0))=(suf.all fun l=>decide ((zp5 l ps ms).2=0)) ->
   zjy H (H++[.lst 0 3 [],.lst 0 4 [],.lst pre.length 3 (Lv.css (pre.map fun l=>(zp5 l ps ms).1)),.lst 0 4 [],.lst 0 3 [],.lst 0 4 []])
    (.sl (Lv.css ps)) (.sl (Lv.css ms)) (.int .i64 pre.length) [.int .i64 k,.int .i64 n,.sl (Lv.css ls),.sl (Te.css ks)] [.int .i64 0,.int .i64 0,.ol H.length 0,.ol (H.length+1) 0] [.int .i64 k,.int .i64 n,.ol (H.length+2) pre.length,.ol (H.length+3) 0] =
   some (.ret (yit ps ms (.mk k n ls ks)),H):=by
  intro suf
  induction suf with
  |nil=>
   intro pre eq hall;subst eq;rw[List.append_nil]at *;have h1:=loop1 (by rw[hall];rfl) ks [] [] rfl rfl (fun _=>rfl) rfl
   simp only[List.length_nil,Int.natCast_zero,Te.css]at h1;rw[zjy,zab];simp only[↓reduceIte,go_sem,h1]
  |cons l suf ih2=>
   intro pre eq hall;subst eq;simp at hl5;have hs:=fun H=>yic l ps ms (hl.all2 l (by simp)) hp hm hpl hml H
   simp only[z3o]at hs;rw[zjy,zab];by_cases h0:(zp5 l ps ms).2=0
   ·have:=ih2 (pre++[l]) (by simp) (by rw[hall];simp[h0])
    simp only[zah]at this;simp only[zd7,List.map_append,List.map_cons,List.map_nil]at this;simp only[↓reduceIte,go_sem,hs,h0,zad (n:=pre.length) (by omega),zpe,List.length_map,show pre.length+(0+1)<=1073741824 by omega]
    exact this
   ·have h2:okTm ps ms (.mk k n (pre++l::suf) ks)=false:=by rw[okTm,hall];simp[h0]
    unfold yit;rw[h2];simp only[↓reduceIte,go_sem,hs,h0,zeroT,Te.cs,Lv.css,Te.css,Bool.false_eq_true,Nat.add_le_add_iff_left,Nat.reduceLeDiff]
 have h0:=loop0 ls [] rfl rfl;simp only[List.length_nil,Int.natCast_zero,List.map_nil,Lv.css]at h0;rw[z4n];simp only[↓reduceIte,go_sem,Te.cs];exact h0
theorem zvx(t:Te)(ps ms:List Lv)(ht:t.ok)(hp:zrv ps)(hm:zrv ms)(hpl:ps.length<=140737488355328)(hml:ms.length<=140737488355328)(H:List AO):
  F zn9 [.agg t.cs,.sl (Lv.css ps),.sl (Lv.css ms)] H=some (.ret (zi4 (znl t ps ms)),H):=by
 have h1:=fun H=>zch t ht H
 have h2:=zws ps hpl hp H;have h3:=zws ms hml hm H;rw[z4o,znl];by_cases hr:za6 t=true
 ·by_cases a1:5<ps.length
  ·have a1':(5:Int)<ps.length:=by omega
   simp only[↓reduceIte,go_sem,h1,hr,a1,a1',zi4,zeroT,Te.cs,Lv.css,Te.css,Bool.true_eq_false,false_or,true_or]
  by_cases a2:10<ms.length
  ·have a1':¬ (5:Int)<ps.length:=by omega
   have a2':(10:Int)<ms.length:=by omega
   simp only[↓reduceIte,go_sem,h1,hr,a1,a1',a2,a2',zi4,zeroT,Te.cs,Lv.css,Te.css,Bool.true_eq_false,false_or,true_or]
  have a1':¬ (5:Int)<ps.length:=by omega
  have a2':¬ (10:Int)<ms.length:=by omega
  cases b1:zbm ps with
  |false=>simp only[↓reduceIte,go_sem,h1,h2,hr,a1,a1',a2,a2',b1,zi4,zeroT,Te.cs,Lv.css,Te.css,Bool.true_eq_false,false_or,true_or]
  |true=>
  cases b2:zbm ms with
  |false=>simp only[↓reduceIte,go_sem,h1,h2,h3,hr,a1,a1',a2,a2',b1,b2,zi4,zeroT,Te.cs,Lv.css,Te.css,Bool.true_eq_false,false_or,true_or]
  |true=>
  have h4:=ye7 ps ms hp hm hpl hml 5 10 t ht 1000 30 (ze9 hr) H;unfold yit at h4;by_cases b3:okTm ps ms t=true
  ·simp only[b3,if_true]at h4
   simp only[↓reduceIte,go_sem,h1,h2,h3,h4,hr,a1,a1',a2,a2',b1,b2,b3,zi4,zeroT,Te.cs,Lv.css,Te.css,Bool.true_eq_false,Bool.false_eq_true,or_self,true_or]
  ·simp only[Bool.not_eq_true]at b3
   simp only[b3,Bool.false_eq_true,if_false]at h4;simp only[↓reduceIte,go_sem,h1,h2,h3,h4,hr,a1,a1',a2,a2',b1,b2,b3,zi4,zeroT,Te.cs,Lv.css,Te.css,Bool.true_eq_false,Bool.false_eq_true,or_self,true_or]
 ·simp only[Bool.not_eq_true]at hr
  simp only[↓reduceIte,go_sem,h1,hr,zi4,zeroT,Te.cs,Lv.css,Te.css,true_or]
end Go.Ab
end
section
set_option linter.unusedVariables false
set_option linter.unusedSimpArgs false
set_option maxRecDepth 100000
set_option maxHeartbeats 2000000
namespace Go.Ab
open Go.RowKit Go.Proofs
mutual
def subs:Te->List Te
 |.mk k n ls ks=>.mk k n ls ks::subss ks
def subss:List Te->List Te
 |[]=>[]
 |x::r=>subs x++subss r
end
abbrev yha(t:Te):List AV:=[.agg t.cs]
def yjx(t:Te):AV:=.fn (.func zh3) [] [.fp t.cs]
theorem z48(t:Te)(H:List AO):F zo2 [.agg t.cs] H=some (.ret (yjx t),H):=by
 rw[z76]
 cases t with
 |mk k n ls ks=>
 have h:Lt H.length (.fn (.func zh3) [] [.fp [.int .i64 k,.int .i64 n,.sl (Lv.css ls),.sl (Te.css ks)]])=True:=by
  simp only[eq_iff_iff,iff_true];refine .fn (by simp) ?_
  intro x hx;simp at hx;subst hx;exact .fp (zub H.length (.mk k n ls ks))
 simp only[↓reduceIte,go_sem,yjx,Te.cs,h]
def zrq(y:AV)(st:LSt):AO:=.slp st 25 [(2,.fp [y])] [19] zel zei
theorem all_ys{S E:Type}{y:AV}{m:Nat}{W:S->List AO}{WE:E->List AO}{stp:S->Te->Option (S ⊕ E)}(hy:Ys y m yha W WE stp)(V:List AO):
  Ys (.yd (m+V.length)) (m+V.length+1) yha (fun s=>W s++(V++[zrq y .ready])) (fun e=>WE e++(V++[zrq y (.done .ret)])) stp:=by
 have hhp:∀r:S ⊕ E,hp (fun s=>W s++(V++[zrq y .ready])) (fun e=>WE e++(V++[zrq y (.done .ret)])) r=hp W WE r++(V++[zrq y (if isL r=true then .ready else .done .ret)]):=fun r=>by cases r <;> rfl
 refine⟨rfl,.yd (by omega),?_,?_,?_⟩
 ·intro r
  have:=hy.len r;rw[hhp];simp;omega
 ·intro s r id o ho
  have l1:=hy.len (.inl s);have l2:=hy.len r;have l1:(W s).length=m:=l1;rw[hhp]at ho;by_cases h1:id<m
  ·rw[List.getElem?_append_left (by omega)]at ho
   rcases hy.fr s r id o ho with k|k
   ·exact .inl (by rw[List.getElem?_append_left (by omega)];exact k)
   ·exact .inr (k.mono (by omega))
  ·rw[List.getElem?_append_right (by omega)]at ho
   rw[List.getElem?_append_right (by omega),l1,<- l2]
   by_cases h2:id - (hp W WE r).length<V.length
   ·rw[List.getElem?_append_left h2]at ho ⊢;exact .inl ho
   ·rw[List.getElem?_append_right (by omega)]at ho
    cases h3:id - (hp W WE r).length - V.length with
    |zero=>
     rw[h3]at ho;simp at ho;subst ho;refine .inr fun p hp=>?_
     simp at hp;subst hp;exact .fp (by intro a ha;simp at ha;subst ha;exact hy.lt.mono (by omega))
    |succ j=>rw[h3]at ho;simp at ho
 ·intro s x Z r hst
  rw[hhp];have hl:(W s).length=m:=hy.len (.inl s);have hl2:=hy.len r;have hfr:∀(id:Nat) (o:AO),(hp W WE r)[id]?=some o->(W s)[id]?=some o\/LtO (W s).length o:=by rw[hl];exact hy.fr s r
  have hc:=hy.call s x (V++zrq y .busy::Z) r hst;have hlt:∀(st:LSt),LtO (W s++(V++zrq y .ready::Z)).length (zrq y st):=fun st p hp=>by
   simp at hp;subst hp;exact .fp (by intro a ha;simp at ha;subst ha;exact hy.lt.mono (by simp;omega))
  have g1:(W s++(V++zrq y .ready::Z))[m+V.length]?=some (zrq y .ready):=by rw[<- hl];exact ya2
  have s1:(W s++(V++zrq y .ready::Z)).set (m+V.length) (zrq y .busy)=W s++(V++zrq y .busy::Z):=by rw[<- hl];exact ya1
  have g2:(hp W WE r++(V++zrq y .busy::Z))[m+V.length]?=some (zrq y .busy):=by rw[<- hl2];exact ya2
  have s2:∀st,(hp W WE r++(V++zrq y .busy::Z)).set (m+V.length) (zrq y st)=hp W WE r++(V++zrq y st::Z):=fun st=>by rw[<- hl2];exact ya1
  have e1:∀st b,zrn (W s++(V++zrq y .ready::Z)) (m+V.length) st b (hp W WE r++(V++zrq y .busy::Z))=some (.ret (.bool b),hp W WE r++(V++zrq y st::Z)):=fun st b=>by
   have:=z5f (H:=W s++(V++zrq y .ready::Z)) (st:=st) (b:=b) g2;rw[this];show zez _ _ ((hp W WE r++(V++zrq y .busy::Z)).set (m+V.length) (zrq y st))=_;rw[s2 st];exact ygz (by rw[hl2,hl]) hfr (hlt st) (.bool _)
  simp only[List.append_assoc,List.cons_append,List.nil_append];rw[yjp g1 rfl ztd ztb];unfold zrq at g1 s1 hc e1;unfold zrq
  cases x with
  |mk xk xn xls xks=>
  simp only[yha,Te.cs]at hc ⊢
  cases h:isL r with
  |true=>simp only[↓reduceIte,go_sem,g1,s1,hc,h,e1]
  |false=>simp only[↓reduceIte,go_sem,g1,s1,hc,h,e1]
theorem all_seq(t:Te):t.ok->yee (yjx t) yha (subs t):=by
 induction t using Te.ind with
 |h k n ls ks ih=>
 intro hl S E y m W WE stp hy s X r hr;rw[yjx];simp only[zgh,List.cons_append,List.nil_append];have hlen:=hl.len;have hone:=hy.one;have hcell:y.cells=[y]:=by cases y <;> first|rfl|(simp[AV.one]at hone)
 unfold AV.cells at hcell;unfold AV.one at hone;have loop:∀(suf pre:List Te) (a:S),ks=pre++suf->zlc stp (subss suf) a=some r ->
   zis (W s++X) (W a++(X++jk pre.length)) (dsl (m+X.length) pre.length) (.fp [y]) (.sl (Te.css ks)) (.int .i64 ks.length) (.int .i64 pre.length)=some (.ret (.tup []),hp W WE r++X):=by
  intro suf
  induction suf with
  |nil=>
   intro pre a e hq2;subst e;simp only[subss,zlc]at hq2;cases hq2;rw[zis,zab];simp only[↓reduceIte,go_sem];exact ycr hy s (.inl a) X pre.length (.inl rfl) _ _
  |cons x suf ih2=>
   intro pre a e hq2;subst e;simp at hlen;have lA:(W a).length=m:=hy.len (.inl a);have hn:(W a++(X++jk pre.length)).length=m+(X.length+2*pre.length):=by simp[lA,zoh]
   have hd:yeu (W a++(X++jk pre.length)) (dsl (m+X.length) pre.length)=true:=by
    have:=yc4 (W a++X) pre.length [];simpa [lA] using this
   have hrd:yet (W a++(X++jk pre.length)) (dsl (m+X.length) pre.length)=false:=by
    have:=inRd_jk (W a++X) pre.length [];simpa [lA] using this
   rw[subss,zyp]at hq2;obtain⟨q,hq⟩:∃q,zlc stp (subs x) a=some q:=by
    cases h:zlc stp (subs x) a with
    |none=>rw[h]at hq2;cases hq2
    |some q=>exact⟨q,rfl⟩
   rw[hq]at hq2;have hx:=ih x (by simp) (hl.all x (by simp)) _ _ _ _ _ _ _ (all_ys hy (X++(jk pre.length++[.dfr]))) a [] q hq
   have lA':=hy.len q;simp only[yjx,zgh,List.append_nil,List.append_assoc,List.cons_append,List.nil_append,List.length_append,zoh,List.length_cons,List.length_nil,zrq]at hx;have hds:(m+(X.length+2*pre.length))::dsl (m+X.length) pre.length=dsl (m+X.length) (pre.length+1):=by rw[dsl];congr 1;omega
   have hg:∀st,(hp W WE q++(X++(jk pre.length++[AO.dfr,AO.slp st 25 [(2,.fp [y])] [19] zel zei])))[m+(X.length+(2*pre.length+1))]?=some (AO.slp st 25 [(2,.fp [y])] [19] zel zei):=by
    intro st;rw[<- lA',List.getElem?_append_right (by omega),List.getElem?_append_right (by omega),List.getElem?_append_right (by rw[zoh];omega),zoh]
    rw[show (hp W WE q).length+(X.length+(2*pre.length+1)) - (hp W WE q).length - X.length - 2*pre.length=1 by omega]
    rfl
   have hs:∀st,(hp W WE q++(X++(jk pre.length++[AO.dfr,AO.slp st 25 [(2,.fp [y])] [19] zel zei]))).set (m+(X.length+(2*pre.length+1))) .dead=hp W WE q++(X++jk (pre.length+1)):=by
    intro st;rw[<- lA',List.set_append_right _ _ (by omega),List.set_append_right _ _ (by omega),List.set_append_right _ _ (by rw[zoh];omega),zoh]
    rw[show (hp W WE q).length+(X.length+(2*pre.length+1)) - (hp W WE q).length - X.length - 2*pre.length=1 by omega]
    rfl
   rw[zis,zab]
   cases q with
   |inl a'=>
    have:=ih2 (pre++[x]) a' (by simp) hq2
    simp only[zah,zd7,Int.natCast_add,Int.natCast_one]at this;simp only[zfa]at hx hg hs;rw[<- this];simp only[↓reduceIte,go_sem,z48,yjx,hn,hd,hrd,hx,hg,hs,hds,zad (n:=pre.length) (by omega)]
   |inr e=>
    dsimp only at hq2;cases hq2;have:=fun t ls=>ycr hy s (.inr e) X (pre.length+1) (o:=.ret) (.inr rfl) t ls
    simp only[zpx]at hx hg hs this ⊢;simp only[↓reduceIte,go_sem,z48,yjx,hn,hd,hrd,hx,hg,hs,hds,this]
 rw[show subs (.mk k n ls ks) = .mk k n ls ks::subss ks by rw[subs],zlc]at hr
 obtain⟨q,hq⟩:∃q,stp s (.mk k n ls ks)=some q:=by
  cases h:stp s (.mk k n ls ks) with
  |none=>rw[h]at hr;cases hr
  |some q=>exact⟨q,rfl⟩
 have hc:=hy.call s _ X q hq;rw[hq]at hr;simp only[yha,Te.cs]at hc;show F zh3 _ _=_;rw[z1n]
 cases q with
 |inl a=>
  have h0:=loop ks [] a rfl hr;simp only[List.length_nil,Int.natCast_zero,jk,dsl,List.append_nil]at h0;rw[<- h0];simp only[zfa]at hc;simp only[↓reduceIte,go_sem,Te.cs,hone,hcell,hc,isL]
 |inr e=>
  dsimp only at hr;cases hr;simp only[zpx]at hc;have l1:(W s).length=m:=hy.len (.inl s);have l2:(WE e).length=m:=hy.len (.inr e);have hf:=zyt (H:=W s) (A:=WE e) (X:=X) (J:=[]) (r:=.ret (.tup [])) (by rw[l2];exact l1.symm) (by rw[l1];exact hy.fr s (.inr e)) (show Lt _ _ from .tup (by simp))
  rw[List.append_nil]at hf;simp only[↓reduceIte,go_sem,Te.cs,hone,hcell,hc,isL];exact hf
def zw4(L:List Int):List (AV×AV):=L.map fun n=>(.int .i64 n,.agg [])
@[go_sem] theorem ycd:∀L:List Int,zlu .i64 (zw4 L)=true
 |[]=>rfl
 |n::r=>by show zlu .i64 ((.int .i64 n,.agg [])::zw4 r)=true;simp only[zlu,if_pos,ycd r]
@[go_sem] theorem yce(n:Int):∀L:List Int,zgg n (zw4 L)=some (if L.contains n then some (.agg []) else none)
 |[]=>rfl
 |m::r=>by
  show zgg n ((.int .i64 m,.agg [])::zw4 r)=_;rw[zgg,yce n r];by_cases h:n=m
  ·subst h;simp
  ·simp[h]
@[go_sem] theorem ygp:zw4 []=[]:=rfl
theorem ycb(L:List Int)(n:Int):zw4 L++[(.int .i64 n,.agg [])]=zw4 (L++[n]):=by simp[zw4]
theorem ycc(n:Nat)(L:List Int):LtO n (.mapo (zw4 L)):=by
 constructor
 ·intro p hp;obtain⟨x,_,rfl⟩:=List.mem_map.1 hp;exact .int _ _
 ·intro p hp;obtain⟨x,_,rfl⟩:=List.mem_map.1 hp;exact .agg (by simp)
def zpn:Nat×List Int->List Int->Nat×List Int
 |p,[]=>p
 |p,n::r=>zpn (if p.2.contains n then p else (p.1+1,p.2++[n])) r
theorem z00:∀(xs:List Int) (p:Nat×List Int),(zpn p xs).2=zfq p.2 xs
 |[],p=>rfl
 |n::r,p=>by
  rw[zpn,zfq,z00 r];by_cases h:p.2.contains n=true
  ·rw[if_pos h,if_pos h]
  ·rw[if_neg h,if_neg h]
theorem zsf{H H':List AO}{r:Res}(hl:H'.length=H.length)(hr:LtR H.length r)(h:∀(id:Nat) (o:AO),H'[id]?=some o->H[id]?=some o\/LtO H.length o):zez H r H' = some (r,H'):=by
 unfold zez;rw[if_pos ⟨hr,fun id o ho _=>h id o ho⟩,<- hl,List.take_length]
theorem z4e{H H':List AO}{r:Res}(J:List AO)(hl:H'.length=H.length)(hr:LtR H.length r)(h:∀(id:Nat) (o:AO),H'[id]?=some o->H[id]?=some o\/LtO H.length o):zez H r (H' ++ J)=some (r,H'):=by
 unfold zez;rw[if_pos ⟨hr,fun id o ho hi=>h id o (by rwa [List.getElem?_append_left (by omega)]at ho)⟩,List.take_left' hl]
theorem ydw{A Z:List AO}{o1 o1' b o2 o2':AO}{n:Nat}(h1:LtO n o1')(h2:LtO n o2'):∀(id:Nat) (o:AO),(A++(o1' :: b::o2' :: Z))[id]?=some o->(A++(o1::b::o2::Z))[id]?=some o\/LtO n o:=by
 intro id o ho;by_cases hi:id<A.length
 ·rw[List.getElem?_append_left hi]at ho ⊢;exact .inl ho
 rw[List.getElem?_append_right (by omega)]at ho ⊢
 match id - A.length,ho with
 |0,ho=>simp at ho;subst ho;exact .inr h1
 |1,ho=>simp at ho;subst ho;exact .inl (by simp)
 |2,ho=>simp at ho;subst ho;exact .inr h2
 |j+3,ho=>simp at ho;exact .inl (by simpa using ho)
theorem yf4(b:AO)(xs:List Int)(hx:xs.length<=140737488355328)(A Z:List AO)(ver:Nat)(es:List Int)(hs:es.length+xs.length<=1073741824):
  F zn2 [.ol A.length ver,.mp (A.length+2),.sl (zbe xs)] (A++(.lst ver 1 (zbe es)::b :: .mapo (zw4 es)::Z)) =
   some (.ret (.ol A.length (zpn (ver,es) xs).1),A++(.lst (zpn (ver,es) xs).1 1 (zbe (zpn (ver,es) xs).2)::b :: .mapo (zw4 (zpn (ver,es) xs).2)::Z)):=by
 have hf:∀(v v2:Nat) (es':List Int),zez (A++(.lst ver 1 (zbe es)::b :: .mapo (zw4 es)::Z)) (.ret (.ol A.length v2)) (A++(.lst v 1 (zbe es')::b :: .mapo (zw4 es')::(Z++[.lst 0 1 []])))=some (.ret (.ol A.length v2),A++(.lst v 1 (zbe es')::b :: .mapo (zw4 es')::Z)):=by
  intro v v2 es';have:=z4e (H:=A++(.lst ver 1 (zbe es)::b :: .mapo (zw4 es)::Z)) (H':=A++(.lst v 1 (zbe es')::b :: .mapo (zw4 es')::Z)) (r:=.ret (.ol A.length v2)) [.lst 0 1 []] (by simp) (.ol (by simp)) (ydw (fun a ha=>z38 _ _ a ha) (ycc _ _))
  simpa using this
 have hn:¬ (A.length+(Z.length+3)<=A.length):=by omega
 have loop:∀(suf pre:List Int) (p:Nat×List Int),xs=pre++suf->p.2.length+suf.length<=1073741824 ->
   zjv (A++(.lst ver 1 (zbe es)::b :: .mapo (zw4 es)::Z)) (A++(.lst p.1 1 (zbe p.2)::b :: .mapo (zw4 p.2)::(Z++[.lst 0 1 []]))) (.ol A.length p.1) (.mp (A.length+2)) (.sl (zbe xs)) (.int .i64 xs.length) (.int .i64 pre.length) =
   some (.ret (.ol A.length (zpn p suf).1),A++(.lst (zpn p suf).1 1 (zbe (zpn p suf).2)::b :: .mapo (zw4 (zpn p suf).2)::Z)):=by
  intro suf
  induction suf with
  |nil=>
   intro pre p e hp;subst e;rw[zjv,zab];simp only[↓reduceIte,go_sem,zpn,hn,hf]
  |cons n suf ih=>
   rintro pre ⟨v,l⟩ e hp
   subst e;simp at hp hx;rw[zjv,zab,zpn];by_cases h:l.contains n=true
   ·have:=ih (pre++[n]) (v,l) (by simp) (by simp;omega)
    simp only[zah]at this;rw[if_pos h];simp only[↓reduceIte,go_sem,h,zad (n:=pre.length) (by omega),this]
   ·have:=ih (pre++[n]) (v+1,l++[n]) (by simp) (by simp;omega)
    simp only[zah]at this;rw[if_neg h];simp only[Bool.not_eq_true]at h;simp only[↓reduceIte,go_sem,h,zad (n:=pre.length) (by omega),ycb,z1e,show l.length+(0+1)<=1073741824 by omega,this]
 have:=loop xs [] (ver,es) rfl hs;simp only[List.length_nil,Int.natCast_zero]at this;rw[z4f];simp only[↓reduceIte,go_sem,this]
def Te.kind:Te->Int
 |.mk k _ _ _=>k
def Te.n:Te->Int
 |.mk _ n _ _=>n
def zm0:List Te->List Int
 |[]=>[]
 |x::r=>(if x.kind=3 then [x.n] else [])++zm0 r
theorem z2l:∀a b:List Te,zm0 (a++b)=zm0 a++zm0 b
 |[],b=>rfl
 |x::a,b=>by rw[List.cons_append,zm0,zm0,z2l a b,List.append_assoc]
def znt(n:Nat)(p:Nat×List Int):List AO:=[.lst p.1 1 (zbe p.2),.box [.ol n p.1],.mapo (zw4 p.2),.box [.mp (n+2)]]
def z2j(p:Nat×List Int)(x:Te):Option ((Nat×List Int) ⊕ Empty):=if p.2.length<1073741824 then some (.inl (if x.kind=3 then zpn p [x.n] else p)) else none
theorem yhi(H:List AO):Ys (.yd (H.length+4+1)) (H.length+4+2) yha (fun p=>H++(znt H.length p++[.dfr,.slp .ready 19 [(2,.ptr (H.length+1) 0),(3,.ptr (H.length+3) 0)] [8] zdg zde])) (fun e:Empty=>H++(noE e++[.dfr,.slp (.done (noE e)) 19 [(2,.ptr (H.length+1) 0),(3,.ptr (H.length+3) 0)] [8] zdg zde])) z2j:=by
 refine z3c H 4 yha (znt H.length) noE noE z2j 19 [(2,.ptr (H.length+1) 0),(3,.ptr (H.length+3) 0)] [8] zdg zde zrz zrx (fun _=>rfl) ?_ ?_ ?_ ?_
 ·rintro (p|e)
  ·rfl
  ·exact e.elim
 ·rintro s (p|e) i o ho
  ·match i,ho with
   |0,ho=>simp[zfa,znt]at ho;subst ho;exact .inr fun a ha=>z38 _ _ a ha
   |1,ho=>simp[zfa,znt]at ho;subst ho;exact .inr fun a ha=>by simp at ha;subst ha;exact .ol (by omega)
   |2,ho=>simp[zfa,znt]at ho;subst ho;exact .inr (ycc _ _)
   |3,ho=>simp[zfa,znt]at ho;subst ho;exact .inl (by simp[znt])
   |j+4,ho=>simp[zfa,znt]at ho
  ·exact e.elim
 ·intro p hp;simp at hp;rcases hp with rfl|rfl <;> exact .ptr (by omega)
 ·rintro ⟨ver,es⟩ ⟨k,n,ls,ks⟩ X r hst
  refine⟨[],?_⟩;unfold z2j at hst
  split at hst
  ·rename_i h2
   dsimp only at h2;cases hst;have hc:=yf4 (.box [.ol H.length ver]) [n] (by simp) H (.box [.mp (H.length+2)] :: .dfr :: .slp .busy 19 [(2,.ptr (H.length+1) 0),(3,.ptr (H.length+3) 0)] [8] zdg zde::X) ver es (by simp;omega)
   simp only[zbe,List.map_cons,List.map_nil]at hc;by_cases h1:k=3
   ·simp only[↓reduceIte,go_sem,znt,zbe,yha,Te.cs,Te.kind,Te.n,hc,h1,z31,isL]
   ·simp only[↓reduceIte,go_sem,znt,zbe,yha,Te.cs,Te.kind,Te.n,h1,z31,isL]
  ·cases hst
theorem zsk:∀(xs:List Te) (ver:Nat) (es:List Int),es.length+xs.length<=1073741824->∃v,zlc z2j xs (ver,es)=some (.inl (v,zfq es (zm0 xs)))
 |[],ver,es,_=>⟨ver,rfl⟩
 |x::r,ver,es,h=>by
  simp at h;rw[zlc,zm0,zoc];unfold z2j;rw[if_pos (show es.length<1073741824 by omega)]
  by_cases h1:x.kind=3
  ·rw[if_pos h1,if_pos h1]
   have:=z00 [x.n] (ver,es);rw[show zpn (ver,es) [x.n]=((zpn (ver,es) [x.n]).1,zfq es [x.n]) from Prod.ext rfl this]
   have hl:=zks [x.n] es;simp at hl;exact zsk r _ _ (by omega)
  ·rw[if_neg h1,if_neg h1];exact zsk r ver es (by omega)
def zf0(t:Te):List Int:=zfq [] (zm0 (subs t))
theorem yeg(t:Te)(ht:t.ok)(hx:(subs t).length<=1073741824)(H:List AO):F zkg [.agg t.cs] H=some (.ret (.sl (zbe (zf0 t))),H):=by
 obtain⟨v,hv⟩:=zsk (subs t) 0 [] (by simpa using hx)
 have hr:=all_seq t ht _ _ _ _ _ _ _ (yhi H) (0,[]) [] _ hv;have he:=zss (H:=H) (DR:=znt H.length (v,zf0 t)) (k:=4) rfl (st:=.ready) (nn:=19) (t:=[(2,.ptr (H.length+1) 0),(3,.ptr (H.length+3) 0)]) (ps:=[8]) (asg:=zdg) (body:=zde);have ha:=z48 t
 cases t with
 |mk k n ls ks=>
 unfold zf0 at he ⊢;simp only[yjx,Te.cs]at ha hr;simp only[zfa,znt,zgh,List.cons_append,List.nil_append,List.append_nil,Nat.add_assoc,Nat.reduceAdd,zhh,ygp]at hr he;rw[zyx];simp only[↓reduceIte,go_sem,Te.cs,ha,hr,he,List.mem_cons,List.not_mem_nil,or_false,forall_eq,List.nodup_cons,List.nodup_nil,not_false_eq_true,and_self]
theorem z01:∀(xs out:List Int) (n:Int),out.contains n=true->(zfq out xs).contains n=true
 |[],out,n,h=>h
 |x::r,out,n,h=>by
  rw[zfq];refine z01 r _ n ?_
  split
  ·exact h
  ·simp at h ⊢;exact .inl h
theorem zru:∀(xs acc out:List Int),zfq out (zfq acc xs)=zfq (zfq out acc) xs
 |[],acc,out=>rfl
 |n::r,acc,out=>by
  rw[zfq,zru r,zfq];by_cases h:acc.contains n=true
  ·rw[if_pos h]
   have:(zfq out acc).contains n=true:=by
    clear zru
    induction acc generalizing out with
    |nil=>simp at h
    |cons a acc ih=>
     rw[zfq];by_cases ha:n=a
     ·subst ha
      refine z01 _ _ _ ?_
      split
      ·assumption
      ·simp
     ·have:acc.contains n=true:=by simpa [ha] using h
      exact ih _ this
   rw[if_pos this]
  ·rw[if_neg h,zoc,zfq,zfq]
def zs0:List Te->List Int
 |[]=>[]
 |x::r=>zm0 (subs x)++zs0 r
theorem zqf:∀ks:List Te,zm0 (subss ks)=zs0 ks
 |[]=>rfl
 |x::r=>by rw[subss,z2l,zqf r];rfl
theorem zox:∀xs:List Te,(zm0 xs).length<=xs.length
 |[]=>Nat.le_refl _
 |x::r=>by
  have:=zox r;rw[zm0];split <;> simp <;> omega
theorem z5e(t:Te):t.ok->(subs t).length<=1073741824->∀(H:List AO),F zgw [.agg t.cs] H=some (.ret (.sl (zbe (zf0 t))),H):=by
 induction t using Te.ind with
 |h k n ls ks ih=>
 intro hl hx H;have hlen:=hl.len;have loop0:∀(j:Nat) (m:List Int) (x:Int) (x4:AV),m[j]?=some x->m.length<=1073741824->∀(es:List Int) (ver:Nat),es.length<1073741824->∀(suf pre:List Int),es=pre++suf ->
   zgj H (H++[.lst 0 1 [],.lst ver 1 (zbe es)]) (.ol (H.length+1) ver) x4 (.sl (zbe m)) (.int .i64 j) (.bool (pre.contains x)) (.int .i64 pre.length) (Te.mk k n ls ks).cs =
   zfd H (H++[.lst 0 1 [],.lst (if es.contains x then ver else ver+1) 1 (zbe (if es.contains x then es else es++[x]))]) (.ol (H.length+1) (if es.contains x then ver else ver+1)) x4 (.sl (zbe m)) (.int .i64 (j+1)) (Te.mk k n ls ks).cs:=by
  intro j m x x4 hj hm es ver hs suf;have hjm:j<m.length:=by
   rcases Nat.lt_or_ge j m.length with h|h
   ·exact h
   ·rw[List.getElem?_eq_none h]at hj;cases hj
  induction suf with
  |nil=>
   intro pre e;rw[List.append_nil]at e;subst e;rw[zgj,zab];by_cases h:es.contains x=true
   ·simp only[h]
    simp only[↓reduceIte,go_sem,zad (n:=j) (by omega)]
   ·simp only[Bool.not_eq_true]at h
    simp only[h];simp only[↓reduceIte,go_sem,hj,hjm,zad (n:=j) (by omega),z1e,show es.length+(0+1)<=1073741824 by omega,show es.length<=1073741823 by omega]
  |cons y suf ih2=>
   intro pre e;have:=ih2 (pre++[y]) (by rw[e];simp)
   simp only[zah]at this;rw[<- this,zgj,zab];have hc:(pre++[y]).contains x=(pre.contains x || decide (y=x)):=by
    rw[Bool.eq_iff_iff];simp only[List.contains_iff_mem,List.mem_append,List.mem_singleton,Bool.or_eq_true,decide_eq_true_eq];exact or_congr_right eq_comm
   have hp:(pre.length:Int)<(es.length:Int):=by rw[e];simp;omega
   have hg:es[pre.length]?=some y:=by rw[e];simp
   have hp2:pre.length<es.length:=by rw[e];simp
   rw[hc]
   cases h:pre.contains x with
   |true=>simp only[↓reduceIte,go_sem,hp,hp2,hg,zad (n:=pre.length) (by omega),Bool.true_or]
   |false=>simp only[↓reduceIte,go_sem,hp,hp2,hg,hj,hjm,zad (n:=pre.length) (by omega),Bool.false_or]
 have loop1:∀(i:Int) (suf pre out:List Int) (ver:Nat),out.length+suf.length<=1073741824->pre.length+suf.length<=1073741824->∃v,
   zfd H (H++[.lst 0 1 [],.lst ver 1 (zbe out)]) (.ol (H.length+1) ver) (.int .i64 i) (.sl (zbe (pre++suf))) (.int .i64 pre.length) (Te.mk k n ls ks).cs =
   zfc H (H++[.lst 0 1 [],.lst v 1 (zbe (zfq out suf))]) (.ol (H.length+1) v) (.int .i64 (IntKind.i64.wrap (i+1))) (Te.mk k n ls ks).cs:=by
  intro i suf
  induction suf with
  |nil=>
   intro pre out ver h1 h2;refine⟨ver,?_⟩;rw[zfd,zab,List.append_nil,zfq];simp only[↓reduceIte,go_sem]
  |cons x suf ih2=>
   intro pre out ver h1 h2;simp at h1 h2;have h0:=loop0 pre.length (pre++x::suf) x (.int .i64 i) (by simp) (by simp;omega) out ver (by omega) out [] rfl
   simp only[List.length_nil,Int.natCast_zero,List.contains_nil]at h0;have hl:=zks [x] out;simp only[zfq]at hl;obtain⟨v,h3⟩:=ih2 (pre++[x]) (if out.contains x then out else out++[x]) (if out.contains x then ver else ver+1) (by simp only[List.length_cons,List.length_nil]at hl;omega) (by simp;omega)
   simp only[zah,List.append_assoc,List.cons_append,List.nil_append]at h3;refine⟨v,?_⟩;rw[zfq,<- h3,<- h0,zfd,zab];simp only[↓reduceIte,go_sem]
 have loop2:∀(suf pre:List Te) (out:List Int) (ver:Nat),ks=pre++suf->out.length+(zs0 suf).length<=1073741824->(∀x∈suf,(subs x).length<=1073741824) ->
   zfc H (H++[.lst 0 1 [],.lst ver 1 (zbe out)]) (.ol (H.length+1) ver) (.int .i64 pre.length) (Te.mk k n ls ks).cs=some (.ret (.sl (zbe (zfq out (zs0 suf)))),H):=by
  intro suf
  induction suf with
  |nil=>
   intro pre out ver e h1 h2;subst e;rw[zfc,zab,zs0,zfq];simp only[↓reduceIte,go_sem,Te.cs]
  |cons x suf ih2=>
   intro pre out ver e h1 h2;subst e;rw[zs0]at h1;simp at h1 hlen;have hx1:=h2 x (by simp)
   have hc:=zox (subs x);have hle:=zks (zm0 (subs x)) [];simp at hle;obtain⟨v,h3⟩:=loop1 pre.length (zf0 x) [] out ver (by unfold zf0;omega) (by unfold zf0;simp;omega)
   simp only[List.length_nil,Int.natCast_zero,List.nil_append,zad (n:=pre.length) (by omega)]at h3
   have hr:=ih x (by simp) (hl.all x (by simp)) hx1
   have hle2:=zks (zm0 (subs x)) out;have h4:=ih2 (pre++[x]) (zfq out (zm0 (subs x))) v (by simp) (by omega) (fun y hy=>h2 y (by simp[hy]))
   simp only[zah]at h4;rw[zs0,zoc,<- h4];rw[show zfq out (zf0 x)=zfq out (zm0 (subs x)) from zru _ [] out]at h3
   rw[<- h3,zfc,zab];simp only[↓reduceIte,go_sem,Te.cs,hr]
 have hsub:∀x∈ks,(subs x).length<=(subss ks).length:=by
  clear loop0 loop1 loop2 hlen hl ih hx
  induction ks with
  |nil=>simp
  |cons y r ih=>
   intro x hx;rw[subss,List.length_append];rcases List.mem_cons.1 hx with rfl|hx
   ·omega
   ·have:=ih x hx;omega
 rw[subs,List.length_cons]at hx;have hcl:=zox (subss ks);rw[zqf]at hcl;have e:zf0 (.mk k n ls ks)=zfq (if k=3 then [n] else []) (zs0 ks):=by
  rw[zf0,subs,zm0,zoc,zqf];rw[show Te.kind (.mk k n ls ks)=k from rfl,show Te.n (.mk k n ls ks)=n from rfl]
  split <;> rfl
 have h0:=loop2 ks [] (if k=3 then [n] else []) (if k=3 then 1 else 0) rfl (by split <;> simp <;> omega) (fun x hx'=>by have:=hsub x hx';omega)
 rw[<- e]at h0;rw[zv8,<- h0];by_cases h:k=3
 ·simp only[h]at *
  simp only[↓reduceIte,go_sem,Te.cs,zbe,List.map_cons,List.map_nil]
 ·simp only[↓reduceIte,go_sem,Te.cs,h]
end Go.Ab
end
section
set_option linter.unusedVariables false
set_option linter.unusedSimpArgs false
set_option maxRecDepth 100000
set_option maxHeartbeats 2000000
namespace Go.Ab
open Go.RowKit Go.Proofs
inductive Co|mk (a b:Lv)
def Co.a:Co->Lv|.mk a _=>a
def Co.b:Co->Lv|.mk _ b=>b
def Co.cs(c:Co):List AV:=c.a.cs++c.b.cs
def Co.css(l:List Co):List (List AV):=l.map Co.cs
def Co.ok(c:Co):Prop:=c.a.ok/\c.b.ok
inductive De|mk (p:Int) (cons:List Co) (type:Te) (has:Bool) (value:Te)
def De.p:De->Int|.mk p _ _ _ _=>p
def De.cons:De->List Co|.mk _ c _ _ _=>c
def De.type:De->Te|.mk _ _ t _ _=>t
def De.has:De->Bool|.mk _ _ _ h _=>h
def De.value:De->Te|.mk _ _ _ _ v=>v
def De.cs(d:De):List AV:=[.int .i64 d.p,.sl (Co.css d.cons)]++d.type.cs++[.bool d.has]++d.value.cs
def De.css(l:List De):List (List AV):=l.map De.cs
def De.ok(d:De):Prop:=d.cons.length<=140737488355328/\(∀c∈d.cons,c.ok)/\d.type.ok/\d.value.ok
@[go_sem] theorem z6s(c:Co):c.cs.length=6:=by rcases c with⟨⟨k,n,ks⟩,⟨k2,n2,ks2⟩⟩;rfl
@[go_sem] theorem cocs_rd(c:Co):rd 6 true c.cs=some (.v (.agg c.cs)):=zmi (z6s c)
@[go_sem] theorem cocs_rd0(c:Co):rd 3 true c.cs=some (.v (.agg c.a.cs)):=by rcases c with⟨⟨k,n,ks⟩,⟨k2,n2,ks2⟩⟩;rfl
@[go_sem] theorem cocs_rd3(c:Co):rd 3 true (List.drop 3 c.cs)=some (.v (.agg c.b.cs)):=by rcases c with⟨⟨k,n,ks⟩,⟨k2,n2,ks2⟩⟩;rfl
@[go_sem] theorem yde(l:List Co):(Co.css l).length=l.length:=by simp[Co.css]
@[go_sem] theorem cocss_get(l:List Co)(j:Nat):(Co.css l)[j]?=l[j]?.map Co.cs:=by simp[Co.css]
@[go_sem] theorem yhd(d:De):d.cs.length=11:=by rcases d with⟨p,c,⟨k,n,ls,ks⟩,h,⟨k2,n2,ls2,ks2⟩⟩;rfl
@[go_sem] theorem decs_rd(d:De):rd 11 true d.cs=some (.v (.agg d.cs)):=zmi (yhd d)
@[go_sem] theorem decs_rd0(d:De):rd 1 false d.cs=some (.v (.int .i64 d.p)):=by rcases d with⟨p,c,⟨k,n,ls,ks⟩,h,⟨k2,n2,ls2,ks2⟩⟩;rfl
@[go_sem] theorem decs_rd1(d:De):rd 1 false (List.drop 1 d.cs)=some (.v (.sl (Co.css d.cons))):=by rcases d with⟨p,c,⟨k,n,ls,ks⟩,h,⟨k2,n2,ls2,ks2⟩⟩;rfl
@[go_sem] theorem decs_rd2(d:De):rd 4 true (List.drop 2 d.cs)=some (.v (.agg d.type.cs)):=by rcases d with⟨p,c,⟨k,n,ls,ks⟩,h,⟨k2,n2,ls2,ks2⟩⟩;rfl
@[go_sem] theorem decs_rd6(d:De):rd 1 false (List.drop 6 d.cs)=some (.v (.bool d.has)):=by rcases d with⟨p,c,⟨k,n,ls,ks⟩,h,⟨k2,n2,ls2,ks2⟩⟩;rfl
@[go_sem] theorem decs_rd7(d:De):rd 4 true (List.drop 7 d.cs)=some (.v (.agg d.value.cs)):=by rcases d with⟨p,c,⟨k,n,ls,ks⟩,h,⟨k2,n2,ls2,ks2⟩⟩;rfl
@[go_sem] theorem over_decs(a b c d e f g h i j k:AV)(x:De):over [a,b,c,d,e,f,g,h,i,j,k] 0 x.cs=x.cs:=by rcases x with⟨p,c,⟨k,n,ls,ks⟩,h,⟨k2,n2,ls2,ks2⟩⟩;rfl
@[go_sem] theorem decss_len(l:List De):(De.css l).length=l.length:=by simp[De.css]
@[go_sem] theorem decss_get(l:List De)(j:Nat):(De.css l)[j]?=l[j]?.map De.cs:=by simp[De.css]
@[go_sem] theorem decs_one(d:De):d.cs.all AV.one=true:=by rcases d with⟨p,c,⟨k,n,ls,ks⟩,h,⟨k2,n2,ls2,ks2⟩⟩;rfl
@[go_sem] theorem cocs_one(c:Co):c.cs.all AV.one=true:=by rcases c with⟨⟨k,n,ks⟩,⟨k2,n2,ks2⟩⟩;rfl
mutual
theorem subs_parts:∀(t:Te) (m:Int),parts t m<m->((subs t).length:Int)<=parts t m
 |.mk k n ls ks,m,h=>by
  rw[parts]at h ⊢;rw[subs,List.length_cons];have:=subss_parts ks m 1 h;omega
theorem subss_parts:∀(ks:List Te) (m n:Int),partsL ks m n<m->n+((subss ks).length:Int)<=partsL ks m n
 |[],m,n,h=>by rw[partsL,subss];simp
 |x::r,m,n,h=>by
  rw[partsL]at h ⊢;have hn:n<m:=by
   rcases Int.lt_or_le n m with h1|h1
   ·exact h1
   ·rw[if_neg (by omega)]at h
    have:=zob r m n;omega
  rw[if_pos hn]at h ⊢;have h1:=zob r m (n+parts x (m - n));have h2:=subs_parts x (m - n) (by omega)
  have h3:=subss_parts r m (n+parts x (m - n)) h;rw[subss,List.length_append];omega
end
theorem zo5{t:Te}{v p m:Int}(h:zc0 t v p m=true):(subs t).length<=1073741824:=by
 have:parts t 601<=600:=by unfold zc0 at h;simp at h;exact h.1.2
 have:=subs_parts t 601 (by omega)
 omega
theorem yh0(xs:List (List AV))(hlen:xs.length<=140737488355328)(hsz:∀e∈xs,e.length=6)(f:AV)(p:List AV->Bool)(H:List AO)(hf:∀e∈xs,cfl T f [.agg e] H=some (.ret (.bool (p e)),H)):
  F zby [.sl xs,f] H=some (.ret (.bool (xs.any p)),H):=by
 have loop:∀(suf pre:List (List AV)),xs=pre++suf->∃r:Int,zck H H (.sl xs) f (.int .i64 xs.length) (.int .i64 pre.length)=some (.ret (.int .i64 r),H)/\decide (0<=r)=suf.any p:=by
  intro suf
  induction suf with
  |nil=>
   intro pre e;subst e;refine⟨-1,?_,rfl⟩;rw[zck,zab];simp only[↓reduceIte,go_sem]
  |cons x suf ih=>
   intro pre e;subst e;obtain⟨r,h1,h2⟩:=ih (pre++[x]) (by simp)
   simp only[zah]at h1;have hx:=hsz x (by simp)
   have hfx:=hf x (by simp)
   simp at hlen
   cases hp:p x with
   |true=>
    refine⟨pre.length,?_,by simp[hp]⟩
    rw[zck,zab];simp only[↓reduceIte,go_sem,hx,zmi hx,hfx,hp]
   |false=>
    refine⟨r,?_,by simp[hp,h2]⟩
    rw[zck,zab];simp only[↓reduceIte,go_sem,hx,zmi hx,hfx,hp,zad (n:=pre.length) (by omega),h1]
 obtain⟨r,h1,h2⟩:=loop xs [] rfl;simp only[List.length_nil,Int.natCast_zero]at h1;rw[zlz];have:F zdt [.sl xs,f] H=some (.ret (.int .i64 r),H):=by
  rw[zny];simp only[↓reduceIte,go_sem,h1]
 simp only[↓reduceIte,go_sem,this,h2]
theorem yhz(xs:List Int)(hlen:xs.length<=140737488355328)(f:AV)(p:Int->Bool)(H:List AO)(hf:∀e∈xs,cfl T f [.int .i64 e] H=some (.ret (.bool (p e)),H)):
  F zcs [.sl (zbe xs),f] H=some (.ret (.bool (xs.any p)),H):=by
 have loop:∀(suf pre:List Int),xs=pre++suf->∃r:Int,zcj H H (.sl (zbe xs)) f (.int .i64 xs.length) (.int .i64 pre.length)=some (.ret (.int .i64 r),H)/\decide (0<=r)=suf.any p:=by
  intro suf
  induction suf with
  |nil=>
   intro pre e;subst e;refine⟨-1,?_,rfl⟩;rw[zcj,zab];simp only[↓reduceIte,go_sem]
  |cons x suf ih=>
   intro pre e;subst e;obtain⟨r,h1,h2⟩:=ih (pre++[x]) (by simp)
   simp only[zah]at h1;have hfx:=hf x (by simp)
   simp at hlen
   cases hp:p x with
   |true=>
    refine⟨pre.length,?_,by simp[hp]⟩
    rw[zcj,zab];simp only[↓reduceIte,go_sem,hfx,hp]
   |false=>
    refine⟨r,?_,by simp[hp,h2]⟩
    rw[zcj,zab];simp only[↓reduceIte,go_sem,hfx,hp,zad (n:=pre.length) (by omega),h1]
 obtain⟨r,h1,h2⟩:=loop xs [] rfl;simp only[List.length_nil,Int.natCast_zero]at h1;rw[zly];have:F zds [.sl (zbe xs),f] H=some (.ret (.int .i64 r),H):=by
  rw[znx];simp only[↓reduceIte,go_sem,h1]
 simp only[↓reduceIte,go_sem,this,h2]
def zwq(p:Int)(c:Co):Bool:=zax c.a p 0 && zax c.b p 0
def zf1(l:List Co)(p:Int):Bool:=decide (0<=p) && decide (p<=5) && decide (l.length<=8) && l.all (zwq p)
def yja(t:Te)(p a:Int):Bool:=zc0 t 0 p 0 && (zf0 t).all fun n=>decide (n<a)
def z4y(d:De)(a:Int):Bool:=zf1 d.cons d.p && yja d.type d.p a && (if d.has=true then yja d.value d.p a else teEq d.value zeroT)
def zov:List De->Int->Bool
 |[],_=>true
 |d::r,a=>z4y d a && zov r (a+1)
def zg5(env:List De):Bool:=zov env 0 && decide (env.length<=20)
theorem yi9(t:Te)(ht:t.ok)(p a:Int)(H:List AO):F zj7 [.agg t.cs,.int .i64 p,.int .i64 a] H=some (.ret (.bool (yja t p a)),H):=by
 have h1:=fun H=>zkd t ht 0 p 0 H
 rw[z10,yja];by_cases h:zc0 t 0 p 0=true
 ·have h2:=fun H=>yeg t ht (zo5 h) H
  have hl:=zks (zm0 (subs t)) [];have hl2:=zox (subs t);have hl3:=zo5 h;have h3:=yhz (zf0 t) (by unfold zf0;simp at hl;omega) (.fn (.func zgx) [] [.ptr H.length 0]) (fun n=>decide (a<=n)) (H++[.box [.int .i64 a]]) (fun n hn=>by
   simp only[zgh,List.cons_append,List.nil_append];show F zgx _ _=_;rw[zwa];simp only[↓reduceIte,go_sem])
  have e:(!(zf0 t).any fun n=>decide (a<=n))=(zf0 t).all fun n=>decide (n<a):=by
   rw[List.not_any_eq_all_not];congr 1;funext n;rw[Bool.eq_iff_iff];simp
  simp only[↓reduceIte,go_sem,h1,h,h2,h3,e]
 ·simp only[Bool.not_eq_true]at h
  simp only[↓reduceIte,go_sem,h1,h]
theorem zxh(t:Te)(ht:t.ok)(hs:(subs t).length<=1073741824)(a:Int)(H:List AO):F zh9 [.agg t.cs,.int .i64 a] H=some (.ret (.bool ((zf0 t).all fun n=>decide (n<a))),H):=by
 have h2:=fun H=>z5e t ht hs H
 have hl:=zks (zm0 (subs t)) [];have hl2:=zox (subs t);have hlen:(zf0 t).length<=1073741824:=by unfold zf0;simp at hl;omega
 have loop:∀(suf pre:List Int),zf0 t=pre++suf->zhm H H (.int .i64 a) (.sl (zbe (zf0 t))) (.int .i64 pre.length)=some (.ret (.bool (suf.all fun n=>decide (n<a))),H):=by
  generalize zf0 t=xs at hlen;intro suf
  induction suf with
  |nil=>
   intro pre e;subst e;rw[zhm,zab];simp only[↓reduceIte,go_sem,List.all_nil]
  |cons x suf ih=>
   intro pre e;subst e;simp at hlen;have:=ih (pre++[x]) (by simp)
   simp only[zah]at this;rw[zhm,zab,List.all_cons];by_cases h:x<a
   ·simp only[↓reduceIte,go_sem,show ¬ a<=x by omega,h,zad (n:=pre.length) (by omega),this,Bool.true_and]
   ·simp only[↓reduceIte,go_sem,show a<=x by omega,h,Bool.false_and]
 have:=loop (zf0 t) [] rfl;simp only[List.length_nil,Int.natCast_zero]at this
 cases t with
 |mk k n ls ks=>
 simp only[Te.cs]at h2;rw[zy3];simp only[↓reduceIte,go_sem,Te.cs,h2,this]
theorem ydd(l:List Co)(hlen:l.length<=140737488355328)(hl:∀c∈l,c.ok)(p:Int)(H:List AO):F zkq [.sl (Co.css l),.int .i64 p] H=some (.ret (.bool (zf1 l p)),H):=by
 have loop:∀(suf pre:List Co),l=pre++suf->zhs H H (.sl (Co.css l)) (.int .i64 p) (.int .i64 pre.length)=some (.ret (.bool (suf.all (zwq p) && (decide (0<=p) && decide (p<=5) && decide (l.length<=8)))),H):=by
  intro suf
  induction suf with
  |nil=>
   intro pre e;rw[List.append_nil]at e;subst e;rw[zhs,zab];simp only[↓reduceIte,go_sem,List.all_nil]
   repeat' split
   all_goals (simp_all <;> try omega)
  |cons x suf ih=>
   intro pre e;have:=ih (pre++[x]) (by rw[e];simp)
   simp only[zah]at this;have hg:l[pre.length]?=some x:=by rw[e];simp
   have hp:(pre.length:Int)<(l.length:Int):=by rw[e];simp;omega
   obtain⟨ha,hb⟩:=hl x (by rw[e];simp)
   rw[zhs,zab,List.all_cons];have r1:=fun H=>ziq x.a ha p 0 H
   have r2:=fun H=>ziq x.b hb p 0 H
   unfold zwq at this ⊢
   cases h1:zax x.a p 0 <;> cases h2:zax x.b p 0 <;> simp only[h1,h2]at r1 r2 <;>
    simp only[↓reduceIte,go_sem,hp,hg,r1,r2,zad (n:=pre.length) (by omega),this,Bool.true_and,Bool.false_and]
 have:=loop l [] rfl;simp only[List.length_nil,Int.natCast_zero]at this;rw[zzc,zf1];simp only[↓reduceIte,go_sem,this]
 grind
theorem yh2(ks:List Co)(hlen:ks.length<=140737488355328)(f:AV)(p:Co->Bool)(H:List AO)(hf:∀x∈ks,cfl T f [.agg x.cs] H=some (.ret (.bool (p x)),H)):
  F zby [.sl (Co.css ks),f] H=some (.ret (.bool (ks.any p)),H):=by
 let q:List AV->Bool:=fun e=>match cfl T f [.agg e] H with
  |some (.ret (.bool b),_)=>b
  |_=>false
 have hq:∀x∈ks,q x.cs=p x:=fun x hx=>by simp only[q,hf x hx]
 have:=yh0 (Co.css ks) (by rw[yde];exact hlen) (fun e he=>by obtain⟨x,_,rfl⟩:=List.mem_map.1 he;exact z6s x) f q H (fun e he=>by
  obtain⟨x,hx,rfl⟩:=List.mem_map.1 he;rw[hf x hx,hq x hx])
 rw[this,Co.css,List.any_map]
 congr 4
 have:∀l:List Co,(∀x∈l,q x.cs=p x)->l.any (q ∘ Co.cs)=l.any p:=by
  intro l
  induction l with
  |nil=>intro _;rfl
  |cons a l ih=>intro h;simp[h a (by simp),ih fun x hx=>h x (by simp[hx])]
 exact this ks hq
theorem zty(l:List Co)(hlen:l.length<=140737488355328)(hl:∀c∈l,c.ok)(p:Int)(H:List AO):F zgn [.sl (Co.css l),.int .i64 p] H=some (.ret (.bool (zf1 l p)),H):=by
 have h3:=yh2 l hlen (.fn (.func zf2) [] [.ptr H.length 0]) (fun c=>!zwq p c) (H++[.box [.int .i64 p]]) (fun x hx=>by
  obtain⟨ha,hb⟩:=hl x hx;have r1:=fun H=>zgi x.a ha p 0 H
  have r2:=fun H=>zgi x.b hb p 0 H
  simp only[zgh,List.cons_append,List.nil_append];show F zf2 _ _=_;rw[zva];unfold zwq;rcases x with⟨⟨k,n,ks⟩,⟨k2,n2,ks2⟩⟩;simp only[Co.a,Co.b,Lv.cs]at r1 r2
  cases h1:zax (.mk k n ks) p 0 <;> cases h2:zax (.mk k2 n2 ks2) p 0 <;> simp only[h1,h2]at r1 r2 <;>
   simp only[↓reduceIte,go_sem,Co.cs,Co.a,Co.b,Lv.cs,r1,r2,h1,h2,Bool.and_self,Bool.and_false,Bool.false_and,Bool.and_true])
 rw[<- List.not_all_eq_any_not]at h3;rw[zyv,zf1];simp only[↓reduceIte,go_sem,h3]
 cases h:l.all (zwq p)
 all_goals (simp[h];try grind)
theorem yc5(d:De)(hd:d.ok)(a:Int)(H:List AO):F zmc [.agg d.cs,.int .i64 a] H=some (.ret (.bool (z4y d a)),H):=by
 rcases d with⟨p,cons,t,has,v⟩;obtain⟨h1,h2,h3,h4⟩:=hd;simp only[De.cons,De.type,De.value]at h1 h2 h3 h4;have r1:=fun H=>ydd cons h1 h2 p H
 have r2:=fun H=>znm t h3 0 p 0 H
 have r3:=fun (h:zc0 t 0 p 0=true) H=>zxh t h3 (zo5 h) a H
 have r4:=fun H=>znm v h4 0 p 0 H
 have r5:=fun (h:zc0 v 0 p 0=true) H=>zxh v h4 (zo5 h) a H
 have r6:=fun H=>z98 v h4 zeroT H
 rw[z1r,z4y];simp only[De.cons,De.type,De.value,De.p,De.has,yja];rcases t with⟨k,n,ls,ks⟩;rcases v with⟨k2,n2,ls2,ks2⟩;simp only[Te.cs,zeroT,Lv.css,Te.css]at r6;simp only[Te.cs]at r2 r3 r4 r5
 cases e1:zf1 cons p
 ·simp only[↓reduceIte,go_sem,De.cs,De.cons,De.type,De.value,De.p,De.has,Te.cs,List.cons_append,List.nil_append,r1,e1,Bool.false_and]
 cases e2:zc0 (.mk k n ls ks) 0 p 0
 ·simp only[↓reduceIte,go_sem,De.cs,De.cons,De.type,De.value,De.p,De.has,Te.cs,List.cons_append,List.nil_append,r1,r2,e1,e2,Bool.false_and,Bool.and_false]
 have r3:=r3 e2
 cases e3:(zf0 (.mk k n ls ks)).all fun n=>decide (n<a)
 ·simp only[↓reduceIte,go_sem,De.cs,De.cons,De.type,De.value,De.p,De.has,Te.cs,List.cons_append,List.nil_append,r1,r2,r3,e1,e2,e3,Bool.false_and,Bool.and_false]
 cases has
 ·simp only[↓reduceIte,go_sem,De.cs,De.cons,De.type,De.value,De.p,De.has,Te.cs,List.cons_append,List.nil_append,r1,r2,r3,e1,e2,e3,r6,zeroT,Bool.false_and,Bool.and_false,Bool.true_and,Bool.and_true,Bool.false_eq_true]
 cases e4:zc0 (.mk k2 n2 ls2 ks2) 0 p 0
 ·simp only[↓reduceIte,go_sem,De.cs,De.cons,De.type,De.value,De.p,De.has,Te.cs,List.cons_append,List.nil_append,r1,r2,r3,r4,e1,e2,e3,e4,Bool.false_and,Bool.and_false,Bool.true_and,Bool.and_true]
 have r5:=r5 e4;simp only[↓reduceIte,go_sem,De.cs,De.cons,De.type,De.value,De.p,De.has,Te.cs,List.cons_append,List.nil_append,r1,r2,r3,r4,r5,e1,e2,e3,e4,Bool.false_and,Bool.and_false,Bool.true_and,Bool.and_true]
def zta(env:List De):Prop:=env.length<=140737488355328/\∀d∈env,d.ok
theorem zxm(env:List De)(he:zta env)(H:List AO):F zko [.sl (De.css env)] H=some (.ret (.bool (zg5 env)),H):=by
 obtain⟨hlen,hd⟩:=he;have loop:∀(suf pre:List De),env=pre++suf->zhn H H (.sl (De.css env)) (.int .i64 pre.length)=some (.ret (.bool (zov suf pre.length && decide (env.length<=20))),H):=by
  intro suf
  induction suf with
  |nil=>
   intro pre e;rw[List.append_nil]at e;subst e;rw[zhn,zab,zov];simp only[↓reduceIte,go_sem,Bool.true_and]
   congr 4
   rw[Bool.eq_iff_iff];simp;omega
  |cons x suf ih=>
   intro pre e;have:=ih (pre++[x]) (by rw[e];simp)
   simp only[zah]at this;have hg:env[pre.length]?=some x:=by rw[e];simp
   have hp:(pre.length:Int)<(env.length:Int):=by rw[e];simp;omega
   have hr:=fun H=>yc5 x (hd x (by rw[e];simp)) pre.length H
   rw[zhn,zab,zov]
   cases h1:z4y x pre.length <;> simp only[h1]at hr <;>
    simp only[↓reduceIte,go_sem,hp,hg,hr,zad (n:=pre.length) (by omega),this,Bool.true_and,Bool.false_and]
 have:=loop env [] rfl;simp only[List.length_nil,Int.natCast_zero]at this;rw[zy4,zg5];simp only[↓reduceIte,go_sem,this]
theorem z85(env:List De)(he:zta env)(H:List AO):F zi6 [.sl (De.css env)] H=some (.ret (.bool (zg5 env)),H):=by
 obtain⟨hlen,hd⟩:=he;have loop:∀(suf pre:List De),env=pre++suf->zgk H H (.sl (De.css env)) (.sl (De.css env)) (.int .i64 env.length) (.int .i64 pre.length)=some (.ret (.bool (zov suf pre.length && decide (env.length<=20))),H):=by
  intro suf
  induction suf with
  |nil=>
   intro pre e;rw[List.append_nil]at e;subst e;rw[zgk,zab,zov];simp only[↓reduceIte,go_sem,Bool.true_and]
   congr 4
   rw[Bool.eq_iff_iff];simp;omega
  |cons x suf ih=>
   intro pre e;have:=ih (pre++[x]) (by rw[e];simp)
   simp only[zah]at this;have hg:env[pre.length]?=some x:=by rw[e];simp
   have hp:(pre.length:Int)<(env.length:Int):=by rw[e];simp;omega
   obtain⟨q1,q2,q3,q4⟩:=hd x (by rw[e];simp)
   have r1:=fun H=>zty x.cons q1 q2 x.p H
   have r2:=fun H=>yi9 x.type q3 x.p pre.length H
   have r3:=fun H=>yi9 x.value q4 x.p pre.length H
   have r4:=fun H=>z97 x.value q4 zeroT H
   simp only[zeroT,Te.cs,Lv.css,Te.css]at r4;rw[zgk,zab,zov,z4y]
   cases e1:zf1 x.cons x.p <;> cases e2:yja x.type x.p pre.length <;> cases e0:x.has <;> cases e3:yja x.value x.p pre.length <;> cases e4:teEq x.value (.mk 0 0 [] []) <;> simp only[e1,e2,e3,e4]at r1 r2 r3 r4 <;>
    simp only[↓reduceIte,go_sem,hp,hg,r1,r2,r3,r4,e0,zeroT,e1,e2,e3,e4,zad (n:=pre.length) (by omega),this,Bool.true_and,Bool.false_and,Bool.and_false,Bool.and_true,Bool.false_eq_true]
 have:=loop env [] rfl;simp only[List.length_nil,Int.natCast_zero]at this;rw[zwb,zg5];simp only[↓reduceIte,go_sem,this]
end Go.Ab
end
section
set_option linter.unusedVariables false
set_option linter.unusedSimpArgs false
set_option maxRecDepth 100000
set_option maxHeartbeats 2000000
namespace Go.Ab
open Go.RowKit Go.Proofs
def bls(z:List Bool):List (List AV):=z.map fun b=>[.bool b]
@[go_sem] theorem z45(z:List Bool):(bls z).length=z.length:=by simp[bls]
@[go_sem] theorem bls_get(z:List Bool)(i:Nat):(bls z)[i]?=z[i]?.map fun b=>[.bool b]:=by simp[bls]
theorem bls_lt(n:Nat)(z:List Bool):∀a∈(bls z).flatten,Lt n a:=by
 intro a ha;obtain⟨e,he,h2⟩:=List.mem_flatten.1 ha;obtain⟨b,_,rfl⟩:=List.mem_map.1 he;simp at h2;subst h2;exact .bool b
structure Fl where
 c:Int
 o:List Int
def Fl.cs(f:Fl):List AV:=[.int .i64 f.c,.sl (zbe f.o)]
@[go_sem] theorem flcs_len(f:Fl):f.cs.length=2:=rfl
@[go_sem] theorem flcs_rd(f:Fl):rd 2 true f.cs=some (.v (.agg f.cs)):=rfl
@[go_sem] theorem flcs_rd0(f:Fl):rd 1 false f.cs=some (.v (.int .i64 f.c)):=rfl
@[go_sem] theorem flcs_rd1(f:Fl):rd 1 false (List.drop 1 f.cs)=some (.v (.sl (zbe f.o))):=rfl
@[go_sem] theorem flcs_one(f:Fl):f.cs.all AV.one=true:=rfl
@[go_sem] theorem flcs_over(x y:AV)(f:Fl):over [x,y] 0 f.cs=f.cs:=rfl
def zr2(p:Nat):Fl:=⟨0,List.replicate p (-1)⟩
def z2s(a b:Fl):Fl:=⟨max a.c b.c,List.zipWith max a.o b.o⟩
def zr1(f:Fl):Bool:=decide (f.c=0) && f.o.all fun n=>decide (n<0)
def z3g(f:Fl):Fl:=⟨f.c+1,f.o.map fun n=>if 0<=n then n+1 else n⟩
def z2n(z:List Bool)(k n:Int):List Fl->Fl
 |[]=>if k=5 then (if z[n.toNat]?=some false then ⟨0,(List.replicate z.length (-1)).set n.toNat 0⟩ else zr2 z.length) else zr2 z.length
 |[a]=>if k=2 then z3g a else zr2 z.length
 |a::b::_=>if k=3 then z2s a b else if k=4 then (if zr1 b then b else z2s a b) else zr2 z.length
mutual
def rawF(z:List Bool):Lv->Fl
 |.mk k n ks=>z2n z k n (rawFs z ks)
def rawFs(z:List Bool):List Lv->List Fl
 |[]=>[]
 |x::r=>rawF z x::rawFs z r
end
structure Fl.good (p:Nat) (d:Int) (f:Fl):Prop where
 len:f.o.length=p
 c0:0<=f.c
 cd:f.c<=d
 o0:∀n∈f.o,-1<=n
 od:∀n∈f.o,n<=d
theorem z9q{a b:List Int}{n:Int}(h:n∈List.zipWith max a b):∃x∈a,∃y∈b,n=max x y:=by
 induction a generalizing b with
 |nil=>simp at h
 |cons x a ih=>
  cases b with
  |nil=>simp at h
  |cons y b=>
   simp at h;rcases h with rfl|h
   ·exact⟨x,by simp,y,by simp,rfl⟩
   ·obtain⟨u,hu,v,hv,e⟩:=ih h;exact⟨u,by simp[hu],v,by simp[hv],e⟩
theorem ych(p:Nat){d:Int}(h:0<=d):(zr2 p).good p d :=
 ⟨by simp[zr2],by simp[zr2],by simpa [zr2] using h,fun n hn=>by simp[zr2]at hn;omega,fun n hn=>by simp[zr2]at hn;omega⟩
theorem z1g{p:Nat}{d:Int}{a b:Fl}(ha:a.good p d)(hb:b.good p d):(z2s a b).good p d :=
 ⟨by simp[z2s,ha.len,hb.len],by have:=ha.c0;simp[z2s];omega,by have:=ha.cd;have:=hb.cd;simp[z2s];omega,
  fun n hn=>by obtain⟨x,hx,y,hy,rfl⟩:=z9q hn;have:=ha.o0 x hx;omega,fun n hn=>by obtain⟨x,hx,y,hy,rfl⟩:=z9q hn;have:=ha.od x hx;have:=hb.od y hy;omega⟩
theorem ycg{p:Nat}{d:Int}{a:Fl}(ha:a.good p d):(z3g a).good p (d+1) :=
 ⟨by simp[z3g,ha.len],by have:=ha.c0;simp[z3g];omega,by have:=ha.cd;simp[z3g];omega,
  fun n hn=>by simp[z3g]at hn;obtain⟨x,hx,rfl⟩:=hn;have:=ha.o0 x hx;split <;> omega,fun n hn=>by simp[z3g]at hn;obtain⟨x,hx,rfl⟩:=hn;have:=ha.od x hx;split <;> omega⟩
theorem Fl.good.up{p:Nat}{d e:Int}{a:Fl}(ha:a.good p d)(h:d<=e):a.good p e :=
 ⟨ha.len,ha.c0,by have:=ha.cd;omega,ha.o0,fun n hn=>by have:=ha.od n hn;omega⟩
theorem znd(z:List Bool)(l:Lv):∀d,rightB z.length 0 l d=true->(rawF z l).good z.length d:=by
 induction l using Lv.ind with
 |h k n ks ih=>
 intro d h;rw[rightB]at h
 split at h
 ·cases h
 split at h
 ·cases h
 rename_i hd hk;have hk:(ks.length:Int)=zgf k:=by simpa using hk
 have hz:∀e:Int,0<=e->(zr2 z.length).good z.length e:=fun e he=>ych _ he
 rw[rawF];unfold zgf at hk
 match ks,hk,ih,h with
 |[],hk,ih,h=>
  rw[rawFs,z2n]
  split
  ·split
   ·refine⟨by simp,by simp,by simp;omega,fun n hn=>?_,fun n hn=>?_⟩
    ·rcases List.mem_or_eq_of_mem_set hn with hn|rfl
     ·simp at hn;omega
     ·omega
    ·rcases List.mem_or_eq_of_mem_set hn with hn|rfl
     ·simp at hn;omega
     ·omega
   ·exact hz d (by omega)
  ·exact hz d (by omega)
 |[a],hk,ih,h=>
  rw[rawFs,rawFs,z2n];have k2:k=2:=by simp at hk;grind
  subst k2;simp[rightsB]at h;have:=ycg (ih a (by simp) (d - 1) h.1)
  simp;exact this.up (by omega)
 |a::b::r,hk,ih,h=>
  rw[rawFs,rawFs,z2n];have h2:¬ k=5/\¬ k=6:=by
   constructor <;> (rintro rfl;simp at hk;omega)
  rw[if_neg h2.1,if_neg h2.2]at h;simp[rightsB]at h;have ha:=(ih a (by simp) (d - 1) h.1.1).up (show d - 1<=d by omega)
  have hb:=(ih b (by simp) (d - 1) h.1.2.1).up (show d - 1<=d by omega)
  split
  ·exact z1g ha hb
  ·split
   ·split
    ·exact hb
    ·exact z1g ha hb
   ·exact hz d (by omega)
end Go.Ab
end
section
set_option linter.unusedVariables false
set_option linter.unusedSimpArgs false
set_option maxRecDepth 100000
set_option maxHeartbeats 2000000
namespace Go.Ab
open Go.RowKit Go.Proofs
structure At where
 v:Int
 o:Int
structure Cl where
 f:List At
 t:At
def At.cs(a:At):List AV:=[.int .i64 a.v,.int .i64 a.o]
def At.css(l:List At):List (List AV):=l.map At.cs
def Cl.cs(c:Cl):List AV:=[.sl (At.css c.f),.int .i64 c.t.v,.int .i64 c.t.o]
def Cl.css(l:List Cl):List (List AV):=l.map Cl.cs
@[go_sem] theorem atcss_len(l:List At):(At.css l).length=l.length:=by simp[At.css]
@[go_sem] theorem atcss_get(l:List At)(i:Nat):(At.css l)[i]?=l[i]?.map At.cs:=by simp[At.css]
@[go_sem] theorem clcss_len(l:List Cl):(Cl.css l).length=l.length:=by simp[Cl.css]
@[go_sem] theorem clcss_get(l:List Cl)(i:Nat):(Cl.css l)[i]?=l[i]?.map Cl.cs:=by simp[Cl.css]
theorem z6y(n:Nat)(l:List At):∀a∈(At.css l).flatten,Lt n a:=by
 intro a ha;obtain⟨e,he,h2⟩:=List.mem_flatten.1 ha;obtain⟨x,_,rfl⟩:=List.mem_map.1 he;simp[At.cs]at h2;rcases h2 with rfl|rfl <;> exact .int _ _
theorem clcs_lt(n:Nat)(c:Cl):∀a∈c.cs,Lt n a:=by
 intro a ha;simp[Cl.cs]at ha;rcases ha with rfl|rfl|rfl
 ·exact .sl (z6y n _)
 ·exact .int _ _
 ·exact .int _ _
theorem zzv(n:Nat)(l:List Cl):∀a∈(Cl.css l).flatten,Lt n a:=by
 intro a ha;obtain⟨e,he,h2⟩:=List.mem_flatten.1 ha;obtain⟨x,_,rfl⟩:=List.mem_map.1 he;exact clcs_lt n x a h2
@[go_sem] theorem lt_atcss(n:Nat)(l:List At):(∀a∈(At.css l).flatten,Lt n a)=True:=eq_true (z6y n l)
@[go_sem] theorem lt_clcss(n:Nat)(l:List Cl):(∀a∈(Cl.css l).flatten,Lt n a)=True:=eq_true (zzv n l)
@[go_sem] theorem atcs_len(a:At):a.cs.length=2:=rfl
@[go_sem] theorem atcs_rd(a:At):rd 2 true a.cs=some (.v (.agg a.cs)):=rfl
@[go_sem] theorem atcs_rd0(a:At):rd 1 false a.cs=some (.v (.int .i64 a.v)):=rfl
@[go_sem] theorem atcs_rd1(a:At):rd 1 false (List.drop 1 a.cs)=some (.v (.int .i64 a.o)):=rfl
@[go_sem] theorem atcs_one(a:At):a.cs.all AV.one=true:=rfl
@[go_sem] theorem atcs_over(x y:AV)(a:At):over [x,y] 0 a.cs=a.cs:=rfl
@[go_sem] theorem atcs_frz(n:Nat)(f:At)(h:List AO):zv1 n f.cs h=(f.cs,h):=by simp[At.cs,zv1,z6h]
theorem atcs_lt(n:Nat)(f:At):∀a∈f.cs,Lt n a:=by
 intro a ha;simp[At.cs]at ha;rcases ha with rfl|rfl <;> exact .int _ _
@[go_sem] theorem lt_atcs(n:Nat)(f:At):(∀a∈f.cs,Lt n a)=True:=eq_true (atcs_lt n f)
@[go_sem] theorem clcs_len(c:Cl):c.cs.length=3:=rfl
@[go_sem] theorem clcs_rd(c:Cl):rd 3 true c.cs=some (.v (.agg c.cs)):=rfl
@[go_sem] theorem clcs_rd0(c:Cl):rd 1 false c.cs=some (.v (.sl (At.css c.f))):=rfl
@[go_sem] theorem clcs_rd1(c:Cl):rd 2 true (List.drop 1 c.cs)=some (.v (.agg c.t.cs)):=rfl
@[go_sem] theorem clcs_rd1a(c:Cl):rd 1 false (List.drop 1 c.cs)=some (.v (.int .i64 c.t.v)):=rfl
@[go_sem] theorem clcs_rd2(c:Cl):rd 1 false (List.drop 2 c.cs)=some (.v (.int .i64 c.t.o)):=rfl
@[go_sem] theorem clcs_rd11(c:Cl):rd 1 false (List.drop 1 (List.drop 1 c.cs))=some (.v (.int .i64 c.t.o)):=rfl
@[go_sem] theorem clcs_one(c:Cl):c.cs.all AV.one=true:=rfl
@[go_sem] theorem clcs_over(x y z:AV)(c:Cl):over [x,y,z] 0 c.cs=c.cs:=rfl
def atB(vars:Int)(a:At):Bool:=decide (0<=a.v) && decide (a.v<vars) && decide (0<=a.o) && decide (a.o<=1000)
def clB(vars:Int)(c:Cl):Bool:=decide (1<=c.f.length) && decide (c.f.length<=6) && c.f.all (atB vars) && atB vars c.t
def znu(vars:Int)(l:List Cl):Bool:=decide (1<=vars) && decide (vars<=16) && decide (l.length<=60) && l.all (clB vars)
def gI(m:List Int)(i:Int):Int:=m.getD i.toNat 0
def z7y:List Int->Int
 |[]=>0
 |[x]=>x
 |x::y::r=>min x (z7y (y::r))
def z0e(c:Cl)(m:List Int):Int:=z7y (c.f.map fun a=>gI m a.v - a.o)+c.t.o
def zlb(m:List Int)(c:Cl):List Int:=m.set c.t.v.toNat (max (gI m c.t.v) (z0e c m))
def za8(l:List Cl)(m:List Int):List Int:=l.foldl zlb m
def zya(l:List Cl):Int:=l.foldl (fun n c=>c.f.foldl (fun n a=>max n (c.t.o - a.o)) n) 0
def zli(vars:Int)(l:List Cl):Int:=(vars - 1)*zya l
inductive RunS (l:List Cl) (most:Int):List Int->Option (List Int)->Nat->Prop
 |over {m:List Int} (h:∃x∈za8 l m,most<x):RunS l most m none 1
 |fix {m:List Int} (h:za8 l m=m) (hb:∀x∈m,x<=most):RunS l most m (some m) 1
 |more {m:List Int} {r:Option (List Int)} {k:Nat} (h:za8 l m≠m) (hb:∀x∈za8 l m,x<=most) (hr:RunS l most (za8 l m) r k):RunS l most m r (k+1)
theorem zqm(m:List Int)(c:Cl):(zlb m c).length=m.length:=by simp[zlb]
theorem zl9(l:List Cl)(m:List Int):(za8 l m).length=m.length:=by
 unfold za8
 induction l generalizing m with
 |nil=>rfl
 |cons c l ih=>rw[List.foldl_cons,ih,zqm]
def LeM(a b:List Int):Prop:=a.length=b.length/\∀i,a.getD i 0<=b.getD i 0
theorem LeM.refl(a:List Int):LeM a a:=⟨rfl,fun _=>Int.le_refl _⟩
theorem LeM.trans{a b c:List Int}(h:LeM a b)(k:LeM b c):LeM a c:=⟨h.1.trans k.1,fun i=>Int.le_trans (h.2 i) (k.2 i)⟩
theorem z5n(m:List Int)(i j:Nat)(x:Int):(m.set i x).getD j 0=if i=j/\i<m.length then x else m.getD j 0:=by
 simp only[List.getD,List.getElem?_set];by_cases h:i=j
 ·subst h
  by_cases hl:i<m.length
  ·simp[hl]
  ·simp[hl]
 ·simp[h]
theorem z5k(m:List Int)(c:Cl):LeM m (zlb m c):=by
 refine⟨(zqm m c).symm,fun i=>?_⟩
 unfold zlb;rw[z5n]
 split
 ·rename_i h;rw[<- h.1];unfold gI;omega
 ·exact Int.le_refl _
theorem zqs(l:List Cl):∀m,LeM m (za8 l m):=by
 unfold za8
 induction l with
 |nil=>exact LeM.refl
 |cons c l ih=>exact fun m=>(z5k m c).trans (ih _)
theorem leM_eq{a b:List Int}(h:LeM a b)(k:LeM b a):a=b:=by
 apply List.ext_getElem h.1;intro i h1 h2;have e1:=h.2 i;have e2:=k.2 i;simp[List.getD,h1,h2]at e1 e2;omega
def z0o(m:List Int):Int:=m.foldr (· + ·) 0
theorem yir:∀{a b:List Int},LeM a b->z0o a<=z0o b
 |[],[],_=>Int.le_refl _
 |[],_::_,h=>by have:=h.1;simp at this
 |_::_,[],h=>by have:=h.1;simp at this
 |x::a,y::b,h=>by
  have h0:=h.2 0;have:=yir (a:=a) (b:=b) ⟨by simpa using h.1,fun i=>by simpa using h.2 (i+1)⟩
  simp at h0;simp only[z0o,List.foldr_cons]at *;omega
theorem z90:∀{a b:List Int},LeM a b->z0o b<=z0o a->a=b
 |[],[],_,_=>rfl
 |[],_::_,h,_=>by have:=h.1;simp at this
 |_::_,[],h,_=>by have:=h.1;simp at this
 |x::a,y::b,h,k=>by
  have h0:=h.2 0;have h1:LeM a b:=⟨by simpa using h.1,fun i=>by simpa using h.2 (i+1)⟩
  have:=yir h1;simp at h0;simp only[z0o,List.foldr_cons]at *;have e:x=y:=by omega
  rw[e,z90 h1 (by simp only[z0o];omega)]
theorem z0n{B:Int}:∀{m:List Int},(∀x∈m,x<=B)->z0o m<=m.length*B
 |[],_=>by simp[z0o]
 |x::m,h=>by
  have:=z0n (m:=m) fun y hy=>h y (by simp[hy])
  have h0:=h x (by simp)
  simp only[z0o,List.foldr_cons,List.length_cons]at *;rw[Int.natCast_add,Int.add_mul];omega
theorem yac(l:List Cl)(most:Int):∀(d:Nat) (m:List Int),(m.length:Int)*most - z0o m<=d->(∀x∈m,x<=most)->∃r k,RunS l most m r k/\k<=d+1:=by
 intro d
 induction d with
 |zero=>
  intro m hd hb;by_cases h:za8 l m=m
  ·exact⟨_,_,.fix h hb,by omega⟩
  ·by_cases ho:∃x∈za8 l m,most<x
   ·exact⟨_,_,.over ho,by omega⟩
   ·exfalso
    have hb2:∀x∈za8 l m,x<=most:=fun x hx=>Int.not_lt.1 fun hlt=>ho ⟨x,hx,hlt⟩
    have h1:=z0n hb2;rw[zl9]at h1;exact h (z90 (zqs l m) (by omega)).symm
 |succ d ih=>
  intro m hd hb;by_cases h:za8 l m=m
  ·exact⟨_,_,.fix h hb,by omega⟩
  ·by_cases ho:∃x∈za8 l m,most<x
   ·exact⟨_,_,.over ho,by omega⟩
   ·have hb2:∀x∈za8 l m,x<=most:=fun x hx=>Int.not_lt.1 fun hlt=>ho ⟨x,hx,hlt⟩
    have hs:z0o m<z0o (za8 l m):=by
     rcases Int.lt_or_le (z0o m) (z0o (za8 l m)) with h1|h1
     ·exact h1
     ·exact absurd (z90 (zqs l m) h1).symm h
    obtain⟨r,k,h1,h2⟩:=ih (za8 l m) (by rw[zl9];omega) hb2
    exact⟨r,k+1,.more h hb2 h1,by omega⟩
theorem RunS.det{l:List Cl}{most:Int}{m:List Int}{r r':Option (List Int)}{k k':Nat}(h:RunS l most m r k):RunS l most m r' k' -> r=r' /\ k=k':=by
 induction h generalizing r' k' with
 |over h=>
  intro h2
  cases h2 with
  |over=>exact⟨rfl,rfl⟩
  |fix h3 hb=>obtain⟨x,hx,hlt⟩:=h;rw[h3]at hx;have:=hb x hx;omega
  |more h3 hb _=>obtain⟨x,hx,hlt⟩:=h;have:=hb x hx;omega
 |fix h hb=>
  intro h2
  cases h2 with
  |over h3=>obtain⟨x,hx,hlt⟩:=h3;rw[h]at hx;have:=hb x hx;omega
  |fix=>exact⟨rfl,rfl⟩
  |more h3 _ _=>exact absurd h h3
 |more h hb hr ih=>
  intro h2
  cases h2 with
  |over h3=>obtain⟨x,hx,hlt⟩:=h3;have:=hb x hx;omega
  |fix h3 _=>exact absurd h3 h
  |more _ _ hr2=>obtain⟨rfl,rfl⟩:=ih hr2;exact⟨rfl,rfl⟩
theorem RunS.model{l:List Cl}{most:Int}{m r:List Int}{k:Nat}{o:Option (List Int)}(h:RunS l most m o k):o=some r->za8 l r=r/\(∀x∈r,x<=most)/\r.length=m.length:=by
 induction h with
 |over h=>intro e;cases e
 |fix h hb=>intro e;cases e;exact⟨h,hb,rfl⟩
 |more h hb hr ih=>intro e;obtain⟨h1,h2,h3⟩:=ih e;exact⟨h1,h2,by rw[h3,zl9]⟩
theorem RunS.le{l:List Cl}{most:Int}{m r:List Int}{k:Nat}{o:Option (List Int)}(h:RunS l most m o k):o=some r->LeM m r:=by
 induction h with
 |over h=>intro e;cases e
 |fix h hb=>intro e;cases e;exact LeM.refl _
 |more h hb hr ih=>intro e;exact (zqs l _).trans (ih e)
end Go.Ab
end
section
set_option linter.unusedVariables false
set_option linter.unusedSimpArgs false
set_option maxRecDepth 100000
set_option maxHeartbeats 2000000
namespace Go.Ab
open Go.RowKit Go.Proofs
def nrmF(c:Int)(l:List Int):Int:=if (l.any fun n=>decide (0<=n) && decide (c<=n+1))=true then 0 else c
def normF(f:Fl):Fl:=⟨nrmF f.c f.o,f.o⟩
theorem nrmF_le{c:Int}(hc:0<=c)(l:List Int):0<=nrmF c l/\nrmF c l<=c:=by unfold nrmF;split <;> omega
theorem zx1{l:Lv}{p:Nat}{m:Int}(h:zax l p m=true):p<=5/\rightB p m l 12=true:=by
 simp only[zax,Bool.and_eq_true,decide_eq_true_eq]at h;exact⟨by omega,h.2⟩
def yev:Fl:=⟨0,[]⟩
def zcx(l:Lv)(z:List Bool):Fl:=if zax l z.length 0=true then normF (rawF z l) else yev
def FlatE(l:Lv)(z:List Bool):Int:=if zax l z.length 0=true then 0 else 1
theorem ycn(l:Lv)(z:List Bool)(h:zax l z.length 0=true):(zcx l z).o.length=z.length:=by
 rw[zcx,if_pos h];exact (znd z l 12 (zx1 h).2).len
theorem zsb(l:Lv)(z:List Bool):0<=(zcx l z).c/\(zcx l z).c<=12/\(zcx l z).o.length<=5/\∀n∈(zcx l z).o,-1<=n/\n<=12:=by
 rw[zcx]
 split
 ·rename_i h
  have hz:=zx1 h;have hg:=znd z l 12 hz.2;have hn:=nrmF_le hg.c0 (rawF z l).o;exact⟨hn.1,Int.le_trans hn.2 hg.cd,by show (rawF z l).o.length<=5;rw[hg.len];exact hz.1,fun n hn=>⟨hg.o0 n hn,hg.od n hn⟩⟩
 ·simp[yev]
def zfn:Nat->Nat->List Bool
 |_,0=>[]
 |n,p+1=>decide (n % 2=1)::zfn (n / 2) p
theorem zhj(n p:Nat):(zfn n p).length=p:=by
 induction p generalizing n with
 |zero=>rfl
 |succ p ih=>rw[zfn,List.length_cons,ih]
def zhk:List Int->Int->List At
 |[],_=>[]
 |n::r,i=>if 0<=n then ⟨i,n⟩::zhk r (i+1) else zhk r (i+1)
def zbv(f:Fl):List At:=⟨0,f.c⟩::zhk f.o 1
theorem zvu(l:List Int)(x:Int):∀i:Int,zhk (l++[x]) i=zhk l i++if 0<=x then [⟨i+l.length,x⟩] else []:=by
 induction l with
 |nil=>intro i;simp[zhk]
 |cons n l ih=>
  intro i;rw[List.cons_append,zhk,zhk,ih (i+1)];have:i+1+(l.length:Int)=i+((n::l).length:Int):=by simp;omega
  rw[this]
  split <;> simp
theorem zxj(l:List Int):∀i:Int,(zhk l i).length<=l.length:=by
 induction l with
 |nil=>intro i;simp[zhk]
 |cons n l ih=>intro i;rw[zhk];have:=ih (i+1);split <;> simp <;> omega
theorem z8w(l:List At)(x:At):At.css l++[x.cs]=At.css (l++[x]):=by simp[At.css]
end Go.Ab
end
section
set_option linter.unusedVariables false
set_option linter.unusedSimpArgs false
set_option maxRecDepth 100000
set_option maxHeartbeats 2000000
namespace Go.Ab
open Go.RowKit Go.Proofs
structure Cl.ok (vars:Nat) (c:Cl):Prop where
 ne:1<=c.f.length
 len:c.f.length<=6
 at_:∀a∈c.f,0<=a.v/\a.v<vars/\0<=a.o/\a.o<=1000
 to:0<=c.t.v/\c.t.v<vars/\0<=c.t.o/\c.t.o<=1000
theorem z47{vars:Int}{a:At}:atB vars a=true ↔ 0<=a.v/\a.v<vars/\0<=a.o/\a.o<=1000:=by
 simp[atB,and_assoc]
theorem zke{vars:Nat}{l:List Cl}:znu vars l=true ↔ 1<=vars/\vars<=16/\l.length<=60/\∀c∈l,c.ok vars:=by
 simp only[znu,Bool.and_eq_true,decide_eq_true_eq,List.all_eq_true,clB,z47];constructor
 ·rintro ⟨⟨⟨h1,h2⟩,h3⟩,h4⟩
  exact⟨by omega,by omega,h3,fun c hc=>⟨(h4 c hc).1.1.1,(h4 c hc).1.1.2,(h4 c hc).1.2,(h4 c hc).2⟩⟩
 ·rintro ⟨h1,h2,h3,h4⟩
  exact⟨⟨⟨by omega,by omega⟩,h3⟩,fun c hc=>⟨⟨⟨(h4 c hc).ne,(h4 c hc).len⟩,(h4 c hc).at_⟩,(h4 c hc).to⟩⟩
def okM(vars:Nat)(m:List Int):Prop:=m.length=vars/\∀x∈m,-1000000000000<=x/\x<=1000000000000
theorem okM.get{vars:Nat}{m:List Int}(h:okM vars m){v:Int}(h0:0<=v)(h1:v<vars):m[v.toNat]?=some (gI m v) /\ -1000000000000<=gI m v/\gI m v<=1000000000000:=by
 have hl:v.toNat<m.length:=by rw[h.1];omega
 have e:m[v.toNat]?=some (gI m v):=by simp[gI,List.getD,hl]
 exact⟨e,h.2 _ (List.mem_of_getElem? e)⟩
theorem z02(n:Int):∀l:List Int,l≠[]->z7y (l++[n])=min (z7y l) n
 |[],h=>absurd rfl h
 |[x],_=>rfl
 |x::y::r,_=>by
  have:=z02 n (y::r) (by simp)
  simp only[List.cons_append,z7y]at this ⊢;rw[this];omega
theorem zyb:∀{l:List Int},l≠[]->z7y l∈l
 |[],h=>absurd rfl h
 |[x],_=>by simp[z7y]
 |x::y::r,_=>by
  have:=zyb (l:=y::r) (by simp)
  rw[z7y];rcases Int.le_total x (z7y (y::r)) with h|h
  ·rw[Int.min_eq_left h];simp
  ·rw[Int.min_eq_right h];exact List.mem_cons_of_mem _ this
theorem asks_bd{vars:Nat}{m:List Int}(hm:okM vars m){c:Cl}(hc:c.ok vars):-1000000001000<=z0e c m/\z0e c m<=1000000001000:=by
 have hne:c.f.map (fun a=>gI m a.v - a.o)≠[]:=by have:=hc.ne;intro h;simp at h;simp[h]at this
 obtain⟨a,ha,e⟩:=List.mem_map.1 (zyb hne);have h1:=hc.at_ a ha;have h2:=hc.to;have h3:=(hm.get h1.1 h1.2.1).2;rw[z0e,<- e];omega
theorem okM.lt{vars:Nat}{m:List Int}(h:okM vars m){v:Int}(h0:0<=v)(h1:v<vars):v.toNat<m.length:=by rw[h.1];omega
def zod(c:Cl)(n:Int)(l:List At):Int:=l.foldl (fun n a=>max n (c.t.o - a.o)) n
theorem zut{vars:Nat}{c:Cl}(hc:c.ok vars):∀(l:List At),(∀a∈l,a∈c.f)->∀{n:Int},0<=n/\n<=1000->0<=zod c n l/\zod c n l<=1000
 |[],_,_,hn=>hn
 |a::l,hl,n,hn=>by
  have h1:=hc.at_ a (hl a (by simp))
  have h2:=hc.to;exact zut hc l (fun b hb=>hl b (by simp[hb])) (n:=max n (c.t.o - a.o)) (by omega)
theorem zx9{vars:Nat}:∀(l:List Cl),(∀c∈l,c.ok vars)->∀{n:Int},0<=n/\n<=1000->0<=l.foldl (fun n c=>zod c n c.f) n/\l.foldl (fun n c=>zod c n c.f) n<=1000
 |[],_,_,hn=>hn
 |c::l,hl,n,hn=>zx9 l (fun d hd=>hl d (by simp[hd])) (zut (hl c (by simp)) c.f (fun _ h=>h) hn)
theorem zx8(l:List Cl):zya l=l.foldl (fun n c=>zod c n c.f) 0:=rfl
end Go.Ab
end
section
set_option linter.unusedVariables false
set_option linter.unusedSimpArgs false
set_option maxRecDepth 100000
set_option maxHeartbeats 2000000
namespace Go.Ab
open Go.RowKit Go.Proofs
theorem z7g{m:List Int}{c:Cl}(h:gI m c.t.v<z0e c m)(hl:c.t.v.toNat<m.length):zlb m c=m.set c.t.v.toNat (z0e c m)/\zlb m c≠m:=by
 have e:zlb m c=m.set c.t.v.toNat (z0e c m):=by unfold zlb;rw[Int.max_eq_right (by omega)]
 refine⟨e,fun h2=>?_⟩
 have h3:(m.set c.t.v.toNat (z0e c m)).getD c.t.v.toNat 0=z0e c m:=by rw[z5n,if_pos ⟨rfl,hl⟩]
 rw[<- e,h2]at h3;unfold gI at h;omega
def bdM(vars:Nat)(B:Int)(m:List Int):Prop:=m.length=vars/\∀x∈m,0<=x/\x<=B
theorem bdM.ok{vars:Nat}{B:Int}{m:List Int}(h:bdM vars B m)(hB:B<=1000000000000):okM vars m :=
 ⟨h.1,fun x hx=>by have:=h.2 x hx;omega⟩
theorem bdM.get{vars:Nat}{B:Int}{m:List Int}(h:bdM vars B m){v:Int}(h0:0<=v)(h1:v<vars):0<=gI m v/\gI m v<=B:=by
 have hl:v.toNat<m.length:=by rw[h.1];omega
 have e:m[v.toNat]?=some (gI m v):=by simp[gI,List.getD,hl]
 exact h.2 _ (List.mem_of_getElem? e)
theorem asks_le{vars:Nat}{B:Int}{m:List Int}(hm:bdM vars B m){c:Cl}(hc:c.ok vars):z0e c m<=B+1000:=by
 have hne:c.f.map (fun a=>gI m a.v - a.o)≠[]:=by have:=hc.ne;intro h;simp at h;simp[h]at this
 obtain⟨a,ha,e⟩:=List.mem_map.1 (zyb hne);have h1:=hc.at_ a ha;have h2:=hc.to;have h3:=hm.get h1.1 h1.2.1;rw[z0e,<- e];omega
theorem bdM.step{vars:Nat}{B:Int}{m:List Int}(hm:bdM vars B m){c:Cl}(hc:c.ok vars)(hB:0<=B):bdM vars (B+1000) (zlb m c):=by
 refine⟨by rw[zqm];exact hm.1,fun x hx=>?_⟩
 have ha:=asks_le hm hc;have hg:=hm.get hc.to.1 hc.to.2.1;rcases List.mem_or_eq_of_mem_set hx with hx|rfl
 ·have:=hm.2 x hx;omega
 ·omega
theorem bdM.round{vars:Nat}:∀(l:List Cl) {B:Int} {m:List Int},bdM vars B m->(∀c∈l,c.ok vars)->0<=B->bdM vars (B+1000*l.length) (za8 l m)
 |[],B,m,hm,_,_=>by simpa [za8] using hm
 |c::l,B,m,hm,hl,hB=>by
  have:=bdM.round l (hm.step (hl c (by simp)) hB) (fun d hd=>hl d (by simp[hd])) (by omega)
  have e:B+1000+1000*(l.length:Int)=B+1000*((c::l).length:Int):=by simp;omega
  rw[e]at this;exact this
def yeq(r:Option (List Int)):List (List AV):=match r with|some m=>zbe m|none=>[]
theorem zq4(n:Nat)(z:List Int):∀a∈(zbe z).flatten,Lt n a:=by
 intro a ha;obtain⟨e,he,h2⟩:=List.mem_flatten.1 ha;obtain⟨b,_,rfl⟩:=List.mem_map.1 he;simp at h2;subst h2;exact .int _ _
@[go_sem] theorem lt_modL(n:Nat)(r:Option (List Int)):(∀a∈(yeq r).flatten,Lt n a)=True:=eq_true (by
 cases r with
 |none=>intro a ha;simp[yeq]at ha
 |some m=>exact zq4 n m)
theorem zuy(vars:Nat)(l:List Cl)(h:znu vars l=true):0<=zli vars l/\zli vars l<=15000:=by
 have hr:=zke.1 h;have hb:=zx9 l hr.2.2.2 (n:=0) (by omega)
 rw[<- zx8]at hb;have h1:0<=((vars:Int) - 1)*zya l:=Int.mul_nonneg (by omega) hb.1
 have h2:((vars:Int) - 1)*zya l<=15*1000:=Int.mul_le_mul (by omega) hb.2 hb.1 (by omega)
 unfold zli;omega
theorem run0(vars:Nat)(l:List Cl)(h:znu vars l=true):∃r k,RunS l (zli vars l) (List.replicate vars 0) r k/\k<=300001:=by
 have hr:=zke.1 h;have hb:=zuy vars l h;have hs:∀n,z0o (List.replicate n 0)=0:=by
  intro n
  induction n with
  |zero=>rfl
  |succ n ih=>simp only[z0o,List.replicate_succ,List.foldr_cons]at *;omega
 have hmul:(vars:Int)*zli vars l<=16*15000:=Int.mul_le_mul (by omega) hb.2 hb.1 (by omega)
 obtain⟨r,k,h1,h2⟩:=yac l (zli vars l) 300000 (List.replicate vars 0) (by rw[hs,List.length_replicate];omega) (fun x hx=>by simp at hx;omega)
 exact⟨r,k,h1,by omega⟩
end Go.Ab
end
section
set_option linter.unusedVariables false
set_option linter.unusedSimpArgs false
set_option maxRecDepth 100000
set_option maxHeartbeats 2000000
namespace Go.Ab
open Go.RowKit Go.Proofs
def z9i:List Bool->Int->List Cl
 |[],_=>[]
 |b::r,i=>if b then z9i r (i+1) else ⟨[⟨i,0⟩],⟨0,1⟩⟩::z9i r (i+1)
def conC(z:List Bool)(c:Co):List Cl:=(zbv (zcx c.a z)).map fun t=>⟨zbv (zcx c.b z),t⟩
def zd8(cons:List Co)(z:List Bool):List Cl:=z9i z 1++cons.flatMap (conC z)
theorem zxe(l:List Cl)(x:Cl):Cl.css l++[x.cs]=Cl.css (l++[x]):=by simp[Cl.css]
theorem yfz(l:List Bool):∀i:Int,(z9i l i).length<=l.length:=by
 induction l with
 |nil=>intro i;simp[z9i]
 |cons n l ih=>intro i;rw[z9i];have:=ih (i+1);split <;> simp <;> omega
theorem zkc(l:Lv)(z:List Bool):(zbv (zcx l z)).length<=6:=by
 have:=zxj (zcx l z).o 1;have:=(zsb l z).2.2.1;rw[zbv,List.length_cons];omega
theorem z6q(z:List Bool):∀l:List Co,(l.flatMap (conC z)).length<=6*l.length
 |[]=>by simp
 |c::l=>by
  have:=z6q z l;have:=zkc c.a z;simp only[List.flatMap_cons,List.length_append,conC,List.length_map,List.length_cons];omega
def ztf(a:At)(b:List At):List Cl:=b.map fun y=>⟨[a],⟨y.v,y.o+1⟩⟩
theorem z7x(a:At)(b:List At)(y:At):ztf a (b++[y])=ztf a b++[⟨[a],⟨y.v,y.o+1⟩⟩]:=by simp[ztf]
theorem zsn(t:At):∀(l:List Int) (i:Int),t∈zhk l i->i<=t.v/\t.v<i+l.length/\0<=t.o/\t.o∈l
 |[],i,h=>by simp[zhk]at h
 |n::l,i,h=>by
  rw[zhk]at h;have ih:=zsn t l (i+1);simp only[List.length_cons,Int.natCast_add,Int.natCast_one,List.mem_cons]
  split at h
  ·rcases List.mem_cons.1 h with rfl|h
   ·exact⟨Int.le_refl _,by simp only[];omega,by assumption,.inl rfl⟩
   ·have:=ih h;exact⟨by omega,by omega,this.2.2.1,.inr this.2.2.2⟩
  ·have:=ih h;exact⟨by omega,by omega,this.2.2.1,.inr this.2.2.2⟩
theorem zsv(l:Lv)(z:List Bool):(zcx l z).o.length<=z.length:=by
 by_cases h:zax l z.length 0=true
 ·rw[ycn l z h];omega
 ·rw[zcx,if_neg h];simp[yev]
theorem zoy(l:Lv)(z:List Bool):∀t∈zbv (zcx l z),0<=t.v/\t.v<((z.length+1:Nat):Int)/\0<=t.o/\t.o<=12:=by
 intro t ht;have hg:=zsb l z;have hl:=zsv l z;rw[zbv]at ht;rcases List.mem_cons.1 ht with rfl|ht
 ·exact⟨by simp,by simp only[];omega,hg.1,hg.2.1⟩
 ·have:=zsn t _ _ ht
  have h2:=hg.2.2.2 _ this.2.2.2;omega
theorem z5y(c:Cl):∀(z:List Bool) (i:Int),c∈z9i z i->∃j,i<=j/\j<i+z.length/\c=⟨[⟨j,0⟩],⟨0,1⟩⟩
 |[],i,h=>by simp[z9i]at h
 |b::z,i,h=>by
  rw[z9i]at h;have ih:=z5y c z (i+1);simp only[List.length_cons,Int.natCast_add,Int.natCast_one]
  split at h
  ·obtain⟨j,h1,h2,h3⟩:=ih h;exact⟨j,by omega,by omega,h3⟩
  ·rcases List.mem_cons.1 h with rfl|h
   ·exact⟨i,by omega,by omega,rfl⟩
   ·obtain⟨j,h1,h2,h3⟩:=ih h;exact⟨j,by omega,by omega,h3⟩
theorem z41(cons:List Co)(z:List Bool):∀c∈zd8 cons z,c.ok (z.length+1):=by
 intro c hc;rcases List.mem_append.1 hc with hc|hc
 ·obtain⟨j,h1,h2,rfl⟩:=z5y c z 1 hc
  exact⟨by simp,by simp,fun a ha=>by simp at ha;subst ha;simp only[];omega,by simp only[];omega⟩
 ·obtain⟨d,hd,hc⟩:=List.mem_flatMap.1 hc
  obtain⟨t,ht,rfl⟩:=List.mem_map.1 hc;have ht:=zoy d.a z t ht;exact⟨by simp[zbv],zkc d.b z,fun a ha=>by have:=zoy d.b z a ha;omega,by simp only[];omega⟩
theorem yf9(a:At)(b:List At)(vars:Nat)(ha:0<=a.v/\a.v<vars/\0<=a.o/\a.o<=12)(hb:∀t∈b,0<=t.v/\t.v<vars/\0<=t.o/\t.o<=12):∀c∈ztf a b,c.ok vars:=by
 intro c hc;obtain⟨y,hy,rfl⟩:=List.mem_map.1 hc;have:=hb y hy;exact⟨by simp,by simp,fun t ht=>by simp at ht;subst ht;omega,by simp only[];omega⟩
def zv5(cons:List Co)(z:List Bool)(b:Lv)(x:At):List Cl:=zd8 cons z++ztf x (zbv (zcx b z))
theorem zs2(cons:List Co)(z:List Bool):(zd8 cons z).length<=z.length+6*cons.length:=by
 have:=yfz z 1;have:=z6q z cons;rw[zd8,List.length_append];omega
theorem z3x(cons:List Co)(hcl:cons.length<=8)(z:List Bool)(hz:z.length<=5)(a b:Lv)(x:At)(hx:x∈zbv (zcx a z)):znu ((z.length+1:Nat):Int) (zv5 cons z b x)=true:=by
 have h1:=zs2 cons z;have h2:=zkc b z;refine zke.2 ⟨by omega,by omega,by simp only[zv5,List.length_append,ztf,List.length_map];omega,fun c hc=>?_⟩
 rcases List.mem_append.1 hc with hc|hc
 ·exact z41 cons z c hc
 ·exact yf9 x _ _ (zoy a z x hx) (zoy b z) c hc
def ztm(vars:Nat)(l:List Cl):Prop:=∃m k,RunS l (zli vars l) (List.replicate vars 0) (some m) k
theorem run_okM{vars:Nat}{l:List Cl}(h:znu vars l=true){m:List Int}{k:Nat}(hr:RunS l (zli vars l) (List.replicate vars 0) (some m) k):okM vars m:=by
 have h1:=hr.model rfl;have h2:=hr.le rfl;have hb:=zuy vars l h;refine⟨by simpa using h1.2.2,fun x hx=>?_⟩
 obtain⟨i,hi⟩:=List.mem_iff_getElem?.1 hx;have h3:=h2.2 i;have h4:=h1.2.1 x hx;have h5:(List.replicate vars (0:Int)).getD i 0=0:=by
  simp only[List.getD,List.getElem?_replicate];split <;> rfl
 rw[h5]at h3;simp only[List.getD,hi,Option.getD_some]at h3;omega
def zzy(cons:List Co)(a b:Lv)(z:List Bool):Prop:=∃x∈zbv (zcx a z),ztm (z.length+1) (zv5 cons z b x)
def LeqS(cons:List Co)(p:Nat)(a b:Lv):Prop:=∀n<2 ^ p,¬ zzy cons a b (zfn n p)
noncomputable def z6a(cons:List Co)(p:Nat)(a b:Lv):Bool:=@decide (LeqS cons p a b) (Classical.propDecidable _)
theorem pow5:∀p:Nat,p<=5->2 ^ p<=32:=fun p hp=>Nat.pow_le_pow_right (by omega) hp
theorem zq3{cons:List Co}{p:Nat}{a b:Lv}:z6a cons p a b=true ↔ LeqS cons p a b:=by
 unfold z6a;exact @decide_eq_true_iff _ (Classical.propDecidable _)
end Go.Ab
end
section
set_option linter.unusedVariables false
set_option linter.unusedSimpArgs false
set_option maxRecDepth 100000
set_option maxHeartbeats 2000000
namespace Go.Ab
open Go.RowKit Go.Proofs
theorem yie(p:Nat)(hp:p<=5)(H:List AO):F zfv [.int .u64 1,.int .u64 p] H=some (.ret (.tup [.int .u64 0,.int .u64 p]),H):=by
 rw[zsi]
 match p,hp with
 |0,_=>simp only[↓reduceIte,go_sem];rfl
 |1,_=>simp only[↓reduceIte,go_sem];rfl
 |2,_=>simp only[↓reduceIte,go_sem];rfl
 |3,_=>simp only[↓reduceIte,go_sem];rfl
 |4,_=>simp only[↓reduceIte,go_sem];rfl
 |5,_=>simp only[↓reduceIte,go_sem];rfl
theorem Mul_ok(p:Nat)(hp:p<=5)(H:List AO):F zf5 [.int .u64 1,.int .u64 p] H=some (.ret (.tup [.int .u64 0,.int .u64 p]),H):=by
 have hM:=fun H=>yie p hp H
 rw[zvd];simp only[↓reduceIte,go_sem,hM]
theorem z0j(p:Nat)(hp:p<=1000):IntKind.wrap .u64 (p:Int)=p:=by
 simp only[IntKind.wrap,IntKind.bits,IntKind.signed]
 first|omega|(split <;> omega)|(simp;omega)
theorem z7o(p:Nat)(hp:p<=5)(H:List AO):FK zcd [.sl [[.int .i64 (-1)]],.int .i64 p] H=some (.ret (.ol H.length 0),H++[.lst 0 1 (zbe (List.replicate p (-1)))]):=by
 have hM:=fun H=>Mul_ok p hp H
 have hw1:IntKind.wrap .u64 1=1:=rfl;rw[zpo];simp only[↓reduceIte,go_sem,show ¬ (p:Int)<0 by omega,z0j p (by omega),hw1,hM,List.length_cons,List.length_nil,show ¬ 9223372036854775807<(p:Int) by omega,zap (n:=(p:Int)) (by omega) (by omega),show (p:Int)<=1073741824 by omega,show (0:Int)<=p by omega]
 have m10:((min 1 0:Nat):Int)=0:=rfl;have m11:((min 1 1:Nat):Int)=1:=rfl;have m12:((min 1 2:Nat):Int)=1:=rfl;have m13:((min 1 3:Nat):Int)=1:=rfl;have m14:((min 1 4:Nat):Int)=1:=rfl;have m15:((min 1 5:Nat):Int)=1:=rfl;have t2:Int.toNat 2=2:=rfl;have t4:Int.toNat 4=4:=rfl;have s31:2<=3:=by omega
 have s32:3 - 2=1:=rfl;have s33:3 - 2=1:=rfl;have s42:4 - 2=2:=rfl;have s51:5 - 1=4:=rfl;have s52:5 - 2=3:=rfl;have s54:5 - 4=1:=rfl
 match p,hp with
 |0,_=>
  simp only[↓reduceIte,go_sem,over,List.take,m10];rw[zag,zab];simp only[↓reduceIte,go_sem,over,List.take]
 |1,_=>
  simp only[↓reduceIte,go_sem,over,List.take,t2,t4,s31,s33,s42,s51,s52,s54,m11];rw[zag,zab];simp only[↓reduceIte,go_sem,over,List.take,t2,t4,s32,s42,s52,s54,s31];rfl
 |2,_=>
  simp only[↓reduceIte,go_sem,over,List.take,t2,t4,s31,s33,s42,s51,s52,s54,m12];rw[zag,zab];simp only[↓reduceIte,go_sem,over,List.take,t2,t4,s31,s33,s42,s51,s52,s54,show IntKind.wrap .i64 (1+((min 1 1:Nat):Int))=2 from rfl]
  rw[zag,zab];simp only[↓reduceIte,go_sem,over,List.take,t2,t4,s32,s42,s52,s54,s31];rfl
 |3,_=>
  simp only[↓reduceIte,go_sem,over,List.take,t2,t4,s31,s33,s42,s51,s52,s54,m13];rw[zag,zab];simp only[↓reduceIte,go_sem,over,List.take,t2,t4,s31,s33,s42,s51,s52,s54,show IntKind.wrap .i64 (1+((min 1 2:Nat):Int))=2 from rfl]
  rw[zag,zab];simp only[↓reduceIte,go_sem,over,List.take,t2,t4,s31,s33,s42,s51,s52,s54,show IntKind.wrap .i64 (2+((min 2 1:Nat):Int))=3 from rfl]
  rw[zag,zab];simp only[↓reduceIte,go_sem,over,List.take,t2,t4,s32,s42,s52,s54,s31];rfl
 |4,_=>
  simp only[↓reduceIte,go_sem,over,List.take,t2,t4,s31,s33,s42,s51,s52,s54,m14];rw[zag,zab];simp only[↓reduceIte,go_sem,over,List.take,t2,t4,s31,s33,s42,s51,s52,s54,show IntKind.wrap .i64 (1+((min 1 3:Nat):Int))=2 from rfl]
  rw[zag,zab];simp only[↓reduceIte,go_sem,over,List.take,t2,t4,s31,s33,s42,s51,s52,s54,show IntKind.wrap .i64 (2+((min 2 2:Nat):Int))=4 from rfl]
  rw[zag,zab];simp only[↓reduceIte,go_sem,over,List.take,t2,t4,s32,s42,s52,s54,s31];rfl
 |5,_=>
  simp only[↓reduceIte,go_sem,over,List.take,t2,t4,s31,s33,s42,s51,s52,s54,m15];rw[zag,zab];simp only[↓reduceIte,go_sem,over,List.take,t2,t4,s31,s33,s42,s51,s52,s54,show IntKind.wrap .i64 (1+((min 1 4:Nat):Int))=2 from rfl]
  rw[zag,zab];simp only[↓reduceIte,go_sem,over,List.take,t2,t4,s31,s33,s42,s51,s52,s54,show IntKind.wrap .i64 (2+((min 2 3:Nat):Int))=4 from rfl]
  rw[zag,zab];simp only[↓reduceIte,go_sem,over,List.take,t2,t4,s31,s33,s42,s51,s52,s54,show IntKind.wrap .i64 (4+((min 4 1:Nat):Int))=5 from rfl]
  rw[zag,zab];simp only[↓reduceIte,go_sem,over,List.take,t2,t4,s32,s42,s52,s54,s31];rfl
theorem yap(p:Nat)(hp:p<=5)(H:List AO):FK zg3 [.int .i64 0,.int .i64 p] H=some (.ret (.agg [.int .i64 0,.ol H.length 0]),H++[.lst 0 1 (zbe (List.replicate p (-1)))]):=by
 have hR:=fun H=>z7o p hp H
 rw[zzp];simp only[↓reduceIte,go_sem,hR]
theorem ygl(n ver:Nat)(o:List Int):LtO n (.lst ver 1 (zbe o)):=zq4 n o
def z3h(n:Int):Int:=if 0<=n then n+1 else n
theorem z7c(H:List AO)(id ver:Nat)(hid:id<H.length)(c:Int)(J:List AO)(v2:List AV)(o0:List Int)(h0:H[id]?=some (.lst ver 1 (zbe o0))):
  ∀(s p:List Int),o0=p++s->(∀n∈s,-1<=n/\n<=1000)->o0.length<=1000 ->
  zga H (H.set id (.lst ver 1 (zbe (p.map z3h++s)))++[.lst 0 1 []]) (.ol id ver) (.int .i64 o0.length) (.int .i64 p.length) [.int .i64 c,.ol id ver] [.int .i64 0,.ol H.length 0]=some (.ret (.agg [.int .i64 c,.ol id ver]),H.set id (.lst ver 1 (zbe (o0.map z3h)))):=by
 intro s
 induction s with
 |nil=>
  intro p h hb hl;rw[List.append_nil]at h;subst h;rw[zga,zab];simp only[↓reduceIte,go_sem,List.append_nil,show ¬ H.length<=id by omega]
  rw[zq7 (ygl _ _ _),if_pos (.agg (by intro a ha;simp at ha;rcases ha with rfl|rfl;exact .int _ _;exact .ol hid))]
 |cons x s ih=>
  intro p h hb hl;have h1:=ih (p++[x]) (by rw[h];simp) (fun n hn=>hb n (by simp[hn])) hl
  have hx:=hb x (by simp)
  have hp:p.length<o0.length:=by rw[h];simp
  have hset:id<(H.set id (.lst ver 1 (zbe (p.map z3h++x::s)))).length:=by simpa using hid
  have hget:(H.set id (.lst ver 1 (zbe (p.map z3h++x::s)))++[AO.lst 0 1 []])[id]?=some (.lst ver 1 (zbe (p.map z3h++x::s))):=by
   rw[List.getElem?_append_left hset];simp[hid]
  have hgx:(p.map z3h++x::s)[p.length]?=some x:=by simp
  simp only[List.map_append,List.map_cons,List.map_nil,List.append_assoc,List.cons_append,List.nil_append]at h1;simp only[zah]at h1;rw[zga,zab];simp only[↓reduceIte,go_sem,show (p.length:Int)<(o0.length:Int) by omega,hget,hgx,show p.length<(List.map z3h p++x::s).length by simp]
  by_cases hx0:x = -1
  ·subst hx0
   have e:z3h (-1) = -1:=rfl;rw[e]at h1;simp only[↓reduceIte,go_sem,zad (n:=p.length) (by omega),h1,not_true_eq_false]
  ·have e:z3h x=x+1:=if_pos (by omega)
   rw[e]at h1;have hss:∀B,(H.set id (.lst ver 1 (zbe (p.map z3h++x::s)))++[AO.lst 0 1 []]).set id B=H.set id B++[AO.lst 0 1 []]:=fun B=>by
    rw[List.set_append_left _ _ hset,List.set_set]
   have hs2:(zbe (List.map z3h p++x::s)).set p.length [.int .i64 (x+1)]=zbe (List.map z3h p++(x+1)::s):=by
    simp[zbe]
   simp only[↓reduceIte,go_sem,hx0,hget,hgx,zap (n:=x+1) (by omega) (by omega),zad (n:=p.length) (by omega),show p.length<(List.map z3h p++x::s).length by simp,hs2,hss]
   exact h1
theorem ye6(c:Int)(hc:-1<=c/\c<=1000)(o:List Int)(ho:∀n∈o,-1<=n/\n<=1000)(hl:o.length<=1000)(H:List AO)(id ver:Nat)(hid:id<H.length)(hH:H[id]?=some (.lst ver 1 (zbe o))):F zhi [.agg [.int .i64 c,.ol id ver]] H=some (.ret (.agg [.int .i64 (c+1),.ol id ver]),H.set id (.lst ver 1 (zbe (o.map z3h)))):=by
 have h1:=z7c H id ver hid (c+1) [] [] o hH o [] rfl ho hl;have hget:(H++[AO.lst 0 1 []])[id]?=some (.lst ver 1 (zbe o)):=by rw[List.getElem?_append_left hid,hH]
 have hset:H.set id (.lst ver 1 (zbe o))=H:=by
  apply List.ext_getElem?;intro i;rw[List.getElem?_set]
  split
  ·rename_i e;subst e;rw[hH]
  ·rfl
 simp only[List.map_nil,List.nil_append,hset,List.length_nil,Int.natCast_zero]at h1;rw[zqe];simp only[↓reduceIte,go_sem,hget,zap (n:=c+1) (by omega) (by omega)]
 exact h1
theorem ye5(c:Int)(hc:-1<=c/\c<=1000)(H:List AO):F zhi [.agg [.int .i64 c,.ze]] H=some (.ret (.agg [.int .i64 (c+1),.sl []]),H):=by
 rw[zqe];simp only[↓reduceIte,go_sem,zap (n:=c+1) (by omega) (by omega)]
 rw[zga,zab];simp only[↓reduceIte,go_sem]
theorem z91(c:Int)(hc:-1<=c/\c<=1000)(H:List AO):F zhi [.agg [.int .i64 c,.sl []]] H=some (.ret (.agg [.int .i64 (c+1),.sl []]),H):=by
 rw[zqe];simp only[↓reduceIte,go_sem,zap (n:=c+1) (by omega) (by omega)]
 rw[zga,zab];simp only[↓reduceIte,go_sem]
def znq(l:List Int)(n:Int):Int:=l.foldl max n
theorem yd8(H:List AO)(id ver:Nat)(l:List Int)(hl:l.length<=1000)(hH:H[id]?=some (.lst ver 1 (zbe l))):∀(s p:List Int) (n:Int),l=p++s->zcw H H (.ol id ver) (.int .i64 n) (.int .i64 p.length)=some (.ret (.int .i64 (znq s n)),H):=by
 intro s
 induction s with
 |nil=>
  intro p n h;rw[List.append_nil]at h;subst h;rw[zcw,zab];simp only[↓reduceIte,go_sem,hH,znq,List.foldl_nil]
 |cons x s ih=>
  intro p n h;have h1:=ih (p++[x]) (max n x) (by rw[h];simp)
  have hga:l[p.length]?=some x:=by rw[h];simp
  have hp:p.length<l.length:=by rw[h];simp
  have hmax:(if x > n then x else n)=max n x:=by split <;> omega
  simp only[zah]at h1;rw[zcw,zab];simp only[↓reduceIte,go_sem,hH,hga,hp,show (p.length:Int)<(l.length:Int) by omega,hmax,zad (n:=p.length) (by omega),h1]
  simp only[znq,List.foldl_cons]
theorem yd7(H:List AO)(id ver:Nat)(x:Int)(l:List Int)(hl:(x::l).length<=1000)(hH:H[id]?=some (.lst ver 1 (zbe (x::l)))):F zek [.ol id ver] H=some (.ret (.int .i64 (znq l x)),H):=by
 have h1:=yd8 H id ver (x::l) hl hH l [x] x rfl;rw[zns];have h0:(x::l)[0]?=some x:=rfl;simp only[↓reduceIte,go_sem,hH,h0,List.length_cons,show ¬ ((l.length+1:Nat):Int)<1 by omega,show 0<l.length+1 by omega]
 exact h1
def OwnI(n:Nat)(h:List AO)(a:AV)(l:List Int):Prop:=((a = .ze\/a = .sl [])/\l=[])\/∃id ver,a = .ol id ver/\n<=id/\h[id]?=some (.lst ver 1 (zbe l))
theorem OwnI.app{n:Nat}{h:List AO}{a:AV}{l:List Int}(o:OwnI n h a l)(x:List AO):OwnI n (h++x) a l:=by
 rcases o with h0|⟨id,ver,h1,h2,h3⟩
 ·exact .inl h0
 ·exact .inr ⟨id,ver,h1,h2,by rw[List.getElem?_append_left (by have:=(List.getElem?_eq_some_iff.1 h3).1;omega)];exact h3⟩
theorem yd4(c:Int)(l:List Int)(hl:l.length<=900)(H:List AO)(a:AV)(n:Nat)(o:OwnI n H a l):F znh [.agg [.int .i64 c,a]] H=some (.ret (.int .i64 (znq l (-1))),H):=by
 rcases o with⟨ha,rfl⟩|⟨id,ver,rfl,hn,hH⟩
 ·have hM:=yd7 (H++[.lst 1 1 (zbe [-1])]) H.length 1 (-1) [] (by simp) (by simp)
  simp only[zbe,List.map_cons,List.map_nil]at hM;rcases ha with rfl|rfl
  ·rw[zsj]
   simp only[↓reduceIte,go_sem,hM]
  ·rw[zsj]
   simp only[↓reduceIte,go_sem,hM]
 ·have hid:=(List.getElem?_eq_some_iff.1 hH).1
  have hM:=yd7 (H++[.lst 1 1 (zbe (-1::l))]) H.length 1 (-1) l (by simp;omega) (by simp)
  have e:zbe (-1::l)=[.int .i64 (-1)]::zbe l:=rfl;simp only[e]at hM;have hg:∀x,(H++[x])[id]?=some (.lst ver 1 (zbe l)):=fun x=>by rw[List.getElem?_append_left hid,hH]
  have h1:(∀x:List AV,x∈zbe l->x.length=1)=True:=eq_true (by intro x hx;obtain⟨z,_,rfl⟩:=List.mem_map.1 hx;rfl)
  rw[zsj];simp only[↓reduceIte,go_sem,hH,hg,h1,show 1+l.length<=1073741824 by omega,hM]
end Go.Ab
end
section
set_option linter.unusedVariables false
set_option linter.unusedSimpArgs false
set_option maxRecDepth 100000
set_option maxHeartbeats 2000000
namespace Go.Ab
open Go.RowKit Go.Proofs
theorem OwnI.elems{n:Nat}{h:List AO}{a:AV}{l:List Int}(o:OwnI n h a l):zje h a=some (zbe l):=by
 rcases o with⟨rfl|rfl,rfl⟩|⟨id,ver,rfl,h2,h3⟩
 ·rfl
 ·rfl
 ·simp[zje,h3]
theorem zyn(l:List Int):∀e∈zbe l,e.length=1:=by intro e he;obtain⟨z,_,rfl⟩:=List.mem_map.1 he;rfl
theorem ydh{n:Nat}{h:List AO}{a:AV}{x:Int}{l:List Int}(hl:l.length<=1000)(o:OwnI n h a (x::l)):FK zav [a] h=some (.ret (.ol h.length 0),h++[.lst 0 1 (zbe (x::l))]):=by
 rw[zk3];unfold zs1;dsimp only;rw[o.elems];dsimp only;have e:zbe (x::l)=[.int .i64 x]::zbe l:=rfl;rw[if_pos ⟨by omega,by omega,by rw[zpb];simp;omega,zyn _⟩,e]
theorem z8o{n:Nat}{h:List AO}{a:AV}(o:OwnI n h a []):FK zav [a] h=some (.ret .ze,h):=by
 rw[zk3];unfold zs1;dsimp only;rw[o.elems];dsimp only;rw[if_pos ⟨by omega,by omega,by rw[zpb];simp,zyn _⟩]
 rfl
theorem zp9(c d:Int):(if d > c then d else c)=max c d:=by split <;> omega
theorem yb8{n:Nat}{h:List AO}{a b:AV}(c d:Int)(oa:OwnI n h a [])(ob:OwnI n h b []):FK zfy [.agg [.int .i64 c,a],.sl [[.int .i64 d,b]]] h=some (.ret (.agg [.int .i64 (max c d),.ze]),h):=by
 have hC:=z8o oa;have hw:IntKind.wrap .i64 (0+1)=1:=rfl;have hw1:IntKind.wrap .i64 1=1:=rfl;have key:zb9 h h (.sl [[.int .i64 d,b]]) (.int .i64 1) (.int .i64 0) [.int .i64 0,.sl []] [.int .i64 c,.ze]=some (.ret (.agg [.int .i64 (max c d),.ze]),h):=by
  rcases ob with⟨rfl|rfl,_⟩|⟨id2,ver2,rfl,g2,g3⟩
  ·rw[zb9,zab]
   simp only[↓reduceIte,go_sem,zp9];rw[zeo,zab];simp only[↓reduceIte,go_sem,hw,hw1];rw[zb9,zab];simp only[↓reduceIte,go_sem]
  ·rw[zb9,zab]
   simp only[↓reduceIte,go_sem,zp9];rw[zeo,zab];simp only[↓reduceIte,go_sem,hw,hw1];rw[zb9,zab];simp only[↓reduceIte,go_sem]
  ·rw[zb9,zab]
   simp only[↓reduceIte,go_sem,zp9,g3];rw[zeo,zab];simp only[↓reduceIte,go_sem,hw,hw1];rw[zb9,zab];simp only[↓reduceIte,go_sem]
 rw[zsz];rcases oa with⟨rfl|rfl,_⟩|⟨id,ver,rfl,h2,h3⟩
 ·simp only[↓reduceIte,go_sem,hC,key]
 ·simp only[↓reduceIte,go_sem,hC,key]
 ·simp only[↓reduceIte,go_sem,hC,key]
theorem ygj{h:List AO}(c d:Int)(L M:List Int)(hl:L.length<=900)(hm:M.length=L.length)(id ver:Nat)(g3:h[id]?=some (.lst ver 1 (zbe M))):∀(s t p q:List Int),L=p++s->M=q++t->p.length=q.length ->
  zeo h (h++[.lst 0 1 (zbe (List.zipWith max p q++s))]) (.sl [[.int .i64 d,.ol id ver]]) (.int .i64 1) (.int .i64 0) (.ol id ver) (.int .i64 M.length) (.int .i64 p.length) [.int .i64 0,.sl []] [.int .i64 c,.ol h.length 0] =
  zb9 h (h++[.lst 0 1 (zbe (List.zipWith max L M))]) (.sl [[.int .i64 d,.ol id ver]]) (.int .i64 1) (.int .i64 1) [.int .i64 0,.sl []] [.int .i64 c,.ol h.length 0]:=by
 have hid:=(List.getElem?_eq_some_iff.1 g3).1;have hw:IntKind.wrap .i64 (0+1)=1:=rfl;have hw1:IntKind.wrap .i64 1=1:=rfl;intro s
 induction s with
 |nil=>
  intro t p q h1 h2 h3;have:t=[]:=by
   rw[h1,h2]at hm;simp at hm;exact List.eq_nil_of_length_eq_zero (by omega)
  subst this;rw[List.append_nil]at h1 h2;subst h1 h2;rw[zeo,zab];simp only[↓reduceIte,go_sem,hw,hw1,List.append_nil,hm]
 |cons x s ih=>
  intro t p q h1 h2 h3
  cases t with
  |nil=>rw[h1,h2]at hm;simp at hm;omega
  |cons y t=>
  have ih:=ih t (p++[x]) (q++[y]) (by rw[h1];simp) (by rw[h2];simp) (by simp[h3])
  have hz:List.zipWith max (p++[x]) (q++[y])++s=List.zipWith max p q++max x y::s:=by rw[List.zipWith_append (h:=h3)];simp
  have hzl:(List.zipWith max p q).length=p.length:=by rw[List.length_zipWith];omega
  have hgy:M[p.length]?=some y:=by rw[h2,h3];simp
  have hgx:(List.zipWith max p q++x::s)[p.length]?=some x:=by rw[<- hzl];simp
  have hpl:p.length<M.length:=by rw[h2,h3];simp
  have hpz:p.length<(List.zipWith max p q++x::s).length:=by simp;omega
  have hg:∀z,(h++[z])[id]?=some (.lst ver 1 (zbe M)):=fun z=>by rw[List.getElem?_append_left hid,g3]
  have hs2:(zbe (List.zipWith max p q++x::s)).set p.length [.int .i64 (max x y)]=zbe (List.zipWith max p q++max x y::s):=by
   rw[<- hzl];simp[zbe]
  rw[hz]at ih;simp only[zah]at ih;rw[zeo,zab];simp only[↓reduceIte,go_sem,show (p.length:Int)<(M.length:Int) by omega,hgy,hgx,hpz,hpl,hg,zp9,hs2,zad (n:=p.length) (by omega),ih]
theorem ygi{n:Nat}{h:List AO}{a b:AV}(c d:Int)(x y:Int)(l m:List Int)(hl:l.length<=800)(hm:m.length=l.length)(oa:OwnI n h a (x::l))(ob:OwnI n h b (y::m)):FK zfy [.agg [.int .i64 c,a],.sl [[.int .i64 d,b]]] h=some (.ret (.agg [.int .i64 (max c d),.ol h.length 0]),h++[.lst 0 1 (zbe (List.zipWith max (x::l) (y::m)))]):=by
 have hC:=ydh (by omega) oa
 rcases oa with⟨_,h0⟩|⟨id,ver,rfl,h2,h3⟩
 ·cases h0
 rcases ob with⟨_,h0⟩|⟨id2,ver2,rfl,g2,g3⟩
 ·cases h0
 have hid:=(List.getElem?_eq_some_iff.1 g3).1;have hg:∀z,(h++[z])[id2]?=some (.lst ver2 1 (zbe (y::m))):=fun z=>by rw[List.getElem?_append_left hid,g3]
 have hin:=ygj (h:=h) (max c d) d (x::l) (y::m) (by simp;omega) (by simp[hm]) id2 ver2 g3 (x::l) (y::m) [] [] rfl rfl rfl
 simp only[List.length_nil,Int.natCast_zero,List.zipWith_nil_left,List.nil_append,List.length_cons]at hin;rw[zsz];simp only[↓reduceIte,go_sem,hC];rw[zb9,zab];simp only[↓reduceIte,go_sem,hg,zp9,hin];rw[zb9,zab];simp only[↓reduceIte,go_sem]
theorem OwnI.mono{n m:Nat}{h:List AO}{a:AV}{l:List Int}(o:OwnI n h a l)(hm:m<=n):OwnI m h a l:=by
 rcases o with h0|⟨id,ver,h1,h2,h3⟩
 ·exact .inl h0
 ·exact .inr ⟨id,ver,h1,by omega,h3⟩
theorem ye3{B X:List AO}{a:AV}{l:List Int}(c:Int)(hc:-1<=c/\c<=1000)(hb:∀n∈l,-1<=n/\n<=1000)(hl:l.length<=1000)(o:OwnI B.length (B++X) a l):∃X' a',F zhi [.agg [.int .i64 c,a]] (B++X)=some (.ret (.agg [.int .i64 (c+1),a']),B++X')/\OwnI B.length (B++X') a' (l.map z3h):=by
 rcases o with⟨rfl|rfl,rfl⟩|⟨id,ver,rfl,h2,h3⟩
 ·exact⟨X,_,ye5 c hc _,.inl ⟨.inr rfl,rfl⟩⟩
 ·exact⟨X,_,z91 c hc _,.inl ⟨.inr rfl,rfl⟩⟩
 ·have hid:=(List.getElem?_eq_some_iff.1 h3).1
  have h4:=ye6 c hc l hb hl (B++X) id ver hid h3;rw[List.set_append_right _ _ h2]at h4;refine⟨_,_,h4,.inr ⟨id,ver,rfl,h2,?_⟩⟩;rw[List.length_append]at hid;rw[List.getElem?_append_right h2,List.getElem?_set_self (by omega)]
theorem ygh{B X:List AO}{a b:AV}{l m:List Int}(c d:Int)(hl:l.length<=700)(hm:m.length=l.length)(oa:OwnI B.length (B++X) a l)(ob:OwnI B.length (B++X) b m):∃X' a',FK zfy [.agg [.int .i64 c,a],.sl [[.int .i64 d,b]]] (B++X)=some (.ret (.agg [.int .i64 (max c d),a']),B++X')/\OwnI B.length (B++X') a' (List.zipWith max l m):=by
 cases l with
 |nil=>
  obtain rfl:m=[]:=List.eq_nil_of_length_eq_zero hm;exact⟨X,_,yb8 c d oa ob,.inl ⟨.inl rfl,rfl⟩⟩
 |cons x l=>
  cases m with
  |nil=>simp at hm
  |cons y m=>
   have:=ygi c d x y l m (by simp at hl;omega) (by simpa using hm) oa ob
   rw[List.append_assoc]at this;exact⟨_,_,this,.inr ⟨_,0,rfl,by simp,by rw[<- List.append_assoc];simp⟩⟩
theorem z3u{f:Fl}{p:Nat}{d:Int}(g:f.good p d):(decide (f.c=0) && decide (znq f.o (-1) = -1))=zr1 f:=by
 have key:∀(l:List Int) (n:Int),(∀x∈l,-1<=x) -> -1<=n->(znq l n = -1 ↔ n = -1/\∀x∈l,x<0):=by
  intro l
  induction l with
  |nil=>intro n _ _;simp[znq]
  |cons x l ih=>
   intro n h0 hn;have hx:=h0 x (by simp)
   have:=ih (max n x) (fun y hy=>h0 y (by simp[hy])) (by omega)
   simp only[znq,List.foldl_cons]at this ⊢;rw[this];constructor
   ·rintro ⟨h1,h2⟩
    exact⟨by omega,fun y hy=>by rcases List.mem_cons.1 hy with rfl|hy;omega;exact h2 y hy⟩
   ·rintro ⟨h1,h2⟩
    have:=h2 x (by simp)
    exact⟨by omega,fun y hy=>h2 y (by simp[hy])⟩
 have:=key f.o (-1) g.o0 (by omega)
 rw[zr1]
 congr 1
 rw[Bool.eq_iff_iff,decide_eq_true_iff,this];simp
theorem OwnI.one{n:Nat}{h:List AO}{a:AV}{l:List Int}(o:OwnI n h a l):AV.one a=true:=by
 rcases o with⟨rfl|rfl,rfl⟩|⟨id,ver,rfl,h2,h3⟩ <;> rfl
theorem ofK_ok(z:List Bool)(hz:z.length<=5)(l:Lv):∀d,d<=100->rightB z.length 0 l d=true->∀h:List AO,∃X a,FK zfx [.agg l.cs,.sl (bls z)] h=some (.ret (.agg [.int .i64 (rawF z l).c,a]),h++X)/\OwnI h.length (h++X) a (rawF z l).o:=by
 induction l using Lv.ind with
 |h k n ks ih=>
 intro d hd h H;have hg:=znd z (.mk k n ks) d h;rw[rightB]at h
 split at h
 ·cases h
 split at h
 ·cases h
 rename_i hd1 hk;have hk:(ks.length:Int)=zgf k:=by simpa using hk
 have hP:=fun H=>yap z.length hz H
 rw[z8c];rw[rawF]at hg ⊢;unfold zgf at hk
 match ks,hk,ih,h,hg with
 |[],hk,ih,h,hg=>
  simp at hk;by_cases h5:k=5
  ·subst h5
   simp at h;obtain⟨h0,hn⟩:=h;obtain⟨j,rfl⟩:=Int.eq_ofNat_of_zero_le h0;have hj:j<z.length:=by omega
   obtain⟨b,hb⟩:∃b,z[j]?=some b:=⟨z[j],by simp[hj]⟩
   simp only[rawFs,z2n,Int.toNat_natCast,hb,if_true];have hgr:(List.replicate z.length (-1:Int))[j]?=some (-1):=by simp[hj]
   have hs:(zbe (List.replicate z.length (-1))).set j [AV.int .i64 0]=zbe ((List.replicate z.length (-1)).set j 0):=by simp[zbe,List.map_set]
   cases b
   ·simp only[↓reduceIte,go_sem,Lv.cs,Lv.css,hP,hb,List.length_replicate,hj,hgr,hs]
    exact⟨_,_,rfl,.inr ⟨H.length,0,rfl,Nat.le_refl _,by simp⟩⟩
   ·simp only[↓reduceIte,go_sem,Lv.cs,Lv.css,hP,hb,zr2,Option.some.injEq,Bool.true_eq_false]
    exact⟨_,_,rfl,.inr ⟨H.length,0,rfl,Nat.le_refl _,by simp⟩⟩
  ·have h2:¬ k=2:=by grind
   have h3:¬ k=3:=by grind
   have h4:¬ k=4:=by grind
   simp only[rawFs,z2n,if_neg h5];simp only[↓reduceIte,go_sem,Lv.cs,Lv.css,h2,h3,h4,h5,hP];exact⟨_,_,rfl,.inr ⟨H.length,0,rfl,Nat.le_refl _,by simp[zr2]⟩⟩
 |[a],hk,ih,h,hg=>
  have k2:k=2:=by simp at hk;grind
  subst k2;simp[rightsB]at h;have ga:=znd z a (d - 1) h.1;obtain⟨X,w,h1,h2⟩:=ih a (by simp) (d - 1) (by omega) h.1 (H++[.lst 0 1 (zbe (List.replicate z.length (-1)))])
  obtain⟨X',w',h3,h4⟩:=ye3 (rawF z a).c (by have:=ga.c0;have:=ga.cd;omega) (fun n hn=>by have:=ga.o0 n hn;have:=ga.od n hn;omega) (by rw[ga.len];omega) h2
  rw[List.append_assoc,List.append_assoc]at h3;rw[List.append_assoc]at h4;simp only[List.cons_append,List.nil_append]at h3 h4;simp only[rawFs,z2n,if_true];have q1:=h2.one;have q2:=h4.one;simp only[AV.one]at q1 q2;simp only[↓reduceIte,go_sem,Lv.cs,Lv.css,hP,h1,h3,q1,q2];exact⟨_,_,rfl,h4.mono (by simp)⟩
 |[a,b],hk,ih,h,hg=>
  have h5:¬ k=5:=by rintro rfl;simp at hk
  have h6:¬ k=6:=by rintro rfl;simp at hk
  rw[if_neg h5,if_neg h6]at h;simp[rightsB]at h;have ga:=znd z a (d - 1) h.1.1;have gb:=znd z b (d - 1) h.1.2;have k34:k=3\/k=4:=by simp at hk;grind
  have hb1:=h.1.2;simp only[rawFs,z2n];have mx:∀P:List AO,∃X w Y v Z u,FK zfx [.agg a.cs,.sl (bls z)] (H++P)=some (.ret (.agg [.int .i64 (rawF z a).c,w]),H++(P++X))/\FK zfx [.agg b.cs,.sl (bls z)] (H++(P++X))=some (.ret (.agg [.int .i64 (rawF z b).c,v]),H++(P++(X++Y))) /\
    FK zfy [.agg [.int .i64 (rawF z a).c,w],.sl [[.int .i64 (rawF z b).c,v]]] (H++(P++(X++Y)))=some (.ret (.agg [.int .i64 (max (rawF z a).c (rawF z b).c),u]),H++(P++Z))/\AV.one w=true/\AV.one v=true/\OwnI H.length (H++(P++Z)) u (List.zipWith max (rawF z a).o (rawF z b).o):=by
   intro P;obtain⟨X,w,h1,h2⟩:=ih a (by simp) (d - 1) (by omega) h.1.1 (H++P)
   obtain⟨Y,v,h3,h4⟩:=ih b (by simp) (d - 1) (by omega) h.1.2 ((H++P)++X)
   have h5:=h2.app Y;have h6:=h4.mono (show (H++P).length<=_ by simp)
   rw[List.append_assoc (H++P)]at h5 h6;obtain⟨Z,u,h7,h8⟩:=ygh (B:=H++P) (X:=X++Y) (rawF z a).c (rawF z b).c (by rw[ga.len];omega) (by rw[ga.len,gb.len]) h5 h6
   simp only[List.append_assoc]at h1 h3 h7 h8;exact⟨X,w,Y,v,Z,u,h1,h3,h7,h2.one,h4.one,h8.mono (by simp)⟩
  rcases k34 with rfl|rfl
  ·obtain⟨X,w,Y,v,Z,u,h1,h3,h7,q1,q2,h8⟩:=mx [.lst 0 1 (zbe (List.replicate z.length (-1)))]
   simp only[List.cons_append,List.nil_append]at h1 h3 h7 h8;have q3:=h8.one;simp only[AV.one]at q1 q2 q3;simp only[↓reduceIte,go_sem,Lv.cs,Lv.css,hP,h1,h3,h7,q1,q2,q3];exact⟨_,_,rfl,h8⟩
  ·obtain⟨W,t,g1,g2⟩:=ih b (by simp) (d - 1) (by omega) hb1 (H++[.lst 0 1 (zbe (List.replicate z.length (-1)))])
   have hT:=yd4 (rawF z b).c (rawF z b).o (by rw[gb.len];omega) _ _ _ g2
   have hn:=z3u gb;rw[List.append_assoc]at g1 hT g2;simp only[List.cons_append,List.nil_append]at g1 hT g2;have q4:=g2.one;simp only[AV.one]at q4;simp only[↓reduceIte,go_sem,Lv.cs,Lv.css,hP,g1,hT,q4];obtain⟨X,w,Y,v,Z,u,h1,h3,h7,q1,q2,h8⟩:=mx (.lst 0 1 (zbe (List.replicate z.length (-1)))::W);simp only[List.cons_append]at h1 h3 h7 h8;have q3:=h8.one;simp only[AV.one]at q1 q2 q3;by_cases c1:(rawF z b).c=0
   ·by_cases c2:znq (rawF z b).o (-1) = -1
    ·have e:zr1 (rawF z b)=true:=by rw[<- hn,c1,c2];rfl
     simp only[c1,c2,e,if_true,if_neg (show ¬ (4:Int)=3 by omega)]
     rw[c1]at hn;refine⟨_,_,rfl,?_⟩;exact g2.mono (by simp)
    ·have e:zr1 (rawF z b)=false:=by rw[<- hn];simp[c2]
     simp only[if_neg (show ¬ (4:Int)=3 by omega),if_true,e]
     simp only[↓reduceIte,go_sem,c1,c2]at h1 h3 h7 ⊢;simp only[↓reduceIte,go_sem,h1,h3,h7,q1,q2,q3,c1,c2];have e2:(z2s (rawF z a) (rawF z b)).c=max (rawF z a).c 0:=by simp[z2s,c1]
     rw[e2];exact⟨_,_,rfl,h8⟩
   ·have e:zr1 (rawF z b)=false:=by rw[<- hn];simp[c1]
    simp only[if_neg (show ¬ (4:Int)=3 by omega),if_true,e]
    simp only[↓reduceIte,go_sem,h1,h3,h7,q1,q2,q3,c1];exact⟨_,_,rfl,h8⟩
 |a::b::c::r,hk,ih,h,hg=>
  exfalso;simp at hk
  grind
theorem maxL_ge(c:Int):∀(l:List Int) (n:Int),-1<=n->(∀x∈l,-1<=x)->((znq l n ≠ -1/\c<=znq l n+1) ↔ (0<=n/\c<=n+1)\/∃x∈l,0<=x/\c<=x+1):=by
 intro l
 induction l with
 |nil=>
  intro n hn _;simp only[znq,List.foldl_nil];constructor
  ·rintro ⟨h1,h2⟩;exact .inl ⟨by omega,h2⟩
  ·rintro (⟨h1,h2⟩|⟨x,hx,_⟩)
   ·exact⟨by omega,h2⟩
   ·cases hx
 |cons y l ih=>
  intro n hn h0;have hy:=h0 y (by simp)
  have:=ih (max n y) (by omega) (fun x hx=>h0 x (by simp[hx]))
  simp only[znq,List.foldl_cons]at this ⊢;rw[this];constructor
  ·rintro (h|⟨x,hx,h⟩)
   ·by_cases h1:y<=n
    ·rw[Int.max_eq_left h1]at h;exact .inl h
    ·rw[Int.max_eq_right (by omega)]at h;exact .inr ⟨y,by simp,h⟩
   ·exact .inr ⟨x,by simp[hx],h⟩
  ·rintro (h|⟨x,hx,h⟩)
   ·exact .inl (by omega)
   ·rcases List.mem_cons.1 hx with rfl|hx
    ·exact .inl (by omega)
    ·exact .inr ⟨x,hx,h⟩
theorem ya3(B:Int):∀(l:List Int) (n:Int),n<=B->(∀x∈l,x<=B)->n<=znq l n/\znq l n<=B
 |[],n,h,_=>⟨Int.le_refl _,h⟩
 |y::l,n,h,h0=>by
  have:=h0 y (by simp)
  have:=ya3 B l (max n y) (by omega) (fun x hx=>h0 x (by simp[hx]))
  simp only[znq,List.foldl_cons]at this ⊢;omega
theorem z5c(l:Lv)(hl:l.ok)(z:List Bool)(H:List AO):F zjd [.agg l.cs,.sl (bls z)] H=some (.ret (.tup [.agg (zcx l z).cs,.int .i64 (FlatE l z)]),H):=by
 have hR:=fun H=>zgi l hl z.length 0 H
 rw[zwf];by_cases h:zax l z.length 0=true
 ·have hz:=zx1 h
  have hg:=znd z l 12 hz.2;obtain⟨X,a,h1,h2⟩:=ofK_ok z hz.1 l 12 (by omega) hz.2 H
  have hT:=yd4 (rawF z l).c (rawF z l).o (by rw[hg.len];omega) _ _ _ h2
  have q:=h2.one;simp only[AV.one]at q;have hmx:=maxL_ge (rawF z l).c (rawF z l).o (-1) (by omega) hg.o0
  have hnrm:nrmF (rawF z l).c (rawF z l).o=if znq (rawF z l).o (-1) ≠ -1/\(rawF z l).c<=znq (rawF z l).o (-1)+1 then 0 else (rawF z l).c:=by
   unfold nrmF;have e:((rawF z l).o.any fun n=>decide (0<=n) && decide ((rawF z l).c<=n+1))=true ↔ (znq (rawF z l).o (-1) ≠ -1/\(rawF z l).c<=znq (rawF z l).o (-1)+1):=by
    rw[hmx];simp
   by_cases c:(znq (rawF z l).o (-1) ≠ -1/\(rawF z l).c<=znq (rawF z l).o (-1)+1)
   ·rw[if_pos c,if_pos (e.2 c)]
   ·rw[if_neg c,if_neg (fun k=>c (e.1 k))]
  rw[FlatE,zcx,if_pos h,if_pos h,normF,hnrm];have hbd:=ya3 12 (rawF z l).o (-1) (by omega) hg.od
  have hw:=zap (n:=znq (rawF z l).o (-1)+1) (by omega) (by omega)
  rcases h2 with⟨ha,h0⟩|⟨id,ver,rfl,h2,h3⟩
  ·rw[h0]at hT hw ⊢
   have hm:znq [] (-1) = -1:=rfl;rcases ha with rfl|rfl
   ·simp only[↓reduceIte,go_sem,hR,h,h1,hT,hm,Fl.cs,ne_eq,not_true_eq_false,false_and,zhh]
   ·simp only[↓reduceIte,go_sem,hR,h,h1,hT,hm,Fl.cs,ne_eq,not_true_eq_false,false_and,zhh]
  ·have hset:∀o,(H++X).set id o=H++X.set (id - H.length) o:=fun o=>List.set_append_right _ _ h2
   simp only[↓reduceIte,go_sem,hR,h,h1,hT,hw,h2,h3,hset,Fl.cs];by_cases c1:znq (rawF z l).o (-1) = -1
   ·simp[c1]
   ·by_cases c2:(rawF z l).c<=znq (rawF z l).o (-1)+1
    ·simp[c1,c2]
    ·simp[c1,c2]
 ·rw[FlatE,zcx,if_neg h,if_neg h]
  simp only[↓reduceIte,go_sem,hR,h,yev,Fl.cs]
end Go.Ab
end
section
set_option linter.unusedVariables false
set_option linter.unusedSimpArgs false
set_option maxRecDepth 100000
set_option maxHeartbeats 2000000
namespace Go.Ab
open Go.RowKit Go.Proofs
theorem bit_get:∀n:Fin 32,∀i:Fin 5,(!decide (IntKind.wrap .u64 ((BitVec.ofInt 64 (shI false .u64 (n.val:Int) (i.val:Int)) &&& BitVec.ofInt 64 1).toNat:Int)=0))=decide ((n.val / 2 ^ i.val) % 2=1):=by decide
theorem z8q:∀(i n:Nat),zfn n (i+1)=zfn n i++[decide ((n / 2 ^ i) % 2=1)]:=by
 intro i
 induction i with
 |zero=>intro n;simp[zfn]
 |succ i ih=>
  intro n;rw[zfn,ih,zfn,List.cons_append]
  congr 3
  rw[Nat.div_div_eq_div_mul,Nat.pow_succ',]
abbrev encZ(z:List Bool):List AV:=[.sl (bls z)]
def yjw(p:Nat):AV:=.fn (.func zkx) [] [.fp [.int .i64 p]]
theorem AllP_ok(p:Nat)(H:List AO):F zu1 [.int .i64 p] H=some (.ret (yjw p),H):=by
 have h:Lt H.length (.fn (.func zkx) [] [.fp [.int .i64 p]])=True:=by
  simp only[eq_iff_iff,iff_true];exact .fn (by simp) (by intro x hx;simp at hx;subst hx;exact .fp (by intro a ha;simp at ha;subst ha;exact .int _ _))
 rw[ycw];simp only[↓reduceIte,go_sem,yjw,h]
def zm2(p:Nat):Nat->Nat->List (List Bool)
 |_,0=>[]
 |n,j+1=>zfn n p::zm2 p (n+1) j
theorem zxx{S E α:Type}{y:AV}{n:Nat}{enc:α->List AV}{W:S->List AO}{WE:E->List AO}{stp:S->α->Option (S ⊕ E)}(hy:Ys y n enc W WE stp)(s:S)(r:S ⊕ E)(X J:List AO):
  zez (W s++X) (.ret (.tup [])) (hp W WE r++(X++J))=some (.ret (.tup []),hp W WE r++X):=by
 have l1:(W s).length=n:=hy.len (.inl s);have l2:=hy.len r;rw[<- List.append_assoc];exact zyt (by omega) (fun id o ho=>by rw[l1];exact hy.fr s r id o ho) (.tup (by simp))
theorem allZ_in(p:Nat)(hp:p<=5)(n:Nat)(hn:n<32)(H A:List AO)(y x7:AV):∀(j i:Nat),i+j=p ->
  zf8 H (A++[.lst 0 1 (bls (zfn n i)++List.replicate j [.bool false])]) y (.fp [.int .i64 p]) (.int .u64 n) (.ol A.length 0) x7 (.int .u64 n) (.int .i64 p) (.int .i64 i) =
  zf8 H (A++[.lst 0 1 (bls (zfn n p))]) y (.fp [.int .i64 p]) (.int .u64 n) (.ol A.length 0) x7 (.int .u64 n) (.int .i64 p) (.int .i64 p):=by
 intro j
 induction j with
 |zero=>
  intro i h;obtain rfl:i=p:=by omega
  simp
 |succ j ih=>
  intro i h;have ih:=ih (i+1) (by omega)
  have hb:=bit_get ⟨n,hn⟩ ⟨i,by omega⟩
  dsimp only at hb;have hset:(bls (zfn n i)++List.replicate (j+1) [AV.bool false]).set i [.bool (decide (n / 2 ^ i % 2=1))]=bls (zfn n (i+1))++List.replicate j [.bool false]:=by
   have hl:(bls (zfn n i)).length=i:=by rw[z45,zhj]
   rw[List.set_append_right _ _ (by omega),hl,Nat.sub_self,List.replicate_succ,List.set_cons_zero,z8q]
   simp[bls]
  have hil:i<(bls (zfn n i)++List.replicate (j+1) [AV.bool false]).length:=by simp[z45,zhj]
  have hgi:(bls (zfn n i)++List.replicate (j+1) [AV.bool false])[i]?=some [.bool false]:=by
   have hl:(bls (zfn n i)).length=i:=by rw[z45,zhj]
   rw[List.getElem?_append_right (by omega),hl,Nat.sub_self,List.replicate_succ];rfl
  rw[<- ih];simp only[Int.natCast_add,Int.natCast_one]
  conv=>lhs;rw[zf8,zab]
  generalize hes:bls (zfn n i)++List.replicate (j+1) [AV.bool false]=es at hset hil hgi;simp only[↓reduceIte,go_sem,show (i:Int)<(p:Int) by omega,hil,hgi,zad (n:=i) (by omega)]
  refine (congrArg (fun b=>zf8 H (A++[.lst 0 1 (es.set i [.bool b])]) y (.fp [.int .i64 p]) (.int .u64 n) (.ol A.length 0) x7 (.int .u64 n) (.int .i64 p) (.int .i64 ((i:Int)+1))) hb).trans ?_
  rw[hset]
theorem yh3(p:Nat)(h5:p<=5):yee (yjw p) encZ (zm2 p 0 (2 ^ p)):=by
 intro S E y m W WE stp hy s X r hr;have hpw:=pow5 p h5;have hsh:shI true .u64 1 (p:Int)=((2 ^ p:Nat):Int):=by
  match p,h5 with
  |0,_=>rfl
  |1,_=>rfl
  |2,_=>rfl
  |3,_=>rfl
  |4,_=>rfl
  |5,_=>rfl
 have hone:=hy.one;have hcell:y.cells=[y]:=by cases y <;> first|rfl|(simp[AV.one]at hone)
 unfold AV.cells at hcell;unfold AV.one at hone;have loop:∀(j n:Nat),n+j=2 ^ p->∀(a:S) (J:List AO),zlc stp (zm2 p n j) a=some r->zj1 (W s++X) (W a++(X++J)) y (.fp [.int .i64 p]) (.int .u64 ((2 ^ p:Nat):Int)) (.int .u64 n)=some (.ret (.tup []),hp W WE r++X):=by
  intro j
  induction j with
  |zero=>
   intro n h a J hq;rw[zm2,zlc]at hq;cases hq;rw[zj1,zab];simp only[↓reduceIte,go_sem,show ¬ (n:Int)<((2 ^ p:Nat):Int) by omega]
   exact zxx hy s (.inl a) X J
  |succ j ih=>
   intro n h a J hq;rw[zm2,zlc]at hq;have lA:(W a).length=m:=hy.len (.inl a);have hin:=allZ_in p h5 n (by omega) (W s++X) (W a++(X++J)) y (.int .u64 ((2 ^ p:Nat):Int)) p 0 (by omega)
   rw[zj1,zab];have e0:bls (zfn n 0)++List.replicate p [AV.bool false]=List.replicate p [.bool false]:=by simp[zfn,bls]
   rw[e0]at hin;simp only[List.append_assoc,List.length_append,Int.natCast_zero]at hin;simp only[↓reduceIte,go_sem,show (n:Int)<((2 ^ p:Nat):Int) by omega,show (p:Int)<=1073741824 by omega,List.length_replicate,hin]
   rw[zf8,zab];have lX:∀o,(W a++(X++(J++[o])))[(W a).length+(X.length+J.length)]?=some o:=fun o=>by
    rw[List.getElem?_append_right (by omega),List.getElem?_append_right (by omega),List.getElem?_append_right (by omega)];simp
   have lS:∀o o',(W a++(X++(J++[o]))).set ((W a).length+(X.length+J.length)) o' = W a++(X++(J++[o'])):=fun o o'=>by
    rw[List.set_append_right _ _ (by omega),List.set_append_right _ _ (by omega),List.set_append_right _ _ (by omega)];simp
   cases hst:stp a (zfn n p) with
   |none=>rw[hst]at hq;cases hq
   |some q=>
   rw[hst]at hq;have hc:=hy.call a (zfn n p) (X++(J++[.dead])) q hst;simp only[encZ]at hc
   cases q with
   |inl b=>
    have ih:=ih (n+1) (by omega) b (J++[.dead]) hq
    simp only[zfa,Int.natCast_add,Int.natCast_one]at hc ih;have hwu:IntKind.wrap .u64 ((n:Int)+1)=(n:Int)+1:=by have:=z0j (n+1) (by omega);simpa using this
    simp only[↓reduceIte,go_sem,lX,lS,hc,isL,hwu,ih]
   |inr e=>
    cases hq;simp only[zpx]at hc
    simp only[↓reduceIte,go_sem,lX,lS,hc,isL];exact zxx hy s (.inr e) X _
 simp only[yjw,zgh,List.cons_append,List.nil_append];show F zkx _ _=_;rw[z4s];simp only[↓reduceIte,go_sem,hsh];have:=loop (2 ^ p) 0 (by omega) s [] hr
 simpa using this
end Go.Ab
end
section
set_option linter.unusedVariables false
set_option linter.unusedSimpArgs false
set_option maxRecDepth 100000
set_option maxHeartbeats 2000000
namespace Go.Ab
open Go.RowKit Go.Proofs
theorem ygq(n:Int)(h0:0<=n)(hn:n<=1073741824)(H:List AO):F ze8 [.ze,.int .i64 n] H=if n=0 then some (.ret .ze,H) else some (.ret (.ol H.length 1),H++[.lst 1 2 []]):=by
 rw[zra];by_cases h:n=0
 ·subst h
  have e1:IntKind.wrap .i64 0=0:=zap (by omega) (by omega)
  simp only[↓reduceIte,go_sem,Int.sub_self,e1]
 ·simp only[↓reduceIte,go_sem,h,show ¬ n<0 by omega,show 0<n by omega,Int.sub_self,Int.sub_zero,zap (n:=0) (by omega) (by omega),zap (n:=n) (by omega) (by omega),hn]
inductive AccA (H:List AO):AV->List At->List AO->Prop
 |ze:AccA H .ze [] H
 |ol (ver:Nat) (es:List At):AccA H (.ol H.length ver) es (H++[.lst ver 2 (At.css es)])
def slA(xs:List (List At)):List (List AV):=xs.map fun x=>[.sl (At.css x)]
@[go_sem] theorem slA_len(xs:List (List At)):(slA xs).length=xs.length:=by simp[slA]
@[go_sem] theorem slA_get(xs:List (List At))(i:Nat):(slA xs)[i]?=xs[i]?.map fun x=>[.sl (At.css x)]:=by simp[slA]
@[go_sem] theorem atcss_all2(ks:List At):(∀e∈At.css ks,e.length=2)=True:=by
 refine eq_true fun e he=>?_
 obtain⟨x,_,rfl⟩:=List.mem_map.1 he;rfl
theorem zoz:At.css []=[]:=rfl
theorem zk9(x:At)(l:List At):At.css (x::l)=x.cs::At.css l:=rfl
theorem ydq(a b:List At):At.css (a++b)=At.css a++At.css b:=by simp[At.css]
theorem z8m(xs:List (List At))(hlen:xs.length<=1000)(ht:xs.flatten.length<=1073741824)(H:List AO):
  F zef [.sl (slA xs)] H=some (.ret (.sl (At.css xs.flatten)),H):=by
 have loop1:∀(suf pre:List (List At)) {v:AV} {es:List At} {H1:List AO},xs=pre++suf->AccA (H++[.lst 0 2 []]) v es H1->es.length+suf.flatten.length<=1073741824 ->
   zd9 H H1 v (.sl (slA xs)) (.int .i64 xs.length) (.int .i64 pre.length)=some (.ret (.sl (At.css (es++suf.flatten))),H):=by
  intro suf
  induction suf with
  |nil=>
   intro pre v es H1 e ha hb;subst e;rw[zd9,zab]
   cases ha with
   |ze=>simp only[↓reduceIte,go_sem,List.flatten_nil,zoz,zk9]
   |ol ver=>simp only[↓reduceIte,go_sem,List.flatten_nil]
  |cons x suf ih=>
   intro pre v es H1 e ha hb;subst e;simp at hlen;rw[List.flatten_cons,List.length_append]at hb;rw[zd9,zab]
   cases ha with
   |ze=>
    cases x with
    |nil=>
     have:=ih (pre++[[]]) (by simp) (AccA.ze (H:=H++[.lst 0 2 []])) (by simpa using hb)
     simp only[zah]at this;simp only[↓reduceIte,go_sem,zoz,zk9,zad (n:=pre.length) (by omega),this,List.flatten_cons]
    |cons y ys=>
     have:=ih (pre++[y::ys]) (by simp) (AccA.ol (H:=H++[.lst 0 2 []]) 0 (y::ys)) (by simpa using hb)
     simp only[zah]at this;simp only[↓reduceIte,go_sem,zoz,zk9]at this;simp at hb;simp only[↓reduceIte,go_sem,zoz,zk9,zad (n:=pre.length) (by omega),show ys.length<1073741824 by omega,this,List.flatten_cons]
   |ol ver=>
    have:=ih (pre++[x]) (by simp) (AccA.ol (H:=H++[.lst 0 2 []]) (ver+1) (es++x)) (by simp at hb ⊢;omega)
    simp only[zah]at this;simp only[↓reduceIte,go_sem]at this;simp only[↓reduceIte,go_sem,zad (n:=pre.length) (by omega),show es.length+x.length<=1073741824 by omega,<- ydq,this,List.flatten_cons,List.append_assoc]
 have loop0:∀(suf pre:List (List At)),xs=pre++suf ->
   zea H (H++[.lst 0 2 []]) (.sl (slA xs)) (.int .i64 pre.flatten.length) (.sl (slA xs)) (.int .i64 xs.length) (.int .i64 pre.length)=some (.ret (.sl (At.css xs.flatten)),H):=by
  intro suf
  induction suf with
  |nil=>
   intro pre e;subst e;simp only[List.append_nil]at *;have hg:=ygq pre.flatten.length (by omega) (by omega) (H++[.lst 0 2 []])
   rw[zea,zab];by_cases h0:pre.flatten.length=0
   ·have h1:=loop1 pre [] rfl (AccA.ze (H:=H++[.lst 0 2 []])) (by simpa using ht)
    simp only[List.length_nil,Int.natCast_zero,List.nil_append]at h1;rw[if_pos (by omega)]at hg
    simp only[↓reduceIte,go_sem,hg,h1]
   ·have h1:=loop1 pre [] rfl (AccA.ol (H:=H++[.lst 0 2 []]) 1 []) (by simpa using ht)
    simp only[List.length_nil,Int.natCast_zero,List.nil_append]at h1;rw[if_neg (by omega)]at hg
    simp only[↓reduceIte,go_sem,zoz,zk9]at hg h1;simp only[↓reduceIte,go_sem,hg,h1]
  |cons x suf ih=>
   intro pre e;subst e;simp at hlen;have:=ih (pre++[x]) (by simp)
   have hl:((pre++[x]).flatten.length:Int)=(pre.flatten.length:Int)+(x.length:Int):=by simp
   rw[hl]at this;simp only[zah]at this;simp only[List.flatten_append,List.flatten_cons,List.length_append]at ht;rw[zea,zab];simp only[↓reduceIte,go_sem,zad (n:=pre.length) (by omega),zap (n:=(pre.flatten.length:Int)+(x.length:Int)) (by omega) (by omega),show ¬ (pre.flatten.length:Int)+(x.length:Int)<0 by omega]
   rw[this]
 have h0:=loop0 xs [] rfl;simp only[List.length_nil,Int.natCast_zero,List.flatten_nil]at h0;rw[zpp];simp only[↓reduceIte,go_sem,h0]
@[go_sem] theorem atcs_over2(a b:At):over a.cs 0 b.cs=b.cs:=rfl
theorem z7z(g:At->Int)(f:AV)(H:List AO)(l:List At)(hlen:l.length<=1000)(hf:∀x∈l,∀y∈l,cfl T f [.agg x.cs,.agg y.cs] H=some (.ret (.int .i64 (g x - g y)),H))(hne:l≠[]):
  ∃a∈l,g a=z7y (l.map g)/\F zd2 [.sl (At.css l),f] H=some (.ret (.agg a.cs),H):=by
 have loop:∀(s p:List At) (b:At),l=p++s->p≠[]->b∈l->g b=z7y (p.map g)->∃a∈l,g a=z7y (l.map g)/\zcv H H (.sl (At.css l)) f (.int .i64 p.length) [.int .i64 0,.int .i64 0] b.cs=some (.ret (.agg a.cs),H):=by
  intro s
  induction s with
  |nil=>
   intro p b h hp hb hg;rw[List.append_nil]at h;subst h;refine⟨b,hb,hg,?_⟩;rw[zcv,zab];simp only[↓reduceIte,go_sem]
  |cons x s ih=>
   intro p b h hp hb hg;have hx:x∈l:=by rw[h];simp
   have hga:l[p.length]?=some x:=by rw[h];simp
   have hpl:p.length<l.length:=by rw[h];simp
   have hc:=hf x hx b hb;have hms:=z02 (g x) (p.map g) (by simpa using hp)
   by_cases hlt:g x - g b<0
   ·obtain⟨a,h1,h2,h3⟩:=ih (p++[x]) x (by rw[h];simp) (by simp) hx (by rw[List.map_append,List.map_cons,List.map_nil,hms];omega)
    refine⟨a,h1,h2,?_⟩;simp only[zah]at h3;rw[zcv,zab];simp only[↓reduceIte,go_sem,show (p.length:Int)<(l.length:Int) by omega,hga,hc,hlt,zad (n:=p.length) (by omega),h3]
   ·obtain⟨a,h1,h2,h3⟩:=ih (p++[x]) b (by rw[h];simp) (by simp) hb (by rw[List.map_append,List.map_cons,List.map_nil,hms];omega)
    refine⟨a,h1,h2,?_⟩;simp only[zah]at h3;rw[zcv,zab];simp only[↓reduceIte,go_sem,show (p.length:Int)<(l.length:Int) by omega,hga,hc,hlt,zad (n:=p.length) (by omega),h3]
 cases l with
 |nil=>exact absurd rfl hne
 |cons x l=>
  obtain⟨a,h1,h2,h3⟩:=loop l [x] x rfl (by simp) (by simp) rfl
  refine⟨a,h1,h2,?_⟩;have h0:(x::l)[0]?=some x:=rfl;rw[zop];simp only[↓reduceIte,go_sem,h0,List.length_cons,show ¬ ((l.length+1:Nat):Int)<1 by omega]
  exact h3
theorem yht(m:List Int)(vars:Nat)(hm:okM vars m)(h16:vars=16)(H:List AO)(id b ver:Nat)(hH:H[id]?=some (.lst ver 1 (zbe m)))(hb:H[b]?=some (.box [.ov id ver 1 0 16]))(x y:At)(hx:0<=x.v/\x.v<16/\0<=x.o/\x.o<=1000)(hy:0<=y.v/\y.v<16/\0<=y.o/\y.o<=1000):
  F zij [.agg x.cs,.agg y.cs,.ptr b 0] H=some (.ret (.int .i64 ((gI m x.v - x.o) - (gI m y.v - y.o))),H):=by
 have hgx:=hm.get hx.1 (by omega)
 have hgy:=hm.get hy.1 (by omega)
 have hm':=hm.1;rw[zzo];simp only[↓reduceIte,go_sem,hH,hb,hm',h16,hx.1,hy.1,hgx.1,hgy.1,show x.v.toNat<16 by omega,show y.v.toNat<16 by omega,Nat.zero_add,zap (n:=gI m x.v - x.o) (by omega) (by omega),zap (n:=gI m y.v - y.o) (by omega) (by omega),zap (n:=(gI m x.v - x.o) - (gI m y.v - y.o)) (by omega) (by omega)]
theorem yii(c:Cl)(m:List Int)(vars:Nat)(hm:okM vars m)(h16:vars=16)(hc:c.ok vars)(H:List AO)(id ver:Nat)(hH:H[id]?=some (.lst ver 1 (zbe m))):F zoj [.agg c.cs,.ov id ver 1 0 16] H=some (.ret (.int .i64 (z0e c m)),H):=by
 have hid:=(List.getElem?_eq_some_iff.1 hH).1;have hH':(H++[.box [.ov id ver 1 0 16]])[id]?=some (.lst ver 1 (zbe m)):=by rw[List.getElem?_append_left hid,hH]
 obtain⟨a,h1,h2,h3⟩:=z7z (fun a=>gI m a.v - a.o) (.fn (.func zij) [] [.ptr H.length 0]) (H++[.box [.ov id ver 1 0 16]]) c.f (by have:=hc.len;omega) (fun x hx y hy=>by
  simp only[zgh,List.cons_append,List.nil_append];exact yht m vars hm h16 _ id H.length ver hH' (by simp) x y (by have:=hc.at_ x hx;omega) (by have:=hc.at_ y hy;omega)) (by have:=hc.ne;intro h;rw[h]at this;simp at this)
 have ha:=hc.at_ a h1;have hga:=hm.get ha.1 ha.2.1;have hb:=asks_bd hm hc;have ht:=hc.to;have hm':=hm.1;rw[z0e,<- h2]at hb ⊢;rw[z4w];simp only[↓reduceIte,go_sem,h3,hH',hm',h16,ha.1,hga.1,show a.v.toNat<16 by omega,Nat.zero_add,zap (n:=gI m a.v - a.o) (by omega) (by omega),zap (n:=gI m a.v - a.o+c.t.o) (by omega) (by omega)]
def zrj(l:List Cl):AV:=.fn (.func zg0) [] [.fp [.sl (Cl.css l)]]
theorem zz0(l:List Cl)(H:List AO):F zka [.sl (Cl.css l)] H=some (.ret (zrj l),H):=by
 rw[z2a];simp only[↓reduceIte,go_sem,zrj]
abbrev yhb(p:Nat×At):List AV:=[.int .i64 p.1,.agg p.2.cs]
def zp2:List Cl->Nat->List (Nat×At)
 |[],_=>[]
 |c::r,i=>((c.f++[c.t]).map fun a=>(i,a))++zp2 r (i+1)
theorem z2x(l:List Cl)(hl:l.length<=1000)(hf:∀c∈l,c.f.length<=1000):yee (zrj l) yhb (zp2 l 0):=by
 intro S E y m W WE stp hy s X r hr;have hone:=hy.one;have hcell:y.cells=[y]:=by cases y <;> first|rfl|(simp[AV.one]at hone)
 unfold AV.cells at hcell;unfold AV.one at hone;have fin:=fun r=>zxx hy s r X []
 simp only[List.append_nil]at fin;have loop0:∀(i:Nat) (L:List At) (rest:List (Nat×At)),i<1000->L.length<=1001 ->
   (∀a:S,zlc stp rest a=some r->zfe (W s++X) (W a++X) y (.sl (Cl.css l)) (.int .i64 l.length) (.int .i64 (i+1))=some (.ret (.tup []),hp W WE r++X)) ->
   ∀(t p:List At),L=p++t->∀(a:S),zlc stp (t.map (fun a=>(i,a))++rest) a=some r->zgm (W s++X) (W a++X) y (.int .i64 i) (.sl (Cl.css l)) (.int .i64 l.length) (.int .i64 i) (.sl (At.css L)) (.int .i64 L.length) (.int .i64 p.length)=some (.ret (.tup []),hp W WE r++X):=by
  intro i L rest hi hL hrest t
  induction t with
  |nil=>
   intro p h a hq;rw[List.append_nil]at h;subst h;have h1:=hrest a (by simpa using hq)
   rw[zgm,zab];simp only[↓reduceIte,go_sem,zad (n:=i) (by omega),h1]
  |cons x t ih=>
   intro p h a hq;have hga:L[p.length]?=some x:=by rw[h];simp
   have hpl:p.length<L.length:=by rw[h];simp
   rw[List.map_cons,List.cons_append,zlc]at hq
   cases hst:stp a (i,x) with
   |none=>rw[hst]at hq;cases hq
   |some q=>
   rw[hst]at hq;have hc:=hy.call a (i,x) X q hst;simp only[yhb]at hc;rw[zgm,zab]
   cases q with
   |inl b=>
    have ih:=ih (p++[x]) (by rw[h];simp) b hq
    simp only[zfa,zah]at hc ih;simp only[↓reduceIte,go_sem,show (p.length:Int)<(L.length:Int) by omega,hga,hc,isL,zad (n:=p.length) (by omega),ih]
   |inr e=>
    cases hq;simp only[zpx]at hc
    simp only[↓reduceIte,go_sem,show (p.length:Int)<(L.length:Int) by omega,hga,hc,isL]
    exact fin (.inr e)
 have loop1:∀(t p:List Cl),l=p++t->∀(a:S),zlc stp (zp2 t p.length) a=some r->zfe (W s++X) (W a++X) y (.sl (Cl.css l)) (.int .i64 l.length) (.int .i64 p.length)=some (.ret (.tup []),hp W WE r++X):=by
  intro t
  induction t with
  |nil=>
   intro p h a hq;rw[List.append_nil]at h;subst h;rw[zp2,zlc]at hq;cases hq;rw[zfe,zab];simp only[↓reduceIte,go_sem];exact fin (.inl a)
  |cons c t ih=>
   intro p h a hq;have hga:l[p.length]?=some c:=by rw[h];simp
   have hpl:p.length<l.length:=by rw[h];simp
   have hcf:=hf c (by rw[h];simp)
   have hco:=fun H=>z8m [c.f,[c.t]] (by simp) (by simp;omega) H
   have e:([c.f,[c.t]]:List (List At)).flatten=c.f++[c.t]:=by simp
   have e2:slA [c.f,[c.t]]=[[.sl (At.css c.f)],[.sl [c.t.cs]]]:=rfl;rw[e,e2]at hco;have h0:=loop0 p.length (c.f++[c.t]) (zp2 t (p.length+1)) (by omega) (by simp;omega) (fun b hb=>by
    have:=ih (p++[c]) (by rw[h];simp) b (by simpa using hb)
    simpa only[zah] using this) (c.f++[c.t]) [] rfl a (by rw[zp2]at hq;exact hq)
   simp only[List.length_nil,Int.natCast_zero]at h0;rw[zfe,zab];simp only[↓reduceIte,go_sem,show (p.length:Int)<(l.length:Int) by omega,hga,hco,h0]
 simp only[zrj,zgh,List.cons_append,List.nil_append];show F zg0 _ _=_;rw[zwd];simp only[↓reduceIte,go_sem];exact loop1 l [] rfl s hr
theorem yh1(xs:List Cl)(hlen:xs.length<=1000)(f:AV)(p:Cl->Bool)(H:List AO)(hf:∀e∈xs,cfl T f [.agg e.cs] H=some (.ret (.bool (p e)),H)):
  F zb1 [.sl (Cl.css xs),f] H=some (.ret (.bool (xs.any p)),H):=by
 have loop:∀(suf pre:List Cl),xs=pre++suf->∃r:Int,zbx H H (.sl (Cl.css xs)) f (.int .i64 xs.length) (.int .i64 pre.length)=some (.ret (.int .i64 r),H)/\decide (0<=r)=suf.any p:=by
  intro suf
  induction suf with
  |nil=>
   intro pre e;subst e;refine⟨-1,?_,rfl⟩;rw[zbx,zab];simp only[↓reduceIte,go_sem]
  |cons x suf ih=>
   intro pre e;subst e;obtain⟨r,h1,h2⟩:=ih (pre++[x]) (by simp)
   simp only[zah]at h1;have hfx:=hf x (by simp)
   simp at hlen
   cases hp:p x with
   |true=>
    refine⟨pre.length,?_,by simp[hp]⟩
    rw[zbx,zab];simp only[↓reduceIte,go_sem,hfx,hp]
   |false=>
    refine⟨r,?_,by simp[hp,h2]⟩
    rw[zbx,zab];simp only[↓reduceIte,go_sem,hfx,hp,zad (n:=pre.length) (by omega),h1]
 obtain⟨r,h1,h2⟩:=loop xs [] rfl;simp only[List.length_nil,Int.natCast_zero]at h1;have hi:F zcr [.sl (Cl.css xs),f] H=some (.ret (.int .i64 r),H):=by
  rw[zlx];simp only[↓reduceIte,go_sem,h1]
 rw[zju];simp only[↓reduceIte,go_sem,hi,<- h2]
def zsr(vars:Int)(b:Bool):List AO:=[.box [.int .i64 vars],.box [.bool b]]
def z0v(vars:Int)(_:Unit)(x:Nat×At):Option (Unit ⊕ Unit):=if atB vars x.2 then some (.inl ()) else some (.inr ())
theorem yfn(H:List AO)(vars:Int):Ys (.yd (H.length+2+1)) (H.length+2+2) yhb (fun _=>H++(zsr vars false++[.dfr,.slp .ready 47 [(2,.ptr H.length 0),(4,.ptr (H.length+1) 0)] [26,27] zem zej])) (fun _=>H++(zsr vars false++[.dfr,.slp (.done .ret) 47 [(2,.ptr H.length 0),(4,.ptr (H.length+1) 0)] [26,27] zem zej])) (z0v vars):=by
 refine z3c H 2 yhb (fun _=>zsr vars false) (fun _=>zsr vars false) (fun _=>.ret) (z0v vars) 47 [(2,.ptr H.length 0),(4,.ptr (H.length+1) 0)] [26,27] zem zej zte ztc (fun _=>rfl) ?_ ?_ ?_ ?_
 ·rintro (p|e) <;> rfl
 ·rintro s (p|e) i o ho <;> exact .inl ho
 ·intro p hp;simp at hp;rcases hp with rfl|rfl <;> exact .ptr (by omega)
 ·rintro ⟨⟩ ⟨i,a⟩ X r hst
  refine⟨[],?_⟩;unfold z0v at hst;rcases a with⟨v,o⟩;simp only at hst;have hA:atB vars ⟨v,o⟩=(decide (0<=v) && decide (v<vars) && decide (0<=o) && decide (o<=1000)):=rfl;by_cases h:atB vars ⟨v,o⟩=true
  ·rw[if_pos h]at hst
   cases hst;obtain⟨h1,h2,h3,h4⟩:=z47.1 h
   simp only at h1 h2 h3 h4;simp only[↓reduceIte,go_sem,zsr,yhb,At.cs,z31,isL,show ¬ v<0 by omega,show ¬ vars<=v by omega,show ¬ o<0 by omega,show ¬ 1000<o by omega]
  ·rw[if_neg h]at hst
   cases hst;have hn:¬ (0<=v/\v<vars/\0<=o/\o<=1000):=fun k=>h (z47.2 k)
   simp only[↓reduceIte,go_sem,zsr,yhb,At.cs,z31,isL];by_cases h1:v<0
   ·rw[if_neg (by simpa using h1)]
   by_cases h2:vars<=v
   ·rw[if_pos h1,if_neg (by simpa using h2)]
   by_cases h3:o<0
   ·rw[if_pos h1,if_pos h2,if_neg (by simpa using h3)]
   ·rw[if_pos h1,if_pos h2,if_pos h3,if_pos (by omega)]
theorem zwp(vars:Int):∀xs:List (Nat×At),zlc (z0v vars) xs ()=some (if (xs.all fun x=>atB vars x.2)=true then .inl () else .inr ())
 |[]=>rfl
 |x::xs=>by
  rw[zlc,List.all_cons];unfold z0v
  cases h:atB vars x.2
  ·rfl
  ·simp only[if_true,Bool.true_and]
   exact zwp vars xs
theorem zxi(q:At->Bool):∀(l:List Cl) (i:Nat),((zp2 l i).all fun x=>q x.2)=l.all fun c=>c.f.all q && q c.t
 |[],i=>rfl
 |c::l,i=>by
  rw[zp2,List.all_append,zxi q l,List.all_cons,List.all_map,List.all_append];simp[Function.comp_def]
def z3y(c:Cl):Bool:=decide (c.f.length<1) || decide (6<c.f.length)
theorem many_ok(c:Cl)(H:List AO):F zg1 [.agg c.cs] H=some (.ret (.bool (z3y c)),H):=by
 rw[zwe,z3y];simp only[↓reduceIte,go_sem];by_cases h:(c.f.length:Int)<1
 ·simp only[h,show c.f.length<1 by omega];simp
 ·simp only[h,show ¬ c.f.length<1 by omega]
  by_cases h2:6<c.f.length
  ·simp[show (6:Int)<c.f.length by omega,h2]
  ·simp[show ¬ (6:Int)<c.f.length by omega,h2]
theorem zvy(vars:Int)(l:List Cl)(hl:l.length<=1000)(hf:∀c∈l,c.f.length<=1000)(H:List AO):F zkb [.int .i64 vars,.sl (Cl.css l)] H=some (.ret (.bool (znu vars l)),H):=by
 have hM:=fun H=>yh1 l hl (.fn (.func zg1) [] []) z3y H (fun c hc=>by
  simp only[zgh,List.cons_append,List.nil_append,z6v];exact many_ok c H)
 have hr:=z2x l hl hf _ _ _ _ _ _ _ (yfn H vars) () [] _ (zwp vars _);rw[zxi]at hr;have he:=fun st=>zss (H:=H) (DR:=zsr vars false) (k:=2) rfl (st:=st) (nn:=47) (t:=[(2,.ptr H.length 0),(4,.ptr (H.length+1) 0)]) (ps:=[26,27]) (asg:=zem) (body:=zej)
 rw[z2b,znu];simp only[zsr,zrj,zgh,List.cons_append,List.nil_append,List.append_nil,Nat.add_assoc,Nat.reduceAdd]at hr he;by_cases c1:vars<1
 ·have e:(decide (1<=vars) && decide (vars<=16) && decide (l.length<=60) && l.all (clB vars))=false:=by rw[decide_eq_false (show ¬ 1<=vars by omega)];rfl
  rw[e];simp only[↓reduceIte,go_sem,c1]
 by_cases c2:16<vars
 ·have e:(decide (1<=vars) && decide (vars<=16) && decide (l.length<=60) && l.all (clB vars))=false:=by rw[decide_eq_false (show ¬ vars<=16 by omega)];simp
  rw[e];simp only[↓reduceIte,go_sem,c1,c2]
 by_cases c3:(60:Int)<l.length
 ·have e:(decide (1<=vars) && decide (vars<=16) && decide (l.length<=60) && l.all (clB vars))=false:=by rw[decide_eq_false (show ¬ l.length<=60 by omega)];simp
  rw[e];simp only[↓reduceIte,go_sem,c1,c2,c3]
 have e:(decide (1<=vars) && decide (vars<=16) && decide (l.length<=60) && l.all (clB vars))=l.all (clB vars):=by rw[decide_eq_true (show 1<=vars by omega),decide_eq_true (show vars<=16 by omega),decide_eq_true (show l.length<=60 by omega)];simp
 rw[e]
 cases c4:l.any z3y with
 |true=>
  have e2:l.all (clB vars)=false:=by
   obtain⟨c,hc,hm⟩:=List.any_eq_true.1 c4;rw[Bool.eq_false_iff];intro k;have:=List.all_eq_true.1 k c hc;simp only[clB,Bool.and_eq_true,decide_eq_true_eq]at this;simp only[z3y,Bool.or_eq_true,decide_eq_true_eq]at hm;omega
  rw[e2];simp only[↓reduceIte,go_sem,c1,c2,c3,hM,c4]
 |false=>
  have e2:l.all (clB vars)=l.all fun c=>c.f.all (atB vars) && atB vars c.t:=by
   apply Bool.eq_iff_iff.2;simp only[List.all_eq_true];have hm:∀c∈l,z3y c=false:=by simpa using c4
   constructor
   ·intro k c hc
    have:=k c hc;simp only[clB,Bool.and_eq_true,decide_eq_true_eq]at this ⊢;exact⟨this.1.2,this.2⟩
   ·intro k c hc
    have:=k c hc;have h2:=hm c hc;simp only[z3y,Bool.or_eq_false_iff,decide_eq_false_iff_not]at h2;simp only[clB,Bool.and_eq_true,decide_eq_true_eq]at this ⊢;exact⟨⟨⟨by omega,by omega⟩,this.1⟩,this.2⟩
  rw[e2]
  cases c5:l.all fun c=>c.f.all (atB vars) && atB vars c.t with
  |true=>
   rw[c5]at hr;simp only[if_true,zfa]at hr;simp only[↓reduceIte,go_sem,c1,c2,c3,hM,c4,zz0,zrj,hr,he,List.mem_cons,List.not_mem_nil,or_false,forall_eq,List.nodup_cons,List.nodup_nil,not_false_eq_true,and_self]
  |false=>
   rw[c5]at hr;simp only[Bool.false_eq_true,if_false,zpx]at hr;simp only[↓reduceIte,go_sem,c1,c2,c3,hM,c4,zz0,zrj,hr,he,List.mem_cons,List.not_mem_nil,or_false,forall_eq,List.nodup_cons,List.nodup_nil,not_false_eq_true,and_self]
def zx7(l:List Cl)(n:Int):List AO:=[.box [.sl (Cl.css l)],.box [.int .i64 n]]
def z3w(l:List Cl)(n:Int)(x:Nat×At):Option (Int ⊕ Empty):=match l[x.1]? with
 |some c=>if 0<=n/\n<=1000/\0<=c.t.o/\c.t.o<=1000/\0<=x.2.o/\x.2.o<=1000 then some (.inl (max n (c.t.o - x.2.o))) else none
 |none=>none
theorem most_ys(H:List AO)(l:List Cl):Ys (.yd (H.length+2+1)) (H.length+2+2) yhb (fun n=>H++(zx7 l n++[.dfr,.slp .ready 28 [(3,.ptr H.length 0),(4,.ptr (H.length+1) 0)] [14,15] ze3 ze1])) (fun e:Empty=>H++(noE e++[.dfr,.slp (.done (noE e)) 28 [(3,.ptr H.length 0),(4,.ptr (H.length+1) 0)] [14,15] ze3 ze1])) (z3w l):=by
 refine z3c H 2 yhb (zx7 l) noE noE (z3w l) 28 [(3,.ptr H.length 0),(4,.ptr (H.length+1) 0)] [14,15] ze3 ze1 zuq zuo (fun _=>rfl) ?_ ?_ ?_ ?_
 ·rintro (p|e)
  ·rfl
  ·exact e.elim
 ·rintro s (p|e) i o ho
  ·match i,ho with
   |0,ho=>simp[zfa,zx7]at ho;subst ho;exact .inl (by simp[zx7])
   |1,ho=>simp[zfa,zx7]at ho;subst ho;exact .inr fun a ha=>by simp at ha;subst ha;exact .int _ _
   |j+2,ho=>simp[zfa,zx7]at ho
  ·exact e.elim
 ·intro p hp;simp at hp;rcases hp with rfl|rfl <;> exact .ptr (by omega)
 ·rintro n ⟨i,a⟩ X r hst
  refine⟨[],?_⟩;unfold z3w at hst;simp only at hst
  cases hc:l[i]? with
  |none=>rw[hc]at hst;cases hst
  |some c=>
  rw[hc]at hst;simp only at hst
  split at hst
  ·rename_i hb
   cases hst;simp only[↓reduceIte,go_sem,zx7,yhb,z31,isL,hc,zap (n:=c.t.o - a.o) (by omega) (by omega),zp9]
  ·cases hst
theorem ya0(l:List Cl)(vars:Nat)(hl:∀c∈l,c.ok vars):∀(t p:List Cl),l=p++t->∀n,0<=n/\n<=1000->zlc (z3w l) (zp2 t p.length) n=some (.inl (t.foldl (fun n c=>zod c n c.f) n)):=by
 have one:∀(i:Nat) (c:Cl),l[i]?=some c->c.ok vars->∀(L:List At),(∀a∈L,0<=a.o/\a.o<=1000)->∀n,0<=n/\n<=1000->zlc (z3w l) (L.map fun a=>(i,a)) n=some (.inl (zod c n L)):=by
  intro i c hc ho L
  induction L with
  |nil=>intro _ n hn;rfl
  |cons a L ih=>
   intro hL n hn;have ha:=hL a (by simp)
   have ht:=ho.to;rw[List.map_cons,zlc];have e:z3w l n (i,a)=some (.inl (max n (c.t.o - a.o))):=by
    unfold z3w;simp only[hc];rw[if_pos (by omega)]
   rw[e];exact ih (fun b hb=>hL b (by simp[hb])) _ (by omega)
 intro t
 induction t with
 |nil=>intro p h n hn;rfl
 |cons c t ih=>
  intro p h n hn;have hc:l[p.length]?=some c:=by rw[h];simp
  have ho:=hl c (by rw[h];simp)
  have h1:=one p.length c hc ho (c.f++[c.t]) (fun a ha=>by
   rcases List.mem_append.1 ha with ha|ha
   ·have:=ho.at_ a ha;omega
   ·simp at ha;subst ha;have:=ho.to;omega) n hn
  have hb:=zut ho c.f (fun _ h=>h) hn
  have e:zod c n (c.f++[c.t])=zod c n c.f:=by
   unfold zod at hb ⊢;rw[List.foldl_append];simp only[List.foldl_cons,List.foldl_nil];omega
  rw[e]at h1;have h2:=ih (p++[c]) (by rw[h];simp) (zod c n c.f) hb
  rw[zd7]at h2;rw[zp2,zyp,h1];exact h2
theorem z86(vars:Nat)(l:List Cl)(h:znu vars l=true)(H:List AO):F zoi [.int .i64 vars,.sl (Cl.css l)] H=some (.ret (.tup [.int .i64 (zya l),.int .i64 0]),H):=by
 have hR:=zke.1 h;have hr08:=fun H=>zvy vars l (by omega) (fun c hc=>by have:=(hR.2.2.2 c hc).len;omega) H
 have hr:=z2x l (by omega) (fun c hc=>by have:=(hR.2.2.2 c hc).len;omega) _ _ _ _ _ _ _ (most_ys H l) 0 [] _ (ya0 l vars hR.2.2.2 l [] rfl 0 (by omega))
 rw[<- zx8]at hr;have he:=zss (H:=H) (DR:=zx7 l (zya l)) (k:=2) rfl (st:=.ready) (nn:=28) (t:=[(3,.ptr H.length 0),(4,.ptr (H.length+1) 0)]) (ps:=[14,15]) (asg:=ze3) (body:=ze1);simp only[zfa,zx7,zrj,zgh,List.cons_append,List.nil_append,List.append_nil,Nat.add_assoc,Nat.reduceAdd]at hr he;rw[z4v];simp only[↓reduceIte,go_sem,hr08,h,zz0,zrj,hr,he,List.mem_cons,List.not_mem_nil,or_false,forall_eq,List.nodup_cons,List.nodup_nil,not_false_eq_true,and_self];exact if_pos (.tup (by intro a ha;simp at ha;rcases ha with rfl|rfl <;> exact .int _ _))
theorem ya4(vars:Nat)(l:List Cl)(h:znu vars l=true)(H:List AO):F zkk [.int .i64 vars,.sl (Cl.css l)] H=some (.ret (.int .i64 (zli vars l)),H):=by
 have hr:=zke.1 h;have hb:=zx9 l hr.2.2.2 (n:=0) (by omega)
 rw[<- zx8]at hb;have h1:0<=((vars:Int) - 1)*zya l:=Int.mul_nonneg (by omega) hb.1
 have h2:((vars:Int) - 1)*zya l<=15*1000:=Int.mul_le_mul (by omega) hb.2 hb.1 (by omega)
 rw[zy1,zli];simp only[↓reduceIte,go_sem,z86 vars l h,zap (n:=(vars:Int) - 1) (by omega) (by omega),zap (n:=((vars:Int) - 1)*zya l) (by omega) (by omega)]
end Go.Ab
end
section
set_option linter.unusedVariables false
set_option linter.unusedSimpArgs false
set_option maxRecDepth 100000
set_option maxHeartbeats 2000000
namespace Go.Ab
open Go.RowKit Go.Proofs
def zk0(m:List Int):List AV:=m.map fun n=>.int .i64 n
@[go_sem] theorem zhg(m:List Int):(zk0 m).length=m.length:=by simp[zk0]
@[go_sem] theorem intA_one(m:List Int):(zk0 m).all AV.one=true:=by simp[zk0,AV.one]
theorem zyl(m:List Int):(zk0 m).map (fun a=>[a])=zbe m:=by simp[zk0,zbe]
theorem zu7(m:List Int):(zbe m).flatten=zk0 m:=by
 induction m with
 |nil=>rfl
 |cons x m ih=>simp only[zbe,List.map_cons,List.flatten_cons,zk0]at ih ⊢;rw[ih];rfl
theorem z36(n:Nat)(m:List Int):∀a∈zk0 m,Lt n a:=by
 intro a ha;obtain⟨x,_,rfl⟩:=List.mem_map.1 ha;exact .int _ _
@[go_sem] theorem lt_intA(n:Nat)(m:List Int):(∀a∈zk0 m,Lt n a)=True:=eq_true (z36 n m)
theorem zyo(n:Nat):∀(m:List Int) (h:List AO),zv1 n (zk0 m) h=(zk0 m,h)
 |[],h=>rfl
 |x::m,h=>by
  have ih:=zyo n m h;simp only[zk0,List.map_cons]at ih ⊢;rw[zv1];simp only[z6h];rw[ih]
theorem zx6{α:Type}:∀(m z p:List α),m.length<=z.length->over (p++z) p.length m=p++(m++z.drop m.length)
 |[],z,p,_=>by simp[over]
 |x::m,[],p,h=>by simp at h
 |x::m,y::z,p,h=>by
  have ih:=zx6 m z (p++[x]) (by simpa using h)
  rw[over,List.set_append_right _ _ (Nat.le_refl _),Nat.sub_self,List.set_cons_zero];simp only[List.append_assoc,List.cons_append,List.nil_append,List.length_append,List.length_cons,List.length_nil,Nat.zero_add]at ih;rw[ih];simp
def zt5:List (List AV):=zbe (List.replicate 16 0)
theorem z0g:[[AV.int .i64 0],[AV.int .i64 0],[AV.int .i64 0],[AV.int .i64 0],[AV.int .i64 0],[AV.int .i64 0],[AV.int .i64 0],[AV.int .i64 0],[AV.int .i64 0],[AV.int .i64 0],[AV.int .i64 0],[AV.int .i64 0],[AV.int .i64 0],[AV.int .i64 0],[AV.int .i64 0],[AV.int .i64 0]]=zt5:=rfl
def zgc(m:List Int):List Int:=m++List.replicate (16 - m.length) 0
theorem zne(m:List Int)(h:m.length<=16):(zgc m).length=16:=by simp[zgc];omega
theorem over16(m:List Int)(hm:m.length<=16):over zt5 0 (List.take 16 (zbe m))=zbe (zgc m):=by
 have h:=zx6 (zbe m) zt5 [] (by simp[zbe,zt5];exact hm)
 rw[List.take_of_length_le (by simp[zbe];exact hm)]
 simp only[List.nil_append,List.length_nil]at h;rw[h,show zt5=List.replicate 16 [AV.int .i64 0] from rfl,List.drop_replicate]
 simp[zbe,zgc,List.map_append]
theorem of_ok(m:List Int)(hm:m.length<=16)(H:List AO):F zqn [.sl (zbe m)] H=some (.ret (.agg (zk0 (zgc m))),H):=by
 have h1:(∀x:List AV,x∈zbe m->x.length=1)=True:=eq_true (by intro x hx;obtain⟨z,_,rfl⟩:=List.mem_map.1 hx;rfl)
 have hp:=zne m hm;have hz16:zt5.length=16:=rfl;have hi16:(zbe (zgc m)).length=16:=by rw[zpb];exact hp
 rw[z79];simp only[↓reduceIte,go_sem,h1,z0g,over16 m hm,hp,zu7,hz16,hi16,zyl,zyo]
theorem zqx{α:Type}(z m:List α)(h:m.length=z.length):over z 0 m=m:=by
 have:=zx6 m z [] (by omega)
 simp only[List.nil_append,List.length_nil]at this;rw[this,h,List.drop_length,List.append_nil]
noncomputable def LRnd(H h:List AO)(id:Nat)(x7 x8 x9:AV)(v4:List AV):Option RH:=awL T [2,4,7,8,9] [4] zjc (za5 0 (thn (aw T (A zkr 6 .ret) (zam H [.c 16 true 4])) (zam H [.c 16 true 4]))) ⟨⟨28,[(2,.op id 0 1 0 0),(4,.lp 4 0),(7,.v x7),(8,.v x8),(9,.v x9)]⟩,[(4,v4)],h,[]⟩
theorem gRnd(H h:List AO)(id:Nat)(x7 x8 x9:AV)(v4:List AV):awL T [2,4,7,8,9] [4] zjc (za5 0 (thn (aw T (A zkr 6 .ret) (zam H [.c 16 true 4])) (zam H [.c 16 true 4]))) ⟨⟨28,[(2,.op id 0 1 0 0),(4,.lp 4 0),(7,.v x7),(8,.v x8),(9,.v x9)]⟩,[(4,v4)],h,[]⟩=LRnd H h id x7 x8 x9 v4:=rfl
theorem z7j(l:List Cl)(hl:∀c∈l,c.ok 16)(hb:l.length<=1000)(H:List AO)(v4:List AV)(h4:v4.length=16):∀(s p:List Cl),l=p++s->∀(B:Int) (m:List Int),bdM 16 B m->0<=B->B+1000*s.length<=1000000000 ->
  LRnd H (H++[.lst 0 1 (zbe m)]) H.length (.sl (Cl.css l)) (.int .i64 l.length) (.int .i64 p.length) v4=some (.ret (.agg (zk0 (za8 s m))),H):=by
 intro s
 induction s with
 |nil=>
  intro p h B m hm h0 hB;rw[List.append_nil]at h;subst h;rw[LRnd,zab];have hl16:=hm.1;have ho:over v4 0 (zk0 m)=zk0 m:=zqx _ _ (by rw[zhg];omega)
  have hr:rd 16 true (zk0 m)=some (.v (.agg (zk0 m))):=zmi (by rw[zhg];omega)
  have hfz:∀h,zv1 H.length (zk0 m) h=(zk0 m,h):=fun h=>zyo _ _ _
  simp only[↓reduceIte,go_sem,hl16,h4,zu7,za8,List.foldl_nil,ho,hr,hfz]
 |cons c s ih=>
  intro p h B m hm h0 hB;simp only[List.length_cons,Int.natCast_add,Int.natCast_one]at hB;have hc:=hl c (by rw[h];simp)
  have hga:l[p.length]?=some c:=by rw[h];simp
  have hp:p.length<l.length:=by rw[h];simp
  have hA:=yii c m 16 (hm.ok (by omega)) rfl hc (H++[.lst 0 1 (zbe m)]) H.length 0 (by simp)
  have hgm:=(hm.ok (by omega)).get hc.to.1 hc.to.2.1
  have hgl:=(hm.ok (by omega)).lt hc.to.1 hc.to.2.1
  have hl16:=hm.1;have ht2:c.t.v<16:=hc.to.2.1;have hset:(zbe m).set c.t.v.toNat [.int .i64 (max (gI m c.t.v) (z0e c m))]=zbe (zlb m c):=by simp[zbe,List.map_set,zlb]
  have h1:=ih (p++[c]) (by rw[h];simp) (B+1000) (zlb m c) (hm.step hc h0) (by omega) (by omega)
  simp only[zah]at h1;have hround:za8 (c::s) m=za8 s (zlb m c):=rfl;rw[LRnd,zab,hround];simp only[↓reduceIte,go_sem,hga,hp,show (p.length:Int)<(l.length:Int) by omega,hA,hc.to.1,hgm.1,hgl,hl16,ht2,zad (n:=p.length) (by omega),zp9,hset,gRnd,h1]
theorem yfm(l:List Cl)(hl:∀c∈l,c.ok 16)(hb:l.length<=1000)(m:List Int)(B:Int)(hm:bdM 16 B m)(h0:0<=B)(hB:B+1000*l.length<=1000000000)(H:List AO):F zew [.agg (zk0 m),.sl (Cl.css l)] H=some (.ret (.agg (zk0 (za8 l m))),H):=by
 have hl16:=hm.1;have h1:=fun v4 h4=>z7j l hl hb H v4 h4 l [] rfl B m hm h0 hB
 simp only[List.length_nil,Int.natCast_zero]at h1;rw[zqb];simp only[↓reduceIte,go_sem,hl16,zyl,gRnd];exact h1 _ rfl
theorem z6n:∀(a b:List Int),a.length=b.length->eqI (zk0 a) (zk0 b)=some (decide (a=b))
 |[],[],_=>rfl
 |[],_::_,h=>by simp at h
 |_::_,[],h=>by simp at h
 |x::a,y::b,h=>by
  have ih:=z6n a b (by simpa using h)
  simp only[zk0,List.map_cons]at ih ⊢;rw[eqI];by_cases e:x=y
  ·simp[e,ih]
  ·simp[e]
theorem yd6(H:List AO)(id ver:Nat)(l:List Int)(hl:l.length=16)(hH:H[id]?=some (.lst ver 1 (zbe l))):∀(s p:List Int) (n:Int),l=p++s->zcw H H (.ov id ver 1 0 16) (.int .i64 n) (.int .i64 p.length)=some (.ret (.int .i64 (znq s n)),H):=by
 intro s
 induction s with
 |nil=>
  intro p n h;rw[List.append_nil]at h;subst h;have htk:(List.take 16 (zbe l)).length=16:=by simp[zbe];omega
  rw[zcw,zab];simp only[↓reduceIte,go_sem,hH,hl,znq,List.foldl_nil,htk,show ¬ (16:Int)<((16:Nat):Int) by omega]
 |cons x s ih=>
  intro p n h;have h1:=ih (p++[x]) (max n x) (by rw[h];simp)
  have hga:l[p.length]?=some x:=by rw[h];simp
  have hp:p.length<l.length:=by rw[h];simp
  have hmax:(if x > n then x else n)=max n x:=by split <;> omega
  simp only[zah]at h1;have htk:(List.take 16 (zbe l)).length=16:=by simp[zbe];omega
  rw[zcw,zab];simp only[↓reduceIte,go_sem,hH,hl,hga,hp,show (p.length:Int)<16 by omega,show p.length<16 by omega,Nat.zero_add,hmax,htk,show (p.length:Int)<((16:Nat):Int) by omega,zad (n:=p.length) (by omega),h1]
  simp only[znq,List.foldl_cons]
theorem MaxV_ok(H:List AO)(id ver:Nat)(x:Int)(l:List Int)(hl:(x::l).length=16)(hH:H[id]?=some (.lst ver 1 (zbe (x::l)))):F zek [.ov id ver 1 0 16] H=some (.ret (.int .i64 (znq l x)),H):=by
 have h1:=yd6 H id ver (x::l) hl hH l [x] x rfl;rw[zns];have h0:(x::l)[0]?=some x:=rfl;have htk:(List.take 16 (zbe (x::l))).length=16:=by simp[zbe]at hl ⊢;omega
 simp only[↓reduceIte,go_sem,hH,h0,hl,htk,show ¬ ((16:Nat):Int)<1 by omega]
 exact h1
theorem ztr(B:Int):∀(l:List Int) (n:Int),B<znq l n ↔ B<n\/∃x∈l,B<x
 |[],n=>by simp[znq]
 |y::l,n=>by
  have:=ztr B l (max n y);simp only[znq,List.foldl_cons]at this ⊢;rw[this];simp only[List.mem_cons,exists_eq_or_imp];rw[show B<max n y ↔ B<n\/B<y by omega,or_assoc]
theorem yas(m:List Int)(v:Int)(h0:0<=v)(h1:v<m.length):gI (zgc m) v=gI m v:=by
 unfold gI zgc;simp only[List.getD];rw[List.getElem?_append_left (by omega)]
theorem pad_set(m:List Int)(i:Nat)(x:Int)(h:i<m.length):(zgc m).set i x=zgc (m.set i x):=by
 unfold zgc;rw[List.set_append_left _ _ h,List.length_set]
theorem yf2(m:List Int)(c:Cl)(vars:Nat)(hc:c.ok vars)(hm:m.length=vars):z0e c (zgc m)=z0e c m:=by
 unfold z0e
 congr 2
 apply List.map_congr_left;intro a ha;have:=hc.at_ a ha;rw[yas m a.v this.1 (by omega)]
theorem yf1(m:List Int)(c:Cl)(vars:Nat)(hc:c.ok vars)(hm:m.length=vars):zlb (zgc m) c=zgc (zlb m c):=by
 have ht:=hc.to;unfold zlb;rw[yf2 m c vars hc hm,yas m c.t.v ht.1 (by omega),pad_set m _ _ (by omega)]
theorem zqw(vars:Nat):∀(l:List Cl) (m:List Int),(∀c∈l,c.ok vars)->m.length=vars->za8 l (zgc m)=zgc (za8 l m)
 |[],m,_,_=>rfl
 |c::l,m,hl,hm=>by
  have:=zqw vars l (zlb m c) (fun d hd=>hl d (by simp[hd])) (by rw[zqm,hm])
  have e:=yf1 m c vars (hl c (by simp)) hm
  unfold za8 at this ⊢;rw[List.foldl_cons,List.foldl_cons,e,this]
theorem yar{a b:List Int}(h:a.length=b.length):zgc a=zgc b ↔ a=b:=by
 unfold zgc;rw[h];constructor
 ·intro e;exact List.append_cancel_right e
 ·rintro rfl;rfl
theorem pad_bd{vars:Nat}{B:Int}{m:List Int}(h:bdM vars B m)(hv:vars<=16)(hB:0<=B):bdM 16 B (zgc m):=by
 refine⟨zne m (by rw[h.1];exact hv),fun x hx=>?_⟩
 unfold zgc at hx;rcases List.mem_append.1 hx with hx|hx
 ·exact h.2 x hx
 ·have:=(List.mem_replicate.1 hx).2;omega
theorem pad_max{m:List Int}{x:Int}{l:List Int}(e:zgc m=x::l)(B:Int)(hB:0<=B):B<znq l x ↔ ∃y∈m,B<y:=by
 rw[ztr];have:(B<x\/∃y∈l,B<y) ↔ ∃y∈zgc m,B<y:=by rw[e];simp
 rw[this];unfold zgc;constructor
 ·rintro ⟨y,hy,h⟩
  rcases List.mem_append.1 hy with hy|hy
  ·exact⟨y,hy,h⟩
  ·have:=(List.mem_replicate.1 hy).2;omega
 ·rintro ⟨y,hy,h⟩
  exact⟨y,List.mem_append_left _ hy,h⟩
theorem ok16{vars:Nat}{c:Cl}(h:c.ok vars)(hv:vars<=16):c.ok 16 :=
 ⟨h.ne,h.len,fun a ha=>by have:=h.at_ a ha;omega,by have:=h.to;omega⟩
end Go.Ab
end
section
set_option linter.unusedVariables false
set_option linter.unusedSimpArgs false
set_option maxRecDepth 100000
set_option maxHeartbeats 2000000
namespace Go.Ab
open Go.RowKit Go.Proofs
def z0a(l:List Cl)(fr:List Int)(most:Int)(out:List (List AV))(is:Bool)(looks:Int)(last cur:List Int):List AO :=
 [.box [.sl (Cl.css l)],.box [.sl (zbe fr)],.box [.int .i64 most],.box [.sl out],.box [.bool is],.box [.int .i64 looks],.box (zk0 last),.box (zk0 cur)]
abbrev encM(m:List Int):List AV:=[.agg (zk0 m)]
structure RunSt where
 looks:Int
 last:List Int
 cur:List Int
structure RunEn where
 out:Option (List Int)
 looks:Int
 last:List Int
 cur:List Int
def z0u(n:Nat):List (Nat×AV):=[(3,.ptr n 0),(4,.ptr (n+1) 0),(5,.ptr (n+2) 0),(6,.ptr (n+3) 0),(7,.ptr (n+4) 0),(8,.ptr (n+5) 0),(9,.ptr (n+6) 0)]
def runJ(l:List Cl)(fr:List Int)(most:Int)(s:RunSt)(m:List Int):Option (RunSt ⊕ RunEn) :=
 if m.length=16/\s.last.length=16/\0<=s.looks/\s.looks<=1000000000000000/\l.length<=1000/\fr.length<=16 then
  if (m.any fun x=>decide (most<x))=true then some (.inr ⟨none,s.looks+l.length,s.last,s.cur⟩)
  else if m=s.last then some (.inr ⟨some (m.take fr.length),s.looks+l.length,s.last,s.cur⟩)
  else some (.inl ⟨s.looks+l.length,m,s.cur⟩)
 else none
def yej(l:List Cl)(fr:List Int)(most:Int)(s:RunSt):List AO:=z0a l fr most [] false s.looks s.last s.cur
def z0t(l:List Cl)(fr:List Int)(most:Int)(e:RunEn):List AO:=z0a l fr most (yeq e.out) e.out.isSome e.looks e.last e.cur
theorem z3m(n:Nat)(l:List Cl)(fr:List Int)(most:Int)(out:Option (List Int))(is:Bool)(looks:Int)(last cur:List Int):∀o∈z0a l fr most (yeq out) is looks last cur,LtO n o:=by
 intro o ho;have hm:=lt_modL n out;simp[z0a]at ho;rcases ho with rfl|rfl|rfl|rfl|rfl|rfl|rfl|rfl
 ·intro a ha;simp at ha;subst ha;exact .sl (zzv n l)
 ·intro a ha;simp at ha;subst ha;exact .sl (zq4 n fr)
 ·intro a ha;simp at ha;subst ha;exact .int _ _
 ·intro a ha;simp at ha;subst ha;exact .sl (of_eq_true hm)
 ·intro a ha;simp at ha;subst ha;exact .bool _
 ·intro a ha;simp at ha;subst ha;exact .int _ _
 ·exact z36 n last
 ·exact z36 n cur
theorem ydf(H:List AO)(id ver n:Nat)(l:List Int)(hl:l.length=16)(hn:n<=16)(hH:H[id]?=some (.lst ver 1 (zbe l))):F zav [.ov id ver 1 0 n] H=some (.ret (.sl (zbe (l.take n))),H):=by
 have he:zje H (.ov id ver 1 0 n)=some (zbe (l.take n)):=by
  simp only[zje,hH];rw[if_pos (by simp[zbe];omega)]
  simp[zbe,List.map_take]
 rw[zrb];unfold zvq;dsimp only;rw[he];dsimp only;rw[if_pos ⟨by omega,by omega,by rw[zpb];simp;omega,zyn _,zq4 _ _⟩]
theorem run_ys(H:List AO)(l:List Cl)(fr:List Int)(most:Int):Ys (.yd (H.length+8+1)) (H.length+8+2) encM (fun s=>H++(yej l fr most s++[.dfr,.slp .ready 38 (z0u H.length) [16] zcb zca])) (fun e=>H++(z0t l fr most e++[.dfr,.slp (.done .ret) 38 (z0u H.length) [16] zcb zca])) (runJ l fr most):=by
 refine z3c H 8 encM (yej l fr most) (z0t l fr most) (fun _=>.ret) (runJ l fr most) 38 (z0u H.length) [16] zcb zca zup zun (fun _=>rfl) ?_ ?_ ?_ ?_
 ·rintro (p|e) <;> rfl
 ·rintro s (p|e) i o ho
  ·exact .inr (z3m _ l fr most none _ _ _ _ o (List.mem_of_getElem? ho))
  ·exact .inr (z3m _ l fr most e.out _ _ _ _ o (List.mem_of_getElem? ho))
 ·intro p hp;simp[z0u]at hp;rcases hp with rfl|rfl|rfl|rfl|rfl|rfl|rfl <;> exact .ptr (by omega)
 ·rintro ⟨looks,last,cur⟩ m X r hst
  unfold runJ at hst;dsimp only at hst
  split at hst
  ·rename_i hc
   obtain⟨hm,hl,h0,h1,hll,hf⟩:=hc;obtain⟨x,q,e⟩:∃x q,m=x::q:=by
    cases m with
    |nil=>simp at hm
    |cons x q=>exact⟨x,q,rfl⟩
   have hA:(H++(z0a l fr most [] false (looks+l.length) last cur++(.dfr :: .slp .busy 38 (z0u H.length) [16] zcb zca::X))).length=H.length+(X.length+10):=by simp[z0a]
   have hmax:=MaxV_ok (H++(z0a l fr most [] false (looks+l.length) last cur++(.dfr :: .slp .busy 38 (z0u H.length) [16] zcb zca::X))++[.lst 0 1 (zbe m)]) (H.length+(X.length+10)) 0 x q (by rw[<- e];exact hm) (by rw[<- hA,<- e,List.getElem?_append_right (Nat.le_refl _),Nat.sub_self];rfl)
   have hcl:=ydf (H++(z0a l fr most [] false (looks+l.length) last cur++(.dfr :: .slp .busy 38 (z0u H.length) [16] zcb zca::X))++[.lst 0 1 (zbe m)]) (H.length+(X.length+10)) 0 fr.length m hm hf (by rw[<- hA,List.getElem?_append_right (Nat.le_refl _),Nat.sub_self];rfl)
   simp only[z0a,z0u,List.append_assoc,List.cons_append,List.nil_append]at hmax hcl;have h01:¬ H.length=H.length+1:=by omega
   have h02:¬ H.length=H.length+2:=by omega
   have hwl:=zap (n:=looks+l.length) (by omega) (by omega)
   have hq:=z6n m last (by omega)
   have hov:(∃y∈m,most<y) ↔ most<znq q x:=by rw[ztr,e];simp
   have hrl:rd 16 true (zk0 last)=some (.v (.agg (zk0 last))):=zmi (by rw[zhg];omega)
   have hol:over (zk0 last) 0 (zk0 m)=zk0 m:=zqx _ _ (by rw[zhg,zhg];omega)
   have hz16:zt5.length=16:=rfl;refine⟨[.lst 0 1 (zbe m)],?_⟩;simp only[↓reduceIte,go_sem,yej,z0a,z0u,encM,hm,zyl,z0g,hz16,hwl,hmax,hcl,zpb,zu7,hl,hq,hrl,hol,h01,h02];by_cases c1:(m.any fun x=>decide (most<x))=true
   ·have c1':most<znq q x:=hov.1 (by simpa using c1)
    rw[if_pos c1]at hst;cases hst;simp only[↓reduceIte,go_sem,c1',h01,h02,z31,isL,z0t,z0a,z0u,yeq,Option.isSome]
   ·have c1':¬ most<znq q x:=fun k=>c1 (by simpa using hov.2 k)
    rw[if_neg c1]at hst;by_cases c2:m=last
    ·rw[if_pos c2]at hst
     cases hst;subst c2
     simp only[↓reduceIte,go_sem,c1',h01,h02,hf,hcl,zpb,z31,isL,z0t,z0a,z0u,yeq,Option.isSome]
    ·rw[if_neg c2]at hst
     cases hst;simp only[↓reduceIte,go_sem,c1',c2,z31,isL,yej,z0a,z0u]
  ·cases hst
def z5r(H:List AO)(l:List Cl)(fr:List Int)(most:Int)(s:RunSt):List AO:=H++(yej l fr most s++[.dfr,.slp .ready 38 (z0u H.length) [16] zcb zca])
def zx0(H:List AO)(l:List Cl)(fr:List Int)(most:Int)(e:RunEn):List AO:=H++(z0t l fr most e++[.dfr,.slp (.done .ret) 38 (z0u H.length) [16] zcb zca])
theorem run_fin(H:List AO)(l:List Cl)(fr:List Int)(most:Int)(s:RunSt)(e:RunEn):zez (z5r H l fr most s) (.ret (.tup [])) (zx0 H l fr most e)=some (.ret (.tup []),zx0 H l fr most e):=by
 have hlen:(z5r H l fr most s).length=H.length+10:=by simp[z5r,yej,z0a]
 refine zsf (by simp[z5r,zx0,yej,z0t,z0a]) (.tup (by simp)) fun id o ho=>?_
 by_cases h:id<H.length
 ·left
  unfold zx0 at ho;unfold z5r;rw[List.getElem?_append_left h]at ho ⊢;exact ho
 ·right
  unfold zx0 at ho;rw[List.getElem?_append_right (by omega)]at ho
  rw[hlen];rcases List.mem_append.1 (List.mem_of_getElem? ho) with hm|hm
  ·exact z3m _ l fr most e.out _ _ _ _ o hm
  ·simp at hm
   rcases hm with rfl|rfl
   ·trivial
   ·intro p hp
    simp[z0u]at hp;rcases hp with rfl|rfl|rfl|rfl|rfl|rfl|rfl <;> exact .ptr (by omega)
theorem z7i(l:List Cl)(fr:List Int)(vars:Nat)(most:Int)(hl:∀c∈l,c.ok vars)(hb:l.length<=1000)(hv:vars<=16)(hv1:1<=vars)(hfr:fr.length=vars)(hm0:0<=most)(hm1:most<=1000000)(H:List AO)(s0:RunSt){m:List Int}{r:Option (List Int)}{n:Nat}(hr:RunS l most m r n):
  ∀(looks:Int),bdM vars most m->0<=looks->looks+n*l.length<=100000000000000 ->
  ∃e:RunEn,e.out=r/\e.looks=looks+n*l.length/\zci (z5r H l fr most s0) (z5r H l fr most ⟨looks,zgc m,zgc m⟩) (.yd (H.length+9)) (.ptr (H.length+7) 0) (.fp [.sl (Cl.css l)])=some (.ret (.tup []),zx0 H l fr most e):=by
 have hy:=run_ys H l fr most;have step:∀(looks:Int) (m:List Int),bdM vars most m->0<=looks->looks<=100000000000000->∀q,runJ l fr most ⟨looks,zgc m,za8 l (zgc m)⟩ (za8 l (zgc m))=some q ->
   zci (z5r H l fr most s0) (z5r H l fr most ⟨looks,zgc m,zgc m⟩) (.yd (H.length+9)) (.ptr (H.length+7) 0) (.fp [.sl (Cl.css l)])=match q with
    |.inl s=>zci (z5r H l fr most s0) (z5r H l fr most s) (.yd (H.length+9)) (.ptr (H.length+7) 0) (.fp [.sl (Cl.css l)])
    |.inr e=>some (.ret (.tup []),zx0 H l fr most e):=by
  intro looks m hbd h0 h1 q hq;have hp16:=zne m (by rw[hbd.1];exact hv)
  have hR:=fun H=>yfm l (fun c hc=>ok16 (hl c hc) hv) hb (zgc m) most (pad_bd hbd hv hm0) hm0 (by omega) H
  have hlr:(za8 l (zgc m)).length=16:=by rw[zl9];exact hp16
  have hc:=hy.call ⟨looks,zgc m,za8 l (zgc m)⟩ (za8 l (zgc m)) [] q hq;have hrd:rd 16 true (zk0 (zgc m))=some (.v (.agg (zk0 (zgc m)))):=zmi (by rw[zhg];omega)
  have hrd2:rd 16 true (zk0 (za8 l (zgc m)))=some (.v (.agg (zk0 (za8 l (zgc m))))):=zmi (by rw[zhg];omega)
  have hov:over (zk0 (zgc m)) 0 (zk0 (za8 l (zgc m)))=zk0 (za8 l (zgc m)):=zqx _ _ (by rw[zhg,zhg];omega)
  simp only[yej,z0a,encM,List.append_nil,List.append_assoc,List.cons_append,List.nil_append,Nat.add_assoc,Nat.reduceAdd]at hc;rw[zci,zab]
  conv=>lhs;arg 4;rw[z5r,yej,z0a]
  simp only[↓reduceIte,go_sem,hR,hrd,hrd2,hov,hc,hp16,hlr]
  cases q with
  |inl s=>rfl
  |inr e=>exact run_fin H l fr most s0 e
 have any_iff:∀m:List Int,m.length<=16->(((zgc m).any fun x=>decide (most<x))=true ↔ ∃x∈m,most<x):=by
  intro m hm;obtain⟨x,q,e⟩:∃x q,zgc m=x::q:=by
   cases h:zgc m with
   |nil=>have:=zne m hm;rw[h]at this;simp at this
   |cons x q=>exact⟨x,q,rfl⟩
  rw[<- pad_max e most hm0,ztr,e];simp
 have jeq:∀(looks:Int) (m:List Int),bdM vars most m->0<=looks->looks<=100000000000000->∀c,runJ l fr most ⟨looks,zgc m,c⟩ (zgc (za8 l m)) =
   if (∃x∈za8 l m,most<x) then some (.inr ⟨none,looks+l.length,zgc m,c⟩)
   else if za8 l m=m then some (.inr ⟨some m,looks+l.length,zgc m,c⟩)
   else some (.inl ⟨looks+l.length,zgc (za8 l m),c⟩):=by
  intro looks m hbd h0 h1 c;have hlr:(za8 l m).length=m.length:=zl9 l m;have hml:=hbd.1;unfold runJ;dsimp only;rw[if_pos ⟨zne _ (by omega),zne _ (by omega),h0,by omega,hb,by omega⟩]
  by_cases c1:∃x∈za8 l m,most<x
  ·rw[if_pos c1,if_pos ((any_iff _ (by omega)).2 c1)]
  ·rw[if_neg c1,if_neg (fun k=>c1 ((any_iff _ (by omega)).1 k))]
   by_cases c2:za8 l m=m
   ·rw[if_pos c2,if_pos ((yar hlr).2 c2),c2]
    have:(zgc m).take fr.length=m:=by unfold zgc;rw[hfr,<- hml];simp
    rw[this]
   ·rw[if_neg c2,if_neg (fun k=>c2 ((yar hlr).1 k))]
 induction hr with
 |over h=>
  intro looks hbd h0 h1;rename_i m;have hj:=jeq looks m hbd h0 (by omega) (za8 l (zgc m))
  rw[if_pos h]at hj;have hs:=step looks m hbd h0 (by omega) _ (by rw[zqw vars l m hl hbd.1]at hj ⊢;exact hj)
  exact⟨_,rfl,by simp,hs⟩
 |fix h hb2=>
  intro looks hbd h0 h1;rename_i m;have hj:=jeq looks m hbd h0 (by omega) (za8 l (zgc m))
  rw[if_neg (by rw[h];rintro ⟨x,hx,hlt⟩;have:=hb2 x hx;omega),if_pos h]at hj
  have hs:=step looks m hbd h0 (by omega) _ (by rw[zqw vars l m hl hbd.1]at hj ⊢;exact hj)
  exact⟨_,rfl,by simp,hs⟩
 |more h hb2 hr ih=>
  intro looks hbd h0 h1;rename_i m r n;have e:looks+l.length+n*(l.length:Int)=looks+((n+1:Nat):Int)*l.length:=by
   rw[Int.natCast_add,Int.add_mul];simp;omega
  have hn0:0<=n*(l.length:Int):=Int.mul_nonneg (by omega) (by omega)
  have hj:=jeq looks m hbd h0 (by omega) (za8 l (zgc m))
  rw[if_neg (by rintro ⟨x,hx,hlt⟩;have:=hb2 x hx;omega),if_neg h]at hj
  have hs:=step looks m hbd h0 (by omega) _ (by rw[zqw vars l m hl hbd.1]at hj ⊢;exact hj)
  have hrb:=hbd.round l hl hm0;obtain⟨en,h2,h3,h4⟩:=ih (looks+l.length) ⟨hrb.1,fun x hx=>⟨(hrb.2 x hx).1,hb2 x hx⟩⟩ (by omega) (by omega)
  refine⟨en,h2,by rw[h3,e],?_⟩
  rw[hs];exact h4
theorem z7h(m:List Int)(hm:m.length=16)(l:List Cl)(H:List AO):FK zcq [.agg (zk0 m),.sl (Cl.css l)] H=some (.ret (.fn (.func zb4) [] [.ptr H.length 0,.fp [.sl (Cl.css l)]]),H++[.box (zk0 m)]):=by
 rw[zoo];simp only[↓reduceIte,go_sem,hm]
theorem runP_ok(l:List Cl)(fr:List Int)(vars:Nat)(most:Int)(hl:∀c∈l,c.ok vars)(hb:l.length<=1000)(hv:vars<=16)(hv1:1<=vars)(hm0:0<=most)(hm1:most<=1000000)(H:List AO){r:Option (List Int)}{n:Nat}(hr:RunS l most fr r n)(hbd:bdM vars most fr)(hn:(n:Int)*l.length<=100000000000000):
  F zn5 [.sl (Cl.css l),.sl (zbe fr),.int .i64 most] H=some (.ret (.tup [.sl (yeq r),.bool r.isSome,.int .i64 (n*l.length)]),H):=by
 have hof:=fun H=>of_ok fr (by rw[hbd.1];exact hv) H
 have hp16:=zne fr (by rw[hbd.1];exact hv)
 obtain⟨e,h1,h2,h3⟩:=z7i l fr vars most hl hb hv hv1 hbd.1 hm0 hm1 H ⟨0,zgc fr,zgc fr⟩ hr 0 hbd (by omega) (by omega)
 rw[Int.zero_add]at h2;have hov:∀z,z.length=16->over z 0 (zk0 (zgc fr))=zk0 (zgc fr):=fun z hz=>zqx _ _ (by rw[zhg];omega)
 have hrd:rd 16 true (zk0 (zgc fr))=some (.v (.agg (zk0 (zgc fr)))):=zmi (by rw[zhg];omega)
 have hK:=fun H=>z7h (zgc fr) hp16 l H
 have he:=zss (H:=H) (DR:=z0t l fr most e) (k:=8) rfl (st:=.done .ret) (nn:=38) (t:=z0u H.length) (ps:=[16]) (asg:=zcb) (body:=zca);have h4:F zb4 [.yd (H.length+9),.ptr (H.length+7) 0,.fp [.sl (Cl.css l)]] (z5r H l fr most ⟨0,zgc fr,zgc fr⟩)=some (.ret (.tup []),zx0 H l fr most e):=by
  rw[znw];simp only[↓reduceIte,go_sem];exact h3
 simp only[z5r,zx0,yej,z0t,z0a,z0u,List.append_nil,List.append_assoc,List.cons_append,List.nil_append,Nat.add_assoc,Nat.reduceAdd]at h4 he;rw[z4m];simp only[↓reduceIte,go_sem,hof,hp16,hov,hrd,hK,h4,he,h1,h2,List.nodup_cons,List.nodup_nil,List.not_mem_nil,not_false_eq_true,and_self]
theorem z25(vars:Nat)(l:List Cl)(h:znu vars l=true){r:Option (List Int)}{k:Nat}(hr:RunS l (zli vars l) (List.replicate vars 0) r k)(H:List AO):F zkl [.int .i64 vars,.sl (Cl.css l)] H=some (.ret (.tup [.sl (yeq r),.bool r.isSome,.int .i64 (k*l.length),.int .i64 0]),H):=by
 have hR:=zke.1 h;have hb:=zuy vars l h;obtain⟨r',k',h1,h2⟩:=run0 vars l h;obtain⟨_,e⟩:=hr.det h1;have hk:(k:Int)*l.length<=300001*60:=Int.mul_le_mul (by omega) (by omega) (by omega) (by omega)
 have hro:=fun H=>runP_ok l (List.replicate vars 0) vars (zli vars l) hR.2.2.2 (by omega) (by omega) hR.1 hb.1 (by omega) H hr ⟨by simp,fun x hx=>by simp at hx;omega⟩ (by omega)
 have hri:=fun H=>zvy vars l (by omega) (fun c hc=>by have:=(hR.2.2.2 c hc).len;omega) H
 have hrep:List.replicate vars [AV.int .i64 0]=zbe (List.replicate vars 0):=by simp[zbe]
 rw[zy2];simp only[↓reduceIte,go_sem,hri,h,ya4 vars l h,show (vars:Int)<=1073741824 by omega,hro,hrep]
end Go.Ab
end
section
set_option linter.unusedVariables false
set_option linter.unusedSimpArgs false
set_option maxRecDepth 100000
set_option maxHeartbeats 2000000
namespace Go.Ab
open Go.RowKit Go.Proofs
@[go_sem] theorem cocs_over(a b c d e f:AV)(x:Co):over [a,b,c,d,e,f] 0 x.cs=x.cs:=by rcases x with⟨⟨k,n,ks⟩,⟨k2,n2,ks2⟩⟩;rfl
theorem zpg(n:Nat)(l:List Co):∀a∈(Co.css l).flatten,Lt n a:=by
 intro a ha;obtain⟨e,he,h2⟩:=List.mem_flatten.1 ha;obtain⟨x,_,rfl⟩:=List.mem_map.1 he;rcases List.mem_append.1 h2 with h|h
 ·exact z8i n x.a a h
 ·exact z8i n x.b a h
def zpm(cons:List Co)(z:List Bool):List AV:=[.sl (Co.css cons),.sl (bls z)]
theorem zrk(cons:List Co)(z:List Bool)(l:Lv)(hl:l.ok)(H:List AO):F zba [.agg (zpm cons z),.agg l.cs] H=some (.ret (.sl (At.css (zbv (zcx l z)))),H):=by
 have hF:=fun H=>z5c l hl z H
 have hg:=zsb l z;have loop:∀(so po:List Int) (ver:Nat),(zcx l z).o=po++so->zdc H (H++[.lst 0 2 [],.lst ver 2 (At.css (⟨0,(zcx l z).c⟩::zhk po 1))]) (.ol (H.length+1) ver) (.sl (zbe (zcx l z).o)) (.int .i64 (zcx l z).o.length) (.int .i64 po.length)=some (.ret (.sl (At.css (zbv (zcx l z)))),H):=by
  generalize zcx l z=f at hg ⊢;intro so
  induction so with
  |nil=>
   intro po ver h;rw[List.append_nil]at h;subst h;rw[zdc,zab];simp only[↓reduceIte,go_sem,Fl.cs,zbv]
  |cons x so ih=>
   intro po ver h;have hga:f.o[po.length]?=some x:=by rw[h];simp
   have hp:po.length<f.o.length:=by rw[h];simp
   have hlen:=zxj po 1;rw[zdc,zab];by_cases hx:0<=x
   ·have h1:=ih (po++[x]) (ver+1) (by rw[h];simp)
    rw[zvu,if_pos hx]at h1;have hs:At.css ({ v:=0,o:=f.c } :: zhk po 1)++[[.int .i64 ((po.length:Int)+1),.int .i64 x]]=At.css ({ v:=0,o:=f.c } :: (zhk po 1++[⟨1+po.length,x⟩])):=by
     rw[<- List.cons_append,<- z8w,Int.add_comm];rfl
    simp only[zah,Fl.cs]at h1;simp only[↓reduceIte,go_sem,Fl.cs,show (po.length:Int)<(f.o.length:Int) by omega,hga,hx,zad (n:=po.length) (by omega),hs,List.length_cons,show (zhk po 1).length<=1073741822 by omega,h1]
   ·have h1:=ih (po++[x]) ver (by rw[h];simp)
    rw[zvu,if_neg hx,List.append_nil]at h1;simp only[zah,Fl.cs]at h1;simp only[↓reduceIte,go_sem,Fl.cs,show (po.length:Int)<(f.o.length:Int) by omega,hga,hx,zad (n:=po.length) (by omega),h1]
 have h1:=loop (zcx l z).o [] 0 rfl;have e:At.css [⟨0,(zcx l z).c⟩]=[[.int .i64 0,.int .i64 (zcx l z).c]]:=rfl;simp only[List.length_nil,Int.natCast_zero,zhk,e]at h1;rw[zni];simp only[↓reduceIte,go_sem,zpm,hF];exact h1
abbrev encC(c:Cl):List AV:=[.agg c.cs]
def clV(cons:List Co)(z:List Bool):AV:=.fn (.func zau) [] [.fp (zpm cons z)]
theorem zvr(cons:List Co)(z:List Bool)(H:List AO):F zcn [.agg (zpm cons z)] H=some (.ret (clV cons z),H):=by
 have hcs:∀n,∀a∈(Co.css cons).flatten,Lt n a:=fun n=>zpg n cons
 rw[zlw];simp only[↓reduceIte,go_sem,clV,zpm];exact if_pos (.fn (by simp) (by intro x hx;simp at hx;subst hx;exact .fp (by intro a ha;simp at ha;rcases ha with rfl|rfl;exact .sl (hcs _);exact .sl (bls_lt _ z))))
theorem yjo(cons:List Co)(hcons:∀c∈cons,c.ok)(hcl:cons.length<=60)(z:List Bool)(hz:z.length<=5):yee (clV cons z) encC (zd8 cons z):=by
 intro S E y m W WE stp hy s X r hr;have hone:=hy.one;have hcell:y.cells=[y]:=by cases y <;> first|rfl|(simp[AV.one]at hone)
 unfold AV.cells at hcell;unfold AV.one at hone;have fin:=fun r=>zxx hy s r X []
 simp only[List.append_nil]at fin;have loop1:∀(i:Nat) (fb:Fl) (L:List At) (rest:List Cl),i<1000->L.length<=1000 ->
   (∀a:S,zlc stp rest a=some r->zbf (W s++X) (W a++X) y (.fp (zpm cons z)) (.sl (Co.css cons)) (.int .i64 cons.length) (.int .i64 (i+1))=some (.ret (.tup []),hp W WE r++X)) ->
   ∀(t p:List At),L=p++t->∀(a:S),zlc stp (t.map (fun a=>(⟨zbv fb,a⟩:Cl))++rest) a=some r->zcc (W s++X) (W a++X) y (.fp (zpm cons z)) (.sl (At.css (zbv fb))) (.sl (Co.css cons)) (.int .i64 cons.length) (.int .i64 i) (.sl (At.css L)) (.int .i64 L.length) (.int .i64 p.length)=some (.ret (.tup []),hp W WE r++X):=by
  intro i fb L rest hi hL hrest t
  induction t with
  |nil=>
   intro p h a hq;rw[List.append_nil]at h;subst h;have h1:=hrest a (by simpa using hq)
   rw[zcc,zab];simp only[↓reduceIte,go_sem,zad (n:=i) (by omega),h1]
  |cons x t ih=>
   intro p h a hq;have hga:L[p.length]?=some x:=by rw[h];simp
   have hpl:p.length<L.length:=by rw[h];simp
   rw[List.map_cons,List.cons_append,zlc]at hq
   cases hst:stp a ⟨zbv fb,x⟩ with
   |none=>rw[hst]at hq;cases hq
   |some q=>
   rw[hst]at hq;have hc:=hy.call a ⟨zbv fb,x⟩ X q hst;simp only[encC,Cl.cs]at hc;rw[zcc,zab]
   cases q with
   |inl b=>
    have ih:=ih (p++[x]) (by rw[h];simp) b hq
    simp only[zfa,zah]at hc ih;simp only[↓reduceIte,go_sem,At.cs,show (p.length:Int)<(L.length:Int) by omega,hga,hc,isL,zad (n:=p.length) (by omega),ih]
   |inr e=>
    cases hq;simp only[zpx]at hc
    simp only[↓reduceIte,go_sem,At.cs,show (p.length:Int)<(L.length:Int) by omega,hga,hc,isL]
    exact fin (.inr e)
 have loop2:∀(t p:List Co),cons=p++t->∀(a:S),zlc stp (t.flatMap (conC z)) a=some r->zbf (W s++X) (W a++X) y (.fp (zpm cons z)) (.sl (Co.css cons)) (.int .i64 cons.length) (.int .i64 p.length)=some (.ret (.tup []),hp W WE r++X):=by
  intro t
  induction t with
  |nil=>
   intro p h a hq;rw[List.append_nil]at h;subst h;rw[List.flatMap_nil,zlc]at hq;cases hq;rw[zbf,zab];simp only[↓reduceIte,go_sem];exact fin (.inl a)
  |cons c t ih=>
   intro p h a hq;have hga:cons[p.length]?=some c:=by rw[h];simp
   have hpl:p.length<cons.length:=by rw[h];simp
   have hx:=hcons c (by rw[h];simp)
   have hA:=fun H=>zrk cons z c.a hx.1 H
   have hB:=fun H=>zrk cons z c.b hx.2 H
   have h0:=loop1 p.length (zcx c.b z) (zbv (zcx c.a z)) (t.flatMap (conC z)) (by omega) (by have:=zkc c.a z;omega) (fun b hb=>by
    have:=ih (p++[c]) (by rw[h];simp) b hb
    simpa only[zah] using this) (zbv (zcx c.a z)) [] rfl a (by rw[List.flatMap_cons,conC]at hq;exact hq)
   simp only[List.length_nil,Int.natCast_zero]at h0;unfold zpm at hA hB h0 ⊢;rw[zbf,zab];simp only[↓reduceIte,go_sem,show (p.length:Int)<(cons.length:Int) by omega,hga,hA,hB,h0]
 have loop0:∀(t p:List Bool),z=p++t->∀(a:S),zlc stp (z9i t ((p.length:Int)+1)++cons.flatMap (conC z)) a=some r->zbg (W s++X) (W a++X) y (.fp (zpm cons z)) (.sl (bls z)) (.int .i64 z.length) (.int .i64 p.length)=some (.ret (.tup []),hp W WE r++X):=by
  intro t
  induction t with
  |nil=>
   intro p h a hq;rw[List.append_nil]at h;have h2:=loop2 cons [] rfl a (by simpa [z9i] using hq)
   simp only[List.length_nil,Int.natCast_zero]at h2;unfold zpm at h2 ⊢;rw[zbg,zab,h];rw[h]at h2;simp only[↓reduceIte,go_sem,h2]
  |cons b t ih=>
   intro p h a hq;have hga:z[p.length]?=some b:=by rw[h];simp
   have hpl:p.length<z.length:=by rw[h];simp
   have e1:(((p++[b]).length:Int)+1)=(p.length:Int)+1+1:=by simp
   rw[z9i]at hq;cases b
   ·rw[if_neg (by simp),List.cons_append,zlc]at hq
    cases hst:stp a ⟨[⟨(p.length:Int)+1,0⟩],⟨0,1⟩⟩ with
    |none=>rw[hst]at hq;cases hq
    |some q=>
    rw[hst]at hq;have hc:=hy.call a ⟨[⟨(p.length:Int)+1,0⟩],⟨0,1⟩⟩ X q hst;simp only[encC,Cl.cs,At.css,List.map_cons,List.map_nil,At.cs]at hc;unfold zpm at ih ⊢;rw[zbg,zab]
    cases q with
    |inl c=>
     have ih:=ih (p++[false]) (by rw[h];simp) c (by rw[e1];exact hq)
     simp only[zfa,zah]at hc ih;simp only[↓reduceIte,go_sem,show (p.length:Int)<(z.length:Int) by omega,hga,hc,isL,zad (n:=p.length) (by omega),ih]
    |inr e=>
     cases hq;simp only[zpx]at hc
     simp only[↓reduceIte,go_sem,show (p.length:Int)<(z.length:Int) by omega,hga,hc,isL,zad (n:=p.length) (by omega)]
     exact fin (.inr e)
   ·rw[if_pos rfl]at hq
    have ih:=ih (p++[true]) (by rw[h];simp) a (by rw[e1];exact hq)
    unfold zpm at ih ⊢;simp only[zah]at ih;rw[zbg,zab];simp only[↓reduceIte,go_sem,show (p.length:Int)<(z.length:Int) by omega,hga,zad (n:=p.length) (by omega),ih]
 simp only[clV,zgh,List.cons_append,List.nil_append];show F zau _ _=_;rw[zk1];have:=loop0 z [] rfl s hr;unfold zpm at this ⊢;simp only[↓reduceIte,go_sem];exact this
end Go.Ab
end
section
set_option linter.unusedVariables false
set_option linter.unusedSimpArgs false
set_option maxRecDepth 100000
set_option maxHeartbeats 2000000
namespace Go.Ab
open Go.RowKit Go.Proofs
def yjv(n:Nat)(p:Nat×List Cl):List AO:=[.lst p.1 3 (Cl.css p.2),.box [.ol n p.1]]
def appJ(p:Nat×List Cl)(x:Cl):Option ((Nat×List Cl) ⊕ Empty):=if p.2.length<1073741823 then some (.inl (p.1+1,p.2++[x])) else none
theorem app_ys(H:List AO):Ys (.yd (H.length+2+1)) (H.length+2+2) encC (fun p=>H++(yjv H.length p++[.dfr,.slp .ready 13 [(2,.ptr (H.length+1) 0)] [7] zat zas])) (fun e:Empty=>H++(noE e++[.dfr,.slp (.done (noE e)) 13 [(2,.ptr (H.length+1) 0)] [7] zat zas])) appJ:=by
 refine z3c H 2 encC (yjv H.length) noE noE appJ 13 [(2,.ptr (H.length+1) 0)] [7] zat zas zi9 zi8 (fun _=>rfl) ?_ ?_ ?_ ?_
 ·rintro (p|e)
  ·rfl
  ·exact e.elim
 ·rintro s (p|e) i o ho
  ·match i,ho with
   |0,ho=>simp[zfa,yjv]at ho;subst ho;exact .inr fun a ha=>zzv _ _ a ha
   |1,ho=>simp[zfa,yjv]at ho;subst ho;exact .inr fun a ha=>by simp at ha;subst ha;exact .ol (by omega)
   |j+2,ho=>simp[zfa,yjv]at ho
  ·exact e.elim
 ·intro p hp;simp at hp;subst hp;exact .ptr (by omega)
 ·rintro ⟨ver,es⟩ x X r hst
  refine⟨[],?_⟩;unfold appJ at hst;dsimp only at hst
  split at hst
  ·rename_i h2
   cases hst;simp only[↓reduceIte,go_sem,yjv,encC,z31,isL,show es.length<=1073741823 by omega,zxe]
  ·cases hst
theorem z61:∀(xs:List Cl) (ver:Nat) (es:List Cl),es.length+xs.length<=1073741823->∃v,zlc appJ xs (ver,es)=some (.inl (v,es++xs))
 |[],ver,es,_=>⟨ver,by simp[zlc]⟩
 |x::r,ver,es,h=>by
  simp at h;obtain⟨v,hv⟩:=z61 r (ver+1) (es++[x]) (by simp;omega)
  refine⟨v,?_⟩;rw[zlc];unfold appJ;dsimp only;rw[if_pos (by omega)]
  rw[List.append_assoc]at hv;exact hv
theorem zvp(k:FuncId)(c:AV)(cap:List AV)(xs:List Cl)(hs:yee (.fn (.func k) [] (c::cap)) encC xs)(hx:xs.length<=1073741823)(H:List AO):
  ∃v J,FK zbs [.fn (.func k) [] (c::cap)] H=some (.ret (.ol H.length v),H++(.lst v 3 (Cl.css xs)::J)):=by
 obtain⟨v,hv⟩:=z61 xs 0 [] (by simpa using hx)
 have hr:=hs _ _ _ _ _ _ _ (app_ys H) (0,[]) [] _ hv;have he:=zss (H:=H) (DR:=yjv H.length (v,xs)) (k:=2) rfl (st:=.ready) (nn:=13) (t:=[(2,.ptr (H.length+1) 0)]) (ps:=[7]) (asg:=zat) (body:=zas);have e0:Cl.css []=[]:=rfl;simp only[zfa,yjv,zgh,List.cons_append,List.nil_append,List.append_nil,Nat.add_assoc,Nat.reduceAdd,e0]at hr he;have hA:∃J,FK za0 [.nils 3,.fn (.func k) [] (c::cap)] H=some (.ret (.ol H.length v),H++(.lst v 3 (Cl.css xs)::J)):=by
  rw[zld];simp only[↓reduceIte,go_sem,hr,he,List.mem_cons,List.not_mem_nil,or_false,forall_eq,List.nodup_cons,List.nodup_nil,not_false_eq_true,and_self];exact⟨_,rfl⟩
 obtain⟨J,hA⟩:=hA;refine⟨v,J,?_⟩;rw[zmt];simp only[↓reduceIte,go_sem,hA]
theorem z0l(z:List Bool)(hz:z.length<=5)(m:List Int)(hm:m.length=z.length+1)(hb:okM (z.length+1) m):∀(s p:List Bool),z=p++s->∀(o:List Int),o.length=z.length->∃vs,∀(H K:List AO),
  zb2 H (H++(K++[.lst 0 1 (zbe o)])) (.sl (zbe m)) (.ol (H.length+K.length) 0) (.sl (bls z)) (.int .i64 z.length) (.int .i64 p.length)=some (.ret (.tup [.sl (zbe vs),.bool true]),H):=by
 have g0:=hb.get (v:=0) (by omega) (by omega)
 have e0:m[0]?=some (gI m 0):=g0.1;have lX:∀(H K:List AO) o,(H++(K++[o]))[H.length+K.length]?=some o:=fun H K o=>by
  rw[List.getElem?_append_right (by omega),List.getElem?_append_right (by omega)];simp
 have lS:∀(H K:List AO) o o',(H++(K++[o])).set (H.length+K.length) o' = H++(K++[o']):=fun H K o o'=>by
  rw[List.set_append_right _ _ (by omega),List.set_append_right _ _ (by omega)];simp
 intro s
 induction s with
 |nil=>
  intro p h o ho;rw[List.append_nil]at h;subst h;refine⟨o,fun H K=>?_⟩
  rw[zb2,zab];simp only[↓reduceIte,go_sem,lX,lS]
 |cons x s ih=>
  intro p h o ho;have hga:z[p.length]?=some x:=by rw[h];simp
  have hp:p.length<z.length:=by rw[h];simp
  have g1:=hb.get (v:=(p.length:Int)+1) (by omega) (by omega)
  have hnn:(0:Int)<=(p.length:Int)+1:=by omega
  have hpo:p.length<o.length:=by omega
  cases x
  ·obtain⟨vs,h1⟩:=ih (p++[false]) (by rw[h];simp) (o.set p.length (gI m 0 - gI m ((p.length:Int)+1))) (by simpa using ho)
   refine⟨vs,fun H K=>?_⟩
   have h1:=h1 H K;have hset:(zbe o).set p.length [.int .i64 (gI m 0 - gI m ((p.length:Int)+1))]=zbe (o.set p.length (gI m 0 - gI m ((p.length:Int)+1))):=by simp[zbe,List.map_set]
   obtain⟨w,hw⟩:∃w,o[p.length]?=some w:=⟨o[p.length],by simp[hpo]⟩
   simp only[zah]at h1;rw[zb2,zab];simp only[↓reduceIte,go_sem,lX,lS,show (p.length:Int)<(z.length:Int) by omega,hga,e0,hnn,g1.1,hpo,hw,zad (n:=p.length) (by omega),zap (n:=gI m 0 - gI m ((p.length:Int)+1)) (by omega) (by omega),hset,h1]
  ·obtain⟨vs,h1⟩:=ih (p++[true]) (by rw[h];simp) o ho
   refine⟨vs,fun H K=>?_⟩
   have h1:=h1 H K;simp only[zah]at h1;rw[zb2,zab];simp only[↓reduceIte,go_sem,show (p.length:Int)<(z.length:Int) by omega,hga,zad (n:=p.length) (by omega),h1]
theorem z69(cons:List Co)(hcons:∀c∈cons,c.ok)(hcl:cons.length<=8)(z:List Bool)(hz:z.length<=5)(more:List Cl)(hm:more.length<=1000)(hR:znu ((z.length+1:Nat):Int) (zd8 cons z++more)=true){r:Option (List Int)}{k:Nat}(hr:RunS (zd8 cons z++more) (zli ((z.length+1:Nat):Int) (zd8 cons z++more)) (List.replicate (z.length+1) 0) r k):
  ∃vs,∀(H:List AO),F zc3 [.agg (zpm cons z),.sl (Cl.css more)] H=some (.ret (.tup [.sl (zbe vs),.bool r.isSome]),H):=by
 have hlen:=zs2 cons z
 cases r with
 |none=>
  refine⟨[],fun H=>?_⟩
  obtain⟨v,J,hC⟩:=zvp zau (.fp (zpm cons z)) [] (zd8 cons z) (yjo cons hcons (by omega) z hz) (by omega) (H++[.lst 0 1 []])
  simp only[List.append_assoc,List.cons_append,List.nil_append,List.length_append,List.length_cons,List.length_nil,Nat.zero_add]at hC;have hcl:=fun H=>zvr cons z H
  have hS:=fun H=>z25 (z.length+1) (zd8 cons z++more) hR hr H
  simp only[Int.natCast_add,Int.natCast_one]at hS;rw[zg4];unfold clV at hcl;unfold zpm at hC hcl ⊢;have hap:Cl.css (zd8 cons z)++Cl.css more=Cl.css (zd8 cons z++more):=by simp[Cl.css]
  have h3:(∀x:List AV,x∈Cl.css more->x.length=3)=True:=eq_true (by intro x hx;obtain⟨z,_,rfl⟩:=List.mem_map.1 hx;rfl)
  simp only[↓reduceIte,go_sem,hcl,hC,hap,h3,show (zd8 cons z).length+more.length<=1073741824 by omega,zad (n:=z.length) (by omega),hS,Option.isSome,yeq,zhh]
 |some m=>
  have hmo:=run_okM hR hr;obtain⟨vs,hL⟩:=z0l z hz m hmo.1 hmo z [] rfl (List.replicate z.length 0) (by simp)
  have hrep:List.replicate z.length [AV.int .i64 0]=zbe (List.replicate z.length 0):=by simp[zbe]
  refine⟨vs,fun H=>?_⟩
  obtain⟨v,J,hC⟩:=zvp zau (.fp (zpm cons z)) [] (zd8 cons z) (yjo cons hcons (by omega) z hz) (by omega) (H++[.lst 0 1 []])
  simp only[List.append_assoc,List.cons_append,List.nil_append,List.length_append,List.length_cons,List.length_nil,Nat.zero_add]at hC;have hcl:=fun H=>zvr cons z H
  have hS:=fun H=>z25 (z.length+1) (zd8 cons z++more) hR hr H
  simp only[Int.natCast_add,Int.natCast_one]at hS;rw[zg4];unfold clV at hcl;unfold zpm at hC hcl ⊢;have hap:Cl.css (zd8 cons z)++Cl.css more=Cl.css (zd8 cons z++more):=by simp[Cl.css]
  have h3:(∀x:List AV,x∈Cl.css more->x.length=3)=True:=eq_true (by intro x hx;obtain⟨z,_,rfl⟩:=List.mem_map.1 hx;rfl)
  have hL:=hL H (AO.lst 0 1 [] :: .dead::J);simp only[List.append_assoc,List.cons_append,List.nil_append,List.length_append,List.length_cons,List.length_nil,Nat.zero_add,Nat.add_assoc,Nat.reduceAdd,Int.natCast_zero]at hL;simp only[↓reduceIte,go_sem,hcl,hC,hap,h3,show (zd8 cons z).length+more.length<=1073741824 by omega,zad (n:=z.length) (by omega),hS,Option.isSome,yeq,show (z.length:Int)<=1073741824 by omega,hrep]
  exact hL
theorem leq1_in(cons:List Co)(hcons:∀c∈cons,c.ok)(hcl:cons.length<=8)(z:List Bool)(hz:z.length<=5)(a b:Lv)(x:At)(hx:x∈zbv (zcx a z)):
  ∃vs is,(is=true ↔ ztm (z.length+1) (zv5 cons z b x))/\∀(G:List AO) (B:AV) (q:Nat) (hq:q<1000) (J:List AO) (t p:List At),zbv (zcx b z)=p++t->∀ver,
   zhl G (G++(J++[.lst ver 3 (Cl.css (ztf x p))])) B (.ol (G.length+J.length) ver) (.sl (At.css (zbv (zcx a z)))) (.int .i64 (zbv (zcx a z)).length) (.int .i64 q) (.sl (At.css (zbv (zcx b z)))) (.int .i64 (zbv (zcx b z)).length) (.int .i64 p.length) (zpm cons z) x.cs =
   if is=true then some (.ret (.tup [.sl (zbe vs),.bool true]),G) else zd5 G (G++(J++[.dead])) B (.sl (At.css (zbv (zcx a z)))) (.int .i64 (zbv (zcx a z)).length) (.int .i64 (q+1)) (zpm cons z):=by
 have hright:=z3x cons hcl z hz a b x hx;obtain⟨r,k,hr,_⟩:=run0 (z.length+1) _ hright;have hbl:=zkc b z;obtain⟨vs,hV⟩:=z69 cons hcons hcl z hz (ztf x (zbv (zcx b z))) (by simp only[ztf,List.length_map];omega) hright hr
 refine⟨vs,r.isSome,?_,?_⟩
 ·constructor
  ·intro h
   cases r with
   |none=>cases h
   |some m=>exact⟨m,k,hr⟩
  ·rintro ⟨m,k',h2⟩
   rw[(hr.det h2).1];rfl
 intro G B q hq J t;have hV:=hV (G++(J++[.dead]))
 induction t with
 |nil=>
  intro p h ver;rw[List.append_nil]at h;rw[h]at hV ⊢;have lX:∀o,(G++(J++[o]))[G.length+J.length]?=some o:=fun o=>by
   rw[List.getElem?_append_right (by omega),List.getElem?_append_right (by omega)];simp
  have lS:∀o o',(G++(J++[o])).set (G.length+J.length) o' = G++(J++[o']):=fun o o'=>by
   rw[List.set_append_right _ _ (by omega),List.set_append_right _ _ (by omega)];simp
  unfold zpm at hV ⊢;rw[zhl,zab];simp only[↓reduceIte,go_sem,lX,lS,hV,zad (n:=q) (by omega)]
 |cons y t ih=>
  intro p h ver;have hga:(zbv (zcx b z))[p.length]?=some y:=by rw[h];simp
  have hpl:p.length<(zbv (zcx b z)).length:=by rw[h];simp
  have hy:=zoy b z y (by rw[h];simp)
  have ih:=ih (p++[y]) (by rw[h];simp) (ver+1)
  have lX:∀o,(G++(J++[o]))[G.length+J.length]?=some o:=fun o=>by
   rw[List.getElem?_append_right (by omega),List.getElem?_append_right (by omega)];simp
  have lS:∀o o',(G++(J++[o])).set (G.length+J.length) o' = G++(J++[o']):=fun o o'=>by
   rw[List.set_append_right _ _ (by omega),List.set_append_right _ _ (by omega)];simp
  have hml:(ztf x p).length<=1073741823:=by simp only[ztf,List.length_map];omega
  rw[z7x,<- zxe]at ih;simp only[zah]at ih;rw[zhl,zab];simp only[↓reduceIte,go_sem,At.cs,lX,lS,show (p.length:Int)<((zbv (zcx b z)).length:Int) by omega,hga,zad (n:=p.length) (by omega),hml,zap (n:=y.o+1) (by omega) (by omega)]
  exact ih
theorem leq1_ok(cons:List Co)(hcons:∀c∈cons,c.ok)(hcl:cons.length<=8)(z:List Bool)(hz:z.length<=5)(a b:Lv)(ha:a.ok)(hb:b.ok):
  ∃vs is,(is=true ↔ zzy cons a b z)/\∀(G:List AO) (A B:Nat) (hA:G[A]?=some (.box a.cs)) (hB:G[B]?=some (.box b.cs)),F zgo [.agg (zpm cons z),.ptr A 0,.ptr B 0] G=some (.ret (.tup [.sl (zbe vs),.bool is]),G):=by
 have hat:=fun H=>zrk cons z a ha H
 have hbt:=fun H=>zrk cons z b hb H
 have hla:=zkc a z;have loop:∀(s q:List At),zbv (zcx a z)=q++s->∃vs is,(is=true ↔ ∃x∈s,ztm (z.length+1) (zv5 cons z b x))/\∀(G:List AO) (B:Nat) (hB:G[B]?=some (.box b.cs)) (J:List AO),
   zd5 G (G++J) (.ptr B 0) (.sl (At.css (zbv (zcx a z)))) (.int .i64 (zbv (zcx a z)).length) (.int .i64 q.length) (zpm cons z)=some (.ret (.tup [.sl (zbe vs),.bool is]),G):=by
  intro s
  induction s with
  |nil=>
   intro q h;rw[List.append_nil]at h;refine⟨[],false,by simp,fun G B hB J=>?_⟩
   unfold zpm;rw[zd5,zab,h];simp only[↓reduceIte,go_sem,zhh]
  |cons x s ih=>
   intro q h;have hga:(zbv (zcx a z))[q.length]?=some x:=by rw[h];simp
   have hql:q.length<(zbv (zcx a z)).length:=by rw[h];simp
   obtain⟨vs,is,h1,h2⟩:=leq1_in cons hcons hcl z hz a b x (by rw[h];simp)
   obtain⟨vs',is',h4,h5⟩:=ih (q++[x]) (by rw[h];simp)
   simp only[zah]at h5;have key:∀(G:List AO) (B:Nat) (hB:G[B]?=some (.box b.cs)) (J:List AO),zd5 G (G++J) (.ptr B 0) (.sl (At.css (zbv (zcx a z)))) (.int .i64 (zbv (zcx a z)).length) (.int .i64 q.length) (zpm cons z)=if is=true then some (.ret (.tup [.sl (zbe vs),.bool true]),G) else zd5 G (G++(J++[.dead])) (.ptr B 0) (.sl (At.css (zbv (zcx a z)))) (.int .i64 (zbv (zcx a z)).length) (.int .i64 (q.length+1)) (zpm cons z):=by
    intro G B hB J;have hBl:=(List.getElem?_eq_some_iff.1 hB).1;have h3:=h2 G (.ptr B 0) q.length (by omega) J (zbv (zcx b z)) [] rfl 0
    have em:Cl.css (ztf x [])=[]:=rfl;simp only[em,List.length_nil,Int.natCast_zero]at h3;have hBJ:(G++J)[B]?=some (.box b.cs):=by rw[List.getElem?_append_left hBl];exact hB
    have hBK:∀o,(G++(J++[o]))[B]?=some (.box b.cs):=fun o=>by rw[List.getElem?_append_left hBl];exact hB
    rw[<- h3];unfold zpm at hbt ⊢;rw[zd5,zab];simp only[↓reduceIte,go_sem,show (q.length:Int)<((zbv (zcx a z)).length:Int) by omega,hga,hbt,hBJ,hBK]
   cases is with
   |true=>exact⟨vs,true,by simp[h1.1 rfl],fun G B hB J=>by rw[key G B hB J];simp⟩
   |false=>
    refine⟨vs',is',?_,fun G B hB J=>by rw[key G B hB J];simpa using h5 G B hB (J++[.dead])⟩
    rw[h4];have hn:¬ ztm (z.length+1) (zv5 cons z b x):=fun k=>by have:=h1.2 k;cases this
    simp[hn]
 obtain⟨vs,is,h1,h2⟩:=loop (zbv (zcx a z)) [] rfl;refine⟨vs,is,h1,fun G A B hA hB=>?_⟩
 have h2:=h2 G B hB [];simp only[List.append_nil,List.length_nil,Int.natCast_zero]at h2;unfold zpm at hat h2 ⊢;rw[zyw];simp only[↓reduceIte,go_sem,hA,hat];exact h2
end Go.Ab
end
section
set_option linter.unusedVariables false
set_option linter.unusedSimpArgs false
set_option maxRecDepth 100000
set_option maxHeartbeats 2000000
namespace Go.Ab
open Go.RowKit Go.Proofs
def zll(cons:List Co)(out:List Int)(is:Bool):List AO:=[.box [.sl (Co.css cons)],.box [.sl (zbe out)],.box [.bool is]]
def znr(tf:AV)(n:Nat):List (Nat×AV):=[(3,.ptr n 0),(5,.fp [tf]),(6,.ptr (n+1) 0),(7,.ptr (n+2) 0)]
def zw7(p:Nat)(bf:List Bool->Bool)(_:Unit)(z:List Bool):Option (Unit ⊕ List Bool):=if z.length=p then (if bf z=true then some (.inr z) else some (.inl ())) else none
theorem ycp(n:Nat)(cons:List Co)(out:List Int)(is:Bool):∀o∈zll cons out is,LtO n o:=by
 intro o ho;simp[zll]at ho;rcases ho with rfl|rfl|rfl
 ·intro a ha;simp at ha;subst ha;exact .sl (zpg n cons)
 ·intro a ha;simp at ha;subst ha;exact .sl (zq4 n out)
 ·intro a ha;simp at ha;subst ha;exact .bool _
theorem ygv(cons:List Co)(k:FuncId)(c:AV)(cap:List AV)(p:Nat)(vf:List Bool->List Int)(bf:List Bool->Bool)(H:List AO)(hlt:Lt H.length (.fn (.func k) [] (c::cap)))
  (ht:∀z:List Bool,z.length=p->∀X,cfl T (.fn (.func k) [] (c::cap)) [.agg (zpm cons z)] (H++X)=some (.ret (.tup [.sl (zbe (vf z)),.bool (bf z)]),H++X)) :
  Ys (.yd (H.length+3+1)) (H.length+3+2) encZ (fun _=>H++(zll cons [] false++[.dfr,.slp .ready 24 (znr (.fn (.func k) [] (c::cap)) H.length) [13] zct zcm])) (fun z=>H++(zll cons (vf z) true++[.dfr,.slp (.done .ret) 24 (znr (.fn (.func k) [] (c::cap)) H.length) [13] zct zcm])) (zw7 p bf):=by
 refine z3c H 3 encZ (fun _=>zll cons [] false) (fun z=>zll cons (vf z) true) (fun _=>.ret) (zw7 p bf) 24 (znr (.fn (.func k) [] (c::cap)) H.length) [13] zct zcm zry zrw (fun _=>rfl) ?_ ?_ ?_ ?_
 ·rintro (q|e) <;> rfl
 ·rintro s (q|e) i o ho
  ·exact .inl ho
  ·exact .inr (ycp _ cons (vf e) true o (List.mem_of_getElem? ho))
 ·intro q hq
  simp[znr]at hq;rcases hq with rfl|rfl|rfl|rfl
  ·exact .ptr (by omega)
  ·exact .fp (by intro a ha;simp at ha;subst ha;exact hlt.mono (by omega))
  ·exact .ptr (by omega)
  ·exact .ptr (by omega)
 ·rintro ⟨⟩ z X r hst
  refine⟨[],?_⟩;unfold zw7 at hst
  split at hst
  ·rename_i hz
   have h2:=ht z hz (zll cons [] false++(.dfr :: .slp .busy 24 (znr (.fn (.func k) [] (c::cap)) H.length) [13] zct zcm::X));unfold zpm at h2;simp only[zll,znr,zhh,List.cons_append,List.nil_append,zgh]at h2
   cases hb:bf z
   ·rw[hb]at hst h2
    cases hst;simp only[↓reduceIte,go_sem,zll,znr,h2,zhh,encZ,z31,isL]
   ·rw[hb]at hst h2
    cases hst;simp only[↓reduceIte,go_sem,zll,znr,h2,zhh,encZ,z31,isL]
  ·cases hst
theorem z73(p:Nat)(bf:List Bool->Bool):∀(j n:Nat),∃r,zlc (zw7 p bf) (zm2 p n j) ()=some r/\((∃z,r = .inr z/\z∈zm2 p n j/\bf z=true)\/(r = .inl ()/\∀z∈zm2 p n j,bf z=false)):=by
 intro j
 induction j with
 |zero=>intro n;exact⟨_,rfl,.inr ⟨rfl,by simp[zm2]⟩⟩
 |succ j ih=>
  intro n;obtain⟨r,h1,h2⟩:=ih (n+1);rw[zm2,zlc];have e:zw7 p bf () (zfn n p)=if bf (zfn n p)=true then some (.inr (zfn n p)) else some (.inl ()):=by
   unfold zw7;rw[if_pos (zhj n p)]
  rw[e]
  cases hb:bf (zfn n p)
  ·refine⟨r,by simpa using h1,?_⟩
   rcases h2 with⟨z,rfl,h3,h4⟩|⟨rfl,h3⟩
   ·exact .inl ⟨z,rfl,by simp[h3],h4⟩
   ·exact .inr ⟨rfl,by intro z hz;rcases List.mem_cons.1 hz with rfl|hz;exact hb;exact h3 z hz⟩
  ·exact⟨.inr (zfn n p),by simp,.inl ⟨_,rfl,by simp,hb⟩⟩
theorem zxf(p:Nat)(z:List Bool):∀(j n:Nat),z∈zm2 p n j ↔ ∃k,n<=k/\k<n+j/\z=zfn k p:=by
 intro j
 induction j with
 |zero=>intro n;simp only[zm2,List.not_mem_nil,false_iff];rintro ⟨k,h1,h2,_⟩;omega
 |succ j ih=>
  intro n;rw[zm2,List.mem_cons,ih];constructor
  ·rintro (rfl|⟨k,h1,h2,h3⟩)
   ·exact⟨n,by omega,by omega,rfl⟩
   ·exact⟨k,by omega,by omega,h3⟩
  ·rintro ⟨k,h1,h2,h3⟩
   by_cases h:k=n
   ·subst h;exact .inl h3
   ·exact .inr ⟨k,by omega,by omega,h3⟩
theorem yco(cons:List Co)(k:FuncId)(c:AV)(cap:List AV)(p:Nat)(h5:p<=5)(vf:List Bool->List Int)(bf:List Bool->Bool)(H:List AO)(hlt:Lt H.length (.fn (.func k) [] (c::cap)))
  (ht:∀z:List Bool,z.length=p->∀X,cfl T (.fn (.func k) [] (c::cap)) [.agg (zpm cons z)] (H++X)=some (.ret (.tup [.sl (zbe (vf z)),.bool (bf z)]),H++X)) :
  ∃vs is,(is=true ↔ ∃n<2 ^ p,bf (zfn n p)=true)/\F zkf [.sl (Co.css cons),.int .i64 p,.fn (.func k) [] (c::cap)] H=some (.ret (.tup [.sl (zbe vs),.bool is]),H):=by
 obtain⟨r,h1,h2⟩:=z73 p bf (2 ^ p) 0;have hr:=yh3 p h5 _ _ _ _ _ _ _ (ygv cons k c cap p vf bf H hlt ht) () [] r h1;have hAl:=fun H=>AllP_ok p H
 rcases h2 with⟨z,rfl,h3,h4⟩|⟨rfl,h3⟩
 ·refine⟨vf z,true,?_,?_⟩
  ·obtain⟨n,_,h6,h7⟩:=(zxf p z _ _).1 h3
   simp only[true_iff];exact⟨n,by omega,by rw[<- h7];exact h4⟩
  have he:=zss (H:=H) (DR:=zll cons (vf z) true) (k:=3) rfl (st:=.done .ret) (nn:=24) (t:=znr (.fn (.func k) [] (c::cap)) H.length) (ps:=[13]) (asg:=zct) (body:=zcm);simp only[zpx,zll,znr,yjw,zgh,zhh,List.cons_append,List.nil_append,List.append_nil,Nat.add_assoc,Nat.reduceAdd]at hr he;rw[zq8];simp only[↓reduceIte,go_sem,hAl,yjw,hr,he,List.nodup_cons,List.nodup_nil,List.not_mem_nil,not_false_eq_true,and_self]
 ·refine⟨[],false,?_,?_⟩
  ·simp only[Bool.false_eq_true,false_iff]
   rintro ⟨n,hn,hb⟩
   have:=h3 (zfn n p) ((zxf p _ _ _).2 ⟨n,by omega,by omega,rfl⟩)
   rw[hb]at this;cases this
  have he:=zss (H:=H) (DR:=zll cons [] false) (k:=3) rfl (st:=.ready) (nn:=24) (t:=znr (.fn (.func k) [] (c::cap)) H.length) (ps:=[13]) (asg:=zct) (body:=zcm);simp only[zfa,zll,znr,yjw,zgh,zhh,List.cons_append,List.nil_append,List.append_nil,Nat.add_assoc,Nat.reduceAdd]at hr he;rw[zq8];simp only[↓reduceIte,go_sem,hAl,yjw,hr,he,zhh,List.nodup_cons,List.nodup_nil,List.not_mem_nil,not_false_eq_true,and_self]
open Classical in
theorem LeqP_ok(cons:List Co)(hcons:∀c∈cons,c.ok)(p:Nat)(a b:Lv)(ha:a.ok)(hb:b.ok)(hC:zf1 cons p=true)(hA:zax a p 0=true)(hB:zax b p 0=true)(H:List AO):
  ∃vs,F zl4 [.sl (Co.css cons),.int .i64 p,.agg a.cs,.agg b.cs] H=some (.ret (.tup [.bool (z6a cons p a b),.sl (zbe vs),.int .i64 0]),H):=by
 have hc:=hC;simp only[zf1,Bool.and_eq_true,decide_eq_true_eq]at hc;have h5:p<=5:=by omega
 have hr:=fun H=>zty cons (by omega) hcons p H
 have hra:=fun H=>zgi a ha p 0 H
 have hrb:=fun H=>zgi b hb p 0 H
 have hall:∀z:List Bool,∃vb:List Int×Bool,z.length=p->(vb.2=true ↔ zzy cons a b z)/\∀(G:List AO) (A B:Nat) (hA:G[A]?=some (.box a.cs)) (hB:G[B]?=some (.box b.cs)),F zgo [.agg (zpm cons z),.ptr A 0,.ptr B 0] G=some (.ret (.tup [.sl (zbe vb.1),.bool vb.2]),G):=by
  intro z;by_cases hz:z.length=p
  ·obtain⟨vs,is,h1,h2⟩:=leq1_ok cons hcons hc.1.2 z (by omega) a b ha hb
   exact⟨(vs,is),fun _=>⟨h1,h2⟩⟩
  ·exact⟨([],false),fun h=>absurd h hz⟩
 let vb:List Bool->List Int×Bool:=fun z=>Classical.choose (hall z)
 have hvb:∀z,_:=fun z=>Classical.choose_spec (hall z)
 obtain⟨vs,is,h1,h2⟩:=yco cons zgo (.ptr H.length 0) [.ptr (H.length+1) 0] p h5 (fun z=>(vb z).1) (fun z=>(vb z).2) (H++[.box a.cs,.box b.cs]) (.fn (by simp) (by intro x hx;simp at hx;rcases hx with rfl|rfl <;> exact .ptr (by simp))) (fun z hz X=>by
  have:=(hvb z hz).2 (H++[.box a.cs,.box b.cs]++X) H.length (H.length+1) (by simp) (by simp)
  simp only[zgh,List.cons_append,List.nil_append];exact this)
 refine⟨vs,?_⟩;have hl:z6a cons p a b = !is:=by
  rcases his:is with _|_
  ·show _=true
   refine zq3.2 fun n hn hbr=>?_
   have:=h1.2 ⟨n,hn,(hvb _ (zhj n p)).1.2 hbr⟩;rw[his]at this;cases this
  ·show _=false
   obtain⟨n,hn,hb2⟩:=h1.1 his;rcases hq:z6a cons p a b with _|_
   ·rfl
   ·exact absurd ((hvb _ (zhj n p)).1.1 hb2) (zq3.1 hq n hn)
 rw[zvb,hl];simp only[↓reduceIte,go_sem,hr,hra,hrb,hC,hA,hB,h2]
theorem LeqP_er(cons:List Co)(hcons:∀c∈cons,c.ok)(hl:cons.length<=140737488355328)(p:Int)(a b:Lv)(ha:a.ok)(hb:b.ok)(hC:(zf1 cons p && zax a p 0 && zax b p 0)=false)(H:List AO):
  F zl4 [.sl (Co.css cons),.int .i64 p,.agg a.cs,.agg b.cs] H=some (.ret (.tup [.bool false,.sl [],.int .i64 1]),H):=by
 have hr:=fun H=>zty cons hl hcons p H
 have hra:=fun H=>zgi a ha p 0 H
 have hrb:=fun H=>zgi b hb p 0 H
 rw[zvb]
 cases h1:zf1 cons p
 ·simp only[↓reduceIte,go_sem,hr,hra,hrb,h1]
 cases h2:zax a p 0
 ·simp only[↓reduceIte,go_sem,hr,hra,hrb,h1,h2]
 cases h3:zax b p 0
 ·simp only[↓reduceIte,go_sem,hr,hra,hrb,h1,h2,h3]
 ·simp[h1,h2,h3]at hC
end Go.Ab
end
section
set_option linter.unusedVariables false
set_option linter.unusedSimpArgs false
set_option maxRecDepth 100000
set_option maxHeartbeats 2000000
namespace Go.Ab
open Go.RowKit Go.Proofs
theorem zum(k n:Int)(ks:List Lv):(Lv.mk k n ks).ok=(ks.length<=140737488355328/\∀x∈ks,x.ok):=propext ⟨fun h=>⟨h.len,h.all⟩,fun h=>.mk h.1 h.2⟩
theorem zi7(k n:Int)(ls:List Lv)(ks:List Te):(Te.mk k n ls ks).ok=(ks.length<=140737488355328/\ls.length<=140737488355328/\(∀x∈ls,x.ok)/\∀x∈ks,x.ok):=propext ⟨fun h=>⟨h.len,h.len2,h.all2,h.all⟩,fun h=>.mk h.1 h.2.1 h.2.2.1 h.2.2.2⟩
theorem zsq(x y:Te):AV.sl [x.cs,y.cs]=AV.sl (Te.css [x,y]):=rfl
theorem zsp(x y z:Te):AV.sl [x.cs,y.cs,z.cs]=AV.sl (Te.css [x,y,z]):=rfl
theorem z5g{t:Te}(h:t.ok):(zs7 t).1.ok:=by
 unfold zs7
 split
 ·exact h
 ·simp[zeroT,zi7]
theorem z68{t:Te}(h:t.ok)(f b:Int):(zh1 t f b).1.ok:=by
 unfold zh1
 split
 ·simp[zeroT,zi7]
 ·exact z5g (zyd b t h f)
theorem yid{t u:Te}(h:t.ok)(hu:u.ok):(zjp t u).1.ok:=by
 unfold zjp
 split
 ·simp[zeroT,zi7]
 ·exact z5g (z3t u hu t h 0)
theorem zeh(n:Int)(H:List AO):F zkz [.int .i64 n] H=some (.ret (.agg (Te.mk 1 n [] []).cs),H):=by
 rw[z4u];simp only[↓reduceIte,go_sem,Te.cs,Lv.css,Te.css]
theorem zcg(l:Lv)(H:List AO):F zfi [.agg l.cs] H=some (.ret (.agg (Te.mk 2 0 [l] []).cs),H):=by
 rw[z17];simp only[↓reduceIte,go_sem,Te.cs,Lv.css,Te.css]
theorem zd6(k:Int)(ks:List Te)(H:List AO):F zfj [.int .i64 k,.sl (Te.css ks)] H=some (.ret (.agg (Te.mk k 0 [] ks).cs),H):=by
 rw[z18];simp only[↓reduceIte,go_sem,Te.cs,Lv.css]
end Go.Ab
end
