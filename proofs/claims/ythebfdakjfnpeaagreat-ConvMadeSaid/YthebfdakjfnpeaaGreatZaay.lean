/- What the law ConvMade of layer 17 comes to, part 25. Conditions: none. -/
import Derived.Test.YthebfdakjfnpeaaGreatZaaw
section
set_option linter.unusedVariables false
set_option linter.unusedSimpArgs false
set_option maxRecDepth 100000
set_option maxHeartbeats 2000000
namespace Go.Ab
open Go.RowKit Go.Proofs
variable {α S E : Type}
def zm8(stp:S->α->Option (S ⊕ E)):List α->S->Option (S ⊕ E)
 |[],s=>some (.inl s)
 |x::r,s=>match stp s x with
  |some (.inl s')=>zm8 stp r s'
  |some (.inr e)=>some (.inr e)
  |none=>none
theorem z1f(stp:S->α->Option (S ⊕ E)):∀(a b:List α) (s:S),zm8 stp (a++b) s=match zm8 stp a s with
  |some (.inl s')=>zm8 stp b s'
  |some (.inr e)=>some (.inr e)
  |none=>none
 |[],b,s=>rfl
 |x::a,b,s=>by
  rw[List.cons_append,zm8,zm8]
  cases stp s x with
  |none=>rfl
  |some r=>cases r with
   |inl s'=>exact z1f stp a b s'
   |inr e=>rfl
def hp(W:S->List AO)(WE:E->List AO):S ⊕ E->List AO
 |.inl s=>W s
 |.inr e=>WE e
@[go_sem] theorem zfu(W:S->List AO)(WE:E->List AO)(s:S):hp W WE (.inl s)=W s:=rfl
@[go_sem] theorem zry(W:S->List AO)(WE:E->List AO)(e:E):hp W WE (.inr e)=WE e:=rfl
def isL:S ⊕ E->Bool
 |.inl _=>true
 |.inr _=>false
structure Ys (y:AV) (n:Nat) (enc:α->List AV) (W:S->List AO) (WE:E->List AO) (stp:S->α->Option (S ⊕ E)):Prop where
 one:y.one=true
 lt:Lt n y
 len:∀r,(hp W WE r).length=n
 fr:∀s r (id:Nat) (o:AO),(hp W WE r)[id]?=some o->(W s)[id]?=some o\/LtO n o
 call:∀s x X r,stp s x=some r->cfl T y (enc x) (W s++X)=some (.ret (.bool (isL r)),hp W WE r++X)
def yik(fv:AV)(enc:α->List AV)(xs:List α):Prop :=
 ∀(S E:Type) (y:AV) (n:Nat) (W:S->List AO) (WE:E->List AO) (stp:S->α->Option (S ⊕ E)),Ys y n enc W WE stp->∀s X r,zm8 stp xs s=some r->cfl T fv [y] (W s++X)=some (.ret (.tup []),hp W WE r++X)
theorem Lt.mono{n m:Nat}(hm:n<=m){a:AV}(h:Lt n a):Lt m a:=by
 induction h with
 |bool b=>exact .bool b
 |int k x=>exact .int k x
 |str s=>exact .str s
 |nilp=>exact .nilp
 |ptr h=>exact .ptr (by omega)
 |nils z=>exact .nils z
 |sl h ih=>exact .sl ih
 |ol h=>exact .ol (by omega)
 |nilm=>exact .nilm
 |fmap hk hv ihk ihv=>exact .fmap ihk ihv
 |mp h=>exact .mp (by omega)
 |fn ha hb iha ihb=>exact .fn iha ihb
 |nilf=>exact .nilf
 |agg h ih=>exact .agg ih
 |tup h ih=>exact .tup ih
 |iface h ih=>exact .iface ih
 |nili=>exact .nili
 |fp h ih=>exact .fp ih
 |yd h=>exact .yd (by omega)
 |ze=>exact .ze
 |ov h=>exact .ov (by omega)
 |fk k=>exact .fk k
 |junk=>exact .junk
theorem LtO.mono{n m:Nat}(hm:n<=m){o:AO}(h:LtO n o):LtO m o:=by
 cases o with
 |dead=>trivial
 |box cs=>exact fun a ha=>(h a ha).mono hm
 |lst v s es=>exact fun a ha=>(h a ha).mono hm
 |mapo es=>exact⟨fun p hp=>(h.1 p hp).mono hm,fun p hp=>(h.2 p hp).mono hm⟩
 |dfr=>trivial
 |slp st k t ps x y=>exact fun p hp=>(h p hp).mono hm
theorem z1j{H A X J:List AO}{r:Res}(hlen:A.length=H.length)(hfr:∀(id:Nat) (o:AO),A[id]?=some o->H[id]?=some o\/LtO H.length o)(hr:LtR (H++X).length r):ze0 (H++X) r (A++X++J)=some (r,A++X):=by
 unfold ze0;have e:(A++X++J).take (H++X).length=A++X:=List.take_left' (by simp[hlen])
 have hc:∀(id:Nat) (o:AO),(A++X++J)[id]?=some o->id<(H++X).length->(H++X)[id]?=some o\/LtO (H++X).length o:=by
  intro id o ho hi;have hi2:id<(A++X).length:=by rw[List.length_append]at hi ⊢;omega
  rw[List.getElem?_append_left hi2]at ho;by_cases h1:id<A.length
  ·rw[List.getElem?_append_left h1]at ho
   rcases hfr id o ho with k|k
   ·exact .inl (by rw[List.getElem?_append_left (by omega)];exact k)
   ·exact .inr (k.mono (by simp))
  ·rw[List.getElem?_append_right (by omega)]at ho
   exact .inl (by rw[List.getElem?_append_right (by omega),<- hlen];exact ho)
 rw[if_pos ⟨hr,hc⟩,e]
@[go_sem] theorem lt_fp{n:Nat}{l:List AV}:Lt n (.fp l)=∀a∈l,Lt n a:=propext ⟨fun h=>by cases h;assumption,.fp⟩
def z7e(JE:E->Jmp):S ⊕ E->LSt
 |.inl _=>.ready
 |.inr e=>.done (JE e)
theorem yi4{H D D' X J:List AO}{nn:Nat}{t:List (Nat×AV)}{ps:List Nat}{asg body:FC}{st:LSt}{b:Bool}(hl:D'.length=D.length)
  (hfr:∀(i:Nat) (o:AO),D'[i]?=some o->D[i]?=some o\/LtO (H.length+D.length+2) o) (ht:∀p∈t,Lt (H.length+D.length+2) p.2) :
  ztx (H++(D++(.dfr :: .slp .ready nn t ps asg body::X))) (H.length+D.length+1) st b (H++(D' ++ (.dfr :: .slp .busy nn t ps asg body::(X++J))))=some (.ret (.bool b),H++(D' ++ (.dfr :: .slp st nn t ps asg body::X))):=by
 have hg:(H++(D' ++ (.dfr :: .slp .busy nn t ps asg body::(X++J))))[H.length+D.length+1]?=some (.slp .busy nn t ps asg body):=by
  rw[List.getElem?_append_right (by omega),List.getElem?_append_right (by omega),show H.length+D.length+1 - H.length - D'.length=1 by omega];rfl
 rw[z8u hg];have hs:(H++(D' ++ (.dfr :: .slp .busy nn t ps asg body::(X++J)))).set (H.length+D.length+1) (.slp st nn t ps asg body)=(H++(D' ++ (.dfr :: .slp st nn t ps asg body::X)))++J:=by
  rw[List.set_append_right _ _ (by omega),List.set_append_right _ _ (by omega),show H.length+D.length+1 - H.length - D'.length=1 by omega];simp
 rw[hs];unfold ze0;have hlen:(H++(D++(.dfr :: .slp .ready nn t ps asg body::X))).length=(H++(D' ++ (.dfr :: .slp st nn t ps asg body::X))).length:=by simp[hl]
 have hle:H.length+D.length+2<=(H++(D++(AO.dfr :: .slp .ready nn t ps asg body::X))).length:=by simp;omega
 rw[List.take_left' hlen.symm,if_pos];refine⟨.bool _,fun id o ho hi=>?_⟩
 rw[hlen]at hi;rw[List.getElem?_append_left hi]at ho;by_cases h1:id<H.length
 ·rw[List.getElem?_append_left h1]at ho ⊢;exact .inl ho
 rw[List.getElem?_append_right (by omega)]at ho ⊢
 by_cases h2:id - H.length<D.length
 ·rw[List.getElem?_append_left (by omega)]at ho ⊢
  rcases hfr _ _ ho with k|k
  ·exact .inl k
  ·exact .inr (k.mono hle)
 rw[List.getElem?_append_right (by omega),hl]at ho
 rw[List.getElem?_append_right (by omega)]
 match hj:id - H.length - D.length,ho with
 |0,ho=>exact .inl ho
 |1,ho=>simp at ho;subst ho;exact .inr fun p hp=>(ht p hp).mono hle
 |j+2,ho=>exact .inl ho
theorem z6k(H:List AO)(k:Nat)(enc:α->List AV)(D:S->List AO)(DE:E->List AO)(JE:E->Jmp)(stp:S->α->Option (S ⊕ E))(nn:Nat)(t:List (Nat×AV))(ps:List Nat)(asg body:FC)(ha:asg.okd=true)(hb:body.okd=true)(hps:∀x,(enc x).length=ps.length)
  (hk:∀r,(hp D DE r).length=k) (hfr:∀s r (i:Nat) (o:AO),(hp D DE r)[i]?=some o->(D s)[i]?=some o\/LtO (H.length+k+2) o) (ht:∀p∈t,Lt (H.length+k+2) p.2)
  (call:∀s x X r,stp s x=some r->∃J,aw T asg (yK T (H++(D s++(.dfr :: .slp .ready nn t ps asg body::X))) (H.length+k+1) body) ⟨setPs ps (enc x) ⟨nn,yit t⟩,[],H++(D s++(.dfr :: .slp .ready nn t ps asg body::X)),[H.length+k+1]⟩ =
   ztx (H++(D s++(.dfr :: .slp .ready nn t ps asg body::X))) (H.length+k+1) (z7e JE r) (isL r) (H++(hp D DE r++(.dfr :: .slp .busy nn t ps asg body::(X++J))))) :
  Ys (.yd (H.length+k+1)) (H.length+k+2) enc (fun s=>H++(D s++[.dfr,.slp .ready nn t ps asg body])) (fun e=>H++(DE e++[.dfr,.slp (.done (JE e)) nn t ps asg body])) stp:=by
 have hhp:∀r:S ⊕ E,hp (fun s=>H++(D s++[AO.dfr,.slp .ready nn t ps asg body])) (fun e=>H++(DE e++[.dfr,.slp (.done (JE e)) nn t ps asg body])) r=H++(hp D DE r++[.dfr,.slp (z7e JE r) nn t ps asg body]):=fun r=>by cases r <;> rfl
 have hkD:∀s,(D s).length=k:=fun s=>hk (.inl s)
 refine⟨rfl,.yd (by omega),fun r=>?_,fun s r id o ho=>?_,fun s x X r hst=>?_⟩
 ·rw[hhp];have:=hk r;simp;omega
 ·rw[hhp]at ho
  by_cases h1:id<H.length
  ·rw[List.getElem?_append_left h1]at ho ⊢;exact .inl ho
  rw[List.getElem?_append_right (by omega)]at ho ⊢
  by_cases h2:id - H.length<k
  ·rw[List.getElem?_append_left (by rw[hk];omega)]at ho
   rw[List.getElem?_append_left (by rw[hkD];omega)]
   exact hfr s r _ _ ho
  rw[List.getElem?_append_right (by rw[hk];omega),hk]at ho
  rw[List.getElem?_append_right (by rw[hkD];omega),hkD]
  match hj:id - H.length - k,ho with
  |0,ho=>exact .inl ho
  |1,ho=>simp at ho;subst ho;exact .inr ht
  |j+2,ho=>simp at ho
 ·obtain⟨J,e⟩:=call s x X r hst
  rw[hhp];have hg:(H++(D s++(AO.dfr :: .slp .ready nn t ps asg body::X)))[H.length+k+1]?=some (.slp .ready nn t ps asg body):=by
   rw[List.getElem?_append_right (by omega),List.getElem?_append_right (by rw[hkD];omega),hkD,show H.length+k+1 - H.length - k=1 by omega];rfl
  simp only[List.append_assoc,List.cons_append,List.nil_append];rw[yn6 hg (hps x) ha hb,e];have:=yi4 (H:=H) (D:=D s) (D':=hp D DE r) (X:=X) (J:=J) (nn:=nn) (t:=t) (ps:=ps) (asg:=asg) (body:=body) (st:=z7e JE r) (b:=isL r) (by rw[hk,hkD]) (fun i o h=>by rw[hkD];exact hfr s r i o h) (by rw[hkD];exact ht)
  rw[hkD]at this;exact this
theorem zuz{H DR:List AO}{k:Nat}(hk:DR.length=k){st:LSt}{nn:Nat}{t:List (Nat×AV)}{ps:List Nat}{asg body:FC}:
  (H++(DR++[AO.dfr,.slp st nn t ps asg body]))[H.length+k+1]?=some (.slp st nn t ps asg body)/\(H++(DR++[AO.dfr,.slp st nn t ps asg body])).set (H.length+k+1) .dead=H++(DR++[.dfr,.dead]):=by
 constructor
 ·rw[List.getElem?_append_right (by omega),List.getElem?_append_right (by omega),show H.length+k+1 - H.length - DR.length=1 by omega];rfl
 ·rw[List.set_append_right _ _ (by omega),List.set_append_right _ _ (by omega),show H.length+k+1 - H.length - DR.length=1 by omega];rfl
end Go.Ab
end
section
set_option linter.unusedVariables false
set_option linter.unusedSimpArgs false
set_option maxRecDepth 100000
set_option maxHeartbeats 2000000
namespace Go.Ab
open Go.RowKit Go.Proofs
theorem yk8{A A' W Z:List AO}{o o':AO}{r:Res}(hlen:A'.length=A.length)(hfr:∀(id:Nat) (x:AO),A'[id]?=some x->A[id]?=some x\/LtO A.length x)(ho:LtO (A++(W++o::Z)).length o')(hr:LtR (A++(W++o::Z)).length r):
  ze0 (A++(W++o::Z)) r (A' ++ (W++o' :: Z))=some (r,A' ++ (W++o' :: Z)):=by
 unfold ze0;have e:(A' ++ (W++o' :: Z)).take (A++(W++o::Z)).length=A' ++ (W++o' :: Z):=List.take_of_length_le (by simp[hlen])
 have hc:∀(id:Nat) (x:AO),(A' ++ (W++o' :: Z))[id]?=some x->id<(A++(W++o::Z)).length->(A++(W++o::Z))[id]?=some x\/LtO (A++(W++o::Z)).length x:=by
  intro id x hx hi;by_cases h1:id<A'.length
  ·rw[List.getElem?_append_left h1]at hx
   rcases hfr id x hx with k|k
   ·exact .inl (by rw[List.getElem?_append_left (by omega)];exact k)
   ·exact .inr (k.mono (by simp))
  ·rw[List.getElem?_append_right (by omega)]at hx
   rw[List.getElem?_append_right (by omega),<- hlen]
   by_cases h2:id - A'.length<W.length
   ·rw[List.getElem?_append_left h2]at hx ⊢;exact .inl hx
   ·rw[List.getElem?_append_right (by omega)]at hx ⊢
    cases h3:id - A'.length - W.length with
    |zero=>rw[h3]at hx;simp at hx;subst hx;exact .inr ho
    |succ j=>rw[h3]at hx;simp at hx ⊢;exact .inl hx
 rw[if_pos ⟨hr,hc⟩,e]
theorem yeu{A W Z:List AO}{o:AO}:(A++(W++o::Z))[A.length+W.length]?=some o:=by
 rw[List.getElem?_append_right (by omega),List.getElem?_append_right (by omega)];simp
theorem yet{A W Z:List AO}{o p:AO}:(A++(W++o::Z)).set (A.length+W.length) p=A++(W++p::Z):=by
 rw[List.set_append_right _ _ (by omega),List.set_append_right _ _ (by omega)];simp
end Go.Ab
end
section
set_option linter.unusedVariables false
set_option linter.unusedSimpArgs false
set_option maxRecDepth 100000
set_option maxHeartbeats 2000000
namespace Go.Ab
open Go.RowKit Go.Proofs
def jk:Nat->List AO
 |0=>[]
 |m+1=>jk m++[.dfr,.dead]
def dsl(b:Nat):Nat->List Nat
 |0=>[]
 |m+1=>(b+2*m)::dsl b m
theorem zqd:∀m,(jk m).length=2*m
 |0=>rfl
 |m+1=>by rw[jk,List.length_append,zqd m];simp;omega
theorem jk_at(A Z:List AO)(m:Nat):(A++(jk (m+1)++Z))[A.length+2*m]?=some .dfr:=by
 rw[List.getElem?_append_right (by omega),show A.length+2*m - A.length=2*m by omega,jk,List.append_assoc,List.getElem?_append_right (by rw[zqd];omega),zqd]
 simp
theorem zxz(b:Nat):∀m,∀i∈dsl b m,b<=i/\i<b+2*m
 |0,i,h=>by simp[dsl]at h
 |m+1,i,h=>by
  simp[dsl]at h;rcases h with rfl|h
  ·omega
  ·have:=zxz b m i h;omega
theorem z5n(b:Nat):∀m,(dsl b m).Nodup
 |0=>by simp[dsl]
 |m+1=>by
  rw[dsl,List.nodup_cons];exact⟨fun h=>by have:=zxz b m _ h;omega,z5n b m⟩
theorem yg6(A:List AO):∀(m:Nat) (Z:List AO),yi0 (A++(jk m++Z)) (dsl A.length m)=true
 |0,Z=>rfl
 |m+1,Z=>by
  rw[dsl,yi0,jk_at];dsimp only;have:=yg6 A m ([.dfr,.dead]++Z);rw[jk,List.append_assoc];exact this
theorem inRd_jk(A:List AO):∀(m:Nat) (Z:List AO),yiz (A++(jk m++Z)) (dsl A.length m)=false
 |0,Z=>rfl
 |1,Z=>by
  have:=jk_at A Z 0;simp only[dsl,yiz,Nat.mul_zero,Nat.add_zero]at this ⊢;rw[this]
 |m+2,Z=>rfl
theorem set_jk(A Z:List AO)(m:Nat):∃D,D.length=2/\(A++(jk (m+1)++Z)).set (A.length+2*m) .dead=A++(jk m++(D++Z)):=by
 refine⟨[.dead,.dead],rfl,?_⟩;rw[List.set_append_right _ _ (by omega),show A.length+2*m - A.length=2*m by omega,jk,List.append_assoc,List.set_append_right _ _ (by rw[zqd];omega),zqd]
 simp
theorem yab(A:List AO):∀(m:Nat) (Z:List AO),∃D,D.length=2*m+Z.length/\zj5 (A++(jk m++Z)) (dsl A.length m)=A++D
 |0,Z=>⟨Z,by simp,rfl⟩
 |m+1,Z=>by
  obtain⟨D,hD,e⟩:=set_jk A Z m;obtain⟨D',hD',e'⟩:=yab A m (D++Z);refine⟨D',by simp at hD';omega,?_⟩
  rw[dsl,zj5,e,e']
theorem finF_jk{A H0:List AO}(hA:A.length=H0.length)(m:Nat):∃D:List AO,∀(rs:List RS) (o:Out) (t:Ts) (ls:List (Nat×List AV)),zah H0 rs o ⟨t,ls,A++jk m,dsl A.length m⟩=zah H0 rs o ⟨t,ls,A++D,[]⟩:=by
 obtain⟨D,_,e⟩:=yab A m [];rw[List.append_nil]at e;refine⟨D,fun rs o t ls=>?_⟩
 cases m with
 |zero=>simp only[dsl,zj5]at e;rw[dsl,e]
 |succ m=>
  have h1:∀i∈dsl A.length (m+1),H0.length<=i:=fun i hi=>by have:=zxz _ _ i hi;omega
  have h2:=z5n A.length (m+1);rw[dsl]at h1 h2 e ⊢;rw[ygw,if_pos ⟨h1,h2⟩,e]
theorem ygv{S E α:Type}{y:AV}{n:Nat}{enc:α->List AV}{W:S->List AO}{WE:E->List AO}{stp:S->α->Option (S ⊕ E)}(hy:Ys y n enc W WE stp)(s:S)(r:S ⊕ E)(X:List AO)(m:Nat){o:Out}(ho:o = .normal\/o = .ret)(t:Ts)(ls:List (Nat×List AV)):
  zah (W s++X) [] o ⟨t,ls,hp W WE r++(X++jk m),dsl (n+X.length) m⟩=some (.ret (.tup []),hp W WE r++X):=by
 have l1:(W s).length=n:=hy.len (.inl s);have l2:=hy.len r;obtain⟨D,e⟩:=finF_jk (A:=hp W WE r++X) (H0:=W s++X) (by simp[l1,l2]) m
 rw[<- List.append_assoc,show n+X.length=(hp W WE r++X).length by simp[l2],e]
 have hf:=z1j (H:=W s) (A:=hp W WE r) (X:=X) (J:=D) (r:=.ret (.tup [])) (by rw[l1,l2]) (by rw[l1];exact hy.fr s r) (show Lt _ _ from .tup (by simp))
 rcases ho with rfl|rfl
 ·rw[z7o];simp only[zih];exact hf
 ·rw[yk7];simp only[zih];exact hf
end Go.Ab
end
section
set_option linter.unusedVariables false
set_option linter.unusedSimpArgs false
set_option maxRecDepth 100000
set_option maxHeartbeats 2000000
namespace Go.Ab
open Go.RowKit Go.Proofs
def zav(L:List Int):List (List AV):=L.map fun b=>[.int .i64 b]
@[go_sem] theorem zq9(L:List Int):(zav L).length=L.length:=by simp[zav]
@[go_sem] theorem i64s_get(L:List Int)(i:Nat):(zav L)[i]?=L[i]?.map fun b=>[.int .i64 b]:=by simp[zav]
@[go_sem] theorem zgb:zav []=[]:=rfl
theorem zmu(a:List Int)(n:Int):zav a++[[.int .i64 n]]=zav (a++[n]):=by simp[zav]
theorem z7j(n:Nat)(L:List Int):∀a∈(zav L).flatten,Lt n a:=by
 intro a ha;obtain⟨e,he,h2⟩:=List.mem_flatten.1 ha;obtain⟨x,hx,rfl⟩:=List.mem_map.1 he;simp at h2;subst h2;exact .int _ _
@[go_sem] theorem lt_i64s(n:Nat)(L:List Int):(∀a∈(zav L).flatten,Lt n a)=True:=eq_true (z7j n L)
def zgd:List Int->List Int->List Int
 |out,[]=>out
 |out,n::r=>zgd (if out.contains n then out else out++[n]) r
theorem zp7:∀(a b out:List Int),zgd out (a++b)=zgd (zgd out a) b
 |[],b,out=>rfl
 |n::a,b,out=>by rw[List.cons_append,zgd,zgd,zp7 a b]
theorem zmm:∀(a out:List Int),(zgd out a).length<=out.length+a.length
 |[],out=>by simp[zgd]
 |n::a,out=>by
  rw[zgd];have:=zmm a (if out.contains n then out else out++[n])
  split at this <;> simp at * <;> split <;> simp_all <;> omega
def noE{β:Type}(e:Empty):β:=e.elim
end Go.Ab
end
section
set_option linter.unusedVariables false
set_option linter.unusedSimpArgs false
set_option maxRecDepth 100000
set_option maxHeartbeats 2000000
namespace Go.Ab
open Go.RowKit Go.Proofs
theorem zrd(a:List Lv)(x:Lv):Lv.css a++[x.cs]=Lv.css (a++[x]):=by rw[z8c];rfl
def byL(ps ms:List Lv)(k n:Int):Option Lv:=if k=5 then ps[n.toNat]? else if k=6 then ms[n.toNat]? else none
mutual
def subL(ps ms:List Lv):Lv->Lv
 |.mk k n ks=>match byL ps ms k n with
  |some x=>x
  |none=>.mk k n (subLs ps ms ks)
def subLs(ps ms:List Lv):List Lv->List Lv
 |[]=>[]
 |x::r=>subL ps ms x::subLs ps ms r
end
theorem z8x(ps ms:List Lv):∀ks:List Lv,subLs ps ms ks=ks.map (subL ps ms)
 |[]=>rfl
 |x::r=>by rw[subLs,z8x ps ms r];rfl
theorem zzc{p m k n:Int}{ks:List Lv}{d:Int}(h:rightB p m (.mk k n ks) d=true):1<=d/\(ks.length:Int)=zgk k/\0<=n/\(k=5->n<p)/\(k=6->n<m)/\(k≠5->k≠6->n=0)/\rightsB p m ks (d - 1)=true:=by
 rw[rightB]at h
 split at h
 ·cases h
 split at h
 ·cases h
 rename_i h1 h2;have h2:(ks.length:Int)=zgk k:=by simpa using h2
 split at h
 ·rename_i h5
  subst h5;have:ks=[]:=List.eq_nil_of_length_eq_zero (by simp[zgk]at h2;simp[h2])
  subst this;simp at h;exact⟨by omega,h2,h.1,fun _=>h.2,by omega,by omega,rfl⟩
 split at h
 ·rename_i h5
  subst h5;have:ks=[]:=List.eq_nil_of_length_eq_zero (by simp[zgk]at h2;simp[h2])
  subst this;simp at h;exact⟨by omega,h2,h.1,by omega,fun _=>h.2,by omega,rfl⟩
 ·simp at h
  exact⟨by omega,h2,by omega,by omega,by omega,fun _ _=>h.2,h.1⟩
theorem zy9{p m:Int}{ks:List Lv}{d:Int}(h:rightsB p m ks d=true){x:Lv}(hx:x∈ks):rightB p m x d=true:=by
 rw[zr9,List.all_eq_true]at h;exact h x hx
theorem zve{l:Lv}{p m:Int}(h:zaz l p m=true):rightB p m l 12=true:=by
 unfold zaz at h;simp only[Bool.and_eq_true]at h;exact h.2
theorem z4d(k:Int):zgk k<=2:=by unfold zgk;grind
def zt4(l:List Lv):Prop:=∀x∈l,x.ok
theorem byL_ok{ps ms:List Lv}(hp:zt4 ps)(hm:zt4 ms){k n:Int}{x:Lv}(h:byL ps ms k n=some x):x.ok:=by
 unfold byL at h
 split at h
 ·exact hp x (List.mem_of_getElem? h)
 ·split at h
  ·exact hm x (List.mem_of_getElem? h)
  ·cases h
theorem z6s{ps ms:List Lv}(hp:zt4 ps)(hm:zt4 ms)(l:Lv):l.ok->(subL ps ms l).ok:=by
 induction l using Lv.ind with
 |h k n ks ih=>
 intro hl;rw[subL]
 split
 ·rename_i x h;exact byL_ok hp hm h
 ·rw[z8x]
  refine .mk (by simpa using hl.len) fun x hx=>?_
  obtain⟨y,hy,rfl⟩:=List.mem_map.1 hx;exact ih y hy (hl.all y hy)
def z61:Lv×Int->AV
 |(l,e)=>.tup [.agg l.cs,.int .i64 e]
def zeroL:Lv:=.mk 0 0 []
def zcd(l:List Lv):Bool:=l.all fun x=>zaz x 5 10
def ztw(l:Lv)(ps ms:List Lv):Lv×Int :=
 if zaz l 5 10=false\/5<ps.length\/10<ms.length\/zcd ps=false\/zcd ms=false then (zeroL,1)
 else if zaz (subL ps ms l) 5 10 then (subL ps ms l,0) else (zeroL,2)
theorem zze(xs:List Lv)(hlen:xs.length<=140737488355328)(hx:zt4 xs)(H:List AO):F zjt [.sl (Lv.css xs)] H=some (.ret (.bool (zcd xs)),H):=by
 have loop:∀(suf pre:List Lv),xs=pre++suf->zi9 H H (.sl (Lv.css xs)) (.int .i64 pre.length)=some (.ret (.bool (zcd suf)),H):=by
  intro suf
  induction suf with
  |nil=>
   intro pre e;subst e;rw[zi9,zab];simp only[↓reduceIte,go_sem,zcd,List.all_nil]
  |cons x suf ih=>
   intro pre e;subst e;simp at hlen;have:=ih (pre++[x]) (by simp)
   simp only[zag]at this;have hr:=zem x (hx x (by simp)) 5 10 H
   rw[zi9,zab];unfold zcd at *;rw[List.all_cons]
   cases h:zaz x 5 10 <;> simp only[h]at hr <;> simp only[↓reduceIte,go_sem,hr,zac (n:=pre.length) (by omega),this,Bool.true_and,Bool.false_and]
 have:=loop xs [] rfl;simp only[List.length_nil,Int.natCast_zero]at this;rw[z2a];simp only[↓reduceIte,go_sem,this]
theorem yjf(p m:Int)(ps ms:List Lv)(l:Lv):l.ok->∀(d:Int),rightB p m l d=true->∀(H:List AO),F zoe [.agg l.cs,.sl (Lv.css ps),.sl (Lv.css ms)] H=some (.ret (.agg (subL ps ms l).cs),H):=by
 induction l using Lv.ind with
 |h k n ks ih=>
 intro hl d hr H;obtain⟨hd,hk,hn,h5,h6,h0,hks⟩:=zzc hr;have hk3:=z4d k;have loop:∀(suf pre done:List Lv),ks=pre++suf->done.length=pre.length ->
   zlp H (H++[.lst 0 3 [],.lst done.length 3 (Lv.css done),.lst 0 3 []]) (.sl (Lv.css ps)) (.sl (Lv.css ms)) (.int .i64 pre.length) [.int .i64 k,.int .i64 n,.sl (Lv.css ks)]
    [.int .i64 0,.int .i64 0,.ol H.length 0] [.int .i64 k,.int .i64 n,.ol (H.length+1) done.length]=some (.ret (.agg (Lv.mk k n (done++subLs ps ms suf)).cs),H):=by
  intro suf
  induction suf with
  |nil=>
   intro pre done e he;subst e;rw[zlp,zab];simp only[↓reduceIte,go_sem,subLs,Lv.cs]
  |cons x suf ih2=>
   intro pre done e he;subst e;simp at hk;have:=ih2 (pre++[x]) (done++[subL ps ms x]) (by simp) (by simp[he])
   simp only[zag]at this;simp only[zeg,List.append_assoc,List.cons_append,List.nil_append]at this;have hdl:done.length<=1073741823:=by omega
   rw[zlp,zab,subLs];simp only[↓reduceIte,go_sem,ih x (by simp) (hl.all x (by simp)) (d - 1) (zy9 hks (by simp)),zac (n:=pre.length) (by omega),hdl,zrd,this]
 have l0:=loop ks [] [] rfl rfl;simp only[List.length_nil,Int.natCast_zero,List.nil_append,Lv.css,Lv.cs]at l0;rw[z73,subL,byL];have hN:(n.toNat:Int)=n:=Int.toNat_of_nonneg hn;by_cases e5:k=5
 ·subst e5
  by_cases hlt:n<(ps.length:Int)
  ·obtain⟨x,hx⟩:∃x,ps[n.toNat]?=some x:=⟨ps[n.toNat],by simp⟩
   simp only[↓reduceIte,go_sem,Lv.cs,hlt,hn,hx]
  ·have hx:ps[n.toNat]?=none:=List.getElem?_eq_none (by omega)
   simp only[↓reduceIte,go_sem,Lv.cs,hlt,hx,l0]
 ·by_cases e6:k=6
  ·subst e6
   by_cases hlt:n<(ms.length:Int)
   ·obtain⟨x,hx⟩:∃x,ms[n.toNat]?=some x:=⟨ms[n.toNat],by simp⟩
    simp only[↓reduceIte,go_sem,Lv.cs,hlt,hn,hx]
   ·have hx:ms[n.toNat]?=none:=List.getElem?_eq_none (by omega)
    simp only[↓reduceIte,go_sem,Lv.cs,hlt,hx,l0]
  ·simp only[↓reduceIte,go_sem,Lv.cs,e5,e6,l0]
theorem yml(l:Lv)(ps ms:List Lv)(hl:l.ok)(hp:zt4 ps)(hm:zt4 ms)(hpl:ps.length<=140737488355328)(hml:ms.length<=140737488355328)(H:List AO):
  F zp5 [.agg l.cs,.sl (Lv.css ps),.sl (Lv.css ms)] H=some (.ret (z61 (ztw l ps ms)),H):=by
 rw[z74,ztw];have h1:=zem l hl 5 10 H;have h2:=zze ps hpl hp H;have h3:=zze ms hml hm H;by_cases hr:zaz l 5 10=true
 ·by_cases a1:5<ps.length
  ·have a1':(5:Int)<ps.length:=by omega
   simp only[↓reduceIte,go_sem,h1,hr,a1,a1',z61,zeroL,Lv.cs,Lv.css,Bool.true_eq_false,false_or,true_or]
  by_cases a2:10<ms.length
  ·have a1':¬ (5:Int)<ps.length:=by omega
   have a2':(10:Int)<ms.length:=by omega
   simp only[↓reduceIte,go_sem,h1,hr,a1,a1',a2,a2',z61,zeroL,Lv.cs,Lv.css,Bool.true_eq_false,false_or,true_or]
  have a1':¬ (5:Int)<ps.length:=by omega
  have a2':¬ (10:Int)<ms.length:=by omega
  cases b1:zcd ps with
  |false=>simp only[↓reduceIte,go_sem,h1,h2,hr,a1,a1',a2,a2',b1,z61,zeroL,Lv.cs,Lv.css,Bool.true_eq_false,false_or,true_or]
  |true=>
  cases b2:zcd ms with
  |false=>simp only[↓reduceIte,go_sem,h1,h2,h3,hr,a1,a1',a2,a2',b1,b2,z61,zeroL,Lv.cs,Lv.css,Bool.true_eq_false,false_or,true_or]
  |true=>
  have h4:=yjf 5 10 ps ms l hl 12 (zve hr) H;have h5:=zem (subL ps ms l) (z6s hp hm l hl) 5 10 H
  cases b3:zaz (subL ps ms l) 5 10 <;> simp only[b3]at h5 <;> simp only[↓reduceIte,go_sem,h1,h2,h3,h4,h5,hr,a1,a1',a2,a2',b1,b2,b3,z61,zeroL,Lv.cs,Lv.css,Bool.true_eq_false,Bool.false_eq_true,or_self,true_or]
 ·simp only[Bool.not_eq_true]at hr
  simp only[↓reduceIte,go_sem,h1,hr,z61,zeroL,Lv.cs,Lv.css,true_or]
theorem yek(l:Lv)(hl:l.ok)(H:List AO):F znc [.agg l.cs] H=some (.ret (.bool (!zaz l 5 10)),H):=by
 rw[ybv];simp only[↓reduceIte,go_sem,zhj l hl]
theorem grow_ok(n:Int)(h0:0<=n)(hn:n<=1073741824)(H:List AO):F zfb [.ze,.int .i64 n] H=if n=0 then some (.ret .ze,H) else some (.ret (.ol H.length 1),H++[.lst 1 3 []]):=by
 rw[zse];by_cases h:n=0
 ·subst h
  have e1:IntKind.wrap .i64 0=0:=zam (by omega) (by omega)
  simp only[↓reduceIte,go_sem,Int.sub_self,e1]
 ·simp only[↓reduceIte,go_sem,h,show ¬ n<0 by omega,show 0<n by omega,Int.sub_self,Int.sub_zero,zam (n:=0) (by omega) (by omega),zam (n:=n) (by omega) (by omega),hn]
inductive AccL (H:List AO):AV->List Lv->List AO->Prop
 |ze:AccL H .ze [] H
 |ol (ver:Nat) (es:List Lv):AccL H (.ol H.length ver) es (H++[.lst ver 3 (Lv.css es)])
def sls(xs:List (List Lv)):List (List AV):=xs.map fun x=>[.sl (Lv.css x)]
@[go_sem] theorem sls_len(xs:List (List Lv)):(sls xs).length=xs.length:=by simp[sls]
@[go_sem] theorem sls_get(xs:List (List Lv))(i:Nat):(sls xs)[i]?=xs[i]?.map fun x=>[.sl (Lv.css x)]:=by simp[sls]
@[go_sem] theorem css_all3(ks:List Lv):(∀e∈Lv.css ks,e.length=3)=True:=by
 refine eq_true fun e he=>?_
 rw[Lv.css_eq]at he;obtain⟨x,_,rfl⟩:=List.mem_map.1 he;exact yha x
theorem z5u(xs:List (List Lv))(hlen:xs.length<=1000)(ht:xs.flatten.length<=1073741824)(H:List AO):
  F zc9 [.sl (sls xs)] H=some (.ret (.sl (Lv.css xs.flatten)),H):=by
 have loop1:∀(suf pre:List (List Lv)) {v:AV} {es:List Lv} {H1:List AO},xs=pre++suf->AccL (H++[.lst 0 3 []]) v es H1->es.length+suf.flatten.length<=1073741824 ->
   zd6 H H1 v (.sl (sls xs)) (.int .i64 xs.length) (.int .i64 pre.length)=some (.ret (.sl (Lv.css (es++suf.flatten))),H):=by
  intro suf
  induction suf with
  |nil=>
   intro pre v es H1 e ha hb;subst e;rw[zd6,zab]
   cases ha with
   |ze=>simp only[↓reduceIte,go_sem,List.flatten_nil,Lv.css]
   |ol ver=>simp only[↓reduceIte,go_sem,List.flatten_nil]
  |cons x suf ih=>
   intro pre v es H1 e ha hb;subst e;simp at hlen;rw[List.flatten_cons,List.length_append]at hb;rw[zd6,zab]
   cases ha with
   |ze=>
    cases x with
    |nil=>
     have:=ih (pre++[[]]) (by simp) (AccL.ze (H:=H++[.lst 0 3 []])) (by simpa using hb)
     simp only[zag]at this;simp only[↓reduceIte,go_sem,Lv.css,zac (n:=pre.length) (by omega),this,List.flatten_cons]
    |cons y ys=>
     have:=ih (pre++[y::ys]) (by simp) (AccL.ol (H:=H++[.lst 0 3 []]) 0 (y::ys)) (by simpa using hb)
     simp only[zag]at this;simp only[↓reduceIte,go_sem,Lv.css]at this;simp at hb;simp only[↓reduceIte,go_sem,Lv.css,zac (n:=pre.length) (by omega),show ys.length<1073741824 by omega,this,List.flatten_cons]
   |ol ver=>
    have:=ih (pre++[x]) (by simp) (AccL.ol (H:=H++[.lst 0 3 []]) (ver+1) (es++x)) (by simp at hb ⊢;omega)
    simp only[zag]at this;simp only[↓reduceIte,go_sem]at this;simp only[↓reduceIte,go_sem,zac (n:=pre.length) (by omega),show es.length+x.length<=1073741824 by omega,<- z8c,this,List.flatten_cons,List.append_assoc]
 have loop0:∀(suf pre:List (List Lv)),xs=pre++suf ->
   zd7 H (H++[.lst 0 3 []]) (.sl (sls xs)) (.int .i64 pre.flatten.length) (.sl (sls xs)) (.int .i64 xs.length) (.int .i64 pre.length)=some (.ret (.sl (Lv.css xs.flatten)),H):=by
  intro suf
  induction suf with
  |nil=>
   intro pre e;subst e;simp only[List.append_nil]at *;have hg:=grow_ok pre.flatten.length (by omega) (by omega) (H++[.lst 0 3 []])
   rw[zd7,zab];by_cases h0:pre.flatten.length=0
   ·have h1:=loop1 pre [] rfl (AccL.ze (H:=H++[.lst 0 3 []])) (by simpa using ht)
    simp only[List.length_nil,Int.natCast_zero,List.nil_append]at h1;rw[if_pos (by omega)]at hg
    simp only[↓reduceIte,go_sem,hg,h1]
   ·have h1:=loop1 pre [] rfl (AccL.ol (H:=H++[.lst 0 3 []]) 1 []) (by simpa using ht)
    simp only[List.length_nil,Int.natCast_zero,List.nil_append]at h1;rw[if_neg (by omega)]at hg
    simp only[↓reduceIte,go_sem,Lv.css]at hg h1;simp only[↓reduceIte,go_sem,hg,h1]
  |cons x suf ih=>
   intro pre e;subst e;simp at hlen;have:=ih (pre++[x]) (by simp)
   have hl:((pre++[x]).flatten.length:Int)=(pre.flatten.length:Int)+(x.length:Int):=by simp
   rw[hl]at this;simp only[zag]at this;simp only[List.flatten_append,List.flatten_cons,List.length_append]at ht;rw[zd7,zab];simp only[↓reduceIte,go_sem,zac (n:=pre.length) (by omega),zam (n:=(pre.flatten.length:Int)+(x.length:Int)) (by omega) (by omega),show ¬ (pre.flatten.length:Int)+(x.length:Int)<0 by omega]
   rw[this]
 have h0:=loop0 xs [] rfl;simp only[List.length_nil,Int.natCast_zero,List.flatten_nil]at h0;rw[zqn];simp only[↓reduceIte,go_sem,h0]
def GoodL(fv:AV)(ps ms:List Lv)(H:List AO):Prop:=∀(X:List AO) (k n:Int) (ks:List Lv),0<=n->cfl T fv [.agg (Lv.mk k n ks).cs] (H++X)=some (.ret (.tup [.agg ((byL ps ms k n).getD (.mk k n ks)).cs,.bool (byL ps ms k n).isSome]),H++X)
theorem GoodL.ext{fv:AV}{ps ms:List Lv}{H:List AO}(h:GoodL fv ps ms H)(Y:List AO):GoodL fv ps ms (H++Y):=fun X k n ks hn=>by rw[List.append_assoc];exact h (Y++X) k n ks hn
theorem yi6(p m:Int)(fv:AV)(hfv:fv.one=true)(ps ms:List Lv)(l:Lv):l.ok->∀(d:Int),rightB p m l d=true->∀(H:List AO),GoodL fv ps ms H ->
  F zoh [.agg l.cs,fv] H=some (.ret (.agg (subL ps ms l).cs),H):=by
 induction l using Lv.ind with
 |h k n ks ih=>
 intro hl d hr H hg;obtain⟨hd,hk,hn,h5,h6,h0,hks⟩:=zzc hr;have hk3:=z4d k;have loop:∀(suf pre done:List Lv),ks=pre++suf->done.length=pre.length ->
   zlq H (H++[.lst 0 3 [],.lst 0 3 [],.lst done.length 3 (Lv.css done),.lst 0 3 []]) fv (.sl (Lv.css ks)) (.int .i64 ks.length) (.int .i64 pre.length)
    [.int .i64 0,.int .i64 0,.ol H.length 0] [.int .i64 k,.int .i64 n,.ol (H.length+2) done.length]=some (.ret (.agg (Lv.mk k n (done++subLs ps ms suf)).cs),H):=by
  intro suf
  induction suf with
  |nil=>
   intro pre done e he;subst e;rw[zlq,zab];simp only[↓reduceIte,go_sem,subLs,Lv.cs]
  |cons x suf ih2=>
   intro pre done e he;subst e;simp at hk;have:=ih2 (pre++[x]) (done++[subL ps ms x]) (by simp) (by simp[he])
   simp only[zag]at this;simp only[zeg,List.append_assoc,List.cons_append,List.nil_append]at this;have hdl:done.length<=1073741823:=by omega
   rw[zlq,zab,subLs];simp only[↓reduceIte,go_sem,ih x (by simp) (hl.all x (by simp)) (d - 1) (zy9 hks (by simp)) _ (hg.ext _),zac (n:=pre.length) (by omega),hdl,zrd,this]
 have l0:=loop ks [] [] rfl rfl;simp only[List.length_nil,Int.natCast_zero,List.nil_append,Lv.css,Lv.cs]at l0;have hb:=hg [.lst 0 3 []] k n ks hn;rw[z75,subL]
 cases hx:byL ps ms k n with
 |some x=>
  simp only[hx,Option.getD_some,Option.isSome_some]at hb;rw[Lv.cs]at hb ⊢;simp only[↓reduceIte,go_sem,hb]
 |none=>
  simp only[hx,Option.getD_none,Option.isSome_none]at hb;rw[Lv.cs]at hb;rw[Lv.cs];simp only[↓reduceIte,go_sem,hb,l0];rfl
theorem Sub_ok(l:Lv)(ps ms:List Lv)(hl:l.ok)(hp:zt4 ps)(hm:zt4 ms)(hpl:ps.length<=140737488355328)(hml:ms.length<=140737488355328)(H:List AO):
  F zta [.agg l.cs,.sl (Lv.css ps),.sl (Lv.css ms)] H=some (.ret (z61 (ztw l ps ms)),H):=by
 have h1:=yek l hl (H++[.box [.sl (Lv.css ps)],.box [.sl (Lv.css ms)]]);rw[ybw,ztw];by_cases hr:zaz l 5 10=true
 ·by_cases a1:5<ps.length
  ·have a1':(5:Int)<ps.length:=by omega
   simp only[↓reduceIte,go_sem,h1,hr,a1,a1',z61,zeroL,Lv.cs,Lv.css,Bool.true_eq_false,false_or,true_or]
  by_cases a2:10<ms.length
  ·have a1':¬ (5:Int)<ps.length:=by omega
   have a2':(10:Int)<ms.length:=by omega
   simp only[↓reduceIte,go_sem,h1,hr,a1,a1',a2,a2',z61,zeroL,Lv.cs,Lv.css,Bool.true_eq_false,false_or,true_or]
  have a1':¬ (5:Int)<ps.length:=by omega
  have a2':¬ (10:Int)<ms.length:=by omega
  have hc:=z5u [ps,ms] (by simp) (by simp;omega) (H++[.box [.sl (Lv.css ps)],.box [.sl (Lv.css ms)]])
  simp only[sls,List.map_cons,List.map_nil,List.flatten_cons,List.flatten_nil,List.append_nil]at hc;have ha:=z2y (ps++ms) (by simp;omega) (.fn (.func znc) [] []) (fun x=>!zaz x 5 10) (H++[.box [.sl (Lv.css ps)],.box [.sl (Lv.css ms)]]) (fun x hx=>by
   simp only[yac];exact yek x (by rcases List.mem_append.1 hx with h|h;exact hp x h;exact hm x h) _)
  rw[<- List.not_all_eq_any_not,List.all_append]at ha;rw[show (ps.all fun x=>zaz x 5 10)=zcd ps from rfl,show (ms.all fun x=>zaz x 5 10)=zcd ms from rfl]at ha
  by_cases hb:(zcd ps && zcd ms)=true
  ·have hb2:=hb
   rw[Bool.and_eq_true]at hb2;have hg:GoodL (.fn (.func zoi) [] [.ptr H.length 0,.ptr (H.length+1) 0]) ps ms (H++[.box [.sl (Lv.css ps)],.box [.sl (Lv.css ms)]]):=by
    intro X k n ks hn;simp only[zhh,List.cons_append,List.nil_append,List.append_assoc,z49];have e:((H++AO.box [.sl (Lv.css ps)]::AO.box [.sl (Lv.css ms)]::X)[H.length+1]?)=some (.box [.sl (Lv.css ms)]):=by rw[zwb];rfl
    have e0:((H++AO.box [.sl (Lv.css ps)]::AO.box [.sl (Lv.css ms)]::X)[H.length]?)=some (.box [.sl (Lv.css ps)]):=by rw[zwc];rfl
    generalize H++AO.box [.sl (Lv.css ps)]::AO.box [.sl (Lv.css ms)]::X=H' at *;unfold byL;have hN:(n.toNat:Int)=n:=Int.toNat_of_nonneg hn;by_cases e5:k=5
    ·subst e5
     by_cases hlt:n<(ps.length:Int)
     ·obtain⟨x,hx⟩:∃x,ps[n.toNat]?=some x:=⟨ps[n.toNat],by simp⟩
      simp only[↓reduceIte,go_sem,Lv.cs,e,e0,hlt,hn,hx,Option.getD_some,Option.isSome_some]
     ·have hx:ps[n.toNat]?=none:=List.getElem?_eq_none (by omega)
      simp only[↓reduceIte,go_sem,Lv.cs,e,e0,hlt,hx,Option.getD_none,Option.isSome_none]
    ·by_cases e6:k=6
     ·subst e6
      by_cases hlt:n<(ms.length:Int)
      ·obtain⟨x,hx⟩:∃x,ms[n.toNat]?=some x:=⟨ms[n.toNat],by simp⟩
       simp only[↓reduceIte,go_sem,Lv.cs,e,e0,hlt,hn,hx,Option.getD_some,Option.isSome_some]
      ·have hx:ms[n.toNat]?=none:=List.getElem?_eq_none (by omega)
       simp only[↓reduceIte,go_sem,Lv.cs,e,e0,hlt,hx,Option.getD_none,Option.isSome_none]
     ·simp only[↓reduceIte,go_sem,Lv.cs,e,e0,e5,e6,Option.getD_none,Option.isSome_none]
   have ht:=yi6 5 10 _ rfl ps ms l hl 12 (zve hr) _ hg;have h5:=yek (subL ps ms l) (z6s hp hm l hl) (H++[.box [.sl (Lv.css ps)],.box [.sl (Lv.css ms)]]);simp only[hb]at ha
   cases b3:zaz (subL ps ms l) 5 10 <;> simp only[b3]at h5 <;> simp only[↓reduceIte,go_sem,h1,hr,a1,a1',a2,a2',hb2.1,hb2.2,hc,ha,ht,h5,b3,z61,zeroL,Lv.cs,Lv.css,Bool.true_eq_false,Bool.false_eq_true,or_self,true_or,false_or]
  ·have hb':zcd ps=false\/zcd ms=false:=by
    cases h1:zcd ps <;> cases h2:zcd ms <;> simp_all
   simp only[Bool.not_eq_true]at hb;simp only[hb]at ha;simp only[↓reduceIte,go_sem,h1,hr,a1,a1',a2,a2',hb',hc,ha,z61,zeroL,Lv.cs,Lv.css,Bool.true_eq_false,or_self,true_or,or_true,false_or]
 ·simp only[Bool.not_eq_true]at hr
  simp only[↓reduceIte,go_sem,h1,hr,z61,zeroL,Lv.cs,Lv.css,true_or]
end Go.Ab
end
section
set_option linter.unusedVariables false
set_option linter.unusedSimpArgs false
set_option maxRecDepth 100000
set_option maxHeartbeats 2000000
namespace Go.Ab
open Go.RowKit Go.Proofs
mutual
def rightT(p m:Int):Te->Int->Int->Bool
 |.mk k n ls ks,v,d=>if d<1 then false else if (ks.length:Int)≠zd4 k then false else if ((ls.all fun x=>zaz x p m) && zft k n ls v)=false then false else rightTs p m k ks 0 v (d - 1)
def rightTs(p m:Int)(k:Int):List Te->Int->Int->Int->Bool
 |[],_,_,_=>true
 |x::r,i,v,d=>rightT p m x (v+binds k i) d && rightTs p m k r (i+1) v d
end
theorem ya3(p m:Int)(t:Te):t.ok->∀(v d:Int),-1000<=d/\d<=1000->0<=v/\v+d<=1000000->∀(H:List AO),F zhy [.agg t.cs,.int .i64 v,.int .i64 p,.int .i64 m,.int .i64 d] H=some (.ret (.bool (rightT p m t v d)),H):=by
 induction t using Te.ind with
 |h k n ls ks ih=>
 intro hl v d hd hv H;have hlen:=hl.len;have loop:¬ d<1->∀(suf pre:List Te),ks=pre++suf ->
   zi1 H H (.int .i64 v) (.int .i64 p) (.int .i64 m) (.int .i64 d) (.int .i64 pre.length) [.int .i64 k,.int .i64 n,.sl (Lv.css ls),.sl (Te.css ks)]=some (.ret (.bool (rightTs p m k suf pre.length v (d - 1))),H):=by
  intro hd1 suf
  induction suf with
  |nil=>
   intro pre e;subst e;rw[zi1,zab];simp only[↓reduceIte,go_sem,rightTs]
  |cons x suf ih2=>
   intro pre e;subst e;simp at hlen;have:=ih2 (pre++[x]) (by simp)
   simp only[zag]at this;have hb:=zm4 k pre.length;rw[zi1,zab,rightTs];simp only[↓reduceIte,go_sem,zur,zam (n:=d - 1) (by omega) (by omega),zam (n:=v+binds k pre.length) (by omega) (by omega),ih x (by simp) (hl.all x (by simp)) (v+binds k pre.length) (d - 1) (by omega) (by omega) H,zac (n:=pre.length) (by omega),this]
   cases rightT p m x (v+binds k pre.length) (d - 1) <;> simp
 have:=fun h=>loop h ks [] rfl
 simp only[List.length_nil,Int.natCast_zero]at this;rw[z1x,rightT];simp only[↓reduceIte,go_sem,Te.cs,yf9,ybf k n ls ks hl.len2 hl.all2];by_cases h1:d<1
 ·simp[h1]
 ·simp only[this h1]
  grind
def zdn(t:Te)(v p m:Int):Bool:=decide (0<=v) && decide (v<=1000) && decide (0<=p) && decide (p<=5) && decide (0<=m) && decide (m<=10) && decide (parts t 601<=600) && rightT p m t v 30
theorem zh2(t:Te)(hl:t.ok)(v p m:Int)(H:List AO):F zfn [.agg t.cs,.int .i64 v,.int .i64 p,.int .i64 m] H=some (.ret (.bool (zdn t v p m)),H):=by
 rw[z11,zdn];have hr:0<=v->v<=1000->F zhy [.agg t.cs,.int .i64 v,.int .i64 p,.int .i64 m,.int .i64 30] H=some (.ret (.bool (rightT p m t v 30)),H):=fun h1 h2=>ya3 p m t hl v 30 (by omega) (by omega) H
 by_cases h1:0<=v <;> by_cases h2:v<=1000 <;> simp only[↓reduceIte,go_sem,h1,h2,ya8 t hl 601 (by omega),hr] <;> grind
def zcr(t:Te):Bool:=zdn t 1000 5 10
theorem zdt(t:Te)(hl:t.ok)(H:List AO):F zez [.agg t.cs] H=some (.ret (.bool (zcr t)),H):=by
 rw[z10,zcr];simp only[↓reduceIte,go_sem,zh2 t hl]
mutual
def teEq:Te->Te->Bool
 |.mk a b l ks,.mk c d m js=>decide (a=c) && decide (b=d) && lvsEq l m && tesEq ks js
def tesEq:List Te->List Te->Bool
 |[],[]=>true
 |x::l,y::m=>teEq x y && tesEq l m
 |_,_=>false
end
theorem zwl:∀{l m:List Te},l.length≠m.length->tesEq l m=false
 |[],[],h=>absurd rfl h
 |[],_::_,_=>by rw[tesEq];all_goals simp
 |_::_,[],_=>by rw[tesEq];all_goals simp
 |x::l,y::m,h=>by rw[tesEq,zwl (l:=l) (m:=m) (by simpa using h)];simp
theorem ydw(a:Te):a.ok->∀(b:Te) (H:List AO),F zlw [.agg a.cs,.agg b.cs] H=some (.ret (.bool (teEq a b)),H):=by
 induction a using Te.ind with
 |h k n ls ks ih=>
 intro hl b H;obtain⟨k',n',ls',ks'⟩:=b;have hlen:=hl.len;have hlen2:=hl.len2;have loop2:ks.length=ks'.length->∀(suf pre suf' pre':List Te),ks=pre++suf->ks' = pre' ++ suf' -> pre.length=pre'.length ->
   zkd H H (.int .i64 pre.length) [.int .i64 k,.int .i64 n,.sl (Lv.css ls),.sl (Te.css ks)] [.int .i64 k',.int .i64 n',.sl (Lv.css ls'),.sl (Te.css ks')]=some (.ret (.bool (tesEq suf suf')),H):=by
  intro hll suf
  induction suf with
  |nil=>
   intro pre suf' pre' e e' he;subst e;subst e';have:suf' = []:=List.eq_nil_of_length_eq_zero (by simp at hll;omega)
   subst this;rw[zkd,zab];simp only[↓reduceIte,go_sem,tesEq]
  |cons x suf ih2=>
   intro pre suf' pre' e e' he;subst e;subst e';simp at hlen
   cases suf' with
   |nil=>simp at hll;omega
   |cons y suf'=>
   have hy:(pre' ++ y::suf')[pre.length]?=some y:=by rw[he];simp
   have:=ih2 (pre++[x]) suf' (pre' ++ [y]) (by simp) (by simp) (by simp[he])
   simp only[zag]at this;rw[zkd,zab,tesEq];simp only[↓reduceIte,go_sem,hy,ih x (by simp) (hl.all x (by simp)) y H,zac (n:=pre.length) (by omega),this]
   cases teEq x y <;> simp
 have loop1:ks.length=ks'.length->ls.length=ls'.length->∀(suf pre suf' pre':List Lv),ls=pre++suf->ls' = pre' ++ suf' -> pre.length=pre'.length ->
   zke H H (.int .i64 pre.length) [.int .i64 k,.int .i64 n,.sl (Lv.css ls),.sl (Te.css ks)] [.int .i64 k',.int .i64 n',.sl (Lv.css ls'),.sl (Te.css ks')]=some (.ret (.bool (lvsEq suf suf' && tesEq ks ks')),H):=by
  intro hkk hll suf
  induction suf with
  |nil=>
   intro pre suf' pre' e e' he;subst e;subst e';have:suf' = []:=List.eq_nil_of_length_eq_zero (by simp at hll;omega)
   subst this;rw[zke,zab];have:=loop2 hkk ks [] ks' [] rfl rfl rfl;simp only[List.length_nil,Int.natCast_zero,List.append_nil]at this;simp only[↓reduceIte,go_sem,lvsEq,this,Bool.true_and]
  |cons x suf ih2=>
   intro pre suf' pre' e e' he;subst e;subst e';simp at hlen2
   cases suf' with
   |nil=>simp at hll;omega
   |cons y suf'=>
   have hy:(pre' ++ y::suf')[pre.length]?=some y:=by rw[he];simp
   have:=ih2 (pre++[x]) suf' (pre' ++ [y]) (by simp) (by simp) (by simp[he])
   simp only[zag]at this;rw[zke,zab,lvsEq];simp only[↓reduceIte,go_sem,hy,zwq x (hl.all2 x (by simp)) y H,zac (n:=pre.length) (by omega),this]
   cases lvEq x y <;> simp
 rw[z4x,teEq];simp only[↓reduceIte,go_sem,Te.cs];by_cases h3:ks.length=ks'.length
 ·by_cases h4:ls.length=ls'.length
  ·have:=loop1 h3 h4 ls [] ls' [] rfl rfl rfl
   simp only[List.length_nil,Int.natCast_zero]at this;rw[this]
   grind
  ·have h4':¬ (ls.length:Int)=(ls'.length:Int):=by omega
   rw[zs9 h4];simp[h4']
 ·have h3':¬ (ks.length:Int)=(ks'.length:Int):=by omega
  rw[zwl h3];simp[h3']
end Go.Ab
end
section
set_option linter.unusedVariables false
set_option linter.unusedSimpArgs false
set_option maxRecDepth 100000
set_option maxHeartbeats 2000000
namespace Go.Ab
open Go.RowKit Go.Proofs
mutual
def liftT(b:Int):Te->Int->Te
 |.mk k n ls ks,f=>.mk k (if k=1/\f<=n then n+b else n) ls (liftTs b k ks 0 f)
def liftTs(b k:Int):List Te->Int->Int->List Te
 |[],_,_=>[]
 |x::r,i,f=>liftT b x (f+binds k i)::liftTs b k r (i+1) f
end
mutual
def openT(u:Te):Te->Int->Te
 |.mk k n ls ks,f=>if k=1/\n=f then liftT f u 0 else .mk k (if k=1/\f<n then n - 1 else n) ls (openTs u k ks 0 f)
def openTs(u:Te)(k:Int):List Te->Int->Int->List Te
 |[],_,_=>[]
 |x::r,i,f=>openT u x (f+binds k i)::openTs u k r (i+1) f
end
theorem zom(k:Int):zd4 k<=3:=by unfold zd4;grind
theorem zf2{p m k n v d:Int}{ls:List Lv}{ks:List Te}(h:rightT p m (.mk k n ls ks) v d=true):
  1<=d/\(ks.length:Int)=zd4 k/\(ls.all fun x=>zaz x p m)=true/\zft k n ls v=true/\rightTs p m k ks 0 v (d - 1)=true:=by
 rw[rightT]at h
 split at h
 ·cases h
 ·split at h
  ·cases h
  ·split at h
   ·cases h
   ·rename_i h1 h2 h3
    simp at h3;exact⟨by omega,by simpa using h2,by simpa using h3.1,h3.2,h⟩
theorem zwt{p m k v d:Int}:∀{a b:List Te} {i:Int},rightTs p m k (a++b) i v d=true->rightTs p m k a i v d=true/\rightTs p m k b (i+a.length) v d=true
 |[],b,i,h=>⟨rfl,by simpa using h⟩
 |x::a,b,i,h=>by
  rw[List.cons_append,rightTs,Bool.and_eq_true]at h;obtain⟨h1,h2⟩:=zwt h.2;refine⟨by rw[rightTs,h.1,h1];rfl,?_⟩
  have:i+((x::a).length:Int)=i+1+(a.length:Int):=by simp;omega
  rw[this];exact h2
theorem zmf{p m k v d:Int}{a b:List Te}{x:Te}(h:rightTs p m k (a++x::b) 0 v d=true):rightT p m x (v+binds k a.length) d=true:=by
 have:=(zwt h).2;rw[rightTs,Bool.and_eq_true]at this;simpa using this.1
theorem zp9{n v:Int}{ls:List Lv}(h:zft 1 n ls v=true):0<=n/\n<v/\ls=[]:=by
 unfold zft at h;simp at h;exact⟨h.1.1,h.1.2,h.2⟩
theorem z35(p m b:Int)(hb:0<=b/\b<=1000000)(t:Te):t.ok->∀(v d f:Int),rightT p m t v d=true->d<=1000->0<=v/\v+d<=1000000 -> -1000000<=f/\f+d<=1000000->∀(H:List AO),
  F zjq [.agg t.cs,.int .i64 f,.int .i64 b] H=some (.ret (.agg (liftT b t f).cs),H):=by
 induction t using Te.ind with
 |h k n ls ks ih=>
 intro hl v d f hr hd hv hf H;obtain⟨hd1,hk,hls,hn,hks⟩:=zf2 hr;have hk3:=zom k;have loop:∀(n':Int) (suf pre done:List Te),ks=pre++suf->done.length=pre.length ->
   zkc H (H++[.lst 0 3 [],.lst 0 4 [],.lst 0 3 [],.lst done.length 4 (Te.css done),.lst 0 3 [],.lst 0 4 []]) (.int .i64 f) (.int .i64 b) (.int .i64 pre.length) [.int .i64 k,.int .i64 n,.sl (Lv.css ls),.sl (Te.css ks)]
    [.int .i64 0,.int .i64 0,.ol H.length 0,.ol (H.length+1) 0] [.int .i64 k,.int .i64 n',.sl (Lv.css ls),.ol (H.length+3) done.length]=some (.ret (.agg (Te.mk k n' ls (done++liftTs b k suf pre.length f)).cs),H):=by
  intro n' suf
  induction suf with
  |nil=>
   intro pre done e he;subst e;rw[zkc,zab];simp only[↓reduceIte,go_sem,liftTs,Te.cs]
  |cons x suf ih2=>
   intro pre done e he;subst e;simp at hk;have:=ih2 (pre++[x]) (done++[liftT b x (f+binds k pre.length)]) (by simp) (by simp[he])
   simp only[zag]at this;simp only[zeg,List.append_assoc,List.cons_append,List.nil_append]at this;have hdl:done.length<=1073741823:=by omega
   have hbr:=zm4 k pre.length;rw[zkc,zab,liftTs];simp only[↓reduceIte,go_sem,zur,zam (n:=f+binds k pre.length) (by omega) (by omega),ih x (by simp) (hl.all x (by simp)) (v+binds k pre.length) (d - 1) (f+binds k pre.length) (zmf hks) (by omega) (by omega) (by omega),zac (n:=pre.length) (by omega),hdl,this]
 have l0:=fun n'=>loop n' ks [] [] rfl rfl
 simp only[List.length_nil,Int.natCast_zero,List.nil_append,Te.css,Te.cs]at l0;rw[z4v,liftT];by_cases h1:k=1
 ·subst h1
  obtain⟨h2,h3,h4⟩:=zp9 hn;simp only[↓reduceIte,go_sem,Te.cs,zam (n:=n+b) (by omega) (by omega),l0]
  split <;> simp_all
 ·simp only[↓reduceIte,go_sem,Te.cs,h1,l0,false_and]
theorem yn4{k n:Int}{ls:List Lv}{ks:List Te}(h:(Te.mk k n ls ks).ok)(n':Int){js:List Te}(hl:js.length=ks.length)(hj:∀x∈js,x.ok):(Te.mk k n' ls js).ok:=by
 cases h with
 |mk a b c d=>exact .mk (by omega) b c hj
theorem zzo(b k:Int):∀(ks:List Te) (i f:Int),(liftTs b k ks i f).length=ks.length
 |[],_,_=>rfl
 |x::r,i,f=>by rw[liftTs];simp[zzo b k r]
theorem zzl(u:Te)(k:Int):∀(ks:List Te) (i f:Int),(openTs u k ks i f).length=ks.length
 |[],_,_=>rfl
 |x::r,i,f=>by rw[openTs];simp[zzl u k r]
theorem zzn{b k:Int}{p:Te->Prop}:∀{ks:List Te} {i f:Int},(∀x∈ks,∀f,p (liftT b x f))->∀y∈liftTs b k ks i f,p y
 |[],_,_,_,y,hy=>by cases hy
 |x::r,i,f,h,y,hy=>by
  rw[liftTs]at hy;rcases List.mem_cons.1 hy with rfl|hy
  ·exact h x (by simp) _
  ·exact zzn (fun z hz=>h z (by simp[hz])) y hy
theorem zzk{u:Te}{k:Int}{p:Te->Prop}:∀{ks:List Te} {i f:Int},(∀x∈ks,∀f,p (openT u x f))->∀y∈openTs u k ks i f,p y
 |[],_,_,_,y,hy=>by cases hy
 |x::r,i,f,h,y,hy=>by
  rw[openTs]at hy;rcases List.mem_cons.1 hy with rfl|hy
  ·exact h x (by simp) _
  ·exact zzk (fun z hz=>h z (by simp[hz])) y hy
theorem z04(b:Int)(t:Te):t.ok->∀f,(liftT b t f).ok:=by
 induction t using Te.ind with
 |h k n ls ks ih=>intro h f;rw[liftT];exact yn4 h _ (zzo _ _ _ _ _) (zzn fun x hx=>ih x hx (h.all x hx))
theorem z66(u:Te)(hu:u.ok)(t:Te):t.ok->∀f,(openT u t f).ok:=by
 induction t using Te.ind with
 |h k n ls ks ih=>
  intro h f;rw[openT]
  split
  ·exact z04 f u hu 0
  ·exact yn4 h _ (zzl _ _ _ _ _) (zzk fun x hx=>ih x hx (h.all x hx))
theorem yeh(p m:Int)(u:Te)(huk:u.ok)(vu du:Int)(hu:rightT p m u vu du=true)(hdu:du<=1000)(hvu:0<=vu/\vu+du<=1000000)(t:Te):t.ok->∀(v d f:Int),rightT p m t v d=true->d<=1000->0<=v/\v+d<=1000000->0<=f/\f+d<=1000000->∀(H:List AO),
  F zlv [.agg t.cs,.int .i64 f,.agg u.cs] H=some (.ret (.agg (openT u t f).cs),H):=by
 induction t using Te.ind with
 |h k n ls ks ih=>
 intro hl v d f hr hd hv hf H;obtain⟨hd1,hk,hls,hn,hks⟩:=zf2 hr;have hk3:=zom k;have loop:∀(n':Int) (suf pre done:List Te),ks=pre++suf->done.length=pre.length ->
   zkb H (H++[.lst 0 3 [],.lst 0 4 [],.lst 0 3 [],.lst done.length 4 (Te.css done),.lst 0 3 [],.lst 0 4 []]) (.int .i64 f) (.int .i64 pre.length) [.int .i64 k,.int .i64 n,.sl (Lv.css ls),.sl (Te.css ks)] u.cs
    [.int .i64 0,.int .i64 0,.ol H.length 0,.ol (H.length+1) 0] [.int .i64 k,.int .i64 n',.sl (Lv.css ls),.ol (H.length+3) done.length]=some (.ret (.agg (Te.mk k n' ls (done++openTs u k suf pre.length f)).cs),H):=by
  intro n' suf
  induction suf with
  |nil=>
   intro pre done e he;subst e;rw[zkb,zab];simp only[↓reduceIte,go_sem,openTs,Te.cs]
  |cons x suf ih2=>
   intro pre done e he;subst e;simp at hk;have:=ih2 (pre++[x]) (done++[openT u x (f+binds k pre.length)]) (by simp) (by simp[he])
   simp only[zag]at this;simp only[zeg,List.append_assoc,List.cons_append,List.nil_append]at this;have hdl:done.length<=1073741823:=by omega
   have hbr:=zm4 k pre.length;rw[zkb,zab,openTs];simp only[↓reduceIte,go_sem,zur,zam (n:=f+binds k pre.length) (by omega) (by omega),ih x (by simp) (hl.all x (by simp)) (v+binds k pre.length) (d - 1) (f+binds k pre.length) (zmf hks) (by omega) (by omega) (by omega),zac (n:=pre.length) (by omega),hdl,this]
 have l0:=fun n'=>loop n' ks [] [] rfl rfl
 simp only[List.length_nil,Int.natCast_zero,List.nil_append,Te.css,Te.cs]at l0;have hL:=fun h1=>z35 p m f ⟨h1,by omega⟩ u huk vu du 0 hu hdu hvu (by omega)
 rw[z4u,openT];by_cases h1:k=1
 ·subst h1
  obtain⟨h2,h3,h4⟩:=zp9 hn;by_cases h5:n=f
  ·simp only[↓reduceIte,go_sem,Te.cs,h5,hL hf.1,and_self]
  ·simp only[↓reduceIte,go_sem,Te.cs,zam (n:=n - 1) (by omega) (by omega),l0,h5]
   split <;> simp_all
 ·simp only[↓reduceIte,go_sem,Te.cs,h1,l0,false_and]
end Go.Ab
end
section
set_option linter.unusedVariables false
set_option linter.unusedSimpArgs false
set_option maxRecDepth 100000
set_option maxHeartbeats 2000000
namespace Go.Ab
open Go.RowKit Go.Proofs
def zeroT:Te:=.mk 0 0 [] []
theorem zgg{t:Te}(h:zcr t=true):rightT 5 10 t 1000 30=true:=by
 unfold zcr zdn at h;simp at h;exact h.2
def zwj(t:Te):Te×Int:=if zcr t=true then (t,0) else (zeroT,2)
abbrev zj7(x:Te×Int):AV:=.tup [.agg x.1.cs,.int .i64 x.2]
def zhk(t:Te)(f b:Int):Te×Int:=if zcr t=false\/f<0\/1000<f\/b<0\/1000<b then (zeroT,1) else zwj (liftT b t f)
def zm7(t u:Te):Te×Int:=if zcr t=false\/zcr u=false then (zeroT,1) else zwj (openT u t 0)
theorem z6e(t:Te)(hl:t.ok)(f b:Int)(H:List AO):F zly [.agg t.cs,.int .i64 f,.int .i64 b] H=some (.ret (zj7 (zhk t f b)),H):=by
 rw[z4z,zhk];by_cases h:zcr t=false\/f<0\/1000<f\/b<0\/1000<b
 ·simp only[h,↓reduceIte]
  by_cases h1:zcr t=true
  ·simp[h1]at h
   by_cases h2:f<0
   ·simp only[↓reduceIte,go_sem,zdt t hl,h1,h2,zj7,zeroT,Te.cs,Lv.css,Te.css]
   by_cases h3:1000<f
   ·simp only[↓reduceIte,go_sem,zdt t hl,h1,h2,h3,zj7,zeroT,Te.cs,Lv.css,Te.css]
   by_cases h4:b<0
   ·simp only[↓reduceIte,go_sem,zdt t hl,h1,h2,h3,h4,zj7,zeroT,Te.cs,Lv.css,Te.css]
   have h5:1000<b:=by omega
   simp only[↓reduceIte,go_sem,zdt t hl,h1,h2,h3,h4,h5,zj7,zeroT,Te.cs,Lv.css,Te.css]
  ·simp only[Bool.not_eq_true]at h1
   simp only[↓reduceIte,go_sem,zdt t hl,h1,zj7,zeroT,Te.cs,Lv.css,Te.css]
 ·simp only[h,↓reduceIte]
  simp at h;have hs:=zgg h.1;have h2:¬ f<0:=by omega
  have h3:¬ 1000<f:=by omega
  have h4:¬ b<0:=by omega
  have h5:¬ 1000<b:=by omega
  have hL:=z35 5 10 b (by omega) t hl 1000 30 f hs (by omega) (by omega) (by omega)
  have ho:=zdt _ (z04 b t hl f);unfold zwj zj7;simp only[↓reduceIte,go_sem,zdt t hl,h.1,h2,h3,h4,h5,hL,ho,zj7,zeroT,Te.cs,Lv.css,Te.css]
  cases zcr (liftT b t f) <;> simp[Te.cs,Lv.css,Te.css]
theorem zo2(t u:Te)(hl:t.ok)(hu:u.ok)(H:List AO):F zlx [.agg t.cs,.agg u.cs] H=some (.ret (zj7 (zm7 t u)),H):=by
 rw[z4y,zm7];by_cases h:zcr t=false\/zcr u=false
 ·simp only[h,↓reduceIte]
  cases h1:zcr t with
  |true=>
   have h2:zcr u=false:=by simpa [h1] using h
   simp only[↓reduceIte,go_sem,zdt t hl,zdt u hu,h1,h2,zj7,zeroT,Te.cs,Lv.css,Te.css]
  |false=>simp only[↓reduceIte,go_sem,zdt t hl,h1,zj7,zeroT,Te.cs,Lv.css,Te.css]
 ·simp only[h,↓reduceIte]
  simp at h;have hO:=yeh 5 10 u hu 1000 30 (zgg h.2) (by omega) (by omega) t hl 1000 30 0 (zgg h.1) (by omega) (by omega) (by omega)
  have ho:=zdt _ (z66 u hu t hl 0);unfold zwj zj7;simp only[↓reduceIte,go_sem,zdt t hl,zdt u hu,h.1,h.2,hO,ho,zj7,zeroT,Te.cs,Lv.css,Te.css]
  cases zcr (openT u t 0) <;> simp[Te.cs,Lv.css,Te.css]
end Go.Ab
end
section
set_option linter.unusedVariables false
set_option linter.unusedSimpArgs false
set_option maxRecDepth 100000
set_option maxHeartbeats 2000000
namespace Go.Ab
open Go.RowKit Go.Proofs
def zt1:List (AV×AV):=[(.int .i64 1,.agg [.int .i64 0,.int .i64 (-1)]),(.int .i64 2,.agg [.int .i64 0,.int .i64 (-1)]),(.int .i64 3,.agg [.int .i64 0,.int .i64 (-1)]),(.int .i64 4,.agg [.int .i64 2,.int .i64 (-1)]),
 (.int .i64 5,.agg [.int .i64 2,.int .i64 1]),(.int .i64 6,.agg [.int .i64 2,.int .i64 1]),(.int .i64 7,.agg [.int .i64 3,.int .i64 2])]
theorem zp1(H:List AO):F zji [] H=some (.ret (.fmap zt1),H):=by
 rw[z1o];simp only[↓reduceIte,go_sem,znp,zhg,zt1]
def yhs(k:Int):Int:=if k=5\/k=6 then 1 else if k=7 then 2 else -1
theorem zme:znp .i64 zt1=true:=rfl
theorem zo6(k:Int)(h:1<=k/\k<=7):zhg k zt1=some (some (.agg [.int .i64 (zd4 k),.int .i64 (yhs k)])):=by
 have:k=1\/k=2\/k=3\/k=4\/k=5\/k=6\/k=7:=by omega
 rcases this with rfl|rfl|rfl|rfl|rfl|rfl|rfl <;> rfl
theorem z6v(k:Int)(h:¬ (1<=k/\k<=7)):zhg k zt1=some none:=by
 simp only[zhg,zt1]
 repeat' split
 all_goals first|omega|rfl
theorem z7g(k:Int)(h:¬ (1<=k/\k<=7)):zd4 k = -1:=by
 unfold zd4;grind
theorem z7f{k:Int}(h:0<=zd4 k):1<=k/\k<=7:=by
 unfold zd4 at h;grind
theorem z51(k i:Int)(hi:0<=i):(if yhs k=i then (1:Int) else 0)=binds k i:=by
 unfold yhs binds;grind
theorem ylw(k n:Int)(ls:List Lv)(ks:List Te)(i:Int)(hk:1<=k/\k<=7)(hi:0<=i)(H:List AO):F zjk [.agg [.int .i64 k,.int .i64 n,.sl (Lv.css ls),.sl (Te.css ks)],.int .i64 i] H=some (.ret (.int .i64 (binds k i)),H):=by
 rw[z4r,<- z51 k i hi];simp only[↓reduceIte,go_sem,zp1,zme,zo6 k hk]
 split <;> simp_all
theorem z50(k n:Int)(ls:List Lv)(ks:List Te)(i:Int)(hk:0<=zd4 k)(hi:0<=i)(H:List AO):F zjk [.agg [.int .i64 k,.int .i64 n,.sl (Lv.css ls),.sl (Te.css ks)],.int .i64 i] H=some (.ret (.int .i64 (binds k i)),H) :=
 ylw k n ls ks i (z7f hk) hi H
theorem yeo(v p m k n:Int)(ls:List Lv)(ks:List Te)(H:List AO):F zgf [.agg [.int .i64 v,.int .i64 p,.int .i64 m],.agg [.int .i64 k,.int .i64 n,.sl (Lv.css ls),.sl (Te.css ks)]] H=some (.ret (.bool (zft k n ls v)),H):=by
 rw[zul];simp only[↓reduceIte,go_sem,zft]
 repeat' split
 all_goals (simp_all;try omega)
theorem ya2(p m:Int)(t:Te):t.ok->∀(v d:Int),0<=d/\d<=1000->0<=v/\v+d<=1000000->∀(H:List AO),F ze9 [.agg [.int .i64 v,.int .i64 p,.int .i64 m],.agg t.cs,.int .i64 d] H=some (.ret (.bool (rightT p m t v d)),H):=by
 induction t using Te.ind with
 |h k n ls ks ih=>
 intro hl v d hd hv H;have hlen:=hl.len;have hc:F zan [.sl (Lv.css ls),.fn (.func ze8) [] [.ptr H.length 0]] (H++[.box [.int .i64 v,.int .i64 p,.int .i64 m]])=some (.ret (.bool (ls.any fun x=>!zaz x p m)),H++[.box [.int .i64 v,.int .i64 p,.int .i64 m]]):=by
  refine z2y ls hl.len2 _ _ _ fun x hx=>?_
  simp only[↓reduceIte,go_sem,zsc,zhj x (hl.all2 x hx)]
 rw[<- List.not_all_eq_any_not]at hc;have loop:0<=zd4 k->¬ d<1->∀(suf pre:List Te),ks=pre++suf ->
   zfq H (H++[.box [.int .i64 v,.int .i64 p,.int .i64 m]]) (.int .i64 d) (.ptr H.length 0) (.sl (Te.css ks)) (.int .i64 ks.length) (.int .i64 pre.length) [.int .i64 k,.int .i64 n,.sl (Lv.css ls),.sl (Te.css ks)]=some (.ret (.bool (rightTs p m k suf pre.length v (d - 1))),H):=by
  intro hk0 hd1 suf
  induction suf with
  |nil=>
   intro pre e;subst e;rw[zfq,zab];simp only[↓reduceIte,go_sem,rightTs]
  |cons x suf ih2=>
   intro pre e;subst e;simp at hlen;have:=ih2 (pre++[x]) (by simp)
   simp only[zag]at this;have hb:=zm4 k pre.length;rw[zfq,zab,rightTs];simp only[↓reduceIte,go_sem,z50 k n ls _ pre.length hk0 (by omega),zam (n:=d - 1) (by omega) (by omega),zam (n:=v+binds k pre.length) (by omega) (by omega),ih x (by simp) (hl.all x (by simp)) (v+binds k pre.length) (d - 1) (by omega) (by omega),zac (n:=pre.length) (by omega),this]
   cases rightT p m x (v+binds k pre.length) (d - 1) <;> simp
 have:=fun h0 h1=>loop h0 h1 ks [] rfl
 simp only[List.length_nil,Int.natCast_zero]at this;rw[zuk,rightT];by_cases hk:1<=k/\k<=7
 ·by_cases hd0:d=0
  ·subst hd0
   simp only[↓reduceIte,go_sem,Te.cs,zp1,zme,zo6 k hk,show (0:Int)<1 from by decide]
  ·have hd1:¬ d<1:=by omega
   by_cases hkl:(ks.length:Int)=zd4 k
   ·simp only[↓reduceIte,go_sem,Te.cs,zp1,zme,zo6 k hk,hd0,hd1,hkl,yeo,hc]
    rw[<- hkl,this (by omega) hd1]
    cases zft k n ls v <;> cases (ls.all fun x=>zaz x p m) <;> simp
   ·simp only[↓reduceIte,go_sem,Te.cs,zp1,zme,zo6 k hk,hd0,hd1,hkl]
    simp[hkl]
 ·simp only[↓reduceIte,go_sem,Te.cs,zp1,zme,z6v k hk]
  have:¬ (ks.length:Int)=zd4 k:=by rw[z7g k hk];omega
  simp[this]
theorem zj2(t:Te)(hl:t.ok)(v p m:Int)(hv:0<=v/\v<=1000)(H:List AO):F zdd [.agg [.int .i64 v,.int .i64 p,.int .i64 m],.agg t.cs] H=some (.ret (.bool (decide (parts t 601<=600) && rightT p m t v 30)),H):=by
 rw[zvn];simp only[↓reduceIte,go_sem,yee t hl 601 (by omega),ya2 p m t hl v 30 (by omega) (by omega)]
 grind
theorem zr3(H:List AO):F zna [] H=some (.ret (.agg [.int .i64 1000,.int .i64 5,.int .i64 10]),H):=by
 rw[ybt];simp only[↓reduceIte,go_sem]
theorem zf1(t:Te):(decide (parts t 601<=600) && rightT 5 10 t 1000 30)=zcr t:=by simp[zcr,zdn]
theorem zl6(t:Te)(hl:t.ok)(v p m:Int)(H:List AO):F zh3 [.agg t.cs,.int .i64 v,.int .i64 p,.int .i64 m] H=some (.ret (.bool (zdn t v p m)),H):=by
 rw[z4s,zdn];by_cases h1:v<0
 ·simp only[↓reduceIte,go_sem,h1]
  simp;omega
 by_cases h2:1000<v
 ·simp only[↓reduceIte,go_sem,h1,h2]
  simp;omega
 simp only[↓reduceIte,go_sem,h1,h2,zj2 t hl v p m (by omega)]
 have h3:0<=v:=by omega
 have h4:v<=1000:=by omega
 simp only[h3,h4,decide_true,Bool.true_and];by_cases h5:p<0
 ·simp[h5];omega
 by_cases h6:5<p
 ·simp[h5,h6];omega
 by_cases h7:m<0
 ·simp[h5,h6,h7];omega
 by_cases h8:10<m
 ·simp[h5,h6,h7,h8];omega
 simp[h5,h6,h7,h8];simp[show 0<=p by omega,show p<=5 by omega,show 0<=m by omega,show m<=10 by omega]
mutual
def turnT(g:Int->Int->Te):Te->Int->Te
 |.mk k n ls ks,f=>if k=1 then g n f else .mk k n ls (turnTs g k ks 0 f)
def turnTs(g:Int->Int->Te)(k:Int):List Te->Int->Int->List Te
 |[],_,_=>[]
 |x::r,i,f=>turnT g x (f+binds k i)::turnTs g k r (i+1) f
end
def Good(fv:AV)(g:Int->Int->Te)(B:Int)(H:List AO):Prop:=∀(X:List AO) (n f:Int),0<=n/\n<=B->0<=f/\f<=B->cfl T fv [.int .i64 n,.int .i64 f] (H++X)=some (.ret (.agg (g n f).cs),H++X)
theorem Good.ext{fv:AV}{g:Int->Int->Te}{B:Int}{H:List AO}(h:Good fv g B H)(Y:List AO):Good fv g B (H++Y):=fun X n f hn hf=>by rw[List.append_assoc];exact h (Y++X) n f hn hf
theorem ydl(p m:Int)(fv:AV)(hfv:fv.one=true)(g:Int->Int->Te)(B:Int)(t:Te):t.ok->∀(v d f:Int),rightT p m t v d=true->d<=1000->0<=v/\v+d<=B+1->0<=f/\f+d<=B+1->B<=1000000->∀(H:List AO),Good fv g B H ->
  F zl9 [.agg t.cs,.int .i64 f,fv] H=some (.ret (.agg (turnT g t f).cs),H):=by
 induction t using Te.ind with
 |h k n ls ks ih=>
 intro hl v d f hr hd hv hf hB H hg;obtain⟨hd1,hk,hls,hn,hks⟩:=zf2 hr;have hk3:=zom k;have loop:∀(suf pre done:List Te),ks=pre++suf->done.length=pre.length ->
   zll H (H++[.lst 0 3 [],.lst 0 4 [],.lst 0 3 [],.lst done.length 4 (Te.css done),.lst 0 3 [],.lst 0 4 []]) (.int .i64 f) fv (.sl (Te.css ks)) (.int .i64 ks.length) (.int .i64 pre.length) [.int .i64 k,.int .i64 n,.sl (Lv.css ls),.sl (Te.css ks)]
    [.int .i64 0,.int .i64 0,.ol H.length 0,.ol (H.length+1) 0] [.int .i64 k,.int .i64 n,.sl (Lv.css ls),.ol (H.length+3) done.length]=some (.ret (.agg (Te.mk k n ls (done++turnTs g k suf pre.length f)).cs),H):=by
  intro suf
  induction suf with
  |nil=>
   intro pre done e he;subst e;rw[zll,zab];simp only[↓reduceIte,go_sem,turnTs,Te.cs]
  |cons x suf ih2=>
   intro pre done e he;subst e;simp at hk;have:=ih2 (pre++[x]) (done++[turnT g x (f+binds k pre.length)]) (by simp) (by simp[he])
   simp only[zag]at this;simp only[zeg,List.append_assoc,List.cons_append,List.nil_append]at this;have hdl:done.length<=1073741823:=by omega
   have hbr:=zm4 k pre.length;rw[zll,zab,turnTs];simp only[↓reduceIte,go_sem,z50 k n ls _ pre.length (by omega) (by omega),zam (n:=f+binds k pre.length) (by omega) (by omega),ih x (by simp) (hl.all x (by simp)) (v+binds k pre.length) (d - 1) (f+binds k pre.length) (zmf hks) (by omega) (by omega) (by omega) hB _ (hg.ext _),zac (n:=pre.length) (by omega),hdl,this]
 have l0:=loop ks [] [] rfl rfl;simp only[List.length_nil,Int.natCast_zero,List.nil_append,Te.css,Te.cs]at l0;rw[z7s,turnT];by_cases h1:k=1
 ·subst h1
  obtain⟨h2,h3,h4⟩:=zp9 hn;have:=hg [.lst 0 3 [],.lst 0 4 []] n f (by omega) (by omega)
  simp only[↓reduceIte,go_sem,Te.cs,this]
 ·simp only[↓reduceIte,go_sem,Te.cs,h1,l0]
theorem zr7(n:Int)(H:List AO):F zgt [.int .i64 n] H=some (.ret (.agg (Te.mk 1 n [] []).cs),H):=by
 rw[zxq];simp only[↓reduceIte,go_sem,Te.cs,Lv.css,Te.css]
def ybj(f b:Int)(n d:Int):Te:=.mk 1 (if f+d<=n then n+b else n) [] []
mutual
theorem turn_lift(p m f b:Int):∀(t:Te) (v d δ:Int),rightT p m t v d=true->turnT (ybj f b) t δ=liftT b t (f+δ)
 |.mk k n ls ks,v,d,δ,h=>by
  obtain⟨hd1,hk,hls,hn,hks⟩:=zf2 h;rw[turnT,liftT];by_cases h1:k=1
  ·subst h1
   obtain⟨h2,h3,h4⟩:=zp9 hn;have:ks=[]:=List.eq_nil_of_length_eq_zero (by simp[zd4]at hk;simp[hk])
   subst this;subst h4;simp[ybj,liftTs]
  ·rw[if_neg h1,turn_lifts p m f b k ks 0 v (d - 1) δ hks]
   simp[h1]
theorem turn_lifts(p m f b k:Int):∀(ks:List Te) (i v d δ:Int),rightTs p m k ks i v d=true->turnTs (ybj f b) k ks i δ=liftTs b k ks i (f+δ)
 |[],i,v,d,δ,h=>rfl
 |x::r,i,v,d,δ,h=>by
  rw[rightTs,Bool.and_eq_true]at h;rw[turnTs,liftTs,turn_lift p m f b x _ _ _ h.1,turn_lifts p m f b k r _ _ _ _ h.2,Int.add_assoc]
end
theorem z9p(p m:Int)(t:Te)(hl:t.ok)(v d f b:Int)(hr:rightT p m t v d=true)(hd:d<=1000)(hv:0<=v/\v+d<=100000)(hf:0<=f/\f<=100000)(hb:0<=b/\b<=100000)(H:List AO):
  F zn1 [.agg t.cs,.int .i64 f,.int .i64 b] H=some (.ret (.agg (liftT b t f).cs),H):=by
 have hg:Good (.fn (.func zjj) [] [.ptr H.length 0,.ptr (H.length+1) 0]) (ybj f b) 100000 (H++[.box [.int .i64 f],.box [.int .i64 b]]):=by
  intro X n δ hn hδ;simp only[zhh,List.cons_append,List.nil_append,z1p,List.append_assoc];have e:((H++AO.box [.int .i64 f]::AO.box [.int .i64 b]::X)[H.length+1]?)=some (.box [.int .i64 b]):=by rw[zwb];rfl
  have e0:((H++AO.box [.int .i64 f]::AO.box [.int .i64 b]::X)[H.length]?)=some (.box [.int .i64 f]):=by rw[zwc];rfl
  generalize H++AO.box [.int .i64 f]::AO.box [.int .i64 b]::X=H' at *;unfold ybj;simp only[↓reduceIte,go_sem,e,e0,zr7,zam (n:=f+δ) (by omega) (by omega),zam (n:=n+b) (by omega) (by omega)]
  split <;> simp_all
 have:=ydl p m (.fn (.func zjj) [] [.ptr H.length 0,.ptr (H.length+1) 0]) rfl (ybj f b) 100000 t hl v d 0 hr hd (by omega) (by omega) (by omega) _ hg
 rw[turn_lift p m f b t v d 0 hr,Int.add_zero]at this;rw[z7u];simp only[↓reduceIte,go_sem,this]
def ya9(u:Te)(n d:Int):Te:=if n=d then liftT d u 0 else if d<n then .mk 1 (n - 1) [] [] else .mk 1 n [] []
mutual
theorem turn_open(p m:Int)(u:Te):∀(t:Te) (v d δ:Int),rightT p m t v d=true->turnT (ya9 u) t δ=openT u t δ
 |.mk k n ls ks,v,d,δ,h=>by
  obtain⟨hd1,hk,hls,hn,hks⟩:=zf2 h;rw[turnT,openT];by_cases h1:k=1
  ·subst h1
   obtain⟨h2,h3,h4⟩:=zp9 hn;have:ks=[]:=List.eq_nil_of_length_eq_zero (by simp[zd4]at hk;simp[hk])
   subst this;subst h4;simp[ya9,openTs];by_cases h5:n=δ
   ·simp[h5]
   ·simp[h5]
    split <;> rfl
  ·rw[if_neg h1,turn_opens p m u k ks 0 v (d - 1) δ hks]
   simp[h1]
theorem turn_opens(p m:Int)(u:Te)(k:Int):∀(ks:List Te) (i v d δ:Int),rightTs p m k ks i v d=true->turnTs (ya9 u) k ks i δ=openTs u k ks i δ
 |[],i,v,d,δ,h=>rfl
 |x::r,i,v,d,δ,h=>by
  rw[rightTs,Bool.and_eq_true]at h;rw[turnTs,openTs,turn_open p m u x _ _ _ h.1,turn_opens p m u k r _ _ _ _ h.2]
end
theorem ydm(t:Te)(hl:t.ok)(H:List AO):F zn0 [.agg t.cs] H=some (.ret (zj7 (zwj t)),H):=by
 rw[z7t,zwj];simp only[↓reduceIte,go_sem,zr3,zj2 t hl 1000 5 10 (by omega),zf1,zj7,zeroT,Te.cs,Lv.css,Te.css]
 cases zcr t <;> simp[Te.cs,Lv.css,Te.css]
theorem ymq(t:Te)(hl:t.ok)(f b:Int)(H:List AO):F zpx [.agg t.cs,.int .i64 f,.int .i64 b] H=some (.ret (zj7 (zhk t f b)),H):=by
 rw[z7x,zhk];by_cases h:zcr t=false\/f<0\/1000<f\/b<0\/1000<b
 ·simp only[h,↓reduceIte]
  by_cases h1:zcr t=true
  ·simp[h1]at h
   by_cases h2:f<0
   ·simp only[↓reduceIte,go_sem,zr3,zj2 t hl 1000 5 10 (by omega),zf1,h1,h2,zj7,zeroT,Te.cs,Lv.css,Te.css]
   by_cases h3:1000<f
   ·simp only[↓reduceIte,go_sem,zr3,zj2 t hl 1000 5 10 (by omega),zf1,h1,h2,h3,zj7,zeroT,Te.cs,Lv.css,Te.css]
   by_cases h4:b<0
   ·simp only[↓reduceIte,go_sem,zr3,zj2 t hl 1000 5 10 (by omega),zf1,h1,h2,h3,h4,zj7,zeroT,Te.cs,Lv.css,Te.css]
   have h5:1000<b:=by omega
   simp only[↓reduceIte,go_sem,zr3,zj2 t hl 1000 5 10 (by omega),zf1,h1,h2,h3,h4,h5,zj7,zeroT,Te.cs,Lv.css,Te.css]
  ·simp only[Bool.not_eq_true]at h1
   simp only[↓reduceIte,go_sem,zr3,zj2 t hl 1000 5 10 (by omega),zf1,h1,zj7,zeroT,Te.cs,Lv.css,Te.css]
 ·simp only[h,↓reduceIte]
  simp at h;have h2:¬ f<0:=by omega
  have h3:¬ 1000<f:=by omega
  have h4:¬ b<0:=by omega
  have h5:¬ 1000<b:=by omega
  have hL:=z9p 5 10 t hl 1000 30 f b (zgg h.1) (by omega) (by omega) (by omega) (by omega)
  simp only[↓reduceIte,go_sem,zr3,zj2 t hl 1000 5 10 (by omega),zf1,h.1,h2,h3,h4,h5,hL,ydm _ (z04 b t hl f)]
theorem yap(t u:Te)(hl:t.ok)(hu:u.ok)(H:List AO):F zn2 [.agg t.cs,.agg u.cs] H=some (.ret (zj7 (zm7 t u)),H):=by
 rw[z7w,zm7];by_cases h:zcr t=false\/zcr u=false
 ·simp only[h,↓reduceIte]
  cases h1:zcr t with
  |true=>
   have h2:zcr u=false:=by simpa [h1] using h
   simp only[↓reduceIte,go_sem,zr3,zj2 t hl 1000 5 10 (by omega),zj2 u hu 1000 5 10 (by omega),zf1,h1,h2,zj7,zeroT,Te.cs,Lv.css,Te.css]
  |false=>simp only[↓reduceIte,go_sem,zr3,zj2 t hl 1000 5 10 (by omega),zf1,h1,zj7,zeroT,Te.cs,Lv.css,Te.css]
 ·simp only[h,↓reduceIte]
  simp at h;have hsu:=zgg h.2;have hg:Good (.fn (.func zjl) [] [.ptr H.length 0]) (ya9 u) 2000 (H++[.box u.cs]):=by
   intro X n δ hn hδ;simp only[zhh,List.cons_append,List.nil_append,z1q,List.append_assoc];have e0:((H++AO.box u.cs::X)[H.length]?)=some (.box u.cs):=by rw[zwc];rfl
   generalize H++AO.box u.cs::X=H' at *;have hL:=fun f hf=>z9p 5 10 u hu 1000 30 0 f hsu (by omega) (by omega) (by omega) hf
   unfold ya9;by_cases h5:n=δ
   ·subst h5
    simp only[↓reduceIte,go_sem,e0,hL n (by omega)]
   ·by_cases h6:δ<n
    ·simp only[↓reduceIte,go_sem,e0,h5,h6,zam (n:=n - 1) (by omega) (by omega),zr7]
    ·simp only[↓reduceIte,go_sem,e0,h5,h6,zr7]
  have hT:=ydl 5 10 (.fn (.func zjl) [] [.ptr H.length 0]) rfl (ya9 u) 2000 t hl 1000 30 0 (zgg h.1) (by omega) (by omega) (by omega) (by omega) _ hg
  rw[turn_open 5 10 u t 1000 30 0 (zgg h.1)]at hT;simp only[↓reduceIte,go_sem,zr3,zj2 t hl 1000 5 10 (by omega),zj2 u hu 1000 5 10 (by omega),zf1,h.1,h.2,hT,ydm _ (z66 u hu t hl 0)]
theorem eqT_ok(a b:List Te)(hlen:a.length<=140737488355328)(f:AV)(H:List AO)(hf:∀x∈a,∀y,cfl T f [.agg x.cs,.agg y.cs] H=some (.ret (.bool (teEq x y)),H)):
  F zdj [.sl (Te.css a),.sl (Te.css b),f] H=some (.ret (.bool (tesEq a b)),H):=by
 have loop:a.length=b.length->∀(suf pre suf' pre':List Te),a=pre++suf->b=pre' ++ suf' -> pre.length=pre'.length ->
   zdh H H (.sl (Te.css b)) f (.sl (Te.css a)) (.int .i64 a.length) (.int .i64 pre.length)=some (.ret (.bool (tesEq suf suf')),H):=by
  intro hll suf
  induction suf with
  |nil=>
   intro pre suf' pre' e e' he;subst e;subst e';have:suf' = []:=List.eq_nil_of_length_eq_zero (by simp at hll;omega)
   subst this;rw[zdh,zab];simp only[↓reduceIte,go_sem,tesEq]
  |cons x suf ih2=>
   intro pre suf' pre' e e' he;subst e;subst e';simp at hlen
   cases suf' with
   |nil=>simp at hll;omega
   |cons y suf'=>
   have hy:(pre' ++ y::suf')[pre.length]?=some y:=by rw[he];simp
   have:=ih2 (pre++[x]) suf' (pre' ++ [y]) (by simp) (by simp) (by simp[he])
   simp only[zag]at this;rw[zdh,zab,tesEq];simp only[↓reduceIte,go_sem,hy,hf x (by simp) y,zac (n:=pre.length) (by omega),this]
   cases teEq x y <;> simp
 rw[zpg];by_cases h3:a.length=b.length
 ·have:=loop h3 a [] b [] rfl rfl rfl
  simp only[List.length_nil,Int.natCast_zero]at this;have h3':(a.length:Int)=b.length:=by omega
  simp only[↓reduceIte,go_sem,h3',not_true_eq_false];rw[<- h3',this]
 ·have h3':¬ (a.length:Int)=(b.length:Int):=by omega
  simp only[↓reduceIte,go_sem,h3',zwl h3]
theorem ydv(a:Te):a.ok->∀(b:Te) (H:List AO),F zma [.agg a.cs,.agg b.cs] H=some (.ret (.bool (teEq a b)),H):=by
 induction a using Te.ind with
 |h k n ls ks ih=>
 intro hl b H;obtain⟨k',n',ls',ks'⟩:=b;have h1:=yn3 ls ls' hl.len2 (.fn (.func zh8) [] []) H (fun x hx y=>yjp x (hl.all2 x hx) y H)
 have h2:=eqT_ok ks ks' hl.len (.fn (.func zma) [] []) H (fun x hx y=>ih x hx (hl.all x hx) y H)
 rw[z7v,teEq];simp only[↓reduceIte,go_sem,Te.cs,h1,h2]
 grind
end Go.Ab
end
section
set_option linter.unusedVariables false
set_option linter.unusedSimpArgs false
set_option maxRecDepth 100000
set_option maxHeartbeats 2000000
namespace Go.Ab
open Go.RowKit Go.Proofs
def mxE(a b:Int):Int:=if b > a then b else a
mutual
def subT(ps ms:List Lv):Te->Te
 |.mk k n ls ks=>.mk k n (ls.map fun l=>(ztw l ps ms).1) (subTs ps ms ks)
def subTs(ps ms:List Lv):List Te->List Te
 |[]=>[]
 |x::r=>subT ps ms x::subTs ps ms r
end
mutual
def errT(ps ms:List Lv):Te->Int->Int
 |.mk _ _ ls ks,e=>errTs ps ms ks (errLs ps ms ls e)
def errTs(ps ms:List Lv):List Te->Int->Int
 |[],e=>e
 |x::r,e=>errTs ps ms r (errT ps ms x e)
def errLs(ps ms:List Lv):List Lv->Int->Int
 |[],e=>e
 |l::r,e=>errLs ps ms r (mxE e (ztw l ps ms).2)
end
mutual
def okTm(ps ms:List Lv):Te->Bool
 |.mk _ _ ls ks=>(ls.all fun l=>decide ((ztw l ps ms).2=0)) && okTms ps ms ks
def okTms(ps ms:List Lv):List Te->Bool
 |[]=>true
 |x::r=>okTm ps ms x && okTms ps ms r
end
theorem ymk(l:Lv)(ps ms:List Lv):(ztw l ps ms).2=0\/(ztw l ps ms).2=1\/(ztw l ps ms).2=2:=by
 unfold ztw;split
 ·simp
 ·split <;> simp
theorem zz4(ps ms:List Lv):∀(ls:List Lv) (e:Int),0<=e->(0<=errLs ps ms ls e/\(errLs ps ms ls e=0 ↔ e=0/\(ls.all fun l=>decide ((ztw l ps ms).2=0))=true))
 |[],e,h=>by simp[errLs,h]
 |l::r,e,h=>by
  have hs:=ymk l ps ms;have hm:0<=mxE e (ztw l ps ms).2:=by unfold mxE;split <;> omega
  have hz:mxE e (ztw l ps ms).2=0 ↔ e=0/\(ztw l ps ms).2=0:=by unfold mxE;split <;> omega
  have:=zz4 ps ms r _ hm;rw[errLs];refine⟨this.1,?_⟩;rw[this.2,hz];simp[and_assoc]
mutual
theorem errT_zero(ps ms:List Lv):∀(t:Te) (e:Int),0<=e->(0<=errT ps ms t e/\(errT ps ms t e=0 ↔ e=0/\okTm ps ms t=true))
 |.mk k n ls ks,e,h=>by
  have h1:=zz4 ps ms ls e h;have h2:=errTs_zero ps ms ks _ h1.1;rw[errT,okTm];refine⟨h2.1,?_⟩;rw[h2.2,h1.2,Bool.and_eq_true,and_assoc]
theorem errTs_zero(ps ms:List Lv):∀(ks:List Te) (e:Int),0<=e->(0<=errTs ps ms ks e/\(errTs ps ms ks e=0 ↔ e=0/\okTms ps ms ks=true))
 |[],e,h=>by simp[errTs,okTms,h]
 |x::r,e,h=>by
  have h1:=errT_zero ps ms x e h;have h2:=errTs_zero ps ms r _ h1.1;rw[errTs,okTms];refine⟨h2.1,?_⟩;rw[h2.2,h1.2,Bool.and_eq_true,and_assoc]
end
theorem ymj{l:Lv}{ps ms:List Lv}(hl:l.ok)(hp:zt4 ps)(hm:zt4 ms):(ztw l ps ms).1.ok:=by
 have hz:zeroL.ok:=.mk (by simp) (by intro x hx;cases hx)
 unfold ztw
 split
 ·exact hz
 ·split
  ·exact z6s hp hm l hl
  ·exact hz
theorem zvu(ps ms:List Lv):∀ks:List Te,subTs ps ms ks=ks.map (subT ps ms)
 |[]=>rfl
 |x::r=>by rw[subTs,zvu ps ms r];rfl
theorem subT_ok{ps ms:List Lv}(hp:zt4 ps)(hm:zt4 ms)(t:Te):t.ok->(subT ps ms t).ok:=by
 induction t using Te.ind with
 |h k n ls ks ih=>
 intro hl;rw[subT,zvu];refine .mk (by simpa using hl.len) (by simpa using hl.len2) (fun x hx=>?_) (fun x hx=>?_)
 ·obtain⟨y,hy,rfl⟩:=List.mem_map.1 hx
  exact ymj (hl.all2 y hy) hp hm
 ·obtain⟨y,hy,rfl⟩:=List.mem_map.1 hx
  exact ih y hy (hl.all y hy)
def zqy(t:Te)(ps ms:List Lv):Te×Int :=
 if zcr t=false\/5<ps.length\/10<ms.length\/zcd ps=false\/zcd ms=false then (zeroT,1)
 else if okTm ps ms t=true then (subT ps ms t,0) else (zeroT,2)
theorem ymi{t:Te}{ps ms:List Lv}(ht:t.ok)(hp:zt4 ps)(hm:zt4 ms):(zqy t ps ms).1.ok:=by
 have hz:zeroT.ok:=.mk (by simp) (by simp) (by intro x hx;cases hx) (by intro x hx;cases hx)
 unfold zqy
 split
 ·exact hz
 ·split
  ·exact subT_ok hp hm t ht
  ·exact hz
open Classical in
theorem zrc{A X J:List AO}{o o':AO}{r:Res}(ho:LtO (A.length+(X.length+1)) o'):ze0 (A++(o::X)) r (A++(o' :: (X++J)))=if LtR (A++(o::X)).length r then some (r,A++(o' :: X)) else none:=by
 have e:A++(o' :: (X++J))=(A++(o::X)).set A.length o' ++ J:=by simp
 have hl:(A++(o::X)).length=A.length+(X.length+1):=by simp
 rw[e,ztf (by rw[hl];exact ho)]
 simp
open Classical in
theorem zf6{A X:List AO}{o o':AO}{r:Res}(ho:LtO (A.length+(X.length+1)) o'):ze0 (A++(o::X)) r (A++(o' :: X))=if LtR (A++(o::X)).length r then some (r,A++(o' :: X)) else none:=by
 have:=zrc (A:=A) (X:=X) (J:=[]) (o:=o) (o':=o') (r:=r) ho
 rwa [List.append_nil]at this
theorem putB_lt(n:Nat)(ps ms:List Lv)(e:Int):LtO n (.box [.sl (Lv.css ps),.sl (Lv.css ms),.int .i64 e]):=by
 intro a ha;simp at ha;rcases ha with rfl|rfl|rfl
 ·exact .sl fun a ha=>of_eq_true (z9n n ps) a ha
 ·exact .sl fun a ha=>of_eq_true (z9n n ms) a ha
 ·exact .int _ _
theorem yeb(ps ms:List Lv)(hp:zt4 ps)(hm:zt4 ms)(hpl:ps.length<=140737488355328)(hml:ms.length<=140737488355328)(p m:Int)(t:Te):t.ok->∀(v d:Int),rightT p m t v d=true->∀(A X:List AO) (e:Int),
  F zek [.ptr A.length 0,.agg t.cs] (A++(.box [.sl (Lv.css ps),.sl (Lv.css ms),.int .i64 e]::X))=some (.ret (.agg (subT ps ms t).cs),A++(.box [.sl (Lv.css ps),.sl (Lv.css ms),.int .i64 (errT ps ms t e)]::X)):=by
 induction t using Te.ind with
 |h k n ls ks ih=>
 intro hl v d hr A X e;obtain⟨hd1,hk,hls,hn,hks⟩:=zf2 hr;have hk3:=zom k;have hl5:ls.length<=5:=by
  unfold zft at hn
  split at hn
  ·simp at hn;simp[hn.2]
  ·split at hn
   ·simp at hn;omega
   ·split at hn
    ·simp at hn;exact hn.2
    ·simp at hn;simp[hn.2]
 have hf:=fun (o o':AO) r J (ho:LtO (A.length+(X.length+1)) o')=>zrc (A:=A) (X:=X) (J:=J) (o:=o) (o':=o') (r:=r) ho
 have loop1:∀(suf pre done:List Te) (e':Int),ks=pre++suf->done.length=pre.length ->
   ze5 (A++(.box [.sl (Lv.css ps),.sl (Lv.css ms),.int .i64 e]::X)) (A++(.box [.sl (Lv.css ps),.sl (Lv.css ms),.int .i64 e']::(X++[.lst 0 3 [],.lst 0 4 [],.lst ls.length 3 (Lv.css (ls.map fun l=>(ztw l ps ms).1)),.lst done.length 4 (Te.css done),.lst 0 3 [],.lst 0 4 []])))
    (.ptr A.length 0) (.sl (Te.css ks)) (.int .i64 ks.length) (.int .i64 pre.length) [.int .i64 0,.int .i64 0,.ol (A.length+(X.length+1)) 0,.ol (A.length+(X.length+2)) 0] [.int .i64 k,.int .i64 n,.ol (A.length+(X.length+3)) ls.length,.ol (A.length+(X.length+4)) done.length] =
   some (.ret (.agg (Te.mk k n (ls.map fun l=>(ztw l ps ms).1) (done++subTs ps ms suf)).cs),A++(.box [.sl (Lv.css ps),.sl (Lv.css ms),.int .i64 (errTs ps ms suf e')]::X)):=by
  intro suf
  induction suf with
  |nil=>
   intro pre done e' eq he;subst eq;rw[ze5,zab];simp only[↓reduceIte,go_sem,subTs,Te.cs,errTs,hf,putB_lt,Nat.add_le_add_iff_left,Nat.reduceLeDiff]
  |cons x suf ih2=>
   intro pre done e' eq he;subst eq;simp at hk;have:=ih2 (pre++[x]) (done++[subT ps ms x]) (errT ps ms x e') (by simp) (by simp[he])
   simp only[zag]at this;simp only[zeg,List.append_assoc,List.cons_append,List.nil_append]at this;have hdl:done.length<=1073741823:=by omega
   rw[ze5,zab,subTs,errTs];simp only[↓reduceIte,go_sem,ih x (by simp) (hl.all x (by simp)) _ _ (zmf hks),zac (n:=pre.length) (by omega),hdl,this]
 have loop0:∀(suf pre:List Lv) (e':Int),ls=pre++suf ->
   ze6 (A++(.box [.sl (Lv.css ps),.sl (Lv.css ms),.int .i64 e]::X)) (A++(.box [.sl (Lv.css ps),.sl (Lv.css ms),.int .i64 e']::(X++[.lst 0 3 [],.lst 0 4 [],.lst pre.length 3 (Lv.css (pre.map fun l=>(ztw l ps ms).1)),.lst 0 4 [],.lst 0 3 [],.lst 0 4 []])))
    (.ptr A.length 0) (.sl (Lv.css ls)) (.int .i64 ls.length) (.int .i64 pre.length) [.int .i64 k,.int .i64 n,.sl (Lv.css ls),.sl (Te.css ks)] [.int .i64 0,.int .i64 0,.ol (A.length+(X.length+1)) 0,.ol (A.length+(X.length+2)) 0] [.int .i64 k,.int .i64 n,.ol (A.length+(X.length+3)) pre.length,.ol (A.length+(X.length+4)) 0] =
   some (.ret (.agg (Te.mk k n (ls.map fun l=>(ztw l ps ms).1) (subTs ps ms ks)).cs),A++(.box [.sl (Lv.css ps),.sl (Lv.css ms),.int .i64 (errTs ps ms ks (errLs ps ms suf e'))]::X)):=by
  intro suf
  induction suf with
  |nil=>
   intro pre e' eq;subst eq;rw[List.append_nil]at *;have h1:=loop1 ks [] [] e' rfl rfl;simp only[List.length_nil,Int.natCast_zero,List.nil_append,Te.css]at h1;rw[ze6,zab];simp only[↓reduceIte,go_sem,errLs,h1]
  |cons l suf ih2=>
   intro pre e' eq;subst eq;simp at hl5;have:=ih2 (pre++[l]) (mxE e' (ztw l ps ms).2) (by simp)
   simp only[zag]at this;simp only[zeg,List.map_append,List.map_cons,List.map_nil]at this;have hs:=fun H=>Sub_ok l ps ms (hl.all2 l (by simp)) hp hm hpl hml H
   simp only[z61]at hs;rw[ze6,zab,errLs];simp only[↓reduceIte,go_sem,hs,zac (n:=pre.length) (by omega),zrd,List.length_map,show pre.length+(0+1)<=1073741824 by omega]
   unfold mxE at this ⊢;rw[this];simp only[List.map_append,List.map_cons]
 have h0:=loop0 ls [] e rfl;simp only[List.length_nil,Int.natCast_zero,List.map_nil,Lv.css]at h0;rw[zth,subT,errT];simp only[↓reduceIte,go_sem,Te.cs];exact h0
theorem yi7(l:Lv)(hl:l.ok)(H:List AO):F zq0 [.agg l.cs] H=some (.ret (.bool (!zaz l 5 10)),H):=by
 rw[ybq];simp only[↓reduceIte,go_sem,zhj l hl]
theorem z6c(t:Te):zdn t 1000 5 10=zcr t:=rfl
theorem TSub_ok(t:Te)(ps ms:List Lv)(ht:t.ok)(hp:zt4 ps)(hm:zt4 ms)(hpl:ps.length<=140737488355328)(hml:ms.length<=140737488355328)(H:List AO):
  F zsq [.agg t.cs,.sl (Lv.css ps),.sl (Lv.css ms)] H=some (.ret (zj7 (zqy t ps ms)),H):=by
 have h1:=fun H=>zl6 t ht 1000 5 10 H
 simp only[z6c]at h1;rw[ybs,zqy];by_cases hr:zcr t=true
 ·by_cases a1:5<ps.length
  ·have a1':(5:Int)<ps.length:=by omega
   simp only[↓reduceIte,go_sem,h1,hr,a1,a1',zj7,zeroT,Te.cs,Lv.css,Te.css,Bool.true_eq_false,false_or,true_or]
  by_cases a2:10<ms.length
  ·have a1':¬ (5:Int)<ps.length:=by omega
   have a2':(10:Int)<ms.length:=by omega
   simp only[↓reduceIte,go_sem,h1,hr,a1,a1',a2,a2',zj7,zeroT,Te.cs,Lv.css,Te.css,Bool.true_eq_false,false_or,true_or]
  have a1':¬ (5:Int)<ps.length:=by omega
  have a2':¬ (10:Int)<ms.length:=by omega
  have hc:=z5u [ps,ms] (by simp) (by simp;omega) H
  simp only[sls,List.map_cons,List.map_nil,List.flatten_cons,List.flatten_nil,List.append_nil]at hc;have ha:=z2y (ps++ms) (by simp;omega) (.fn (.func zq0) [] []) (fun x=>!zaz x 5 10) H (fun x hx=>by
   simp only[yac];exact yi7 x (by rcases List.mem_append.1 hx with h|h;exact hp x h;exact hm x h) _)
  rw[<- List.not_all_eq_any_not,List.all_append]at ha;rw[show (ps.all fun x=>zaz x 5 10)=zcd ps from rfl,show (ms.all fun x=>zaz x 5 10)=zcd ms from rfl]at ha
  by_cases hb:(zcd ps && zcd ms)=true
  ·have hb2:=hb
   rw[Bool.and_eq_true]at hb2;have hq:=yeb ps ms hp hm hpl hml 5 10 t ht 1000 30 (zgg hr) H [] 0;have hz:=errT_zero ps ms t 0 (by omega)
   simp only[hb]at ha;by_cases b3:okTm ps ms t=true
   ·have b4:errT ps ms t 0=0:=hz.2.2 ⟨rfl,b3⟩
    rw[b4]at hq;simp only[↓reduceIte,go_sem,h1,hr,a1,a1',a2,a2',hb2.1,hb2.2,hc,ha,hq,b3,zj7,zeroT,Te.cs,Lv.css,Te.css,Bool.true_eq_false,Bool.false_eq_true,or_self,true_or,false_or]
   ·have b4:¬ errT ps ms t 0=0:=fun h=>b3 (hz.2.1 h).2
    simp only[Bool.not_eq_true]at b3;simp only[↓reduceIte,go_sem,h1,hr,a1,a1',a2,a2',hb2.1,hb2.2,hc,ha,hq,b3,b4,zj7,zeroT,Te.cs,Lv.css,Te.css,Bool.true_eq_false,Bool.false_eq_true,or_self,true_or,false_or]
  ·have hb':zcd ps=false\/zcd ms=false:=by
    cases h1:zcd ps <;> cases h2:zcd ms <;> simp_all
   simp only[Bool.not_eq_true]at hb;simp only[hb]at ha;simp only[↓reduceIte,go_sem,h1,hr,a1,a1',a2,a2',hb',hc,ha,zj7,zeroT,Te.cs,Lv.css,Te.css,Bool.true_eq_false,or_self,true_or,or_true,false_or]
 ·simp only[Bool.not_eq_true]at hr
  simp only[↓reduceIte,go_sem,h1,hr,zj7,zeroT,Te.cs,Lv.css,Te.css,true_or]
theorem zzd(xs:List Lv)(hlen:xs.length<=140737488355328)(hx:zt4 xs)(H:List AO):F zjp [.sl (Lv.css xs)] H=some (.ret (.bool (zcd xs)),H):=by
 have loop:∀(suf pre:List Lv),xs=pre++suf->zi0 H H (.sl (Lv.css xs)) (.int .i64 pre.length)=some (.ret (.bool (zcd suf)),H):=by
  intro suf
  induction suf with
  |nil=>
   intro pre e;subst e;rw[zi0,zab];simp only[↓reduceIte,go_sem,zcd,List.all_nil]
  |cons x suf ih=>
   intro pre e;subst e;simp at hlen;have:=ih (pre++[x]) (by simp)
   simp only[zag]at this;have hr:=zem x (hx x (by simp)) 5 10 H
   rw[zi0,zab];unfold zcd at *;rw[List.all_cons]
   cases h:zaz x 5 10 <;> simp only[h]at hr <;> simp only[↓reduceIte,go_sem,hr,zac (n:=pre.length) (by omega),this,Bool.true_and,Bool.false_and]
 have:=loop xs [] rfl;simp only[List.length_nil,Int.natCast_zero]at this;rw[z1w];simp only[↓reduceIte,go_sem,this]
def ym6(ps ms:List Lv)(t:Te):AV:=.tup [.agg (if okTm ps ms t=true then subT ps ms t else zeroT).cs,.bool (okTm ps ms t)]
theorem yje(ps ms:List Lv)(hp:zt4 ps)(hm:zt4 ms)(hpl:ps.length<=140737488355328)(hml:ms.length<=140737488355328)(p m:Int)(t:Te):t.ok->∀(v d:Int),rightT p m t v d=true->∀(H:List AO),
  F zn8 [.agg t.cs,.sl (Lv.css ps),.sl (Lv.css ms)] H=some (.ret (ym6 ps ms t),H):=by
 induction t using Te.ind with
 |h k n ls ks ih=>
 intro hl v d hr H;obtain⟨hd1,hk,hls,hn,hks⟩:=zf2 hr;have hk3:=zom k;have hl5:ls.length<=5:=by
  unfold zft at hn
  split at hn
  ·simp at hn;simp[hn.2]
  ·split at hn
   ·simp at hn;omega
   ·split at hn
    ·simp at hn;exact hn.2
    ·simp at hn;simp[hn.2]
 have loop1:(ls.all fun l=>decide ((ztw l ps ms).2=0))=true->∀(suf pre done:List Te),ks=pre++suf->done.length=pre.length->(okTms ps ms ks=true->done=subTs ps ms pre)->okTms ps ms ks=okTms ps ms suf ->
   zlm H (H++[.lst 0 3 [],.lst 0 4 [],.lst ls.length 3 (Lv.css (ls.map fun l=>(ztw l ps ms).1)),.lst done.length 4 (Te.css done),.lst 0 3 [],.lst 0 4 []])
    (.sl (Lv.css ps)) (.sl (Lv.css ms)) (.int .i64 pre.length) [.int .i64 k,.int .i64 n,.sl (Lv.css ls),.sl (Te.css ks)] [.int .i64 0,.int .i64 0,.ol H.length 0,.ol (H.length+1) 0] [.int .i64 k,.int .i64 n,.ol (H.length+2) ls.length,.ol (H.length+3) done.length] =
   some (.ret (ym6 ps ms (.mk k n ls ks)),H):=by
  intro hls0 suf
  induction suf with
  |nil=>
   intro pre done eq he hdn hok;subst eq;rw[List.append_nil]at *;have h1:okTms ps ms pre=true:=hok;have h2:okTm ps ms (.mk k n ls pre)=true:=by rw[okTm,hls0,h1];rfl
   rw[zlm,zab];unfold ym6;rw[h2,if_pos rfl,subT,<- hdn h1];simp only[↓reduceIte,go_sem,Te.cs]
  |cons x suf ih2=>
   intro pre done eq he hdn hok;subst eq;simp at hk;have hx:=ih x (by simp) (hl.all x (by simp)) _ _ (zmf hks)
   unfold ym6 at hx;have hdl:done.length<=1073741823:=by omega
   rw[zlm,zab];rw[okTms]at hok
   cases hxk:okTm ps ms x with
   |true=>
    rw[hxk,Bool.true_and]at hok;have:=ih2 (pre++[x]) (done++[subT ps ms x]) (by simp) (by simp[he]) (fun h=>by rw[hdn h];simp[zvu]) hok
    simp only[zag]at this;simp only[zeg,List.append_assoc,List.cons_append,List.nil_append]at this;simp only[hxk]at hx;simp only[↓reduceIte,go_sem,hx,zac (n:=pre.length) (by omega),hdl,ydn,this]
   |false=>
    rw[hxk,Bool.false_and]at hok;simp only[hxk]at hx;have h2:okTm ps ms (.mk k n ls (pre++x::suf))=false:=by rw[okTm,hok];simp
    unfold ym6;rw[h2];simp only[↓reduceIte,go_sem,hx,zeroT,Te.cs,Lv.css,Te.css,Bool.false_eq_true,Nat.add_le_add_iff_left,Nat.reduceLeDiff]
 have loop0:∀(suf pre:List Lv),ls=pre++suf->(ls.all fun l=>decide ((ztw l ps ms).2=0))=(suf.all fun l=>decide ((ztw l ps ms).2=0)) ->
   zln H (H++[.lst 0 3 [],.lst 0 4 [],.lst pre.length 3 (Lv.css (pre.map fun l=>(ztw l ps ms).1)),.lst 0 4 [],.lst 0 3 [],.lst 0 4 []])
    (.sl (Lv.css ps)) (.sl (Lv.css ms)) (.int .i64 pre.length) [.int .i64 k,.int .i64 n,.sl (Lv.css ls),.sl (Te.css ks)] [.int .i64 0,.int .i64 0,.ol H.length 0,.ol (H.length+1) 0] [.int .i64 k,.int .i64 n,.ol (H.length+2) pre.length,.ol (H.length+3) 0] =
   some (.ret (ym6 ps ms (.mk k n ls ks)),H):=by
  intro suf
  induction suf with
  |nil=>
   intro pre eq hall;subst eq;rw[List.append_nil]at *;have h1:=loop1 (by rw[hall];rfl) ks [] [] rfl rfl (fun _=>rfl) rfl
   simp only[List.length_nil,Int.natCast_zero,Te.css]at h1;rw[zln,zab];simp only[↓reduceIte,go_sem,h1]
  |cons l suf ih2=>
   intro pre eq hall;subst eq;simp at hl5;have hs:=fun H=>yml l ps ms (hl.all2 l (by simp)) hp hm hpl hml H
   simp only[z61]at hs;rw[zln,zab];by_cases h0:(ztw l ps ms).2=0
   ·have:=ih2 (pre++[l]) (by simp) (by rw[hall];simp[h0])
    simp only[zag]at this;simp only[zeg,List.map_append,List.map_cons,List.map_nil]at this;simp only[↓reduceIte,go_sem,hs,h0,zac (n:=pre.length) (by omega),zrd,List.length_map,show pre.length+(0+1)<=1073741824 by omega]
    exact this
   ·have h2:okTm ps ms (.mk k n (pre++l::suf) ks)=false:=by rw[okTm,hall];simp[h0]
    unfold ym6;rw[h2];simp only[↓reduceIte,go_sem,hs,h0,zeroT,Te.cs,Lv.css,Te.css,Bool.false_eq_true,Nat.add_le_add_iff_left,Nat.reduceLeDiff]
 have h0:=loop0 ls [] rfl rfl;simp only[List.length_nil,Int.natCast_zero,List.map_nil,Lv.css]at h0;rw[z70];simp only[↓reduceIte,go_sem,Te.cs];exact h0
theorem zye(t:Te)(ps ms:List Lv)(ht:t.ok)(hp:zt4 ps)(hm:zt4 ms)(hpl:ps.length<=140737488355328)(hml:ms.length<=140737488355328)(H:List AO):
  F zp4 [.agg t.cs,.sl (Lv.css ps),.sl (Lv.css ms)] H=some (.ret (zj7 (zqy t ps ms)),H):=by
 have h1:=fun H=>zdt t ht H
 have h2:=zzd ps hpl hp H;have h3:=zzd ms hml hm H;rw[z71,zqy];by_cases hr:zcr t=true
 ·by_cases a1:5<ps.length
  ·have a1':(5:Int)<ps.length:=by omega
   simp only[↓reduceIte,go_sem,h1,hr,a1,a1',zj7,zeroT,Te.cs,Lv.css,Te.css,Bool.true_eq_false,false_or,true_or]
  by_cases a2:10<ms.length
  ·have a1':¬ (5:Int)<ps.length:=by omega
   have a2':(10:Int)<ms.length:=by omega
   simp only[↓reduceIte,go_sem,h1,hr,a1,a1',a2,a2',zj7,zeroT,Te.cs,Lv.css,Te.css,Bool.true_eq_false,false_or,true_or]
  have a1':¬ (5:Int)<ps.length:=by omega
  have a2':¬ (10:Int)<ms.length:=by omega
  cases b1:zcd ps with
  |false=>simp only[↓reduceIte,go_sem,h1,h2,hr,a1,a1',a2,a2',b1,zj7,zeroT,Te.cs,Lv.css,Te.css,Bool.true_eq_false,false_or,true_or]
  |true=>
  cases b2:zcd ms with
  |false=>simp only[↓reduceIte,go_sem,h1,h2,h3,hr,a1,a1',a2,a2',b1,b2,zj7,zeroT,Te.cs,Lv.css,Te.css,Bool.true_eq_false,false_or,true_or]
  |true=>
  have h4:=yje ps ms hp hm hpl hml 5 10 t ht 1000 30 (zgg hr) H;unfold ym6 at h4;by_cases b3:okTm ps ms t=true
  ·simp only[b3,if_true]at h4
   simp only[↓reduceIte,go_sem,h1,h2,h3,h4,hr,a1,a1',a2,a2',b1,b2,b3,zj7,zeroT,Te.cs,Lv.css,Te.css,Bool.true_eq_false,Bool.false_eq_true,or_self,true_or]
  ·simp only[Bool.not_eq_true]at b3
   simp only[b3,Bool.false_eq_true,if_false]at h4;simp only[↓reduceIte,go_sem,h1,h2,h3,h4,hr,a1,a1',a2,a2',b1,b2,b3,zj7,zeroT,Te.cs,Lv.css,Te.css,Bool.true_eq_false,Bool.false_eq_true,or_self,true_or]
 ·simp only[Bool.not_eq_true]at hr
  simp only[↓reduceIte,go_sem,h1,hr,zj7,zeroT,Te.cs,Lv.css,Te.css,true_or]
end Go.Ab
end
section
set_option linter.unusedVariables false
set_option linter.unusedSimpArgs false
set_option maxRecDepth 100000
set_option maxHeartbeats 2000000
namespace Go.Ab
open Go.RowKit Go.Proofs
mutual
def subs:Te->List Te
 |.mk k n ls ks=>.mk k n ls ks::subss ks
def subss:List Te->List Te
 |[]=>[]
 |x::r=>subs x++subss r
end
abbrev ylj(t:Te):List AV:=[.agg t.cs]
def yof(t:Te):AV:=.fn (.func zjh) [] [.fp t.cs]
theorem z8p(t:Te)(H:List AO):F zq1 [.agg t.cs] H=some (.ret (yof t),H):=by
 rw[ybr]
 cases t with
 |mk k n ls ks=>
 have h:Lt H.length (.fn (.func zjh) [] [.fp [.int .i64 k,.int .i64 n,.sl (Lv.css ls),.sl (Te.css ks)]])=True:=by
  simp only[eq_iff_iff,iff_true];refine .fn (by simp) ?_
  intro x hx;simp at hx;subst hx;exact .fp (zux H.length (.mk k n ls ks))
 simp only[↓reduceIte,go_sem,yof,Te.cs,h]
def zt0(y:AV)(st:LSt):AO:=.slp st 25 [(2,.fp [y])] [19] zex zeu
theorem all_ys{S E:Type}{y:AV}{m:Nat}{W:S->List AO}{WE:E->List AO}{stp:S->Te->Option (S ⊕ E)}(hy:Ys y m ylj W WE stp)(V:List AO):
  Ys (.yd (m+V.length)) (m+V.length+1) ylj (fun s=>W s++(V++[zt0 y .ready])) (fun e=>WE e++(V++[zt0 y (.done .ret)])) stp:=by
 have hhp:∀r:S ⊕ E,hp (fun s=>W s++(V++[zt0 y .ready])) (fun e=>WE e++(V++[zt0 y (.done .ret)])) r=hp W WE r++(V++[zt0 y (if isL r=true then .ready else .done .ret)]):=fun r=>by cases r <;> rfl
 refine⟨rfl,.yd (by omega),?_,?_,?_⟩
 ·intro r
  have:=hy.len r;rw[hhp];simp;omega
 ·intro s r id o ho
  have l1:=hy.len (.inl s);have l2:=hy.len r;have l1:(W s).length=m:=l1;rw[hhp]at ho;by_cases h1:id<m
  ·rw[List.getElem?_append_left (by omega)]at ho
   rcases hy.fr s r id o ho with k|k
   ·exact .inl (by rw[List.getElem?_append_left (by omega)];exact k)
   ·exact .inr (k.mono (by omega))
  ·rw[List.getElem?_append_right (by omega)]at ho
   rw[List.getElem?_append_right (by omega),l1,<- l2]
   by_cases h2:id - (hp W WE r).length<V.length
   ·rw[List.getElem?_append_left h2]at ho ⊢;exact .inl ho
   ·rw[List.getElem?_append_right (by omega)]at ho
    cases h3:id - (hp W WE r).length - V.length with
    |zero=>
     rw[h3]at ho;simp at ho;subst ho;refine .inr fun p hp=>?_
     simp at hp;subst hp;exact .fp (by intro a ha;simp at ha;subst ha;exact hy.lt.mono (by omega))
    |succ j=>rw[h3]at ho;simp at ho
 ·intro s x Z r hst
  rw[hhp];have hl:(W s).length=m:=hy.len (.inl s);have hl2:=hy.len r;have hfr:∀(id:Nat) (o:AO),(hp W WE r)[id]?=some o->(W s)[id]?=some o\/LtO (W s).length o:=by rw[hl];exact hy.fr s r
  have hc:=hy.call s x (V++zt0 y .busy::Z) r hst;have hlt:∀(st:LSt),LtO (W s++(V++zt0 y .ready::Z)).length (zt0 y st):=fun st p hp=>by
   simp at hp;subst hp;exact .fp (by intro a ha;simp at ha;subst ha;exact hy.lt.mono (by simp;omega))
  have g1:(W s++(V++zt0 y .ready::Z))[m+V.length]?=some (zt0 y .ready):=by rw[<- hl];exact yeu
  have s1:(W s++(V++zt0 y .ready::Z)).set (m+V.length) (zt0 y .busy)=W s++(V++zt0 y .busy::Z):=by rw[<- hl];exact yet
  have g2:(hp W WE r++(V++zt0 y .busy::Z))[m+V.length]?=some (zt0 y .busy):=by rw[<- hl2];exact yeu
  have s2:∀st,(hp W WE r++(V++zt0 y .busy::Z)).set (m+V.length) (zt0 y st)=hp W WE r++(V++zt0 y st::Z):=fun st=>by rw[<- hl2];exact yet
  have e1:∀st b,ztx (W s++(V++zt0 y .ready::Z)) (m+V.length) st b (hp W WE r++(V++zt0 y .busy::Z))=some (.ret (.bool b),hp W WE r++(V++zt0 y st::Z)):=fun st b=>by
   have:=z8u (H:=W s++(V++zt0 y .ready::Z)) (st:=st) (b:=b) g2;rw[this];show ze0 _ _ ((hp W WE r++(V++zt0 y .busy::Z)).set (m+V.length) (zt0 y st))=_;rw[s2 st];exact yk8 (by rw[hl2,hl]) hfr (hlt st) (.bool _)
  simp only[List.append_assoc,List.cons_append,List.nil_append];rw[yn6 g1 rfl zvl zvj];unfold zt0 at g1 s1 hc e1;unfold zt0
  cases x with
  |mk xk xn xls xks=>
  simp only[ylj,Te.cs]at hc ⊢
  cases h:isL r with
  |true=>simp only[↓reduceIte,go_sem,g1,s1,hc,h,e1]
  |false=>simp only[↓reduceIte,go_sem,g1,s1,hc,h,e1]
theorem all_seq(t:Te):t.ok->yik (yof t) ylj (subs t):=by
 induction t using Te.ind with
 |h k n ls ks ih=>
 intro hl S E y m W WE stp hy s X r hr;rw[yof];simp only[zhh,List.cons_append,List.nil_append];have hlen:=hl.len;have hone:=hy.one;have hcell:y.cells=[y]:=by cases y <;> first|rfl|(simp[AV.one]at hone)
 unfold AV.cells at hcell;unfold AV.one at hone;have loop:∀(suf pre:List Te) (a:S),ks=pre++suf->zm8 stp (subss suf) a=some r ->
   zj9 (W s++X) (W a++(X++jk pre.length)) (dsl (m+X.length) pre.length) (.fp [y]) (.sl (Te.css ks)) (.int .i64 ks.length) (.int .i64 pre.length)=some (.ret (.tup []),hp W WE r++X):=by
  intro suf
  induction suf with
  |nil=>
   intro pre a e hq2;subst e;simp only[subss,zm8]at hq2;cases hq2;rw[zj9,zab];simp only[↓reduceIte,go_sem];exact ygv hy s (.inl a) X pre.length (.inl rfl) _ _
  |cons x suf ih2=>
   intro pre a e hq2;subst e;simp at hlen;have lA:(W a).length=m:=hy.len (.inl a);have hn:(W a++(X++jk pre.length)).length=m+(X.length+2*pre.length):=by simp[lA,zqd]
   have hd:yi0 (W a++(X++jk pre.length)) (dsl (m+X.length) pre.length)=true:=by
    have:=yg6 (W a++X) pre.length [];simpa [lA] using this
   have hrd:yiz (W a++(X++jk pre.length)) (dsl (m+X.length) pre.length)=false:=by
    have:=inRd_jk (W a++X) pre.length [];simpa [lA] using this
   rw[subss,z1f]at hq2;obtain⟨q,hq⟩:∃q,zm8 stp (subs x) a=some q:=by
    cases h:zm8 stp (subs x) a with
    |none=>rw[h]at hq2;cases hq2
    |some q=>exact⟨q,rfl⟩
   rw[hq]at hq2;have hx:=ih x (by simp) (hl.all x (by simp)) _ _ _ _ _ _ _ (all_ys hy (X++(jk pre.length++[.dfr]))) a [] q hq
   have lA':=hy.len q;simp only[yof,zhh,List.append_nil,List.append_assoc,List.cons_append,List.nil_append,List.length_append,zqd,List.length_cons,List.length_nil,zt0]at hx;have hds:(m+(X.length+2*pre.length))::dsl (m+X.length) pre.length=dsl (m+X.length) (pre.length+1):=by rw[dsl];congr 1;omega
   have hg:∀st,(hp W WE q++(X++(jk pre.length++[AO.dfr,AO.slp st 25 [(2,.fp [y])] [19] zex zeu])))[m+(X.length+(2*pre.length+1))]?=some (AO.slp st 25 [(2,.fp [y])] [19] zex zeu):=by
    intro st;rw[<- lA',List.getElem?_append_right (by omega),List.getElem?_append_right (by omega),List.getElem?_append_right (by rw[zqd];omega),zqd]
    rw[show (hp W WE q).length+(X.length+(2*pre.length+1)) - (hp W WE q).length - X.length - 2*pre.length=1 by omega]
    rfl
   have hs:∀st,(hp W WE q++(X++(jk pre.length++[AO.dfr,AO.slp st 25 [(2,.fp [y])] [19] zex zeu]))).set (m+(X.length+(2*pre.length+1))) .dead=hp W WE q++(X++jk (pre.length+1)):=by
    intro st;rw[<- lA',List.set_append_right _ _ (by omega),List.set_append_right _ _ (by omega),List.set_append_right _ _ (by rw[zqd];omega),zqd]
    rw[show (hp W WE q).length+(X.length+(2*pre.length+1)) - (hp W WE q).length - X.length - 2*pre.length=1 by omega]
    rfl
   rw[zj9,zab]
   cases q with
   |inl a'=>
    have:=ih2 (pre++[x]) a' (by simp) hq2
    simp only[zag,zeg,Int.natCast_add,Int.natCast_one]at this;simp only[zfu]at hx hg hs;rw[<- this];simp only[↓reduceIte,go_sem,z8p,yof,hn,hd,hrd,hx,hg,hs,hds,zac (n:=pre.length) (by omega)]
   |inr e=>
    dsimp only at hq2;cases hq2;have:=fun t ls=>ygv hy s (.inr e) X (pre.length+1) (o:=.ret) (.inr rfl) t ls
    simp only[zry]at hx hg hs this ⊢;simp only[↓reduceIte,go_sem,z8p,yof,hn,hd,hrd,hx,hg,hs,hds,this]
 rw[show subs (.mk k n ls ks) = .mk k n ls ks::subss ks by rw[subs],zm8]at hr
 obtain⟨q,hq⟩:∃q,stp s (.mk k n ls ks)=some q:=by
  cases h:stp s (.mk k n ls ks) with
  |none=>rw[h]at hr;cases hr
  |some q=>exact⟨q,rfl⟩
 have hc:=hy.call s _ X q hq;rw[hq]at hr;simp only[ylj,Te.cs]at hc;show F zjh _ _=_;rw[z4p]
 cases q with
 |inl a=>
  have h0:=loop ks [] a rfl hr;simp only[List.length_nil,Int.natCast_zero,jk,dsl,List.append_nil]at h0;rw[<- h0];simp only[zfu]at hc;simp only[↓reduceIte,go_sem,Te.cs,hone,hcell,hc,isL]
 |inr e=>
  dsimp only at hr;cases hr;simp only[zry]at hc;have l1:(W s).length=m:=hy.len (.inl s);have l2:(WE e).length=m:=hy.len (.inr e);have hf:=z1j (H:=W s) (A:=WE e) (X:=X) (J:=[]) (r:=.ret (.tup [])) (by rw[l2];exact l1.symm) (by rw[l1];exact hy.fr s (.inr e)) (show Lt _ _ from .tup (by simp))
  rw[List.append_nil]at hf;simp only[↓reduceIte,go_sem,Te.cs,hone,hcell,hc,isL];exact hf
def zzv(L:List Int):List (AV×AV):=L.map fun n=>(.int .i64 n,.agg [])
@[go_sem] theorem ygg:∀L:List Int,znp .i64 (zzv L)=true
 |[]=>rfl
 |n::r=>by show znp .i64 ((.int .i64 n,.agg [])::zzv r)=true;simp only[znp,if_pos,ygg r]
@[go_sem] theorem ygh(n:Int):∀L:List Int,zhg n (zzv L)=some (if L.contains n then some (.agg []) else none)
 |[]=>rfl
 |m::r=>by
  show zhg n ((.int .i64 m,.agg [])::zzv r)=_;rw[zhg,ygh n r];by_cases h:n=m
  ·subst h;simp
  ·simp[h]
@[go_sem] theorem yky:zzv []=[]:=rfl
theorem yge(L:List Int)(n:Int):zzv L++[(.int .i64 n,.agg [])]=zzv (L++[n]):=by simp[zzv]
theorem ygf(n:Nat)(L:List Int):LtO n (.mapo (zzv L)):=by
 constructor
 ·intro p hp;obtain⟨x,_,rfl⟩:=List.mem_map.1 hp;exact .int _ _
 ·intro p hp;obtain⟨x,_,rfl⟩:=List.mem_map.1 hp;exact .agg (by simp)
def zrn:Nat×List Int->List Int->Nat×List Int
 |p,[]=>p
 |p,n::r=>zrn (if p.2.contains n then p else (p.1+1,p.2++[n])) r
theorem z3z:∀(xs:List Int) (p:Nat×List Int),(zrn p xs).2=zgd p.2 xs
 |[],p=>rfl
 |n::r,p=>by
  rw[zrn,zgd,z3z r];by_cases h:p.2.contains n=true
  ·rw[if_pos h,if_pos h]
  ·rw[if_neg h,if_neg h]
theorem zrb{H H':List AO}{r:Res}(hl:H'.length=H.length)(hr:LtR H.length r)(h:∀(id:Nat) (o:AO),H'[id]?=some o->H[id]?=some o\/LtO H.length o):ze0 H r H' = some (r,H'):=by
 unfold ze0;rw[if_pos ⟨hr,fun id o ho _=>h id o ho⟩,<- hl,List.take_length]
theorem z7q{H H':List AO}{r:Res}(J:List AO)(hl:H'.length=H.length)(hr:LtR H.length r)(h:∀(id:Nat) (o:AO),H'[id]?=some o->H[id]?=some o\/LtO H.length o):ze0 H r (H' ++ J)=some (r,H'):=by
 unfold ze0;rw[if_pos ⟨hr,fun id o ho hi=>h id o (by rwa [List.getElem?_append_left (by omega)]at ho)⟩,List.take_left' hl]
theorem yh2{A Z:List AO}{o1 o1' b o2 o2':AO}{n:Nat}(h1:LtO n o1')(h2:LtO n o2'):∀(id:Nat) (o:AO),(A++(o1' :: b::o2' :: Z))[id]?=some o->(A++(o1::b::o2::Z))[id]?=some o\/LtO n o:=by
 intro id o ho;by_cases hi:id<A.length
 ·rw[List.getElem?_append_left hi]at ho ⊢;exact .inl ho
 rw[List.getElem?_append_right (by omega)]at ho ⊢
 match id - A.length,ho with
 |0,ho=>simp at ho;subst ho;exact .inr h1
 |1,ho=>simp at ho;subst ho;exact .inl (by simp)
 |2,ho=>simp at ho;subst ho;exact .inr h2
 |j+3,ho=>simp at ho;exact .inl (by simpa using ho)
theorem yka(b:AO)(xs:List Int)(hx:xs.length<=140737488355328)(A Z:List AO)(ver:Nat)(es:List Int)(hs:es.length+xs.length<=1073741824):
  F zpw [.ol A.length ver,.mp (A.length+2),.sl (zav xs)] (A++(.lst ver 1 (zav es)::b :: .mapo (zzv es)::Z)) =
   some (.ret (.ol A.length (zrn (ver,es) xs).1),A++(.lst (zrn (ver,es) xs).1 1 (zav (zrn (ver,es) xs).2)::b :: .mapo (zzv (zrn (ver,es) xs).2)::Z)):=by
 have hf:∀(v v2:Nat) (es':List Int),ze0 (A++(.lst ver 1 (zav es)::b :: .mapo (zzv es)::Z)) (.ret (.ol A.length v2)) (A++(.lst v 1 (zav es')::b :: .mapo (zzv es')::(Z++[.lst 0 1 []])))=some (.ret (.ol A.length v2),A++(.lst v 1 (zav es')::b :: .mapo (zzv es')::Z)):=by
  intro v v2 es';have:=z7q (H:=A++(.lst ver 1 (zav es)::b :: .mapo (zzv es)::Z)) (H':=A++(.lst v 1 (zav es')::b :: .mapo (zzv es')::Z)) (r:=.ret (.ol A.length v2)) [.lst 0 1 []] (by simp) (.ol (by simp)) (yh2 (fun a ha=>z7j _ _ a ha) (ygf _ _))
  simpa using this
 have hn:¬ (A.length+(Z.length+3)<=A.length):=by omega
 have loop:∀(suf pre:List Int) (p:Nat×List Int),xs=pre++suf->p.2.length+suf.length<=1073741824 ->
   zlk (A++(.lst ver 1 (zav es)::b :: .mapo (zzv es)::Z)) (A++(.lst p.1 1 (zav p.2)::b :: .mapo (zzv p.2)::(Z++[.lst 0 1 []]))) (.ol A.length p.1) (.mp (A.length+2)) (.sl (zav xs)) (.int .i64 xs.length) (.int .i64 pre.length) =
   some (.ret (.ol A.length (zrn p suf).1),A++(.lst (zrn p suf).1 1 (zav (zrn p suf).2)::b :: .mapo (zzv (zrn p suf).2)::Z)):=by
  intro suf
  induction suf with
  |nil=>
   intro pre p e hp;subst e;rw[zlk,zab];simp only[↓reduceIte,go_sem,zrn,hn,hf]
  |cons n suf ih=>
   rintro pre ⟨v,l⟩ e hp
   subst e;simp at hp hx;rw[zlk,zab,zrn];by_cases h:l.contains n=true
   ·have:=ih (pre++[n]) (v,l) (by simp) (by simp;omega)
    simp only[zag]at this;rw[if_pos h];simp only[↓reduceIte,go_sem,h,zac (n:=pre.length) (by omega),this]
   ·have:=ih (pre++[n]) (v+1,l++[n]) (by simp) (by simp;omega)
    simp only[zag]at this;rw[if_neg h];simp only[Bool.not_eq_true]at h;simp only[↓reduceIte,go_sem,h,zac (n:=pre.length) (by omega),yge,zmu,show l.length+(0+1)<=1073741824 by omega,this]
 have:=loop xs [] (ver,es) rfl hs;simp only[List.length_nil,Int.natCast_zero]at this;rw[z7r];simp only[↓reduceIte,go_sem,this]
def Te.kind:Te->Int
 |.mk k _ _ _=>k
def Te.n:Te->Int
 |.mk _ n _ _=>n
def zow:List Te->List Int
 |[]=>[]
 |x::r=>(if x.kind=3 then [x.n] else [])++zow r
theorem z5t:∀a b:List Te,zow (a++b)=zow a++zow b
 |[],b=>rfl
 |x::a,b=>by rw[List.cons_append,zow,zow,z5t a b,List.append_assoc]
def zpo(n:Nat)(p:Nat×List Int):List AO:=[.lst p.1 1 (zav p.2),.box [.ol n p.1],.mapo (zzv p.2),.box [.mp (n+2)]]
def z5r(p:Nat×List Int)(x:Te):Option ((Nat×List Int) ⊕ Empty):=if p.2.length<1073741824 then some (.inl (if x.kind=3 then zrn p [x.n] else p)) else none
theorem ylq(H:List AO):Ys (.yd (H.length+4+1)) (H.length+4+2) ylj (fun p=>H++(zpo H.length p++[.dfr,.slp .ready 19 [(2,.ptr (H.length+1) 0),(3,.ptr (H.length+3) 0)] [8] zdk zdi])) (fun e:Empty=>H++(noE e++[.dfr,.slp (.done (noE e)) 19 [(2,.ptr (H.length+1) 0),(3,.ptr (H.length+3) 0)] [8] zdk zdi])) z5r:=by
 refine z6k H 4 ylj (zpo H.length) noE noE z5r 19 [(2,.ptr (H.length+1) 0),(3,.ptr (H.length+3) 0)] [8] zdk zdi zt8 zt6 (fun _=>rfl) ?_ ?_ ?_ ?_
 ·rintro (p|e)
  ·rfl
  ·exact e.elim
 ·rintro s (p|e) i o ho
  ·match i,ho with
   |0,ho=>simp[zfu,zpo]at ho;subst ho;exact .inr fun a ha=>z7j _ _ a ha
   |1,ho=>simp[zfu,zpo]at ho;subst ho;exact .inr fun a ha=>by simp at ha;subst ha;exact .ol (by omega)
   |2,ho=>simp[zfu,zpo]at ho;subst ho;exact .inr (ygf _ _)
   |3,ho=>simp[zfu,zpo]at ho;subst ho;exact .inl (by simp[zpo])
   |j+4,ho=>simp[zfu,zpo]at ho
  ·exact e.elim
 ·intro p hp;simp at hp;rcases hp with rfl|rfl <;> exact .ptr (by omega)
 ·rintro ⟨ver,es⟩ ⟨k,n,ls,ks⟩ X r hst
  refine⟨[],?_⟩;unfold z5r at hst
  split at hst
  ·rename_i h2
   dsimp only at h2;cases hst;have hc:=yka (.box [.ol H.length ver]) [n] (by simp) H (.box [.mp (H.length+2)] :: .dfr :: .slp .busy 19 [(2,.ptr (H.length+1) 0),(3,.ptr (H.length+3) 0)] [8] zdk zdi::X) ver es (by simp;omega)
   simp only[zav,List.map_cons,List.map_nil]at hc;by_cases h1:k=3
   ·simp only[↓reduceIte,go_sem,zpo,zav,ylj,Te.cs,Te.kind,Te.n,hc,h1,z7e,isL]
   ·simp only[↓reduceIte,go_sem,zpo,zav,ylj,Te.cs,Te.kind,Te.n,h1,z7e,isL]
  ·cases hst
theorem zuq:∀(xs:List Te) (ver:Nat) (es:List Int),es.length+xs.length<=1073741824->∃v,zm8 z5r xs (ver,es)=some (.inl (v,zgd es (zow xs)))
 |[],ver,es,_=>⟨ver,rfl⟩
 |x::r,ver,es,h=>by
  simp at h;rw[zm8,zow,zp7];unfold z5r;rw[if_pos (show es.length<1073741824 by omega)]
  by_cases h1:x.kind=3
  ·rw[if_pos h1,if_pos h1]
   have:=z3z [x.n] (ver,es);rw[show zrn (ver,es) [x.n]=((zrn (ver,es) [x.n]).1,zgd es [x.n]) from Prod.ext rfl this]
   have hl:=zmm [x.n] es;simp at hl;exact zuq r _ _ (by omega)
  ·rw[if_neg h1,if_neg h1];exact zuq r ver es (by omega)
def zgq(t:Te):List Int:=zgd [] (zow (subs t))
theorem yin(t:Te)(ht:t.ok)(hx:(subs t).length<=1073741824)(H:List AO):F zl8 [.agg t.cs] H=some (.ret (.sl (zav (zgq t))),H):=by
 obtain⟨v,hv⟩:=zuq (subs t) 0 [] (by simpa using hx)
 have hr:=all_seq t ht _ _ _ _ _ _ _ (ylq H) (0,[]) [] _ hv;have he:=zuz (H:=H) (DR:=zpo H.length (v,zgq t)) (k:=4) rfl (st:=.ready) (nn:=19) (t:=[(2,.ptr (H.length+1) 0),(3,.ptr (H.length+3) 0)]) (ps:=[8]) (asg:=zdk) (body:=zdi);have ha:=z8p t
 cases t with
 |mk k n ls ks=>
 unfold zgq at he ⊢;simp only[yof,Te.cs]at ha hr;simp only[zfu,zpo,zhh,List.cons_append,List.nil_append,List.append_nil,Nat.add_assoc,Nat.reduceAdd,zgb,yky]at hr he;rw[z1n];simp only[↓reduceIte,go_sem,Te.cs,ha,hr,he,List.mem_cons,List.not_mem_nil,or_false,forall_eq,List.nodup_cons,List.nodup_nil,not_false_eq_true,and_self]
theorem z30:∀(xs out:List Int) (n:Int),out.contains n=true->(zgd out xs).contains n=true
 |[],out,n,h=>h
 |x::r,out,n,h=>by
  rw[zgd];refine z30 r _ n ?_
  split
  ·exact h
  ·simp at h ⊢;exact .inl h
theorem zt3:∀(xs acc out:List Int),zgd out (zgd acc xs)=zgd (zgd out acc) xs
 |[],acc,out=>rfl
 |n::r,acc,out=>by
  rw[zgd,zt3 r,zgd];by_cases h:acc.contains n=true
  ·rw[if_pos h]
   have:(zgd out acc).contains n=true:=by
    clear zt3
    induction acc generalizing out with
    |nil=>simp at h
    |cons a acc ih=>
     rw[zgd];by_cases ha:n=a
     ·subst ha
      refine z30 _ _ _ ?_
      split
      ·assumption
      ·simp
     ·have:acc.contains n=true:=by simpa [ha] using h
      exact ih _ this
   rw[if_pos this]
  ·rw[if_neg h,zp7,zgd,zgd]
def zu9:List Te->List Int
 |[]=>[]
 |x::r=>zow (subs x)++zu9 r
theorem zsm:∀ks:List Te,zow (subss ks)=zu9 ks
 |[]=>rfl
 |x::r=>by rw[subss,z5t,zsm r];rfl
theorem zqv:∀xs:List Te,(zow xs).length<=xs.length
 |[]=>Nat.le_refl _
 |x::r=>by
  have:=zqv r;rw[zow];split <;> simp <;> omega
theorem z8t(t:Te):t.ok->(subs t).length<=1073741824->∀(H:List AO),F zh4 [.agg t.cs] H=some (.ret (.sl (zav (zgq t))),H):=by
 induction t using Te.ind with
 |h k n ls ks ih=>
 intro hl hx H;have hlen:=hl.len;have loop0:∀(j:Nat) (m:List Int) (x:Int) (x4:AV),m[j]?=some x->m.length<=1073741824->∀(es:List Int) (ver:Nat),es.length<1073741824->∀(suf pre:List Int),es=pre++suf ->
   zho H (H++[.lst 0 1 [],.lst ver 1 (zav es)]) (.ol (H.length+1) ver) x4 (.sl (zav m)) (.int .i64 j) (.bool (pre.contains x)) (.int .i64 pre.length) (Te.mk k n ls ks).cs =
   zfy H (H++[.lst 0 1 [],.lst (if es.contains x then ver else ver+1) 1 (zav (if es.contains x then es else es++[x]))]) (.ol (H.length+1) (if es.contains x then ver else ver+1)) x4 (.sl (zav m)) (.int .i64 (j+1)) (Te.mk k n ls ks).cs:=by
  intro j m x x4 hj hm es ver hs suf;have hjm:j<m.length:=by
   rcases Nat.lt_or_ge j m.length with h|h
   ·exact h
   ·rw[List.getElem?_eq_none h]at hj;cases hj
  induction suf with
  |nil=>
   intro pre e;rw[List.append_nil]at e;subst e;rw[zho,zab];by_cases h:es.contains x=true
   ·simp only[h]
    simp only[↓reduceIte,go_sem,zac (n:=j) (by omega)]
   ·simp only[Bool.not_eq_true]at h
    simp only[h];simp only[↓reduceIte,go_sem,hj,hjm,zac (n:=j) (by omega),zmu,show es.length+(0+1)<=1073741824 by omega,show es.length<=1073741823 by omega]
  |cons y suf ih2=>
   intro pre e;have:=ih2 (pre++[y]) (by rw[e];simp)
   simp only[zag]at this;rw[<- this,zho,zab];have hc:(pre++[y]).contains x=(pre.contains x || decide (y=x)):=by
    rw[Bool.eq_iff_iff];simp only[List.contains_iff_mem,List.mem_append,List.mem_singleton,Bool.or_eq_true,decide_eq_true_eq];exact or_congr_right eq_comm
   have hp:(pre.length:Int)<(es.length:Int):=by rw[e];simp;omega
   have hg:es[pre.length]?=some y:=by rw[e];simp
   have hp2:pre.length<es.length:=by rw[e];simp
   rw[hc]
   cases h:pre.contains x with
   |true=>simp only[↓reduceIte,go_sem,hp,hp2,hg,zac (n:=pre.length) (by omega),Bool.true_or]
   |false=>simp only[↓reduceIte,go_sem,hp,hp2,hg,hj,hjm,zac (n:=pre.length) (by omega),Bool.false_or]
 have loop1:∀(i:Int) (suf pre out:List Int) (ver:Nat),out.length+suf.length<=1073741824->pre.length+suf.length<=1073741824->∃v,
   zfy H (H++[.lst 0 1 [],.lst ver 1 (zav out)]) (.ol (H.length+1) ver) (.int .i64 i) (.sl (zav (pre++suf))) (.int .i64 pre.length) (Te.mk k n ls ks).cs =
   zfx H (H++[.lst 0 1 [],.lst v 1 (zav (zgd out suf))]) (.ol (H.length+1) v) (.int .i64 (IntKind.i64.wrap (i+1))) (Te.mk k n ls ks).cs:=by
  intro i suf
  induction suf with
  |nil=>
   intro pre out ver h1 h2;refine⟨ver,?_⟩;rw[zfy,zab,List.append_nil,zgd];simp only[↓reduceIte,go_sem]
  |cons x suf ih2=>
   intro pre out ver h1 h2;simp at h1 h2;have h0:=loop0 pre.length (pre++x::suf) x (.int .i64 i) (by simp) (by simp;omega) out ver (by omega) out [] rfl
   simp only[List.length_nil,Int.natCast_zero,List.contains_nil]at h0;have hl:=zmm [x] out;simp only[zgd]at hl;obtain⟨v,h3⟩:=ih2 (pre++[x]) (if out.contains x then out else out++[x]) (if out.contains x then ver else ver+1) (by simp only[List.length_cons,List.length_nil]at hl;omega) (by simp;omega)
   simp only[zag,List.append_assoc,List.cons_append,List.nil_append]at h3;refine⟨v,?_⟩;rw[zgd,<- h3,<- h0,zfy,zab];simp only[↓reduceIte,go_sem]
 have loop2:∀(suf pre:List Te) (out:List Int) (ver:Nat),ks=pre++suf->out.length+(zu9 suf).length<=1073741824->(∀x∈suf,(subs x).length<=1073741824) ->
   zfx H (H++[.lst 0 1 [],.lst ver 1 (zav out)]) (.ol (H.length+1) ver) (.int .i64 pre.length) (Te.mk k n ls ks).cs=some (.ret (.sl (zav (zgd out (zu9 suf)))),H):=by
  intro suf
  induction suf with
  |nil=>
   intro pre out ver e h1 h2;subst e;rw[zfx,zab,zu9,zgd];simp only[↓reduceIte,go_sem,Te.cs]
  |cons x suf ih2=>
   intro pre out ver e h1 h2;subst e;rw[zu9]at h1;simp at h1 hlen;have hx1:=h2 x (by simp)
   have hc:=zqv (subs x);have hle:=zmm (zow (subs x)) [];simp at hle;obtain⟨v,h3⟩:=loop1 pre.length (zgq x) [] out ver (by unfold zgq;omega) (by unfold zgq;simp;omega)
   simp only[List.length_nil,Int.natCast_zero,List.nil_append,zac (n:=pre.length) (by omega)]at h3
   have hr:=ih x (by simp) (hl.all x (by simp)) hx1
   have hle2:=zmm (zow (subs x)) out;have h4:=ih2 (pre++[x]) (zgd out (zow (subs x))) v (by simp) (by omega) (fun y hy=>h2 y (by simp[hy]))
   simp only[zag]at h4;rw[zu9,zp7,<- h4];rw[show zgd out (zgq x)=zgd out (zow (subs x)) from zt3 _ [] out]at h3
   rw[<- h3,zfx,zab];simp only[↓reduceIte,go_sem,Te.cs,hr]
 have hsub:∀x∈ks,(subs x).length<=(subss ks).length:=by
  clear loop0 loop1 loop2 hlen hl ih hx
  induction ks with
  |nil=>simp
  |cons y r ih=>
   intro x hx;rw[subss,List.length_append];rcases List.mem_cons.1 hx with rfl|hx
   ·omega
   ·have:=ih x hx;omega
 rw[subs,List.length_cons]at hx;have hcl:=zqv (subss ks);rw[zsm]at hcl;have e:zgq (.mk k n ls ks)=zgd (if k=3 then [n] else []) (zu9 ks):=by
  rw[zgq,subs,zow,zp7,zsm];rw[show Te.kind (.mk k n ls ks)=k from rfl,show Te.n (.mk k n ls ks)=n from rfl]
  split <;> rfl
 have h0:=loop2 ks [] (if k=3 then [n] else []) (if k=3 then 1 else 0) rfl (by split <;> simp <;> omega) (fun x hx'=>by have:=hsub x hx';omega)
 rw[<- e]at h0;rw[zyp,<- h0];by_cases h:k=3
 ·simp only[h]at *
  simp only[↓reduceIte,go_sem,Te.cs,zav,List.map_cons,List.map_nil]
 ·simp only[↓reduceIte,go_sem,Te.cs,h]
end Go.Ab
end
section
set_option linter.unusedVariables false
set_option linter.unusedSimpArgs false
set_option maxRecDepth 100000
set_option maxHeartbeats 2000000
namespace Go.Ab
open Go.RowKit Go.Proofs
inductive Co|mk (a b:Lv)
def Co.a:Co->Lv|.mk a _=>a
def Co.b:Co->Lv|.mk _ b=>b
def Co.cs(c:Co):List AV:=c.a.cs++c.b.cs
def Co.css(l:List Co):List (List AV):=l.map Co.cs
def Co.ok(c:Co):Prop:=c.a.ok/\c.b.ok
inductive De|mk (p:Int) (cons:List Co) (type:Te) (has:Bool) (value:Te)
def De.p:De->Int|.mk p _ _ _ _=>p
def De.cons:De->List Co|.mk _ c _ _ _=>c
def De.type:De->Te|.mk _ _ t _ _=>t
def De.has:De->Bool|.mk _ _ _ h _=>h
def De.value:De->Te|.mk _ _ _ _ v=>v
def De.cs(d:De):List AV:=[.int .i64 d.p,.sl (Co.css d.cons)]++d.type.cs++[.bool d.has]++d.value.cs
def De.css(l:List De):List (List AV):=l.map De.cs
def De.ok(d:De):Prop:=d.cons.length<=140737488355328/\(∀c∈d.cons,c.ok)/\d.type.ok/\d.value.ok
@[go_sem] theorem z99(c:Co):c.cs.length=6:=by rcases c with⟨⟨k,n,ks⟩,⟨k2,n2,ks2⟩⟩;rfl
@[go_sem] theorem cocs_rd(c:Co):rd 6 true c.cs=some (.v (.agg c.cs)):=zog (z99 c)
@[go_sem] theorem cocs_rd0(c:Co):rd 3 true c.cs=some (.v (.agg c.a.cs)):=by rcases c with⟨⟨k,n,ks⟩,⟨k2,n2,ks2⟩⟩;rfl
@[go_sem] theorem cocs_rd3(c:Co):rd 3 true (List.drop 3 c.cs)=some (.v (.agg c.b.cs)):=by rcases c with⟨⟨k,n,ks⟩,⟨k2,n2,ks2⟩⟩;rfl
@[go_sem] theorem yhh(l:List Co):(Co.css l).length=l.length:=by simp[Co.css]
@[go_sem] theorem cocss_get(l:List Co)(j:Nat):(Co.css l)[j]?=l[j]?.map Co.cs:=by simp[Co.css]
@[go_sem] theorem ylm(d:De):d.cs.length=11:=by rcases d with⟨p,c,⟨k,n,ls,ks⟩,h,⟨k2,n2,ls2,ks2⟩⟩;rfl
@[go_sem] theorem decs_rd(d:De):rd 11 true d.cs=some (.v (.agg d.cs)):=zog (ylm d)
@[go_sem] theorem decs_rd0(d:De):rd 1 false d.cs=some (.v (.int .i64 d.p)):=by rcases d with⟨p,c,⟨k,n,ls,ks⟩,h,⟨k2,n2,ls2,ks2⟩⟩;rfl
@[go_sem] theorem decs_rd1(d:De):rd 1 false (List.drop 1 d.cs)=some (.v (.sl (Co.css d.cons))):=by rcases d with⟨p,c,⟨k,n,ls,ks⟩,h,⟨k2,n2,ls2,ks2⟩⟩;rfl
@[go_sem] theorem decs_rd2(d:De):rd 4 true (List.drop 2 d.cs)=some (.v (.agg d.type.cs)):=by rcases d with⟨p,c,⟨k,n,ls,ks⟩,h,⟨k2,n2,ls2,ks2⟩⟩;rfl
@[go_sem] theorem decs_rd6(d:De):rd 1 false (List.drop 6 d.cs)=some (.v (.bool d.has)):=by rcases d with⟨p,c,⟨k,n,ls,ks⟩,h,⟨k2,n2,ls2,ks2⟩⟩;rfl
@[go_sem] theorem decs_rd7(d:De):rd 4 true (List.drop 7 d.cs)=some (.v (.agg d.value.cs)):=by rcases d with⟨p,c,⟨k,n,ls,ks⟩,h,⟨k2,n2,ls2,ks2⟩⟩;rfl
@[go_sem] theorem over_decs(a b c d e f g h i j k:AV)(x:De):over [a,b,c,d,e,f,g,h,i,j,k] 0 x.cs=x.cs:=by rcases x with⟨p,c,⟨k,n,ls,ks⟩,h,⟨k2,n2,ls2,ks2⟩⟩;rfl
@[go_sem] theorem decss_len(l:List De):(De.css l).length=l.length:=by simp[De.css]
@[go_sem] theorem decss_get(l:List De)(j:Nat):(De.css l)[j]?=l[j]?.map De.cs:=by simp[De.css]
@[go_sem] theorem decs_one(d:De):d.cs.all AV.one=true:=by rcases d with⟨p,c,⟨k,n,ls,ks⟩,h,⟨k2,n2,ls2,ks2⟩⟩;rfl
@[go_sem] theorem cocs_one(c:Co):c.cs.all AV.one=true:=by rcases c with⟨⟨k,n,ks⟩,⟨k2,n2,ks2⟩⟩;rfl
mutual
theorem subs_parts:∀(t:Te) (m:Int),parts t m<m->((subs t).length:Int)<=parts t m
 |.mk k n ls ks,m,h=>by
  rw[parts]at h ⊢;rw[subs,List.length_cons];have:=subss_parts ks m 1 h;omega
theorem subss_parts:∀(ks:List Te) (m n:Int),partsL ks m n<m->n+((subss ks).length:Int)<=partsL ks m n
 |[],m,n,h=>by rw[partsL,subss];simp
 |x::r,m,n,h=>by
  rw[partsL]at h ⊢;have hn:n<m:=by
   rcases Int.lt_or_le n m with h1|h1
   ·exact h1
   ·rw[if_neg (by omega)]at h
    have:=zp6 r m n;omega
  rw[if_pos hn]at h ⊢;have h1:=zp6 r m (n+parts x (m - n));have h2:=subs_parts x (m - n) (by omega)
  have h3:=subss_parts r m (n+parts x (m - n)) h;rw[subss,List.length_append];omega
end
theorem zq4{t:Te}{v p m:Int}(h:zdn t v p m=true):(subs t).length<=1073741824:=by
 have:parts t 601<=600:=by unfold zdn at h;simp at h;exact h.1.2
 have:=subs_parts t 601 (by omega)
 omega
theorem yl8(xs:List (List AV))(hlen:xs.length<=140737488355328)(hsz:∀e∈xs,e.length=6)(f:AV)(p:List AV->Bool)(H:List AO)(hf:∀e∈xs,cfl T f [.agg e] H=some (.ret (.bool (p e)),H)):
  F zb1 [.sl xs,f] H=some (.ret (.bool (xs.any p)),H):=by
 have loop:∀(suf pre:List (List AV)),xs=pre++suf->∃r:Int,zco H H (.sl xs) f (.int .i64 xs.length) (.int .i64 pre.length)=some (.ret (.int .i64 r),H)/\decide (0<=r)=suf.any p:=by
  intro suf
  induction suf with
  |nil=>
   intro pre e;subst e;refine⟨-1,?_,rfl⟩;rw[zco,zab];simp only[↓reduceIte,go_sem]
  |cons x suf ih=>
   intro pre e;subst e;obtain⟨r,h1,h2⟩:=ih (pre++[x]) (by simp)
   simp only[zag]at h1;have hx:=hsz x (by simp)
   have hfx:=hf x (by simp)
   simp at hlen
   cases hp:p x with
   |true=>
    refine⟨pre.length,?_,by simp[hp]⟩
    rw[zco,zab];simp only[↓reduceIte,go_sem,hx,zog hx,hfx,hp]
   |false=>
    refine⟨r,?_,by simp[hp,h2]⟩
    rw[zco,zab];simp only[↓reduceIte,go_sem,hx,zog hx,hfx,hp,zac (n:=pre.length) (by omega),h1]
 obtain⟨r,h1,h2⟩:=loop xs [] rfl;simp only[List.length_nil,Int.natCast_zero]at h1;rw[znu];have:F zd0 [.sl xs,f] H=some (.ret (.int .i64 r),H):=by
  rw[zpr];simp only[↓reduceIte,go_sem,h1]
 simp only[↓reduceIte,go_sem,this,h2]
theorem yl7(xs:List Int)(hlen:xs.length<=140737488355328)(f:AV)(p:Int->Bool)(H:List AO)(hf:∀e∈xs,cfl T f [.int .i64 e] H=some (.ret (.bool (p e)),H)):
  F zcy [.sl (zav xs),f] H=some (.ret (.bool (xs.any p)),H):=by
 have loop:∀(suf pre:List Int),xs=pre++suf->∃r:Int,zcn H H (.sl (zav xs)) f (.int .i64 xs.length) (.int .i64 pre.length)=some (.ret (.int .i64 r),H)/\decide (0<=r)=suf.any p:=by
  intro suf
  induction suf with
  |nil=>
   intro pre e;subst e;refine⟨-1,?_,rfl⟩;rw[zcn,zab];simp only[↓reduceIte,go_sem]
  |cons x suf ih=>
   intro pre e;subst e;obtain⟨r,h1,h2⟩:=ih (pre++[x]) (by simp)
   simp only[zag]at h1;have hfx:=hf x (by simp)
   simp at hlen
   cases hp:p x with
   |true=>
    refine⟨pre.length,?_,by simp[hp]⟩
    rw[zcn,zab];simp only[↓reduceIte,go_sem,hfx,hp]
   |false=>
    refine⟨r,?_,by simp[hp,h2]⟩
    rw[zcn,zab];simp only[↓reduceIte,go_sem,hfx,hp,zac (n:=pre.length) (by omega),h1]
 obtain⟨r,h1,h2⟩:=loop xs [] rfl;simp only[List.length_nil,Int.natCast_zero]at h1;rw[znt];have:F zdz [.sl (zav xs),f] H=some (.ret (.int .i64 r),H):=by
  rw[zpq];simp only[↓reduceIte,go_sem,h1]
 simp only[↓reduceIte,go_sem,this,h2]
def zzb(p:Int)(c:Co):Bool:=zaz c.a p 0 && zaz c.b p 0
def zed(l:List Co)(p:Int):Bool:=decide (0<=p) && decide (p<=5) && decide (l.length<=8) && l.all (zzb p)
def mayT(t:Te)(p a:Int):Bool:=zdn t 0 p 0 && (zgq t).all fun n=>decide (n<a)
def yg7(d:De)(a:Int):Bool:=zed d.cons d.p && mayT d.type d.p a && (if d.has=true then mayT d.value d.p a else teEq d.value zeroT)
def zu8:List De->Int->Bool
 |[],_=>true
 |d::r,a=>yg7 d a && zu8 r (a+1)
def zr6(env:List De):Bool:=zu8 env 0 && decide (env.length<=20)
theorem yns(t:Te)(ht:t.ok)(p a:Int)(H:List AO):F zl1 [.agg t.cs,.int .i64 p,.int .i64 a] H=some (.ret (.bool (mayT t p a)),H):=by
 have h1:=fun H=>zl6 t ht 0 p 0 H
 rw[z48,mayT];by_cases h:zdn t 0 p 0=true
 ·have h2:=fun H=>yin t ht (zq4 h) H
  have hl:=zmm (zow (subs t)) [];have hl2:=zqv (subs t);have hl3:=zq4 h;have h3:=yl7 (zgq t) (by unfold zgq;simp at hl;omega) (.fn (.func zh6) [] [.ptr H.length 0]) (fun n=>decide (a<=n)) (H++[.box [.int .i64 a]]) (fun n hn=>by
   simp only[zhh,List.cons_append,List.nil_append];show F zh6 _ _=_;rw[zyu];simp only[↓reduceIte,go_sem])
  have e:(!(zgq t).any fun n=>decide (a<=n))=(zgq t).all fun n=>decide (n<a):=by
   rw[List.not_any_eq_all_not];congr 1;funext n;rw[Bool.eq_iff_iff];simp
  simp only[↓reduceIte,go_sem,h1,h,h2,h3,e]
 ·simp only[Bool.not_eq_true]at h
  simp only[↓reduceIte,go_sem,h1,h]
theorem zz6(t:Te)(ht:t.ok)(hs:(subs t).length<=1073741824)(a:Int)(H:List AO):F zjo [.agg t.cs,.int .i64 a] H=some (.ret (.bool ((zgq t).all fun n=>decide (n<a))),H):=by
 have h2:=fun H=>z8t t ht hs H
 have hl:=zmm (zow (subs t)) [];have hl2:=zqv (subs t);have hlen:(zgq t).length<=1073741824:=by unfold zgq;simp at hl;omega
 have loop:∀(suf pre:List Int),zgq t=pre++suf->ziy H H (.int .i64 a) (.sl (zav (zgq t))) (.int .i64 pre.length)=some (.ret (.bool (suf.all fun n=>decide (n<a))),H):=by
  generalize zgq t=xs at hlen;intro suf
  induction suf with
  |nil=>
   intro pre e;subst e;rw[ziy,zab];simp only[↓reduceIte,go_sem,List.all_nil]
  |cons x suf ih=>
   intro pre e;subst e;simp at hlen;have:=ih (pre++[x]) (by simp)
   simp only[zag]at this;rw[ziy,zab,List.all_cons];by_cases h:x<a
   ·simp only[↓reduceIte,go_sem,show ¬ a<=x by omega,h,zac (n:=pre.length) (by omega),this,Bool.true_and]
   ·simp only[↓reduceIte,go_sem,show a<=x by omega,h,Bool.false_and]
 have:=loop (zgq t) [] rfl;simp only[List.length_nil,Int.natCast_zero]at this
 cases t with
 |mk k n ls ks=>
 simp only[Te.cs]at h2;rw[z1u];simp only[↓reduceIte,go_sem,Te.cs,h2,this]
theorem ztp(l:List Co)(hlen:l.length<=140737488355328)(hl:∀c∈l,c.ok)(p:Int)(H:List AO):F zh0 [.sl (Co.css l),.int .i64 p] H=some (.ret (.bool (zed l p)),H):=by
 have loop:∀(suf pre:List Co),l=pre++suf->zi4 H H (.sl (Co.css l)) (.int .i64 p) (.int .i64 pre.length)=some (.ret (.bool (suf.all (zzb p) && (decide (0<=p) && decide (p<=5) && decide (l.length<=8)))),H):=by
  intro suf
  induction suf with
  |nil=>
   intro pre e;rw[List.append_nil]at e;subst e;rw[zi4,zab];simp only[↓reduceIte,go_sem,List.all_nil]
   repeat' split
   all_goals (simp_all <;> try omega)
  |cons x suf ih=>
   intro pre e;have:=ih (pre++[x]) (by rw[e];simp)
   simp only[zag]at this;have hg:l[pre.length]?=some x:=by rw[e];simp
   have hp:(pre.length:Int)<(l.length:Int):=by rw[e];simp;omega
   obtain⟨ha,hb⟩:=hl x (by rw[e];simp)
   rw[zi4,zab,List.all_cons];have r1:=fun H=>zem x.a ha p 0 H
   have r2:=fun H=>zem x.b hb p 0 H
   unfold zzb at this ⊢
   cases h1:zaz x.a p 0 <;> cases h2:zaz x.b p 0 <;> simp only[h1,h2]at r1 r2 <;>
    simp only[↓reduceIte,go_sem,hp,hg,r1,r2,zac (n:=pre.length) (by omega),this,Bool.true_and,Bool.false_and]
 have:=loop l [] rfl;simp only[List.length_nil,Int.natCast_zero]at this;rw[z13,zed];simp only[↓reduceIte,go_sem,this]
 grind
theorem yma(ks:List Co)(hlen:ks.length<=140737488355328)(f:AV)(p:Co->Bool)(H:List AO)(hf:∀x∈ks,cfl T f [.agg x.cs] H=some (.ret (.bool (p x)),H)):
  F zb1 [.sl (Co.css ks),f] H=some (.ret (.bool (ks.any p)),H):=by
 let q:List AV->Bool:=fun e=>match cfl T f [.agg e] H with
  |some (.ret (.bool b),_)=>b
  |_=>false
 have hq:∀x∈ks,q x.cs=p x:=fun x hx=>by simp only[q,hf x hx]
 have:=yl8 (Co.css ks) (by rw[yhh];exact hlen) (fun e he=>by obtain⟨x,_,rfl⟩:=List.mem_map.1 he;exact z99 x) f q H (fun e he=>by
  obtain⟨x,hx,rfl⟩:=List.mem_map.1 he;rw[hf x hx,hq x hx])
 rw[this,Co.css,List.any_map]
 congr 4
 have:∀l:List Co,(∀x∈l,q x.cs=p x)->l.any (q ∘ Co.cs)=l.any p:=by
  intro l
  induction l with
  |nil=>intro _;rfl
  |cons a l ih=>intro h;simp[h a (by simp),ih fun x hx=>h x (by simp[hx])]
 exact this ks hq
theorem zwa(l:List Co)(hlen:l.length<=140737488355328)(hl:∀c∈l,c.ok)(p:Int)(H:List AO):F zhv [.sl (Co.css l),.int .i64 p] H=some (.ret (.bool (zed l p)),H):=by
 have h3:=yma l hlen (.fn (.func zgs) [] [.ptr H.length 0]) (fun c=>!zzb p c) (H++[.box [.int .i64 p]]) (fun x hx=>by
  obtain⟨ha,hb⟩:=hl x hx;have r1:=fun H=>zhj x.a ha p 0 H
  have r2:=fun H=>zhj x.b hb p 0 H
  simp only[zhh,List.cons_append,List.nil_append];show F zgs _ _=_;rw[zxo];unfold zzb;rcases x with⟨⟨k,n,ks⟩,⟨k2,n2,ks2⟩⟩;simp only[Co.a,Co.b,Lv.cs]at r1 r2
  cases h1:zaz (.mk k n ks) p 0 <;> cases h2:zaz (.mk k2 n2 ks2) p 0 <;> simp only[h1,h2]at r1 r2 <;>
   simp only[↓reduceIte,go_sem,Co.cs,Co.a,Co.b,Lv.cs,r1,r2,h1,h2,Bool.and_self,Bool.and_false,Bool.false_and,Bool.and_true])
 rw[<- List.not_all_eq_any_not]at h3;rw[z1l,zed];simp only[↓reduceIte,go_sem,h3]
 cases h:l.all (zzb p)
 all_goals (simp[h];try grind)
theorem yg8(d:De)(hd:d.ok)(a:Int)(H:List AO):F zn7 [.agg d.cs,.int .i64 a] H=some (.ret (.bool (yg7 d a)),H):=by
 rcases d with⟨p,cons,t,has,v⟩;obtain⟨h1,h2,h3,h4⟩:=hd;simp only[De.cons,De.type,De.value]at h1 h2 h3 h4;have r1:=fun H=>ztp cons h1 h2 p H
 have r2:=fun H=>zh2 t h3 0 p 0 H
 have r3:=fun (h:zdn t 0 p 0=true) H=>zz6 t h3 (zq4 h) a H
 have r4:=fun H=>zh2 v h4 0 p 0 H
 have r5:=fun (h:zdn v 0 p 0=true) H=>zz6 v h4 (zq4 h) a H
 have r6:=fun H=>ydw v h4 zeroT H
 rw[z4t,yg7];simp only[De.cons,De.type,De.value,De.p,De.has,mayT];rcases t with⟨k,n,ls,ks⟩;rcases v with⟨k2,n2,ls2,ks2⟩;simp only[Te.cs,zeroT,Lv.css,Te.css]at r6;simp only[Te.cs]at r2 r3 r4 r5
 cases e1:zed cons p
 ·simp only[↓reduceIte,go_sem,De.cs,De.cons,De.type,De.value,De.p,De.has,Te.cs,List.cons_append,List.nil_append,r1,e1,Bool.false_and]
 cases e2:zdn (.mk k n ls ks) 0 p 0
 ·simp only[↓reduceIte,go_sem,De.cs,De.cons,De.type,De.value,De.p,De.has,Te.cs,List.cons_append,List.nil_append,r1,r2,e1,e2,Bool.false_and,Bool.and_false]
 have r3:=r3 e2
 cases e3:(zgq (.mk k n ls ks)).all fun n=>decide (n<a)
 ·simp only[↓reduceIte,go_sem,De.cs,De.cons,De.type,De.value,De.p,De.has,Te.cs,List.cons_append,List.nil_append,r1,r2,r3,e1,e2,e3,Bool.false_and,Bool.and_false]
 cases has
 ·simp only[↓reduceIte,go_sem,De.cs,De.cons,De.type,De.value,De.p,De.has,Te.cs,List.cons_append,List.nil_append,r1,r2,r3,e1,e2,e3,r6,zeroT,Bool.false_and,Bool.and_false,Bool.true_and,Bool.and_true,Bool.false_eq_true]
 cases e4:zdn (.mk k2 n2 ls2 ks2) 0 p 0
 ·simp only[↓reduceIte,go_sem,De.cs,De.cons,De.type,De.value,De.p,De.has,Te.cs,List.cons_append,List.nil_append,r1,r2,r3,r4,e1,e2,e3,e4,Bool.false_and,Bool.and_false,Bool.true_and,Bool.and_true]
 have r5:=r5 e4;simp only[↓reduceIte,go_sem,De.cs,De.cons,De.type,De.value,De.p,De.has,Te.cs,List.cons_append,List.nil_append,r1,r2,r3,r4,r5,e1,e2,e3,e4,Bool.false_and,Bool.and_false,Bool.true_and,Bool.and_true]
def zvi(env:List De):Prop:=env.length<=140737488355328/\∀d∈env,d.ok
theorem ycq(env:List De)(he:zvi env)(H:List AO):F zmg [.sl (De.css env)] H=some (.ret (.bool (zr6 env)),H):=by
 obtain⟨hlen,hd⟩:=he;have loop:∀(suf pre:List De),env=pre++suf->ziz H H (.sl (De.css env)) (.int .i64 pre.length)=some (.ret (.bool (zu8 suf pre.length && decide (env.length<=20))),H):=by
  intro suf
  induction suf with
  |nil=>
   intro pre e;rw[List.append_nil]at e;subst e;rw[ziz,zab,zu8];simp only[↓reduceIte,go_sem,Bool.true_and]
   congr 4
   rw[Bool.eq_iff_iff];simp;omega
  |cons x suf ih=>
   intro pre e;have:=ih (pre++[x]) (by rw[e];simp)
   simp only[zag]at this;have hg:env[pre.length]?=some x:=by rw[e];simp
   have hp:(pre.length:Int)<(env.length:Int):=by rw[e];simp;omega
   have hr:=fun H=>yg8 x (hd x (by rw[e];simp)) pre.length H
   rw[ziz,zab,zu8]
   cases h1:yg7 x pre.length <;> simp only[h1]at hr <;>
    simp only[↓reduceIte,go_sem,hp,hg,hr,zac (n:=pre.length) (by omega),this,Bool.true_and,Bool.false_and]
 have:=loop env [] rfl;simp only[List.length_nil,Int.natCast_zero]at this;rw[z1v,zr6];simp only[↓reduceIte,go_sem,this]
theorem ycp(env:List De)(he:zvi env)(H:List AO):F zks [.sl (De.css env)] H=some (.ret (.bool (zr6 env)),H):=by
 obtain⟨hlen,hd⟩:=he;have loop:∀(suf pre:List De),env=pre++suf->zhs H H (.sl (De.css env)) (.sl (De.css env)) (.int .i64 env.length) (.int .i64 pre.length)=some (.ret (.bool (zu8 suf pre.length && decide (env.length<=20))),H):=by
  intro suf
  induction suf with
  |nil=>
   intro pre e;rw[List.append_nil]at e;subst e;rw[zhs,zab,zu8];simp only[↓reduceIte,go_sem,Bool.true_and]
   congr 4
   rw[Bool.eq_iff_iff];simp;omega
  |cons x suf ih=>
   intro pre e;have:=ih (pre++[x]) (by rw[e];simp)
   simp only[zag]at this;have hg:env[pre.length]?=some x:=by rw[e];simp
   have hp:(pre.length:Int)<(env.length:Int):=by rw[e];simp;omega
   obtain⟨q1,q2,q3,q4⟩:=hd x (by rw[e];simp)
   have r1:=fun H=>zwa x.cons q1 q2 x.p H
   have r2:=fun H=>yns x.type q3 x.p pre.length H
   have r3:=fun H=>yns x.value q4 x.p pre.length H
   have r4:=fun H=>ydv x.value q4 zeroT H
   simp only[zeroT,Te.cs,Lv.css,Te.css]at r4;rw[zhs,zab,zu8,yg7]
   cases e1:zed x.cons x.p <;> cases e2:mayT x.type x.p pre.length <;> cases e0:x.has <;> cases e3:mayT x.value x.p pre.length <;> cases e4:teEq x.value (.mk 0 0 [] []) <;> simp only[e1,e2,e3,e4]at r1 r2 r3 r4 <;>
    simp only[↓reduceIte,go_sem,hp,hg,r1,r2,r3,r4,e0,zeroT,e1,e2,e3,e4,zac (n:=pre.length) (by omega),this,Bool.true_and,Bool.false_and,Bool.and_false,Bool.and_true,Bool.false_eq_true]
 have:=loop env [] rfl;simp only[List.length_nil,Int.natCast_zero]at this;rw[zyv,zr6];simp only[↓reduceIte,go_sem,this]
end Go.Ab
end
section
set_option linter.unusedVariables false
set_option linter.unusedSimpArgs false
set_option maxRecDepth 100000
set_option maxHeartbeats 2000000
namespace Go.Ab
open Go.RowKit Go.Proofs
def bls(z:List Bool):List (List AV):=z.map fun b=>[.bool b]
@[go_sem] theorem z8l(z:List Bool):(bls z).length=z.length:=by simp[bls]
@[go_sem] theorem bls_get(z:List Bool)(i:Nat):(bls z)[i]?=z[i]?.map fun b=>[.bool b]:=by simp[bls]
theorem yn8(n:Nat)(z:List Bool):∀a∈(bls z).flatten,Lt n a:=by
 intro a ha;obtain⟨e,he,h2⟩:=List.mem_flatten.1 ha;obtain⟨b,_,rfl⟩:=List.mem_map.1 he;simp at h2;subst h2;exact .bool b
@[go_sem] theorem lt_bls(n:Nat)(z:List Bool):(∀a∈(bls z).flatten,Lt n a)=True:=eq_true (yn8 n z)
structure Fl where
 c:Int
 o:List Int
def Fl.cs(f:Fl):List AV:=[.int .i64 f.c,.sl (zav f.o)]
@[go_sem] theorem flcs_len(f:Fl):f.cs.length=2:=rfl
@[go_sem] theorem flcs_rd(f:Fl):rd 2 true f.cs=some (.v (.agg f.cs)):=rfl
@[go_sem] theorem flcs_rd0(f:Fl):rd 1 false f.cs=some (.v (.int .i64 f.c)):=rfl
@[go_sem] theorem flcs_rd1(f:Fl):rd 1 false (List.drop 1 f.cs)=some (.v (.sl (zav f.o))):=rfl
@[go_sem] theorem flcs_one(f:Fl):f.cs.all AV.one=true:=rfl
@[go_sem] theorem flcs_over(x y:AV)(f:Fl):over [x,y] 0 f.cs=f.cs:=rfl
@[go_sem] theorem flcs_frz(n:Nat)(f:Fl)(h:List AO):zv5 n f.cs h=(f.cs,h):=by simp[Fl.cs,zv5,z7n]
theorem flcs_lt(n:Nat)(f:Fl):∀a∈f.cs,Lt n a:=by
 intro a ha;simp[Fl.cs]at ha;rcases ha with rfl|rfl
 ·exact .int _ _
 ·exact .sl (by intro a ha;obtain⟨e,he,h2⟩:=List.mem_flatten.1 ha;obtain⟨x,_,rfl⟩:=List.mem_map.1 he;simp at h2;subst h2;exact .int _ _)
@[go_sem] theorem lt_flcs(n:Nat)(f:Fl):(∀a∈f.cs,Lt n a)=True:=eq_true (flcs_lt n f)
def zp8(p:Nat):Fl:=⟨0,List.replicate p (-1)⟩
def zx9(a b:Fl):Fl:=⟨max a.c b.c,List.zipWith max a.o b.o⟩
def zpb(f:Fl):Bool:=decide (f.c=0) && f.o.all fun n=>decide (n<0)
def z6p(f:Fl):Fl:=⟨f.c+1,f.o.map fun n=>if 0<=n then n+1 else n⟩
def zvq(z:List Bool)(k n:Int):List Fl->Fl
 |[]=>if k=5 then (if z[n.toNat]?=some false then ⟨0,(List.replicate z.length (-1)).set n.toNat 0⟩ else zp8 z.length) else zp8 z.length
 |[a]=>if k=2 then z6p a else zp8 z.length
 |a::b::_=>if k=3 then zx9 a b else if k=4 then (if zpb b then b else zx9 a b) else zp8 z.length
mutual
def rawF(z:List Bool):Lv->Fl
 |.mk k n ks=>zvq z k n (rawFs z ks)
def rawFs(z:List Bool):List Lv->List Fl
 |[]=>[]
 |x::r=>rawF z x::rawFs z r
end
structure Fl.good (p:Nat) (d:Int) (f:Fl):Prop where
 len:f.o.length=p
 c0:0<=f.c
 cd:f.c<=d
 o0:∀n∈f.o,-1<=n
 od:∀n∈f.o,n<=d
theorem ydd{a b:List Int}{n:Int}(h:n∈List.zipWith max a b):∃x∈a,∃y∈b,n=max x y:=by
 induction a generalizing b with
 |nil=>simp at h
 |cons x a ih=>
  cases b with
  |nil=>simp at h
  |cons y b=>
   simp at h;rcases h with rfl|h
   ·exact⟨x,by simp,y,by simp,rfl⟩
   ·obtain⟨u,hu,v,hv,e⟩:=ih h;exact⟨u,by simp[hu],v,by simp[hv],e⟩
theorem ygl(p:Nat){d:Int}(h:0<=d):(zp8 p).good p d :=
 ⟨by simp[zp8],by simp[zp8],by simpa [zp8] using h,fun n hn=>by simp[zp8]at hn;omega,fun n hn=>by simp[zp8]at hn;omega⟩
theorem z4h{p:Nat}{d:Int}{a b:Fl}(ha:a.good p d)(hb:b.good p d):(zx9 a b).good p d :=
 ⟨by simp[zx9,ha.len,hb.len],by have:=ha.c0;simp[zx9];omega,by have:=ha.cd;have:=hb.cd;simp[zx9];omega,
  fun n hn=>by obtain⟨x,hx,y,hy,rfl⟩:=ydd hn;have:=ha.o0 x hx;omega,fun n hn=>by obtain⟨x,hx,y,hy,rfl⟩:=ydd hn;have:=ha.od x hx;have:=hb.od y hy;omega⟩
theorem ygk{p:Nat}{d:Int}{a:Fl}(ha:a.good p d):(z6p a).good p (d+1) :=
 ⟨by simp[z6p,ha.len],by have:=ha.c0;simp[z6p];omega,by have:=ha.cd;simp[z6p];omega,
  fun n hn=>by simp[z6p]at hn;obtain⟨x,hx,rfl⟩:=hn;have:=ha.o0 x hx;split <;> omega,fun n hn=>by simp[z6p]at hn;obtain⟨x,hx,rfl⟩:=hn;have:=ha.od x hx;split <;> omega⟩
theorem Fl.good.up{p:Nat}{d e:Int}{a:Fl}(ha:a.good p d)(h:d<=e):a.good p e :=
 ⟨ha.len,ha.c0,by have:=ha.cd;omega,ha.o0,fun n hn=>by have:=ha.od n hn;omega⟩
theorem zhn(z:List Bool)(l:Lv):∀d,rightB z.length 0 l d=true->(rawF z l).good z.length d:=by
 induction l using Lv.ind with
 |h k n ks ih=>
 intro d h;rw[rightB]at h
 split at h
 ·cases h
 split at h
 ·cases h
 rename_i hd hk;have hk:(ks.length:Int)=zgk k:=by simpa using hk
 have hz:∀e:Int,0<=e->(zp8 z.length).good z.length e:=fun e he=>ygl _ he
 rw[rawF];unfold zgk at hk
 match ks,hk,ih,h with
 |[],hk,ih,h=>
  rw[rawFs,zvq]
  split
  ·split
   ·refine⟨by simp,by simp,by simp;omega,fun n hn=>?_,fun n hn=>?_⟩
    ·rcases List.mem_or_eq_of_mem_set hn with hn|rfl
     ·simp at hn;omega
     ·omega
    ·rcases List.mem_or_eq_of_mem_set hn with hn|rfl
     ·simp at hn;omega
     ·omega
   ·exact hz d (by omega)
  ·exact hz d (by omega)
 |[a],hk,ih,h=>
  rw[rawFs,rawFs,zvq];have k2:k=2:=by simp at hk;grind
  subst k2;simp[rightsB]at h;have:=ygk (ih a (by simp) (d - 1) h.1)
  simp;exact this.up (by omega)
 |a::b::r,hk,ih,h=>
  rw[rawFs,rawFs,zvq];have h2:¬ k=5/\¬ k=6:=by
   constructor <;> (rintro rfl;simp at hk;omega)
  rw[if_neg h2.1,if_neg h2.2]at h;simp[rightsB]at h;have ha:=(ih a (by simp) (d - 1) h.1.1).up (show d - 1<=d by omega)
  have hb:=(ih b (by simp) (d - 1) h.1.2.1).up (show d - 1<=d by omega)
  split
  ·exact z4h ha hb
  ·split
   ·split
    ·exact hb
    ·exact z4h ha hb
   ·exact hz d (by omega)
theorem ybc(p:Nat)(hp:p<=1000)(H:List AO):∃ver,FK zf3 [.int .i64 0,.int .i64 p] H=some (.ret (.agg [.int .i64 0,.ol (H.length+1) ver]),H++[.lst 0 1 [],.lst ver 1 (zav (List.replicate p (-1))),.lst 0 1 []]):=by
 have loop:∀(j i:Nat) (ver:Nat) ,i+j=p->∃ver',zi8 H (H++[.lst 0 1 [],.lst ver 1 (zav (List.replicate i (-1))),.lst 0 1 []]) (.int .i64 p) (.int .i64 i) [.int .i64 0,.ol H.length 0] [.int .i64 0,.ol (H.length+1) ver]=some (.ret (.agg [.int .i64 0,.ol (H.length+1) ver']),H++[.lst 0 1 [],.lst ver' 1 (zav (List.replicate p (-1))),.lst 0 1 []]):=by
  intro j
  induction j with
  |zero=>
   intro i ver h;refine⟨ver,?_⟩;rw[zi8,zab];simp only[↓reduceIte,go_sem,show ¬ (i:Int)<(p:Int) by omega]
   rw[show i=p by omega]
  |succ j ih=>
   intro i ver h;obtain⟨ver',h1⟩:=ih (i+1) (ver+1) (by omega)
   refine⟨ver',?_⟩;have hsn:zav (List.replicate i (-1))++[[AV.int .i64 (-1)]]=zav (List.replicate (i+1) (-1)):=by rw[zmu,List.replicate_succ']
   simp only[Int.natCast_add,Int.natCast_one,List.replicate_succ]at h1;rw[zi8,zab];simp only[↓reduceIte,go_sem,show (i:Int)<(p:Int) by omega,zac (n:=i) (by omega),List.length_replicate,show i<=1073741823 by omega,hsn,h1]
 obtain⟨ver,h⟩:=loop p 0 0 (by omega)
 refine⟨ver,?_⟩;rw[z19];simp only[↓reduceIte,go_sem];exact h
theorem yem(p:Nat)(hp:p<=1000)(H:List AO):F zf3 [.int .i64 0,.int .i64 p] H=some (.ret (.agg (zp8 p).cs),H):=by
 have loop:∀(j i:Nat) (ver:Nat) ,i+j=p->zkh H (H++[.lst 0 1 [],.lst ver 1 (zav (List.replicate i (-1))),.lst 0 1 []]) (.int .i64 p) (.int .i64 i) [.int .i64 0,.ol H.length 0] [.int .i64 0,.ol (H.length+1) ver]=some (.ret (.agg (zp8 p).cs),H):=by
  intro j
  induction j with
  |zero=>
   intro i ver h;rw[zkh,zab];obtain rfl:i=p:=by omega
   simp only[↓reduceIte,go_sem,zp8,Fl.cs]
  |succ j ih=>
   intro i ver h;have h1:=ih (i+1) (ver+1) (by omega)
   have hsn:zav (List.replicate i (-1))++[[AV.int .i64 (-1)]]=zav (List.replicate (i+1) (-1)):=by rw[zmu,List.replicate_succ']
   simp only[Int.natCast_add,Int.natCast_one,List.replicate_succ]at h1;rw[zkh,zab];simp only[↓reduceIte,go_sem,show (i:Int)<(p:Int) by omega,zac (n:=i) (by omega),List.length_replicate,show i<=1073741823 by omega,hsn,h1]
 have h:=loop p 0 0 (by omega)
 rw[z44];simp only[↓reduceIte,go_sem];exact h
theorem yhr(a b:Fl)(hl:a.o.length=b.o.length)(hlen:a.o.length<=1000)(H:List AO):F zl0 [.agg a.cs,.agg b.cs] H=some (.ret (.agg (zx9 a b).cs),H):=by
 have loop:∀(sa sb pa pb:List Int) (ver:Nat),a.o=pa++sa->b.o=pb++sb->pa.length=pb.length ->
   zki H (H++[.lst 0 1 [],.lst ver 1 (zav (List.zipWith max pa pb)),.lst 0 1 []]) (.int .i64 pa.length) a.cs b.cs [.int .i64 0,.ol H.length 0] [.int .i64 (max a.c b.c),.ol (H.length+1) ver]=some (.ret (.agg (zx9 a b).cs),H):=by
  intro sa
  induction sa with
  |nil=>
   intro sb pa pb ver ha hb hp;have:sb=[]:=by
    rw[ha,hb]at hl;simp at hl;exact List.eq_nil_of_length_eq_zero (by omega)
   subst this;rw[List.append_nil]at ha hb;rw[zki,zab];simp only[↓reduceIte,go_sem,zx9,Fl.cs,ha,hb]
  |cons x sa ih=>
   intro sb pa pb ver ha hb hp
   cases sb with
   |nil=>rw[ha,hb]at hl;simp at hl;omega
   |cons y sb=>
   have h1:=ih sb (pa++[x]) (pb++[y]) (ver+1) (by rw[ha];simp) (by rw[hb];simp) (by simp[hp])
   have hz:List.zipWith max (pa++[x]) (pb++[y])=List.zipWith max pa pb++[max x y]:=by rw[List.zipWith_append (h:=hp)];rfl
   have hzl:(List.zipWith max pa pb).length=pa.length:=by rw[List.length_zipWith];omega
   have hpa:pa.length<=1000:=by rw[ha]at hlen;simp at hlen;omega
   have hga:a.o[pa.length]?=some x:=by rw[ha];simp
   have hgb:b.o[pa.length]?=some y:=by rw[hb,hp];simp
   have hlt:pa.length<a.o.length:=by rw[ha];simp
   have hmax:(if y > x then y else x)=max x y:=by rcases Int.lt_or_le x y with h|h <;> simp[Int.max_def] <;> omega
   rw[hz,<- zmu]at h1;simp only[zag]at h1;rw[zki,zab];simp only[↓reduceIte,go_sem,Fl.cs,show (pa.length:Int)<(a.o.length:Int) by omega,hga,hgb,hzl,hmax,zac (n:=pa.length) (by omega),show pa.length<=1073741823 by omega]
   simp only[Fl.cs]at h1;exact h1
 have:=loop a.o b.o [] [] 0 rfl rfl rfl;have hmax:(if b.c > a.c then b.c else a.c)=max a.c b.c:=by rcases Int.lt_or_le a.c b.c with h|h <;> simp[Int.max_def] <;> omega
 rw[z45];simp only[List.length_nil,Int.natCast_zero,List.zipWith_nil_left,zgb,Fl.cs]at this;simp only[↓reduceIte,go_sem,Fl.cs,hmax];exact this
theorem z68(a:Fl)(hlen:a.o.length<=1000)(H:List AO):F zkq [.agg a.cs] H=some (.ret (.bool (zpb a)),H):=by
 have loop:∀(sa pa:List Int),a.o=pa++sa->zhr H H (.int .i64 pa.length) a.cs=some (.ret (.bool ((sa.all fun n=>decide (n<0)) && decide (a.c=0))),H):=by
  intro sa
  induction sa with
  |nil=>
   intro pa ha;rw[List.append_nil]at ha;rw[zhr,zab];simp only[↓reduceIte,go_sem,Fl.cs,ha,List.all_nil]
  |cons x sa ih=>
   intro pa ha;have h1:=ih (pa++[x]) (by rw[ha];simp)
   have hpa:pa.length<=1000:=by rw[ha]at hlen;simp at hlen;omega
   have hga:a.o[pa.length]?=some x:=by rw[ha];simp
   have hlt:pa.length<a.o.length:=by rw[ha];simp
   simp only[zag,Fl.cs]at h1;rw[zhr,zab,List.all_cons];by_cases hx:0<=x
   ·simp only[↓reduceIte,go_sem,Fl.cs,show (pa.length:Int)<(a.o.length:Int) by omega,hga,hx,show ¬ x<0 by omega]
   ·simp only[↓reduceIte,go_sem,Fl.cs,show (pa.length:Int)<(a.o.length:Int) by omega,hga,hx,show x<0 by omega,zac (n:=pa.length) (by omega),h1]
 have:=loop a.o [] rfl;simp only[List.length_nil,Int.natCast_zero]at this;rw[zys,zpb,Bool.and_comm];simp only[↓reduceIte,go_sem,Fl.cs]at this ⊢;exact this
end Go.Ab
end
section
set_option linter.unusedVariables false
set_option linter.unusedSimpArgs false
set_option maxRecDepth 100000
set_option maxHeartbeats 2000000
namespace Go.Ab
open Go.RowKit Go.Proofs
structure At where
 v:Int
 o:Int
structure Cl where
 f:List At
 t:At
def At.cs(a:At):List AV:=[.int .i64 a.v,.int .i64 a.o]
def At.css(l:List At):List (List AV):=l.map At.cs
def Cl.cs(c:Cl):List AV:=[.sl (At.css c.f),.int .i64 c.t.v,.int .i64 c.t.o]
def Cl.css(l:List Cl):List (List AV):=l.map Cl.cs
@[go_sem] theorem atcss_len(l:List At):(At.css l).length=l.length:=by simp[At.css]
@[go_sem] theorem atcss_get(l:List At)(i:Nat):(At.css l)[i]?=l[i]?.map At.cs:=by simp[At.css]
@[go_sem] theorem clcss_len(l:List Cl):(Cl.css l).length=l.length:=by simp[Cl.css]
@[go_sem] theorem clcss_get(l:List Cl)(i:Nat):(Cl.css l)[i]?=l[i]?.map Cl.cs:=by simp[Cl.css]
theorem yaf(n:Nat)(l:List At):∀a∈(At.css l).flatten,Lt n a:=by
 intro a ha;obtain⟨e,he,h2⟩:=List.mem_flatten.1 ha;obtain⟨x,_,rfl⟩:=List.mem_map.1 he;simp[At.cs]at h2;rcases h2 with rfl|rfl <;> exact .int _ _
theorem clcs_lt(n:Nat)(c:Cl):∀a∈c.cs,Lt n a:=by
 intro a ha;simp[Cl.cs]at ha;rcases ha with rfl|rfl|rfl
 ·exact .sl (yaf n _)
 ·exact .int _ _
 ·exact .int _ _
theorem z2r(n:Nat)(l:List Cl):∀a∈(Cl.css l).flatten,Lt n a:=by
 intro a ha;obtain⟨e,he,h2⟩:=List.mem_flatten.1 ha;obtain⟨x,_,rfl⟩:=List.mem_map.1 he;exact clcs_lt n x a h2
@[go_sem] theorem lt_atcss(n:Nat)(l:List At):(∀a∈(At.css l).flatten,Lt n a)=True:=eq_true (yaf n l)
@[go_sem] theorem lt_clcss(n:Nat)(l:List Cl):(∀a∈(Cl.css l).flatten,Lt n a)=True:=eq_true (z2r n l)
@[go_sem] theorem atcs_len(a:At):a.cs.length=2:=rfl
@[go_sem] theorem atcs_rd(a:At):rd 2 true a.cs=some (.v (.agg a.cs)):=rfl
@[go_sem] theorem atcs_rd0(a:At):rd 1 false a.cs=some (.v (.int .i64 a.v)):=rfl
@[go_sem] theorem atcs_rd1(a:At):rd 1 false (List.drop 1 a.cs)=some (.v (.int .i64 a.o)):=rfl
@[go_sem] theorem atcs_one(a:At):a.cs.all AV.one=true:=rfl
@[go_sem] theorem atcs_over(x y:AV)(a:At):over [x,y] 0 a.cs=a.cs:=rfl
@[go_sem] theorem atcs_frz(n:Nat)(f:At)(h:List AO):zv5 n f.cs h=(f.cs,h):=by simp[At.cs,zv5,z7n]
theorem atcs_lt(n:Nat)(f:At):∀a∈f.cs,Lt n a:=by
 intro a ha;simp[At.cs]at ha;rcases ha with rfl|rfl <;> exact .int _ _
@[go_sem] theorem lt_atcs(n:Nat)(f:At):(∀a∈f.cs,Lt n a)=True:=eq_true (atcs_lt n f)
@[go_sem] theorem clcs_len(c:Cl):c.cs.length=3:=rfl
@[go_sem] theorem clcs_rd(c:Cl):rd 3 true c.cs=some (.v (.agg c.cs)):=rfl
@[go_sem] theorem clcs_rd0(c:Cl):rd 1 false c.cs=some (.v (.sl (At.css c.f))):=rfl
@[go_sem] theorem clcs_rd1(c:Cl):rd 2 true (List.drop 1 c.cs)=some (.v (.agg c.t.cs)):=rfl
@[go_sem] theorem clcs_rd1a(c:Cl):rd 1 false (List.drop 1 c.cs)=some (.v (.int .i64 c.t.v)):=rfl
@[go_sem] theorem clcs_rd2(c:Cl):rd 1 false (List.drop 2 c.cs)=some (.v (.int .i64 c.t.o)):=rfl
@[go_sem] theorem clcs_rd11(c:Cl):rd 1 false (List.drop 1 (List.drop 1 c.cs))=some (.v (.int .i64 c.t.o)):=rfl
@[go_sem] theorem clcs_one(c:Cl):c.cs.all AV.one=true:=rfl
@[go_sem] theorem clcs_over(x y z:AV)(c:Cl):over [x,y,z] 0 c.cs=c.cs:=rfl
def atB(vars:Int)(a:At):Bool:=decide (0<=a.v) && decide (a.v<vars) && decide (0<=a.o) && decide (a.o<=1000)
def clB(vars:Int)(c:Cl):Bool:=decide (1<=c.f.length) && decide (c.f.length<=6) && c.f.all (atB vars) && atB vars c.t
def ziw(vars:Int)(l:List Cl):Bool:=decide (1<=vars) && decide (vars<=16) && decide (l.length<=60) && l.all (clB vars)
def gI(m:List Int)(i:Int):Int:=m.getD i.toNat 0
def z32:List Int->Int
 |[]=>0
 |[x]=>x
 |x::y::r=>min x (z32 (y::r))
def zvb(c:Cl)(m:List Int):Int:=z32 (c.f.map fun a=>gI m a.v - a.o)+c.t.o
def zlf(m:List Int)(c:Cl):List Int:=m.set c.t.v.toNat (max (gI m c.t.v) (zvb c m))
def za7(l:List Cl)(m:List Int):List Int:=l.foldl zlf m
def zs8(l:List Cl):Int:=l.foldl (fun n c=>c.f.foldl (fun n a=>max n (c.t.o - a.o)) n) 0
def zh7(vars:Int)(l:List Cl):Int:=(vars - 1)*zs8 l
inductive RunS (l:List Cl) (most:Int):List Int->Option (List Int)->Nat->Prop
 |over {m:List Int} (h:∃x∈za7 l m,most<x):RunS l most m none 1
 |fix {m:List Int} (h:za7 l m=m) (hb:∀x∈m,x<=most):RunS l most m (some m) 1
 |more {m:List Int} {r:Option (List Int)} {k:Nat} (h:za7 l m≠m) (hb:∀x∈za7 l m,x<=most) (hr:RunS l most (za7 l m) r k):RunS l most m r (k+1)
theorem zss(m:List Int)(c:Cl):(zlf m c).length=m.length:=by simp[zlf]
theorem zn4(l:List Cl)(m:List Int):(za7 l m).length=m.length:=by
 unfold za7
 induction l generalizing m with
 |nil=>rfl
 |cons c l ih=>rw[List.foldl_cons,ih,zss]
def LeM(a b:List Int):Prop:=a.length=b.length/\∀i,a.getD i 0<=b.getD i 0
theorem LeM.refl(a:List Int):LeM a a:=⟨rfl,fun _=>Int.le_refl _⟩
theorem LeM.trans{a b c:List Int}(h:LeM a b)(k:LeM b c):LeM a c:=⟨h.1.trans k.1,fun i=>Int.le_trans (h.2 i) (k.2 i)⟩
theorem z82(m:List Int)(i j:Nat)(x:Int):(m.set i x).getD j 0=if i=j/\i<m.length then x else m.getD j 0:=by
 simp only[List.getD,List.getElem?_set];by_cases h:i=j
 ·subst h
  by_cases hl:i<m.length
  ·simp[hl]
  ·simp[hl]
 ·simp[h]
theorem z8z(m:List Int)(c:Cl):LeM m (zlf m c):=by
 refine⟨(zss m c).symm,fun i=>?_⟩
 unfold zlf;rw[z82]
 split
 ·rename_i h;rw[<- h.1];unfold gI;omega
 ·exact Int.le_refl _
theorem zsy(l:List Cl):∀m,LeM m (za7 l m):=by
 unfold za7
 induction l with
 |nil=>exact LeM.refl
 |cons c l ih=>exact fun m=>(z8z m c).trans (ih _)
theorem leM_eq{a b:List Int}(h:LeM a b)(k:LeM b a):a=b:=by
 apply List.ext_getElem h.1;intro i h1 h2;have e1:=h.2 i;have e2:=k.2 i;simp[List.getD,h1,h2]at e1 e2;omega
def z3j(m:List Int):Int:=m.foldr (· + ·) 0
theorem ym4:∀{a b:List Int},LeM a b->z3j a<=z3j b
 |[],[],_=>Int.le_refl _
 |[],_::_,h=>by have:=h.1;simp at this
 |_::_,[],h=>by have:=h.1;simp at this
 |x::a,y::b,h=>by
  have h0:=h.2 0;have:=ym4 (a:=a) (b:=b) ⟨by simpa using h.1,fun i=>by simpa using h.2 (i+1)⟩
  simp at h0;simp only[z3j,List.foldr_cons]at *;omega
theorem ydo:∀{a b:List Int},LeM a b->z3j b<=z3j a->a=b
 |[],[],_,_=>rfl
 |[],_::_,h,_=>by have:=h.1;simp at this
 |_::_,[],h,_=>by have:=h.1;simp at this
 |x::a,y::b,h,k=>by
  have h0:=h.2 0;have h1:LeM a b:=⟨by simpa using h.1,fun i=>by simpa using h.2 (i+1)⟩
  have:=ym4 h1;simp at h0;simp only[z3j,List.foldr_cons]at *;have e:x=y:=by omega
  rw[e,ydo h1 (by simp only[z3j];omega)]
theorem z3i{B:Int}:∀{m:List Int},(∀x∈m,x<=B)->z3j m<=m.length*B
 |[],_=>by simp[z3j]
 |x::m,h=>by
  have:=z3i (m:=m) fun y hy=>h y (by simp[hy])
  have h0:=h x (by simp)
  simp only[z3j,List.foldr_cons,List.length_cons]at *;rw[Int.natCast_add,Int.add_mul];omega
theorem ydz(l:List Cl)(most:Int):∀(d:Nat) (m:List Int),(m.length:Int)*most - z3j m<=d->(∀x∈m,x<=most)->∃r k,RunS l most m r k/\k<=d+1:=by
 intro d
 induction d with
 |zero=>
  intro m hd hb;by_cases h:za7 l m=m
  ·exact⟨_,_,.fix h hb,by omega⟩
  ·by_cases ho:∃x∈za7 l m,most<x
   ·exact⟨_,_,.over ho,by omega⟩
   ·exfalso
    have hb2:∀x∈za7 l m,x<=most:=fun x hx=>Int.not_lt.1 fun hlt=>ho ⟨x,hx,hlt⟩
    have h1:=z3i hb2;rw[zn4]at h1;exact h (ydo (zsy l m) (by omega)).symm
 |succ d ih=>
  intro m hd hb;by_cases h:za7 l m=m
  ·exact⟨_,_,.fix h hb,by omega⟩
  ·by_cases ho:∃x∈za7 l m,most<x
   ·exact⟨_,_,.over ho,by omega⟩
   ·have hb2:∀x∈za7 l m,x<=most:=fun x hx=>Int.not_lt.1 fun hlt=>ho ⟨x,hx,hlt⟩
    have hs:z3j m<z3j (za7 l m):=by
     rcases Int.lt_or_le (z3j m) (z3j (za7 l m)) with h1|h1
     ·exact h1
     ·exact absurd (ydo (zsy l m) h1).symm h
    obtain⟨r,k,h1,h2⟩:=ih (za7 l m) (by rw[zn4];omega) hb2
    exact⟨r,k+1,.more h hb2 h1,by omega⟩
theorem RunS.det{l:List Cl}{most:Int}{m:List Int}{r r':Option (List Int)}{k k':Nat}(h:RunS l most m r k):RunS l most m r' k' -> r=r' /\ k=k':=by
 induction h generalizing r' k' with
 |over h=>
  intro h2
  cases h2 with
  |over=>exact⟨rfl,rfl⟩
  |fix h3 hb=>obtain⟨x,hx,hlt⟩:=h;rw[h3]at hx;have:=hb x hx;omega
  |more h3 hb _=>obtain⟨x,hx,hlt⟩:=h;have:=hb x hx;omega
 |fix h hb=>
  intro h2
  cases h2 with
  |over h3=>obtain⟨x,hx,hlt⟩:=h3;rw[h]at hx;have:=hb x hx;omega
  |fix=>exact⟨rfl,rfl⟩
  |more h3 _ _=>exact absurd h h3
 |more h hb hr ih=>
  intro h2
  cases h2 with
  |over h3=>obtain⟨x,hx,hlt⟩:=h3;have:=hb x hx;omega
  |fix h3 _=>exact absurd h3 h
  |more _ _ hr2=>obtain⟨rfl,rfl⟩:=ih hr2;exact⟨rfl,rfl⟩
theorem RunS.model{l:List Cl}{most:Int}{m r:List Int}{k:Nat}{o:Option (List Int)}(h:RunS l most m o k):o=some r->za7 l r=r/\(∀x∈r,x<=most)/\r.length=m.length:=by
 induction h with
 |over h=>intro e;cases e
 |fix h hb=>intro e;cases e;exact⟨h,hb,rfl⟩
 |more h hb hr ih=>intro e;obtain⟨h1,h2,h3⟩:=ih e;exact⟨h1,h2,by rw[h3,zn4]⟩
theorem RunS.le{l:List Cl}{most:Int}{m r:List Int}{k:Nat}{o:Option (List Int)}(h:RunS l most m o k):o=some r->LeM m r:=by
 induction h with
 |over h=>intro e;cases e
 |fix h hb=>intro e;cases e;exact LeM.refl _
 |more h hb hr ih=>intro e;exact (zsy l _).trans (ih e)
end Go.Ab
end
section
set_option linter.unusedVariables false
set_option linter.unusedSimpArgs false
set_option maxRecDepth 100000
set_option maxHeartbeats 2000000
namespace Go.Ab
open Go.RowKit Go.Proofs
theorem z6q(H:List AO)(i:Int)(w:AV)(c:Int)(o:List Int)(hlen:o.length<=1000)(ho:∀n∈o,-1<=n/\n<=1000):
  ∀(so po:List Int) (ver:Nat),o=po++so->zlo H (H++[.lst 0 1 [],.lst ver 1 (zav (po.map fun n=>if 0<=n then n+1 else n)),.lst 0 1 []]) (.int .i64 po.length) [.int .i64 0,w] [.int .i64 c,.sl (zav o)] [.int .i64 i,.ol (H.length+1) ver]=some (.ret (.agg [.int .i64 i,.sl (zav (o.map fun n=>if 0<=n then n+1 else n))]),H):=by
 intro so
 induction so with
 |nil=>
  intro po ver h;rw[List.append_nil]at h;subst h;rw[zlo,zab];simp only[↓reduceIte,go_sem]
 |cons x so ih=>
  intro po ver h;have h1:=ih (po++[x]) (ver+1) (by rw[h];simp)
  have hga:o[po.length]?=some x:=by rw[h];simp
  have hp:po.length<o.length:=by rw[h];simp
  obtain⟨hx1,hx2⟩:=ho x (by rw[h];simp)
  rw[List.map_append,List.map_cons,List.map_nil,<- zmu]at h1;simp only[zag]at h1;rw[zlo,zab];by_cases hx:0<=x
  ·rw[if_pos hx]at h1
   simp only[↓reduceIte,go_sem,show (po.length:Int)<(o.length:Int) by omega,hga,hx,zam (n:=x+1) (by omega) (by omega),zac (n:=po.length) (by omega),show po.length<=1073741823 by omega,List.length_map,h1]
  ·rw[if_neg hx]at h1
   simp only[↓reduceIte,go_sem,show (po.length:Int)<(o.length:Int) by omega,hga,hx,zac (n:=po.length) (by omega),show po.length<=1073741823 by omega,List.length_map,h1]
theorem yjw(z:List Bool)(hz:z.length<=1000)(l:Lv):∀d,d<=1000->rightB z.length 0 l d=true->∀H,F zhc [.agg l.cs,.sl (bls z)] H=some (.ret (.agg (rawF z l).cs),H):=by
 induction l using Lv.ind with
 |h k n ks ih=>
 intro d hd h H;have hg:=zhn z (.mk k n ks) d h;rw[rightB]at h
 split at h
 ·cases h
 split at h
 ·cases h
 rename_i hd1 hk;have hk:(ks.length:Int)=zgk k:=by simpa using hk
 have hnone:=fun H=>yem z.length hz H
 rw[z72];rw[rawF]at hg ⊢;unfold zgk at hk
 match ks,hk,ih,h,hg with
 |[],hk,ih,h,hg=>
  simp at hk;by_cases h5:k=5
  ·subst h5
   simp at h;obtain⟨h0,hn⟩:=h;obtain⟨j,rfl⟩:=Int.eq_ofNat_of_zero_le h0;have hj:j<z.length:=by omega
   obtain⟨b,hb⟩:∃b,z[j]?=some b:=⟨z[j],by simp[hj]⟩
   obtain⟨ver,hK⟩:=ybc z.length hz (H++[.lst 0 1 []]);simp only[rawFs,zvq,Int.toNat_natCast,hb,if_true];cases b
   ·have hgr:(List.replicate z.length (-1:Int))[j]?=some (-1):=by simp[hj]
    have hs:(zav (List.replicate z.length (-1))).set j [AV.int .i64 0]=zav ((List.replicate z.length (-1)).set j 0):=by simp[zav,List.map_set]
    simp only[↓reduceIte,go_sem,Lv.cs,Lv.css]at hK ⊢;simp only[↓reduceIte,go_sem,Lv.cs,Lv.css,hK,hb,List.length_replicate,hj,hgr,hs,Fl.cs]
   ·simp only[↓reduceIte,go_sem,Lv.cs,Lv.css]at hK ⊢
    simp only[↓reduceIte,go_sem,Lv.cs,Lv.css,hK,hb,zp8,Fl.cs,Option.some.injEq,Bool.true_eq_false]
  ·have h2:¬ k=2:=by grind
   have h3:¬ k=3:=by grind
   have h4:¬ k=4:=by grind
   simp only[rawFs,zvq,if_neg h5];simp only[↓reduceIte,go_sem,Lv.cs,Lv.css,h2,h3,h4,h5,hnone]
 |[a],hk,ih,h,hg=>
  have k2:k=2:=by simp at hk;grind
  subst k2;simp[rightsB]at h;have iha:=fun H=>ih a (by simp) (d - 1) (by omega) h.1 H
  have ga:=zhn z a (d - 1) h.1;simp only[rawFs,zvq,if_true];generalize rawF z a=fa at iha ga;obtain⟨c,o⟩:=fa;have hc:=ga.c0;have hc2:=ga.cd;have hlen:=ga.len;simp only at hc hc2 hlen;simp only[↓reduceIte,go_sem,Lv.cs,Lv.css,iha,Fl.cs,zam (n:=c+1) (by omega) (by omega)]
  exact z6q H _ _ c o (by omega) (fun n hn=>⟨ga.o0 n hn,by have:=ga.od n hn;omega⟩) o [] 0 rfl
 |[a,b],hk,ih,h,hg=>
  have h5:¬ k=5:=by rintro rfl;simp at hk
  have h6:¬ k=6:=by rintro rfl;simp at hk
  rw[if_neg h5,if_neg h6]at h;simp[rightsB]at h;have iha:=fun H=>ih a (by simp) (d - 1) (by omega) h.1.1 H
  have ihb:=fun H=>ih b (by simp) (d - 1) (by omega) h.1.2 H
  have ga:=zhn z a (d - 1) h.1.1;have gb:=zhn z b (d - 1) h.1.2;have k34:k=3\/k=4:=by simp at hk;grind
  simp only[rawFs,zvq];generalize rawF z a=fa at iha ga ⊢;generalize rawF z b=fb at ihb gb ⊢;have hB:=fun H=>yhr fa fb (by rw[ga.len,gb.len]) (by rw[ga.len];exact hz) H
  have hN:=fun H=>z68 fb (by rw[gb.len];exact hz) H
  rcases k34 with rfl|rfl
  ·simp only[↓reduceIte,go_sem,Lv.cs,Lv.css,iha,ihb,hB]
  ·cases hn:zpb fb <;> simp only[hn]at hN
   ·simp only[↓reduceIte,go_sem,Lv.cs,Lv.css,iha,ihb,hB,hN,hn]
   ·simp only[↓reduceIte,go_sem,Lv.cs,Lv.css,iha,ihb,hB,hN,hn]
 |a::b::c::r,hk,ih,h,hg=>
  exfalso;simp at hk
  grind
end Go.Ab
end
section
set_option linter.unusedVariables false
set_option linter.unusedSimpArgs false
set_option maxRecDepth 100000
set_option maxHeartbeats 2000000
namespace Go.Ab
open Go.RowKit Go.Proofs
def z9k(c:Int)(l:List Int):Int:=if (l.any fun n=>decide (0<=n) && decide (c<=n+1))=true then 0 else c
def normF(f:Fl):Fl:=⟨z9k f.c f.o,f.o⟩
theorem yel{c:Int}(hc:0<=c)(l:List Int)(x:Int):z9k c (l++[x])=if 0<=x/\z9k c l<=x+1 then 0 else z9k c l:=by
 unfold z9k;rw[List.any_append];by_cases h:(l.any fun n=>decide (0<=n) && decide (c<=n+1))=true
 ·simp[h]
 ·simp only[h]
  simp
theorem nrmF_le{c:Int}(hc:0<=c)(l:List Int):0<=z9k c l/\z9k c l<=c:=by unfold z9k;split <;> omega
theorem zym(H:List AO)(c:Int)(o:List Int)(hc:0<=c)(hlen:o.length<=1000)(ho:∀n∈o,-1<=n/\n<=1000):
  ∀(so po:List Int),o=po++so->zg4 H H (.int .i64 po.length) [.int .i64 0,.sl []] [.int .i64 (z9k c po),.sl (zav o)]=some (.ret (.tup [.agg [.int .i64 (z9k c o),.sl (zav o)],.int .i64 0]),H):=by
 intro so
 induction so with
 |nil=>
  intro po h;rw[List.append_nil]at h;subst h;rw[zg4,zab];simp only[↓reduceIte,go_sem]
 |cons x so ih=>
  intro po h;have h1:=ih (po++[x]) (by rw[h];simp)
  have hga:o[po.length]?=some x:=by rw[h];simp
  have hp:po.length<o.length:=by rw[h];simp
  obtain⟨hx1,hx2⟩:=ho x (by rw[h];simp)
  rw[yel hc]at h1;simp only[zag]at h1;rw[zg4,zab];by_cases hx:0<=x
  ·by_cases hy:z9k c po<=x+1
   ·rw[if_pos ⟨hx,hy⟩]at h1
    simp only[↓reduceIte,go_sem,show (po.length:Int)<(o.length:Int) by omega,hga,hx,hy,zam (n:=x+1) (by omega) (by omega),zac (n:=po.length) (by omega),h1]
   ·rw[if_neg (by rintro ⟨_,h⟩;exact hy h)]at h1
    simp only[↓reduceIte,go_sem,show (po.length:Int)<(o.length:Int) by omega,hga,hx,hy,zam (n:=x+1) (by omega) (by omega),zac (n:=po.length) (by omega),h1]
  ·rw[if_neg (by rintro ⟨h,_⟩;exact hx h)]at h1
   simp only[↓reduceIte,go_sem,show (po.length:Int)<(o.length:Int) by omega,hga,hx,zac (n:=po.length) (by omega),h1]
theorem zvy{l:Lv}{p:Nat}{m:Int}(h:zaz l p m=true):p<=5/\rightB p m l 12=true:=by
 simp only[zaz,Bool.and_eq_true,decide_eq_true_eq]at h;exact⟨by omega,h.2⟩
def yde:Fl:=⟨0,[]⟩
def za9(l:Lv)(z:List Bool):Fl:=if zaz l z.length 0=true then normF (rawF z l) else yde
def ycv(l:Lv)(z:List Bool):Int:=if zaz l z.length 0=true then 0 else 1
theorem znj(l:Lv)(hl:l.ok)(z:List Bool)(H:List AO):F zer [.agg l.cs,.sl (bls z)] H=some (.ret (.tup [.agg (za9 l z).cs,.int .i64 (ycv l z)]),H):=by
 have hR:=fun H=>zem l hl z.length 0 H
 rw[zxs];by_cases h:zaz l z.length 0=true
 ·have hz:=zvy h
  have hraw:=fun H=>yjw z (by omega) l 12 (by omega) hz.2 H
  have hg:=zhn z l 12 hz.2;rw[ycv,za9,if_pos h,if_pos h];have:=zym H (rawF z l).c (rawF z l).o hg.c0 (by rw[hg.len];omega) (fun n hn=>⟨hg.o0 n hn,by have:=hg.od n hn;omega⟩) (rawF z l).o [] rfl
  have hn:z9k (rawF z l).c []=(rawF z l).c:=rfl;simp only[List.length_nil,Int.natCast_zero,hn]at this;simp only[↓reduceIte,go_sem,hR,h,hraw,normF,Fl.cs];exact this
 ·rw[ycv,za9,if_neg h,if_neg h]
  simp only[↓reduceIte,go_sem,hR,h,yde,Fl.cs]
theorem ygr(l:Lv)(z:List Bool)(h:zaz l z.length 0=true):(za9 l z).o.length=z.length:=by
 rw[za9,if_pos h];exact (zhn z l 12 (zvy h).2).len
theorem zj1(l:Lv)(z:List Bool):0<=(za9 l z).c/\(za9 l z).c<=12/\(za9 l z).o.length<=5/\∀n∈(za9 l z).o,-1<=n/\n<=12:=by
 rw[za9]
 split
 ·rename_i h
  have hz:=zvy h;have hg:=zhn z l 12 hz.2;have hn:=nrmF_le hg.c0 (rawF z l).o;exact⟨hn.1,Int.le_trans hn.2 hg.cd,by show (rawF z l).o.length<=5;rw[hg.len];exact hz.1,fun n hn=>⟨hg.o0 n hn,hg.od n hn⟩⟩
 ·simp[yde]
def zde:Nat->Nat->List Bool
 |_,0=>[]
 |n,p+1=>decide (n % 2=1)::zde (n / 2) p
theorem zhi(n p:Nat):(zde n p).length=p:=by
 induction p generalizing n with
 |zero=>rfl
 |succ p ih=>rw[zde,List.length_cons,ih]
theorem yio(n p:Nat)(hn:n<1000)(hp:p<=1000)(H:List AO):F zod [.int .i64 n,.int .i64 p] H=some (.ret (.sl (bls (zde n p))),H):=by
 have loop:∀(j i m:Nat) (z:List Bool) (ver:Nat),i+j=p->m<1000->z.length=i->z++zde m j=zde n p->zkg H (H++[.lst 0 1 [],.lst ver 1 (bls z)]) (.int .i64 m) (.int .i64 p) (.ol (H.length+1) ver) (.int .i64 i)=some (.ret (.sl (bls (zde n p))),H):=by
  intro j
  induction j with
  |zero=>
   intro i m z ver h hm hz he;rw[zde,List.append_nil]at he;rw[zkg,zab];simp only[↓reduceIte,go_sem,he,show ¬ (i:Int)<(p:Int) by omega]
  |succ j ih=>
   intro i m z ver h hm hz he;have h1:=ih (i+1) (m / 2) (z++[decide (m % 2=1)]) (ver+1) (by omega) (by omega) (by simp[hz]) (by rw[<- he,zde];simp)
   have hmod:decide ((m:Int).tmod 2=1)=decide (m % 2=1):=by
    rw[Int.tmod_eq_emod_of_nonneg (by omega)];apply decide_eq_decide.2;omega
   have hdiv:(m:Int).tdiv 2=((m / 2:Nat):Int):=by rw[Int.tdiv_eq_ediv_of_nonneg (by omega)];omega
   have hs:bls z++[[.bool (decide (m % 2=1))]]=bls (z++[decide (m % 2=1)]):=by simp[bls]
   simp only[Int.natCast_add,Int.natCast_one]at h1;rw[zkg,zab];simp only[↓reduceIte,go_sem,show (i:Int)<(p:Int) by omega,hz,show i<=1073741823 by omega,hmod,hdiv,zam (n:=((m / 2:Nat):Int)) (by omega) (by omega),hs,zac (n:=i) (by omega),h1]
 rw[z43];simp only[↓reduceIte,go_sem];exact loop p 0 n [] 0 (by omega) hn rfl rfl
def zfv:List Int->Int->List At
 |[],_=>[]
 |n::r,i=>if 0<=n then ⟨i,n⟩::zfv r (i+1) else zfv r (i+1)
def zas(f:Fl):List At:=⟨0,f.c⟩::zfv f.o 1
theorem zpi(l:List Int)(x:Int):∀i:Int,zfv (l++[x]) i=zfv l i++if 0<=x then [⟨i+l.length,x⟩] else []:=by
 induction l with
 |nil=>intro i;simp[zfv]
 |cons n l ih=>
  intro i;rw[List.cons_append,zfv,zfv,ih (i+1)];have:i+1+(l.length:Int)=i+((n::l).length:Int):=by simp;omega
  rw[this]
  split <;> simp
theorem zus(l:List Int):∀i:Int,(zfv l i).length<=l.length:=by
 induction l with
 |nil=>intro i;simp[zfv]
 |cons n l ih=>intro i;rw[zfv];have:=ih (i+1);split <;> simp <;> omega
theorem zz9(l:List At)(x:At):At.css l++[x.cs]=At.css (l++[x]):=by simp[At.css]
theorem zrl(f:Fl)(hf:f.o.length<=1000)(H:List AO):F zgi [.agg f.cs] H=some (.ret (.sl (At.css (zas f))),H):=by
 have loop:∀(so po:List Int) (ver:Nat),f.o=po++so->zi5 H (H++[.lst 0 2 [],.lst ver 2 (At.css (⟨0,f.c⟩::zfv po 1))]) (.ol (H.length+1) ver) (.int .i64 po.length) f.cs=some (.ret (.sl (At.css (zas f))),H):=by
  intro so
  induction so with
  |nil=>
   intro po ver h;rw[List.append_nil]at h;subst h;rw[zi5,zab];simp only[↓reduceIte,go_sem,Fl.cs,zas]
  |cons x so ih=>
   intro po ver h;have hga:f.o[po.length]?=some x:=by rw[h];simp
   have hp:po.length<f.o.length:=by rw[h];simp
   have hlen:=zus po 1;rw[zi5,zab];by_cases hx:0<=x
   ·have h1:=ih (po++[x]) (ver+1) (by rw[h];simp)
    rw[zpi,if_pos hx]at h1;have hs:At.css ({ v:=0,o:=f.c } :: zfv po 1)++[[.int .i64 ((po.length:Int)+1),.int .i64 x]]=At.css ({ v:=0,o:=f.c } :: (zfv po 1++[⟨1+po.length,x⟩])):=by
     rw[<- List.cons_append,<- zz9,Int.add_comm];rfl
    simp only[zag,Fl.cs]at h1;simp only[↓reduceIte,go_sem,Fl.cs,show (po.length:Int)<(f.o.length:Int) by omega,hga,hx,zac (n:=po.length) (by omega),hs,List.length_cons,show (zfv po 1).length<=1073741822 by omega,h1]
   ·have h1:=ih (po++[x]) ver (by rw[h];simp)
    rw[zpi,if_neg hx,List.append_nil]at h1;simp only[zag,Fl.cs]at h1;simp only[↓reduceIte,go_sem,Fl.cs,show (po.length:Int)<(f.o.length:Int) by omega,hga,hx,zac (n:=po.length) (by omega),h1]
 rw[z14];simp only[↓reduceIte,go_sem];exact loop f.o [] 0 rfl
end Go.Ab
end
section
set_option linter.unusedVariables false
set_option linter.unusedSimpArgs false
set_option maxRecDepth 100000
set_option maxHeartbeats 2000000
namespace Go.Ab
open Go.RowKit Go.Proofs
@[go_sem] theorem atom08_ok(a:At)(vars:Int)(H:List AO):F zlz [.agg a.cs,.int .i64 vars] H=some (.ret (.bool (atB vars a)),H):=by
 rw[z40,atB];simp only[↓reduceIte,go_sem,At.cs]
 grind
theorem ya4(vars:Int)(l:List Cl)(H:List AO)(i:Nat)(c:Cl)(hi:l[i]?=some c)(hb:l.length<=1000)(hc:c.f.length<=6):
  ∀(fs fp:List At),c.f=fp++fs->zi7 H H (.int .i64 vars) (.sl (Cl.css l)) (.int .i64 i) (.int .i64 fp.length)=if fs.all (atB vars)=true then zgr H H (.int .i64 vars) (.sl (Cl.css l)) (.int .i64 (i+1)) else some (.ret (.bool false),H):=by
 intro fs;have hil:i<l.length:=(List.getElem?_eq_some_iff.1 hi).1
 induction fs with
 |nil=>
  intro fp h;rw[List.append_nil]at h;rw[zi7,zab];simp only[↓reduceIte,go_sem,hi,h,List.all_nil,zac (n:=i) (by omega)]
 |cons x fs ih=>
  intro fp h;have h1:=ih (fp++[x]) (by rw[h];simp)
  have hga:c.f[fp.length]?=some x:=by rw[h];simp
  have hp:fp.length<c.f.length:=by rw[h];simp
  simp only[zag]at h1;rw[zi7,zab,List.all_cons]
  cases hx:atB vars x
  ·simp only[↓reduceIte,go_sem,hi,show (fp.length:Int)<(c.f.length:Int) by omega,hga,hx]
  ·simp only[↓reduceIte,go_sem,hi,show (fp.length:Int)<(c.f.length:Int) by omega,hga,hx,zac (n:=fp.length) (by omega),h1]
theorem z60(vars:Int)(l:List Cl)(H:List AO)(hb:l.length<=1000):
  ∀(s p:List Cl),l=p++s->zgr H H (.int .i64 vars) (.sl (Cl.css l)) (.int .i64 p.length)=some (.ret (.bool (s.all (clB vars))),H):=by
 intro s
 induction s with
 |nil=>
  intro p h;rw[List.append_nil]at h;rw[zgr,zab];simp only[↓reduceIte,go_sem,h,List.all_nil]
 |cons c s ih=>
  intro p h;have h1:=ih (p++[c]) (by rw[h];simp)
  have hga:l[p.length]?=some c:=by rw[h];simp
  have hp:p.length<l.length:=by rw[h];simp
  simp only[zag]at h1;have hin:=fun hc=>ya4 vars l H p.length c hga hb hc c.f [] rfl
  simp only[List.length_nil,Int.natCast_zero]at hin;rw[zgr,zab,List.all_cons,clB]
  cases hx:atB vars c.t
  ·simp only[↓reduceIte,go_sem,show (p.length:Int)<(l.length:Int) by omega,hga,hx]
  ·by_cases ha:1<=c.f.length
   ·by_cases hb:c.f.length<=6
    ·simp only[↓reduceIte,go_sem,show (p.length:Int)<(l.length:Int) by omega,hga,hx,hin hb,h1,show ¬ ((c.f.length:Int)<1) by omega,show ¬ (6<(c.f.length:Int)) by omega,ha,hb]
     cases c.f.all (atB vars) <;> simp
    ·simp only[↓reduceIte,go_sem,show (p.length:Int)<(l.length:Int) by omega,hga,hx,show ¬ ((c.f.length:Int)<1) by omega,show (6<(c.f.length:Int)) by omega,ha,hb]
   ·simp only[↓reduceIte,go_sem,show (p.length:Int)<(l.length:Int) by omega,hga,hx,show ((c.f.length:Int)<1) by omega,ha]
theorem z0d(vars:Int)(l:List Cl)(H:List AO):F zjs [.int .i64 vars,.sl (Cl.css l)] H=some (.ret (.bool (ziw vars l)),H):=by
 have h:=fun hb=>z60 vars l H hb l [] rfl
 simp only[List.length_nil,Int.natCast_zero]at h;rw[z18,ziw];simp only[↓reduceIte,go_sem];by_cases hv:vars<1
 ·simp[hv,show ¬ 1<=vars by omega]
 by_cases hv2:16<vars
 ·simp[hv,hv2,show ¬ vars<=16 by omega]
 by_cases hl:60<(l.length:Int)
 ·simp[hv,hv2,hl,show ¬ l.length<=60 by omega]
 ·simp[hv,hv2,hl,h (by omega),show 1<=vars by omega,show vars<=16 by omega,show l.length<=60 by omega]
structure Cl.ok (vars:Nat) (c:Cl):Prop where
 ne:1<=c.f.length
 len:c.f.length<=6
 at_:∀a∈c.f,0<=a.v/\a.v<vars/\0<=a.o/\a.o<=1000
 to:0<=c.t.v/\c.t.v<vars/\0<=c.t.o/\c.t.o<=1000
theorem z8n{vars:Int}{a:At}:atB vars a=true ↔ 0<=a.v/\a.v<vars/\0<=a.o/\a.o<=1000:=by
 simp[atB,and_assoc]
theorem zg1{vars:Nat}{l:List Cl}:ziw vars l=true ↔ 1<=vars/\vars<=16/\l.length<=60/\∀c∈l,c.ok vars:=by
 simp only[ziw,Bool.and_eq_true,decide_eq_true_eq,List.all_eq_true,clB,z8n];constructor
 ·rintro ⟨⟨⟨h1,h2⟩,h3⟩,h4⟩
  exact⟨by omega,by omega,h3,fun c hc=>⟨(h4 c hc).1.1.1,(h4 c hc).1.1.2,(h4 c hc).1.2,(h4 c hc).2⟩⟩
 ·rintro ⟨h1,h2,h3,h4⟩
  exact⟨⟨⟨by omega,by omega⟩,h3⟩,fun c hc=>⟨⟨⟨(h4 c hc).ne,(h4 c hc).len⟩,(h4 c hc).at_⟩,(h4 c hc).to⟩⟩
def okM(vars:Nat)(m:List Int):Prop:=m.length=vars/\∀x∈m,-1000000000000<=x/\x<=1000000000000
theorem okM.get{vars:Nat}{m:List Int}(h:okM vars m){v:Int}(h0:0<=v)(h1:v<vars):m[v.toNat]?=some (gI m v) /\ -1000000000000<=gI m v/\gI m v<=1000000000000:=by
 have hl:v.toNat<m.length:=by rw[h.1];omega
 have e:m[v.toNat]?=some (gI m v):=by simp[gI,List.getD,hl]
 exact⟨e,h.2 _ (List.mem_of_getElem? e)⟩
theorem zw7(n:Int):∀l:List Int,l≠[]->z32 (l++[n])=min (z32 l) n
 |[],h=>absurd rfl h
 |[x],_=>rfl
 |x::y::r,_=>by
  have:=zw7 n (y::r) (by simp)
  simp only[List.cons_append,z32]at this ⊢;rw[this];omega
theorem z02:∀{l:List Int},l≠[]->z32 l∈l
 |[],h=>absurd rfl h
 |[x],_=>by simp[z32]
 |x::y::r,_=>by
  have:=z02 (l:=y::r) (by simp)
  rw[z32];rcases Int.le_total x (z32 (y::r)) with h|h
  ·rw[Int.min_eq_left h];simp
  ·rw[Int.min_eq_right h];exact List.mem_cons_of_mem _ this
theorem yhx{vars:Nat}{m:List Int}(hm:okM vars m){c:Cl}(hc:c.ok vars):-1000000001000<=zvb c m/\zvb c m<=1000000001000:=by
 have hne:c.f.map (fun a=>gI m a.v - a.o)≠[]:=by have:=hc.ne;intro h;simp at h;simp[h]at this
 obtain⟨a,ha,e⟩:=List.mem_map.1 (z02 hne);have h1:=hc.at_ a ha;have h2:=hc.to;have h3:=(hm.get h1.1 h1.2.1).2;rw[zvb,<- e];omega
theorem okM.lt{vars:Nat}{m:List Int}(h:okM vars m){v:Int}(h0:0<=v)(h1:v<vars):v.toNat<m.length:=by rw[h.1];omega
theorem z8o(m:List Int)(vars:Nat)(hm:okM vars m)(H:List AO)(id ver:Nat)(hH:H[id]?=some (.lst ver 1 (zav m)))(c:Cl)(hc:c.ok vars):
  ∀(s p:List At) ,c.f=p++s->p≠[]->zhm H H (.ol id ver) (.int .i64 (z32 (p.map fun a=>gI m a.v - a.o))) (.int .i64 p.length) c.cs=some (.ret (.int .i64 (zvb c m)),H):=by
 intro s
 induction s with
 |nil=>
  intro p h hp;rw[List.append_nil]at h;have hb:=yhx hm hc;rw[zvb,h]at hb;rw[zhm,zab];simp only[↓reduceIte,go_sem,h,zam (n:=z32 (p.map fun a=>gI m a.v - a.o)+c.t.o) (by omega) (by omega),zvb]
 |cons x s ih=>
  intro p h hp;have h1:=ih (p++[x]) (by rw[h];simp) (by simp)
  have hga:c.f[p.length]?=some x:=by rw[h];simp
  have hpl:p.length<c.f.length:=by rw[h];simp
  have hlen:=hc.len;have hx:=hc.at_ x (by rw[h];simp)
  have hgm:=hm.get hx.1 hx.2.1;have hgl:=hm.lt hx.1 hx.2.1;rw[List.map_append,List.map_cons,List.map_nil,zw7 _ _ (by simpa using hp)]at h1
  simp only[zag]at h1;have hmin:(if gI m x.v - x.o<z32 (p.map fun a=>gI m a.v - a.o) then gI m x.v - x.o else z32 (p.map fun a=>gI m a.v - a.o))=min (z32 (p.map fun a=>gI m a.v - a.o)) (gI m x.v - x.o):=by split <;> omega
  rw[zhm,zab];simp only[↓reduceIte,go_sem,At.cs,show (p.length:Int)<(c.f.length:Int) by omega,hga,hx.1,hgm.1,hgl,hH,zam (n:=gI m x.v - x.o) (by omega) (by omega),zac (n:=p.length) (by omega),hmin,h1]
theorem yiq(c:Cl)(m:List Int)(vars:Nat)(hm:okM vars m)(hc:c.ok vars)(H:List AO)(id ver:Nat)(hH:H[id]?=some (.lst ver 1 (zav m))):F zoc [.agg c.cs,.ol id ver] H=some (.ret (.int .i64 (zvb c m)),H):=by
 obtain⟨x,r,e⟩:∃x r,c.f=x::r:=by
  cases h:c.f with
  |nil=>have:=hc.ne;rw[h]at this;simp at this
  |cons x r=>exact⟨x,r,rfl⟩
 have hx:=hc.at_ x (by rw[e];simp)
 have hgm:=hm.get hx.1 hx.2.1;have hgl:=hm.lt hx.1 hx.2.1;have h0:c.f[0]?=some x:=by rw[e];rfl
 rw[z42];simp only[↓reduceIte,go_sem,h0,At.cs,hx.1,hgm.1,hgl,hH,zam (n:=gI m x.v - x.o) (by omega) (by omega)]
 have h1:=z8o m vars hm H id ver hH c hc r [x] (by rw[e];rfl) (by simp)
 have hpos:(0:Int)<(c.f.length:Int):=by have:=hc.ne;omega
 rw[zhm,zab];simp only[↓reduceIte,go_sem,h0,hpos,At.cs,hx.1,hgm.1,hgl,hH,zam (n:=gI m x.v - x.o) (by omega) (by omega),Int.lt_irrefl]
 exact h1
def zg8(c:Cl)(n:Int)(l:List At):Int:=l.foldl (fun n a=>max n (c.t.o - a.o)) n
theorem zs6{vars:Nat}{c:Cl}(hc:c.ok vars):∀(l:List At),(∀a∈l,a∈c.f)->∀{n:Int},0<=n/\n<=1000->0<=zg8 c n l/\zg8 c n l<=1000
 |[],_,_,hn=>hn
 |a::l,hl,n,hn=>by
  have h1:=hc.at_ a (hl a (by simp))
  have h2:=hc.to;exact zs6 hc l (fun b hb=>hl b (by simp[hb])) (n:=max n (c.t.o - a.o)) (by omega)
theorem zvz{vars:Nat}:∀(l:List Cl),(∀c∈l,c.ok vars)->∀{n:Int},0<=n/\n<=1000->0<=l.foldl (fun n c=>zg8 c n c.f) n/\l.foldl (fun n c=>zg8 c n c.f) n<=1000
 |[],_,_,hn=>hn
 |c::l,hl,n,hn=>zvz l (fun d hd=>hl d (by simp[hd])) (zs6 (hl c (by simp)) c.f (fun _ h=>h) hn)
theorem zs7(l:List Cl):zs8 l=l.foldl (fun n c=>zg8 c n c.f) 0:=rfl
theorem yer(vars:Nat)(l:List Cl)(hl:∀c∈l,c.ok vars)(hb:l.length<=1000)(H:List AO)(i:Nat)(c:Cl)(hi:l[i]?=some c)(n0:Int)(hn0:0<=n0/\n0<=1000):
  ∀(s p:List At),c.f=p++s->zkf H H (.sl (Cl.css l)) (.int .i64 (zg8 c n0 p)) (.int .i64 i) (.int .i64 p.length)=zhl H H (.sl (Cl.css l)) (.int .i64 (zg8 c n0 c.f)) (.int .i64 (i+1)):=by
 intro s;have hil:i<l.length:=(List.getElem?_eq_some_iff.1 hi).1;have hc:=hl c (List.mem_of_getElem? hi);have hlen:=hc.len
 induction s with
 |nil=>
  intro p h;rw[List.append_nil]at h;rw[zkf,zab];simp only[↓reduceIte,go_sem,hi,h,zac (n:=i) (by omega)]
 |cons x s ih=>
  intro p h;have h1:=ih (p++[x]) (by rw[h];simp)
  have hga:c.f[p.length]?=some x:=by rw[h];simp
  have hp:p.length<c.f.length:=by rw[h];simp
  have hx:=hc.at_ x (by rw[h];simp)
  have ht:=hc.to;have hs:zg8 c n0 (p++[x])=max (zg8 c n0 p) (c.t.o - x.o):=by simp[zg8]
  have hmax:(if c.t.o - x.o > zg8 c n0 p then c.t.o - x.o else zg8 c n0 p)=max (zg8 c n0 p) (c.t.o - x.o):=by split <;> omega
  rw[hs]at h1;simp only[zag]at h1;rw[zkf,zab];simp only[↓reduceIte,go_sem,At.cs,hi,show (p.length:Int)<(c.f.length:Int) by omega,hga,zam (n:=c.t.o - x.o) (by omega) (by omega),zac (n:=p.length) (by omega),hmax,h1]
theorem ybg(vars:Nat)(l:List Cl)(hl:∀c∈l,c.ok vars)(hb:l.length<=1000)(H:List AO):
  ∀(s p:List Cl),l=p++s->∀n,0<=n/\n<=1000->n=p.foldl (fun n c=>zg8 c n c.f) 0->zhl H H (.sl (Cl.css l)) (.int .i64 n) (.int .i64 p.length)=some (.ret (.tup [.int .i64 (zs8 l),.int .i64 0]),H):=by
 intro s
 induction s with
 |nil=>
  intro p h n hn e;rw[List.append_nil]at h;subst h;rw[zhl,zab];simp only[↓reduceIte,go_sem,e,zs7]
 |cons c s ih=>
  intro p h n hn e;have hga:l[p.length]?=some c:=by rw[h];simp
  have hp:p.length<l.length:=by rw[h];simp
  have h1:=ih (p++[c]) (by rw[h];simp) (zg8 c n c.f) (zs6 (hl c (by rw[h];simp)) c.f (fun _ h=>h) hn) (by rw[List.foldl_append,<- e];rfl)
  have hin:=yer vars l hl hb H p.length c hga n hn c.f [] rfl;have h0:zg8 c n []=n:=rfl;simp only[zag]at h1;simp only[List.length_nil,Int.natCast_zero,h0]at hin;rw[zhl,zab];simp only[↓reduceIte,go_sem,show (p.length:Int)<(l.length:Int) by omega,hga,hin,h1]
theorem yic(vars:Nat)(l:List Cl)(h:ziw vars l=true)(H:List AO):F zob [.int .i64 vars,.sl (Cl.css l)] H=some (.ret (.tup [.int .i64 (zs8 l),.int .i64 0]),H):=by
 have hr:=zg1.1 h;have h1:=ybg vars l hr.2.2.2 (by omega) H l [] rfl 0 (by omega) rfl
 rw[z41];simp only[↓reduceIte,go_sem,z0d,h];exact h1
end Go.Ab
end
section
set_option linter.unusedVariables false
set_option linter.unusedSimpArgs false
set_option maxRecDepth 100000
set_option maxHeartbeats 2000000
namespace Go.Ab
open Go.RowKit Go.Proofs
theorem ybn(m:List Int)(hb:m.length<=1000)(most:Int)(H:List AO)(id ver:Nat)(hH:H[id]?=some (.lst ver 1 (zav m))):F zmi [.ol id ver,.int .i64 most] H=some (.ret (.bool (m.any fun x=>decide (most<x))),H):=by
 have loop:∀(s p:List Int),m=p++s->zi6 H H (.ol id ver) (.int .i64 most) (.int .i64 p.length)=some (.ret (.bool (s.any fun x=>decide (most<x))),H):=by
  intro s
  induction s with
  |nil=>
   intro p h;rw[List.append_nil]at h;subst h;rw[zi6,zab];simp only[↓reduceIte,go_sem,hH,List.any_nil]
  |cons x s ih=>
   intro p h;have h1:=ih (p++[x]) (by rw[h];simp)
   have hga:m[p.length]?=some x:=by rw[h];simp
   have hp:p.length<m.length:=by rw[h];simp
   simp only[zag]at h1;rw[zi6,zab,List.any_cons];by_cases hx:most<x
   ·simp only[↓reduceIte,go_sem,show (p.length:Int)<(m.length:Int) by omega,hga,hx,hH,hp,Bool.true_or]
   ·simp only[↓reduceIte,go_sem,show (p.length:Int)<(m.length:Int) by omega,hga,hx,hH,hp,zac (n:=p.length) (by omega),h1,Bool.false_or]
 have:=loop m [] rfl;rw[z15];simp only[↓reduceIte,go_sem,hH];exact this
theorem zy7{m:List Int}{c:Cl}(h:¬ gI m c.t.v<zvb c m):zlf m c=m:=by
 unfold zlf;rw[Int.max_eq_left (by omega)]
 apply List.ext_getElem?;intro i;rw[List.getElem?_set]
 split
 ·rename_i e
  subst e
  split
  ·rename_i hl;simp[gI,List.getD,hl]
  ·rename_i hl;simp[hl]
 ·rfl
theorem yay{m:List Int}{c:Cl}(h:gI m c.t.v<zvb c m)(hl:c.t.v.toNat<m.length):zlf m c=m.set c.t.v.toNat (zvb c m)/\zlf m c≠m:=by
 have e:zlf m c=m.set c.t.v.toNat (zvb c m):=by unfold zlf;rw[Int.max_eq_right (by omega)]
 refine⟨e,fun h2=>?_⟩
 have h3:(m.set c.t.v.toNat (zvb c m)).getD c.t.v.toNat 0=zvb c m:=by rw[z82,if_pos ⟨rfl,hl⟩]
 rw[<- e,h2]at h3;unfold gI at h;omega
def bdM(vars:Nat)(B:Int)(m:List Int):Prop:=m.length=vars/\∀x∈m,0<=x/\x<=B
theorem bdM.ok{vars:Nat}{B:Int}{m:List Int}(h:bdM vars B m)(hB:B<=1000000000000):okM vars m :=
 ⟨h.1,fun x hx=>by have:=h.2 x hx;omega⟩
theorem bdM.get{vars:Nat}{B:Int}{m:List Int}(h:bdM vars B m){v:Int}(h0:0<=v)(h1:v<vars):0<=gI m v/\gI m v<=B:=by
 have hl:v.toNat<m.length:=by rw[h.1];omega
 have e:m[v.toNat]?=some (gI m v):=by simp[gI,List.getD,hl]
 exact h.2 _ (List.mem_of_getElem? e)
theorem asks_le{vars:Nat}{B:Int}{m:List Int}(hm:bdM vars B m){c:Cl}(hc:c.ok vars):zvb c m<=B+1000:=by
 have hne:c.f.map (fun a=>gI m a.v - a.o)≠[]:=by have:=hc.ne;intro h;simp at h;simp[h]at this
 obtain⟨a,ha,e⟩:=List.mem_map.1 (z02 hne);have h1:=hc.at_ a ha;have h2:=hc.to;have h3:=hm.get h1.1 h1.2.1;rw[zvb,<- e];omega
theorem bdM.step{vars:Nat}{B:Int}{m:List Int}(hm:bdM vars B m){c:Cl}(hc:c.ok vars)(hB:0<=B):bdM vars (B+1000) (zlf m c):=by
 refine⟨by rw[zss];exact hm.1,fun x hx=>?_⟩
 have ha:=asks_le hm hc;have hg:=hm.get hc.to.1 hc.to.2.1;rcases List.mem_or_eq_of_mem_set hx with hx|rfl
 ·have:=hm.2 x hx;omega
 ·omega
theorem bdM.round{vars:Nat}:∀(l:List Cl) {B:Int} {m:List Int},bdM vars B m->(∀c∈l,c.ok vars)->0<=B->bdM vars (B+1000*l.length) (za7 l m)
 |[],B,m,hm,_,_=>by simpa [za7] using hm
 |c::l,B,m,hm,hl,hB=>by
  have:=bdM.round l (hm.step (hl c (by simp)) hB) (fun d hd=>hl d (by simp[hd])) (by omega)
  have e:B+1000+1000*(l.length:Int)=B+1000*((c::l).length:Int):=by simp;omega
  rw[e]at this;exact this
def z9w(most:Int)(m:List Int):Bool:=m.any fun x=>decide (most<x)
theorem zr8(l:List Cl)(most:Int)(vars:Nat)(H:List AO)(hl:∀c∈l,c.ok vars)(hb:l.length<=1000)(hv:vars<=1000):∀(s p:List Cl),l=p++s->∀(B:Int) (ver:Nat) (k:Int) (ch:Bool) (m:List Int),bdM vars B m->0<=B->B+1000*s.length<=1000000000->0<=k->k+s.length<=1000000000000000->∃ver',
  zhq H (H++[.lst 0 1 [],.lst ver 1 (zav m)]) (.sl (Cl.css l)) (.int .i64 most) (.ol (H.length+1) ver) (.int .i64 k) (.bool ch) (.int .i64 p.length) =
   (if z9w most (za7 s m)=true then some (.ret (.tup [.sl [],.bool false,.int .i64 (k+s.length)]),H) else
    if ch=true\/za7 s m≠m then zen H (H++[.lst 0 1 [],.lst ver' 1 (zav (za7 s m))]) (.sl (Cl.css l)) (.int .i64 most) (.ol (H.length+1) ver') (.int .i64 (k+s.length))
    else some (.ret (.tup [.sl (zav (za7 s m)),.bool true,.int .i64 (k+s.length)]),H)):=by
 intro s
 induction s with
 |nil=>
  intro p h B ver k ch m hm h0 hB hk0 hk;rw[List.append_nil]at h;have hG:=fun H id ver hH=>ybn m (by rw[hm.1];exact hv) most H id ver hH
  refine⟨ver,?_⟩;have hGG:=hG (H++[.lst 0 1 [],.lst ver 1 (zav m)]) (H.length+1) ver (by simp)
  rw[zhq,zab];simp only[↓reduceIte,go_sem,h,hGG,z9w,za7,List.foldl_nil,List.length_nil,Int.natCast_zero,Int.add_zero]
  cases ch <;> simp
 |cons c s ih=>
  intro p h B ver k ch m hm h0 hB hk0 hk;simp only[List.length_cons,Int.natCast_add,Int.natCast_one]at hB hk;have hc:=hl c (by rw[h];simp)
  have hga:l[p.length]?=some c:=by rw[h];simp
  have hp:p.length<l.length:=by rw[h];simp
  have hA:=yiq c m vars (hm.ok (by omega)) hc (H++[.lst 0 1 [],.lst ver 1 (zav m)]) (H.length+1) ver (by simp)
  have hgm:=(hm.ok (by omega)).get hc.to.1 hc.to.2.1
  have hgl:=(hm.ok (by omega)).lt hc.to.1 hc.to.2.1
  have hk1:k+1+(s.length:Int)=k+((c::s).length:Int):=by simp;omega
  have hround:za7 (c::s) m=za7 s (zlf m c):=rfl;rw[zhq,zab];by_cases hlt:gI m c.t.v<zvb c m
  ·have hst:=yay hlt hgl
   obtain⟨ver',h1⟩:=ih (p++[c]) (by rw[h];simp) (B+1000) ver (k+1) true (zlf m c) (hm.step hc h0) (by omega) (by omega) (by omega) (by omega)
   refine⟨ver',?_⟩;have hset:(zav m).set c.t.v.toNat [.int .i64 (zvb c m)]=zav (m.set c.t.v.toNat (zvb c m)):=by simp[zav,List.map_set]
   simp only[zag,hst.1]at h1;simp only[↓reduceIte,go_sem,hga,hp,show (p.length:Int)<(l.length:Int) by omega,hA,hc.to.1,hgm.1,hgl,hlt,zam (n:=k+1) (by omega) (by omega),zac (n:=p.length) (by omega),hset]
   rw[h1,hround,hst.1,hk1];have hne:za7 s (m.set c.t.v.toNat (zvb c m))≠m:=by
    intro e;rw[<- hst.1]at e;have:=zsy s (zlf m c);rw[e]at this;exact hst.2 (leM_eq (z8z m c) this).symm
   simp[hne]
  ·obtain⟨ver',h1⟩:=ih (p++[c]) (by rw[h];simp) (B+1000) ver (k+1) ch (zlf m c) (hm.step hc h0) (by omega) (by omega) (by omega) (by omega)
   refine⟨ver',?_⟩;simp only[zag,zy7 hlt]at h1;rw[hround,zy7 hlt];simp only[↓reduceIte,go_sem,hga,hp,show (p.length:Int)<(l.length:Int) by omega,hA,hc.to.1,hgm.1,hgl,hlt,zam (n:=k+1) (by omega) (by omega),zac (n:=p.length) (by omega),h1,hk1]
def z31(r:Option (List Int)):List (List AV):=match r with|some m=>zav m|none=>[]
theorem ztc(n:Nat)(z:List Int):∀a∈(zav z).flatten,Lt n a:=by
 intro a ha;obtain⟨e,he,h2⟩:=List.mem_flatten.1 ha;obtain⟨b,_,rfl⟩:=List.mem_map.1 he;simp at h2;subst h2;exact .int _ _
@[go_sem] theorem lt_modL(n:Nat)(r:Option (List Int)):(∀a∈(z31 r).flatten,Lt n a)=True:=eq_true (by
 cases r with
 |none=>intro a ha;simp[z31]at ha
 |some m=>exact ztc n m)
theorem z3r(l:List Cl)(most:Int)(vars:Nat)(H:List AO)(hl:∀c∈l,c.ok vars)(hb:l.length<=1000)(hv:vars<=1000)(hm0:0<=most)(hm1:most<=1000000){m:List Int}{r:Option (List Int)}{n:Nat}(hr:RunS l most m r n):
  ∀(ver:Nat) (k:Int),bdM vars most m->0<=k->k+n*l.length<=1000000000000000 ->
  zen H (H++[.lst 0 1 [],.lst ver 1 (zav m)]) (.sl (Cl.css l)) (.int .i64 most) (.ol (H.length+1) ver) (.int .i64 k)=some (.ret (.tup [.sl (z31 r),.bool r.isSome,.int .i64 (k+n*l.length)]),H):=by
 have hgr:∀m,z9w most m=true ↔ ∃x∈m,most<x:=by intro m;simp[z9w]
 induction hr with
 |over h=>
  intro ver k hbd hk0 hk;rename_i m;obtain⟨ver',h1⟩:=zr8 l most vars H hl hb hv l [] rfl most ver k false m hbd hm0 (by omega) hk0 (by omega)
  rw[if_pos ((hgr _).2 h)]at h1;simp only[List.length_nil,Int.natCast_zero]at h1;rw[zen,zab];simp only[↓reduceIte,go_sem,h1,z31,Option.isSome];simp
 |fix h hb2=>
  intro ver k hbd hk0 hk;rename_i m;obtain⟨ver',h1⟩:=zr8 l most vars H hl hb hv l [] rfl most ver k false m hbd hm0 (by omega) hk0 (by omega)
  rw[if_neg (by rw[hgr,h];rintro ⟨x,hx,hlt⟩;have:=hb2 x hx;omega),if_neg (by simp[h]),h]at h1
  simp only[List.length_nil,Int.natCast_zero]at h1;rw[zen,zab];simp only[↓reduceIte,go_sem,h1,z31,Option.isSome];simp
 |more h hb2 hr ih=>
  intro ver k hbd hk0 hk;rename_i m r n;have e:k+l.length+n*(l.length:Int)=k+((n+1:Nat):Int)*l.length:=by
   rw[Int.natCast_add,Int.add_mul];simp;omega
  have hn0:0<=n*(l.length:Int):=Int.mul_nonneg (by omega) (by omega)
  obtain⟨ver',h1⟩:=zr8 l most vars H hl hb hv l [] rfl most ver k false m hbd hm0 (by omega) hk0 (by omega)
  rw[if_neg (by rw[hgr];rintro ⟨x,hx,hlt⟩;have:=hb2 x hx;omega),if_pos (.inr h)]at h1
  have hrb:=hbd.round l hl hm0;rw[ih ver' (k+l.length) ⟨hrb.1,fun x hx=>⟨(hrb.2 x hx).1,hb2 x hx⟩⟩ (by omega) (by omega),e]at h1
  simp only[List.length_nil,Int.natCast_zero]at h1;rw[zen,zab];simp only[↓reduceIte,go_sem,h1]
theorem z6z(l:List Cl)(most:Int)(vars:Nat)(H:List AO)(hl:∀c∈l,c.ok vars)(hb:l.length<=1000)(hv:vars<=1000)(hv1:1<=vars)(hm0:0<=most)(hm1:most<=1000000){m:List Int}{r:Option (List Int)}{n:Nat}(hr:RunS l most m r n)(hbd:bdM vars most m)(hk:n*(l.length:Int)<=1000000000000000):
  F zkp [.sl (Cl.css l),.sl (zav m),.int .i64 most] H=some (.ret (.tup [.sl (z31 r),.bool r.isSome,.int .i64 (n*l.length)]),H):=by
 obtain⟨x,q,e⟩:∃x q,m=x::q:=by
  cases m with
  |nil=>have:=hbd.1;simp at this;omega
  |cons x q=>exact⟨x,q,rfl⟩
 subst e;have h1:=fun ver=>z3r l most vars H hl hb hv hm0 hm1 hr ver 0 hbd (by omega) (by omega)
 have hlen:=hbd.1;rw[List.length_cons]at hlen;have hi:zav (x::q)=[.int .i64 x]::zav q:=rfl;have h1s:(∀y:List AV,y∈zav q->y.length=1)=True:=eq_true (by intro y hy;obtain⟨z,_,rfl⟩:=List.mem_map.1 hy;rfl)
 rw[zyr];simp only[Int.zero_add,hi]at h1;simp only[↓reduceIte,go_sem,hi,h1s,show q.length<1073741824 by omega,h1]
theorem ybi(vars:Nat)(l:List Cl)(h:ziw vars l=true)(H:List AO):F zmk [.int .i64 vars,.sl (Cl.css l)] H=some (.ret (.int .i64 (zh7 vars l)),H):=by
 have hr:=zg1.1 h;have hb:=zvz l hr.2.2.2 (n:=0) (by omega)
 rw[<- zs7]at hb;have h1:0<=((vars:Int) - 1)*zs8 l:=Int.mul_nonneg (by omega) hb.1
 have h2:((vars:Int) - 1)*zs8 l<=15*1000:=Int.mul_le_mul (by omega) hb.2 hb.1 (by omega)
 rw[z17,zh7];simp only[↓reduceIte,go_sem,yic vars l h,zam (n:=(vars:Int) - 1) (by omega) (by omega),zam (n:=((vars:Int) - 1)*zs8 l) (by omega) (by omega)]
theorem ztb(vars:Nat)(l:List Cl)(h:ziw vars l=true):0<=zh7 vars l/\zh7 vars l<=15000:=by
 have hr:=zg1.1 h;have hb:=zvz l hr.2.2.2 (n:=0) (by omega)
 rw[<- zs7]at hb;have h1:0<=((vars:Int) - 1)*zs8 l:=Int.mul_nonneg (by omega) hb.1
 have h2:((vars:Int) - 1)*zs8 l<=15*1000:=Int.mul_le_mul (by omega) hb.2 hb.1 (by omega)
 unfold zh7;omega
theorem run0(vars:Nat)(l:List Cl)(h:ziw vars l=true):∃r k,RunS l (zh7 vars l) (List.replicate vars 0) r k/\k<=300001:=by
 have hr:=zg1.1 h;have hb:=ztb vars l h;have hs:∀n,z3j (List.replicate n 0)=0:=by
  intro n
  induction n with
  |zero=>rfl
  |succ n ih=>simp only[z3j,List.replicate_succ,List.foldr_cons]at *;omega
 have hmul:(vars:Int)*zh7 vars l<=16*15000:=Int.mul_le_mul (by omega) hb.2 hb.1 (by omega)
 obtain⟨r,k,h1,h2⟩:=ydz l (zh7 vars l) 300000 (List.replicate vars 0) (by rw[hs,List.length_replicate];omega) (fun x hx=>by simp at hx;omega)
 exact⟨r,k,h1,by omega⟩
theorem yco(vars:Nat)(l:List Cl)(h:ziw vars l=true){r:Option (List Int)}{k:Nat}(hr:RunS l (zh7 vars l) (List.replicate vars 0) r k)(H:List AO):F zmj [.int .i64 vars,.sl (Cl.css l)] H=some (.ret (.tup [.sl (z31 r),.bool r.isSome,.int .i64 (k*l.length),.int .i64 0]),H):=by
 have hR:=zg1.1 h;have hb:=ztb vars l h;obtain⟨r',k',h1,h2⟩:=run0 vars l h;obtain⟨_,e⟩:=hr.det h1;have hk:(k:Int)*l.length<=300001*60:=Int.mul_le_mul (by omega) (by omega) (by omega) (by omega)
 have hro:=fun H=>z6z l (zh7 vars l) vars H hR.2.2.2 (by omega) (by omega) hR.1 hb.1 (by omega) hr ⟨by simp,fun x hx=>by simp at hx;omega⟩ (by omega)
 have hrep:List.replicate vars [AV.int .i64 0]=zav (List.replicate vars 0):=by simp[zav]
 rw[z16];simp only[↓reduceIte,go_sem,z0d,h,ybi vars l h,show (vars:Int)<=1073741824 by omega,show (vars:Int)<=1073741823 by omega,hro,hrep]
end Go.Ab
end
section
set_option linter.unusedVariables false
set_option linter.unusedSimpArgs false
set_option maxRecDepth 100000
set_option maxHeartbeats 2000000
namespace Go.Ab
open Go.RowKit Go.Proofs
def zu0:List Bool->Int->List Cl
 |[],_=>[]
 |b::r,i=>if b then zu0 r (i+1) else ⟨[⟨i,0⟩],⟨0,1⟩⟩::zu0 r (i+1)
def yc6(z:List Bool)(c:Co):List Cl:=(zas (za9 c.a z)).map fun t=>⟨zas (za9 c.b z),t⟩
def zcp(cons:List Co)(z:List Bool):List Cl:=zu0 z 1++cons.flatMap (yc6 z)
theorem zox(l:List Cl)(x:Cl):Cl.css l++[x.cs]=Cl.css (l++[x]):=by simp[Cl.css]
theorem z3y(l:List Bool)(x:Bool):∀i:Int,zu0 (l++[x]) i=zu0 l i++if x then [] else [⟨[⟨i+l.length,0⟩],⟨0,1⟩⟩]:=by
 induction l with
 |nil=>intro i;simp[zu0]
 |cons n l ih=>
  intro i;rw[List.cons_append,zu0,zu0,ih (i+1)];have:i+1+(l.length:Int)=i+((n::l).length:Int):=by simp;omega
  rw[this]
  split <;> simp
theorem z0y(l:List Bool):∀i:Int,(zu0 l i).length<=l.length:=by
 induction l with
 |nil=>intro i;simp[zu0]
 |cons n l ih=>intro i;rw[zu0];have:=ih (i+1);split <;> simp <;> omega
theorem z6l(m:List Int)(z:List Bool)(hm:m.length=z.length+1)(hb:okM (z.length+1) m)(hz:z.length<=1000):∃vs,∀H,F zko [.sl (zav m),.sl (bls z)] H=some (.ret (.sl (zav vs)),H):=by
 have g0:=hb.get (v:=0) (by omega) (by omega)
 have loop:∀(s p:List Bool) (out:List Int),z=p++s->out.length=p.length->∃vs,∀(H:List AO) (ver:Nat),zhp H (H++[.lst 0 1 [],.lst ver 1 (zav out)]) (.sl (zav m)) (.sl (bls z)) (.ol (H.length+1) ver) (.int .i64 p.length)=some (.ret (.sl (zav vs)),H):=by
  intro s
  induction s with
  |nil=>
   intro p out h ho;rw[List.append_nil]at h;subst h;refine⟨out,fun H ver=>?_⟩
   rw[zhp,zab];simp only[↓reduceIte,go_sem]
  |cons x s ih=>
   intro p out h ho;have hga:z[p.length]?=some x:=by rw[h];simp
   have hp:p.length<z.length:=by rw[h];simp
   have g1:=hb.get (v:=(p.length:Int)+1) (by omega) (by omega)
   have hnn:(0:Int)<=(p.length:Int)+1:=by omega
   obtain⟨vs,h1⟩:=ih (p++[x]) (out++[if x=true then 0 else gI m 0 - gI m ((p.length:Int)+1)]) (by rw[h];simp) (by simp[ho])
   refine⟨vs,fun H ver=>?_⟩
   have h1:=h1 H (ver+1);rw[<- zmu]at h1;simp only[zag]at h1;have e0:m[0]?=some (gI m 0):=g0.1;rw[zhp,zab];cases x
   ·simp only[↓reduceIte,Bool.false_eq_true]at h1
    simp only[↓reduceIte,go_sem,show (p.length:Int)<(z.length:Int) by omega,hga,e0,hnn,g1.1,zac (n:=p.length) (by omega),zam (n:=gI m 0 - gI m ((p.length:Int)+1)) (by omega) (by omega),ho,show p.length<=1073741823 by omega,h1]
   ·simp only[↓reduceIte]at h1
    simp only[↓reduceIte,go_sem,show (p.length:Int)<(z.length:Int) by omega,hga,e0,hnn,g1.1,zac (n:=p.length) (by omega),zam (n:=gI m 0 - gI m ((p.length:Int)+1)) (by omega) (by omega),ho,show p.length<=1073741823 by omega,h1]
 obtain⟨vs,h1⟩:=loop z [] [] rfl rfl;refine⟨vs,fun H=>?_⟩
 have h1:=h1 H 0;rw[zyq];simp only[↓reduceIte,go_sem];exact h1
theorem z8h(cons:List Co)(z:List Bool)(hz:z.length<=1000)(H:List AO):∀(s p:List Bool) (ver:Nat),z=p++s->∃ver',
  zff H (H++[.lst 0 3 [],.lst ver 3 (Cl.css (zu0 p 1))]) (.sl (Co.css cons)) (.sl (bls z)) (.ol (H.length+1) ver) (.int .i64 p.length)=zd9 H (H++[.lst 0 3 [],.lst ver' 3 (Cl.css (zu0 z 1))]) (.sl (Co.css cons)) (.sl (bls z)) (.ol (H.length+1) ver') (.int .i64 0):=by
 intro s
 induction s with
 |nil=>
  intro p ver h;rw[List.append_nil]at h;subst h;refine⟨ver,?_⟩;rw[zff,zab];simp only[↓reduceIte,go_sem]
 |cons x s ih=>
  intro p ver h;have hga:z[p.length]?=some x:=by rw[h];simp
  have hp:p.length<z.length:=by rw[h];simp
  have hl:=z0y p 1;cases x
  ·obtain⟨ver',h1⟩:=ih (p++[false]) (ver+1) (by rw[h];simp)
   refine⟨ver',?_⟩;rw[z3y,if_neg (by simp)]at h1
   simp only[zag]at h1;have hs:Cl.css (zu0 p 1)++[[.sl [[.int .i64 ((p.length:Int)+1),.int .i64 0]],.int .i64 0,.int .i64 1]]=Cl.css (zu0 p 1++[⟨[⟨1+p.length,0⟩],⟨0,1⟩⟩]):=by
    rw[<- zox,Int.add_comm];rfl
   rw[zff,zab];simp only[↓reduceIte,go_sem,show (p.length:Int)<(z.length:Int) by omega,hga,zac (n:=p.length) (by omega),show (zu0 p 1).length<=1073741823 by omega,hs,h1]
  ·obtain⟨ver',h1⟩:=ih (p++[true]) ver (by rw[h];simp)
   refine⟨ver',?_⟩;rw[z3y,if_pos rfl,List.append_nil]at h1;simp only[zag]at h1;rw[zff,zab];simp only[↓reduceIte,go_sem,show (p.length:Int)<(z.length:Int) by omega,hga,zac (n:=p.length) (by omega),h1]
theorem z8g(cons:List Co)(z:List Bool)(H:List AO)(i:Nat)(hi:i<=1000)(fb:Fl)(hfb:fb.o.length<=1000)(l:List At)(hl:l.length<=1000)(out:List Cl)(ho:out.length<=1000):∀(s p:List At) (ver:Nat),l=p++s->∃ver',
  zg2 H (H++[.lst 0 3 [],.lst ver 3 (Cl.css (out++p.map fun t=>⟨zas fb,t⟩))]) (.sl (Co.css cons)) (.sl (bls z)) (.ol (H.length+1) ver) (.int .i64 i) (.sl (At.css l)) (.int .i64 p.length) fb.cs=zd9 H (H++[.lst 0 3 [],.lst ver' 3 (Cl.css (out++l.map fun t=>⟨zas fb,t⟩))]) (.sl (Co.css cons)) (.sl (bls z)) (.ol (H.length+1) ver') (.int .i64 (i+1)):=by
 intro s
 induction s with
 |nil=>
  intro p ver h;rw[List.append_nil]at h;subst h;refine⟨ver,?_⟩;rw[zg2,zab];simp only[↓reduceIte,go_sem,zac (n:=i) (by omega)]
 |cons x s ih=>
  intro p ver h;have hga:l[p.length]?=some x:=by rw[h];simp
  have hp:p.length<l.length:=by rw[h];simp
  obtain⟨ver',h1⟩:=ih (p++[x]) (ver+1) (by rw[h];simp)
  refine⟨ver',?_⟩;have hA:=fun H=>zrl fb hfb H
  have hlen:(out++List.map (fun t=>{ f:=zas fb,t:=t:Cl }) p).length<=1073741823:=by simp;omega
  rw[List.map_append,List.map_cons,List.map_nil,<- List.append_assoc,<- zox,Cl.cs]at h1;simp only[zag]at h1;rw[zg2,zab];simp only[↓reduceIte,go_sem,show (p.length:Int)<(l.length:Int) by omega,hga,zac (n:=p.length) (by omega),hA,At.cs,hlen]
  exact h1
theorem zg0(l:Lv)(z:List Bool):(zas (za9 l z)).length<=6:=by
 have:=zus (za9 l z).o 1;have:=(zj1 l z).2.2.1;rw[zas,List.length_cons];omega
theorem z2q(z:List Bool):∀l:List Co,(l.flatMap (yc6 z)).length<=6*l.length
 |[]=>by simp
 |c::l=>by
  have:=z2q z l;have:=zg0 c.a z;simp only[List.flatMap_cons,List.length_append,yc6,List.length_map,List.length_cons];omega
theorem z8f(cons:List Co)(hcons:∀c∈cons,c.ok)(hcl:cons.length<=60)(z:List Bool)(hz:z.length<=5)(H:List AO):∀(s p:List Co) (ver:Nat),cons=p++s ->
  zd9 H (H++[.lst 0 3 [],.lst ver 3 (Cl.css (zu0 z 1++p.flatMap (yc6 z)))]) (.sl (Co.css cons)) (.sl (bls z)) (.ol (H.length+1) ver) (.int .i64 p.length)=some (.ret (.sl (Cl.css (zcp cons z))),H):=by
 intro s
 induction s with
 |nil=>
  intro p ver h;rw[List.append_nil]at h;subst h;rw[zd9,zab];simp only[↓reduceIte,go_sem,zcp]
 |cons x s ih=>
  intro p ver h;have hga:cons[p.length]?=some x:=by rw[h];simp
  have hp:p.length<cons.length:=by rw[h];simp
  have hx:=hcons x (by rw[h];simp)
  have hf1:=fun H=>znj x.a hx.1 z H
  have hf2:=fun H=>znj x.b hx.2 z H
  have hA:=fun H=>zrl (za9 x.a z) (by have:=(zj1 x.a z).2.2.1;omega) H
  rw[zd9,zab];simp only[↓reduceIte,go_sem,show (p.length:Int)<(cons.length:Int) by omega,hga,hf1,hf2,hA]
  have hg:=zj1 x.b z;have hla:=zg0 x.a z;obtain⟨ver',h1⟩:=z8g cons z H p.length (by omega) (za9 x.b z) (by omega) (zas (za9 x.a z)) (by omega) (zu0 z 1++p.flatMap (yc6 z)) (by have:=z0y z 1;have:=z2q z p;simp only[List.length_append];omega) (zas (za9 x.a z)) [] ver rfl
  have h2:=ih (p++[x]) ver' (by rw[h];simp)
  have e:zu0 z 1++List.flatMap (yc6 z) (p++[x])=(zu0 z 1++p.flatMap (yc6 z))++(zas (za9 x.a z)).map fun t=>⟨zas (za9 x.b z),t⟩:=by
   simp[yc6]
  rw[e]at h2;simp only[zag]at h2;rw[h2]at h1;simp only[List.map_nil,List.append_nil,List.length_nil,Int.natCast_zero]at h1;exact h1
theorem z5x(cons:List Co)(hcons:∀c∈cons,c.ok)(hcl:cons.length<=60)(z:List Bool)(hz:z.length<=5)(H:List AO):F zij [.sl (Co.css cons),.sl (bls z)] H=some (.ret (.sl (Cl.css (zcp cons z))),H):=by
 obtain⟨ver,h0⟩:=z8h cons z (by omega) H z [] 0 rfl
 have h2:=z8f cons hcons hcl z hz H cons [] ver rfl;simp only[List.flatMap_nil,List.append_nil,List.length_nil,Int.natCast_zero]at h2;rw[h2]at h0;rw[zxr];simp only[↓reduceIte,go_sem];exact h0
def zli(a:At)(b:List At):List Cl:=b.map fun y=>⟨[a],⟨y.v,y.o+1⟩⟩
theorem zzm(a:At)(b:List At)(y:At):zli a (b++[y])=zli a b++[⟨[a],⟨y.v,y.o+1⟩⟩]:=by simp[zli]
theorem zz8(t:At):∀(l:List Int) (i:Int),t∈zfv l i->i<=t.v/\t.v<i+l.length/\0<=t.o/\t.o∈l
 |[],i,h=>by simp[zfv]at h
 |n::l,i,h=>by
  rw[zfv]at h;have ih:=zz8 t l (i+1);simp only[List.length_cons,Int.natCast_add,Int.natCast_one,List.mem_cons]
  split at h
  ·rcases List.mem_cons.1 h with rfl|h
   ·exact⟨Int.le_refl _,by simp only[];omega,by assumption,.inl rfl⟩
   ·have:=ih h;exact⟨by omega,by omega,this.2.2.1,.inr this.2.2.2⟩
  ·have:=ih h;exact⟨by omega,by omega,this.2.2.1,.inr this.2.2.2⟩
theorem z4j(l:Lv)(z:List Bool):(za9 l z).o.length<=z.length:=by
 by_cases h:zaz l z.length 0=true
 ·rw[ygr l z h];omega
 ·rw[za9,if_neg h];simp[yde]
theorem zo0(l:Lv)(z:List Bool):∀t∈zas (za9 l z),0<=t.v/\t.v<((z.length+1:Nat):Int)/\0<=t.o/\t.o<=12:=by
 intro t ht;have hg:=zj1 l z;have hl:=z4j l z;rw[zas]at ht;rcases List.mem_cons.1 ht with rfl|ht
 ·exact⟨by simp,by simp only[];omega,hg.1,hg.2.1⟩
 ·have:=zz8 t _ _ ht
  have h2:=hg.2.2.2 _ this.2.2.2;omega
theorem z9d(c:Cl):∀(z:List Bool) (i:Int),c∈zu0 z i->∃j,i<=j/\j<i+z.length/\c=⟨[⟨j,0⟩],⟨0,1⟩⟩
 |[],i,h=>by simp[zu0]at h
 |b::z,i,h=>by
  rw[zu0]at h;have ih:=z9d c z (i+1);simp only[List.length_cons,Int.natCast_add,Int.natCast_one]
  split at h
  ·obtain⟨j,h1,h2,h3⟩:=ih h;exact⟨j,by omega,by omega,h3⟩
  ·rcases List.mem_cons.1 h with rfl|h
   ·exact⟨i,by omega,by omega,rfl⟩
   ·obtain⟨j,h1,h2,h3⟩:=ih h;exact⟨j,by omega,by omega,h3⟩
theorem z8e(cons:List Co)(z:List Bool):∀c∈zcp cons z,c.ok (z.length+1):=by
 intro c hc;rcases List.mem_append.1 hc with hc|hc
 ·obtain⟨j,h1,h2,rfl⟩:=z9d c z 1 hc
  exact⟨by simp,by simp,fun a ha=>by simp at ha;subst ha;simp only[];omega,by simp only[];omega⟩
 ·obtain⟨d,hd,hc⟩:=List.mem_flatMap.1 hc
  obtain⟨t,ht,rfl⟩:=List.mem_map.1 hc;have ht:=zo0 d.a z t ht;exact⟨by simp[zas],zg0 d.b z,fun a ha=>by have:=zo0 d.b z a ha;omega,by simp only[];omega⟩
theorem ykf(a:At)(b:List At)(vars:Nat)(ha:0<=a.v/\a.v<vars/\0<=a.o/\a.o<=12)(hb:∀t∈b,0<=t.v/\t.v<vars/\0<=t.o/\t.o<=12):∀c∈zli a b,c.ok vars:=by
 intro c hc;obtain⟨y,hy,rfl⟩:=List.mem_map.1 hc;have:=hb y hy;exact⟨by simp,by simp,fun t ht=>by simp at ht;subst ht;omega,by simp only[];omega⟩
def zua(cons:List Co)(z:List Bool)(b:Lv)(x:At):List Cl:=zcp cons z++zli x (zas (za9 b z))
theorem zqw(cons:List Co)(z:List Bool):(zcp cons z).length<=z.length+6*cons.length:=by
 have:=z0y z 1;have:=z2q z cons;rw[zcp,List.length_append];omega
theorem zw6(cons:List Co)(hcl:cons.length<=8)(z:List Bool)(hz:z.length<=5)(a b:Lv)(x:At)(hx:x∈zas (za9 a z)):ziw ((z.length+1:Nat):Int) (zua cons z b x)=true:=by
 have h1:=zqw cons z;have h2:=zg0 b z;refine zg1.2 ⟨by omega,by omega,by simp only[zua,List.length_append,zli,List.length_map];omega,fun c hc=>?_⟩
 rcases List.mem_append.1 hc with hc|hc
 ·exact z8e cons z c hc
 ·exact ykf x _ _ (zo0 a z x hx) (zo0 b z) c hc
def zlg(vars:Nat)(l:List Cl):Prop:=∃m k,RunS l (zh7 vars l) (List.replicate vars 0) (some m) k
theorem yd0{vars:Nat}{l:List Cl}(h:ziw vars l=true){m:List Int}{k:Nat}(hr:RunS l (zh7 vars l) (List.replicate vars 0) (some m) k):okM vars m:=by
 have h1:=hr.model rfl;have h2:=hr.le rfl;have hb:=ztb vars l h;refine⟨by simpa using h1.2.2,fun x hx=>?_⟩
 obtain⟨i,hi⟩:=List.mem_iff_getElem?.1 hx;have h3:=h2.2 i;have h4:=h1.2.1 x hx;have h5:(List.replicate vars (0:Int)).getD i 0=0:=by
  simp only[List.getD,List.getElem?_replicate];split <;> rfl
 rw[h5]at h3;simp only[List.getD,hi,Option.getD_some]at h3;omega
theorem zr4(l:List Cl)(hl:l.length<=1000)(a:At)(b:List At)(hb:b.length<=1000)(hbo:∀y∈b,0<=y.o/\y.o<=1000)(z:List Bool)(hz:z.length<=5)(hR:ziw ((z.length+1:Nat):Int) (l++zli a b)=true){r:Option (List Int)}{k:Nat}(hr:RunS (l++zli a b) (zh7 ((z.length+1:Nat):Int) (l++zli a b)) (List.replicate (z.length+1) 0) r k)(H:List AO):
  ∀(s p:List At) (ver:Nat),b=p++s->∃vs,zfg H (H++[.lst ver 3 (Cl.css (l++zli a p))]) (.sl (At.css b)) (.sl (bls z)) (.ol H.length ver) (.int .i64 p.length) a.cs=some (.ret (.tup [.sl (zav vs),.bool r.isSome]),H):=by
 intro s
 induction s with
 |nil=>
  intro p ver h;rw[List.append_nil]at h;subst h;have hS:=fun H=>yco (z.length+1) (l++zli a b) hR hr H
  simp only[Int.natCast_add,Int.natCast_one]at hS;rw[zfg,zab]
  cases r with
  |none=>
   refine⟨[],?_⟩;simp only[↓reduceIte,go_sem,zac (n:=z.length) (by omega),hS,Option.isSome,z31,zgb]
  |some m=>
   have hm:=yd0 hR hr;obtain⟨vs,hV⟩:=z6l m z hm.1 hm (by omega)
   refine⟨vs,?_⟩;simp only[↓reduceIte,go_sem,zac (n:=z.length) (by omega),hS,Option.isSome,z31,hV]
 |cons x s ih=>
  intro p ver h;have hga:b[p.length]?=some x:=by rw[h];simp
  have hp:p.length<b.length:=by rw[h];simp
  have hx:=hbo x (by rw[h];simp)
  obtain⟨vs,h1⟩:=ih (p++[x]) (ver+1) (by rw[h];simp)
  refine⟨vs,?_⟩;have hlen:(l++zli a p).length<=1073741823:=by simp[zli];omega
  rw[zzm,<- List.append_assoc,<- zox]at h1;simp only[zag]at h1;rw[zfg,zab];simp only[↓reduceIte,go_sem,At.cs,show (p.length:Int)<(b.length:Int) by omega,hga,zac (n:=p.length) (by omega),hlen,zam (n:=x.o+1) (by omega) (by omega)]
  exact h1
theorem z58(l:List Cl)(hl:l.length<=1000)(a:At)(y:At)(b:List At)(hb:b.length<=100)(hbo:∀t∈y::b,0<=t.o/\t.o<=1000)(z:List Bool)(hz:z.length<=5)(hR:ziw ((z.length+1:Nat):Int) (l++zli a (y::b))=true){r:Option (List Int)}{k:Nat}(hr:RunS (l++zli a (y::b)) (zh7 ((z.length+1:Nat):Int) (l++zli a (y::b))) (List.replicate (z.length+1) 0) r k)(H:List AO):
  ∃vs,F zik [.sl (Cl.css l),.agg a.cs,.sl (At.css (y::b)),.sl (bls z)] H=some (.ret (.tup [.sl (zav vs),.bool r.isSome]),H):=by
 cases l with
 |nil=>
  obtain⟨vs,h1⟩:=zr4 [] hl a (y::b) (by simp;omega) hbo z hz hR hr H b [y] 0 rfl
  refine⟨vs,?_⟩;have hy:=hbo y (by simp)
  have h0:(y::b)[0]?=some y:=rfl;have e:Cl.css (zli a [y])=[[.sl [a.cs],.int .i64 y.v,.int .i64 (y.o+1)]]:=rfl;have hn:Cl.css []=[]:=rfl;rw[zqo];simp only[List.nil_append,List.length_cons,List.length_nil,e,Int.natCast_add,Int.natCast_zero,Int.zero_add,Int.natCast_one]at h1;simp only[↓reduceIte,go_sem,hn];rw[zfg,zab];simp only[↓reduceIte,go_sem,h0,List.length_cons,show (0:Int)<((b.length+1:Nat):Int) by omega,At.cs,zam (n:=y.o+1) (by omega) (by omega),zam (n:=1) (by omega) (by omega)]
  exact h1
 |cons c l=>
  obtain⟨vs,h1⟩:=zr4 (c::l) hl a (y::b) (by simp;omega) hbo z hz hR hr H (y::b) [] 0 rfl
  refine⟨vs,?_⟩;have e:Cl.css (c::l)=c.cs::Cl.css l:=rfl;have h3:(∀x:List AV,x∈Cl.css l->x.length=3)=True:=eq_true (by intro x hx;obtain⟨z,_,rfl⟩:=List.mem_map.1 hx;rfl)
  have hm:zli a []=[]:=rfl;rw[zqo];simp only[hm,List.append_nil,List.length_nil,Int.natCast_zero,e]at h1;simp only[List.length_cons]at hl;simp only[↓reduceIte,go_sem,e,h3,show l.length<1073741824 by omega]
  exact h1
def zni(cons:List Co)(a b:Lv)(z:List Bool):Prop:=∃x∈zas (za9 a z),zlg (z.length+1) (zua cons z b x)
def LeqS(cons:List Co)(p:Nat)(a b:Lv):Prop:=∀n<2 ^ p,¬ zni cons a b (zde n p)
noncomputable def z29(cons:List Co)(p:Nat)(a b:Lv):Bool:=@decide (LeqS cons p a b) (Classical.propDecidable _)
theorem ykk(cons:List Co)(hcl:cons.length<=8)(p n:Nat)(hp:p<=5)(hn:n<1000)(a b:Lv)(H:List AO)(z:List Bool)(hz:z=zde n p):
  ∀(s q:List At),zas (za9 a z)=q++s ->
   ((∃x∈s,zlg (z.length+1) (zua cons z b x))/\∃vs,zfr H H (.sl (Co.css cons)) (.int .i64 p) (.int .i64 n) (.sl (bls z)) (.sl (At.css (zas (za9 a z)))) (.sl (Cl.css (zcp cons z))) (.int .i64 q.length) a.cs b.cs (za9 b z).cs=some (.ret (.tup [.bool false,.sl (zav vs),.int .i64 0]),H)) \/
   ((¬ ∃x∈s,zlg (z.length+1) (zua cons z b x))/\zfr H H (.sl (Co.css cons)) (.int .i64 p) (.int .i64 n) (.sl (bls z)) (.sl (At.css (zas (za9 a z)))) (.sl (Cl.css (zcp cons z))) (.int .i64 q.length) a.cs b.cs (za9 b z).cs=zg3 H H (.sl (Co.css cons)) (.int .i64 p) (.int .i64 (n+1)) a.cs b.cs):=by
 have hzl:z.length=p:=by rw[hz,zhi]
 have hlen:=zg0 a z;intro s
 induction s with
 |nil=>
  intro q h;refine .inr ⟨by simp,?_⟩
  rw[List.append_nil]at h;rw[zfr,zab];simp only[↓reduceIte,go_sem,h,zac (n:=n) (by omega)]
 |cons x s ih=>
  intro q h;have hga:(zas (za9 a z))[q.length]?=some x:=by rw[h];simp
  have hq:q.length<(zas (za9 a z)).length:=by rw[h];simp
  have hx:x∈zas (za9 a z):=by rw[h];simp
  have hA:=fun H=>zrl (za9 b z) (by have:=(zj1 b z).2.2.1;omega) H
  have hright:=zw6 cons hcl z (by omega) a b x hx
  have hcl2:=zqw cons z;obtain⟨r,k,hr,_⟩:=run0 (z.length+1) _ hright;have hbo:∀t∈zas (za9 b z),0<=t.o/\t.o<=1000:=fun t ht=>by have:=zo0 b z t ht;omega
  obtain⟨vs,hag⟩:=z58 (zcp cons z) (by omega) x ⟨0,(za9 b z).c⟩ (zfv (za9 b z).o 1) (by have:=zg0 b z;rw[zas,List.length_cons]at this;omega) hbo z (by omega) hright hr H
  rw[show (⟨0,(za9 b z).c⟩::zfv (za9 b z).o 1)=zas (za9 b z) from rfl]at hag
  cases r with
  |some m=>
   refine .inl ⟨⟨x,by simp,m,k,hr⟩,vs,?_⟩
   rw[zfr,zab];simp only[↓reduceIte,go_sem,show (q.length:Int)<((zas (za9 a z)).length:Int) by omega,hga,hA,hag,Option.isSome]
  |none=>
   have hns:¬ zlg (z.length+1) (zua cons z b x):=by
    rintro ⟨m,k',h2⟩
    have:=(hr.det h2).1;cases this
   have ih:=ih (q++[x]) (by rw[h];simp)
   simp only[zag]at ih;have hs:(∃y∈x::s,zlg (z.length+1) (zua cons z b y)) ↔ ∃y∈s,zlg (z.length+1) (zua cons z b y):=by simp[hns]
   rw[hs];rcases ih with⟨h1,vs',h2⟩|⟨h1,h2⟩
   ·refine .inl ⟨h1,vs',?_⟩
    rw[zfr,zab];simp only[↓reduceIte,go_sem,show (q.length:Int)<((zas (za9 a z)).length:Int) by omega,hga,hA,hag,Option.isSome,zac (n:=q.length) (by omega),h2]
   ·refine .inr ⟨h1,?_⟩
    rw[zfr,zab];simp only[↓reduceIte,go_sem,show (q.length:Int)<((zas (za9 a z)).length:Int) by omega,hga,hA,hag,Option.isSome,zac (n:=q.length) (by omega),h2]
theorem pow5:∀p:Nat,p<=5->2 ^ p<=32:=fun p hp=>Nat.pow_le_pow_right (by omega) hp
theorem sh_pow(p:Nat)(hp:p<=5):shI true .i64 1 (p:Int)=((2 ^ p:Nat):Int):=by
 match p,hp with
 |0,_=>rfl
 |1,_=>rfl
 |2,_=>rfl
 |3,_=>rfl
 |4,_=>rfl
 |5,_=>rfl
theorem yey(cons:List Co)(hcons:∀c∈cons,c.ok)(hcl:cons.length<=8)(p:Nat)(hp:p<=5)(a b:Lv)(ha:a.ok)(hb:b.ok)(H:List AO):∀(j n:Nat),n+j=2 ^ p ->
      ((∃k,n<=k/\k<2 ^ p/\zni cons a b (zde k p))/\∃vs,zg3 H H (.sl (Co.css cons)) (.int .i64 p) (.int .i64 n) a.cs b.cs=some (.ret (.tup [.bool false,.sl (zav vs),.int .i64 0]),H)) \/
      ((¬ ∃k,n<=k/\k<2 ^ p/\zni cons a b (zde k p))/\zg3 H H (.sl (Co.css cons)) (.int .i64 p) (.int .i64 n) a.cs b.cs=some (.ret (.tup [.bool true,.sl [],.int .i64 0]),H)):=by
 have hpw:=pow5 p hp;have hsh:=sh_pow p hp;intro j
 induction j with
 |zero=>
  intro n h;refine .inr ⟨by rintro ⟨k,h1,h2,_⟩;omega,?_⟩
  rw[zg3,zab];simp only[↓reduceIte,go_sem,hsh,show ¬ (n:Int)<((2 ^ p:Nat):Int) by omega]
 |succ j ih=>
  intro n h;have hC:=fun H=>yio n p (by omega) (by omega) H
  have hf1:=fun H=>znj a ha (zde n p) H
  have hf2:=fun H=>znj b hb (zde n p) H
  have hA:=fun H=>zrl (za9 a (zde n p)) (by have:=(zj1 a (zde n p)).2.2.1;omega) H
  have hcs:=fun H=>z5x cons hcons (by omega) (zde n p) (by rw[zhi];exact hp) H
  have hin:=ykk cons hcl p n hp (by omega) a b H (zde n p) rfl (zas (za9 a (zde n p))) [] rfl
  have ih:=ih (n+1) (by omega)
  simp only[List.length_nil,Int.natCast_zero]at hin;simp only[Int.natCast_add,Int.natCast_one]at ih;have hex:(∃k,n<=k/\k<2 ^ p/\zni cons a b (zde k p)) ↔ zni cons a b (zde n p)\/∃k,n+1<=k/\k<2 ^ p/\zni cons a b (zde k p):=by
   constructor
   ·rintro ⟨k,h1,h2,h3⟩
    rcases Nat.eq_or_lt_of_le h1 with rfl|h4
    ·exact .inl h3
    ·exact .inr ⟨k,h4,h2,h3⟩
   ·rintro (h3|⟨k,h1,h2,h3⟩)
    ·exact⟨n,by omega,by omega,h3⟩
    ·exact⟨k,by omega,h2,h3⟩
  rw[hex,zg3,zab];simp only[↓reduceIte,go_sem,hC,hf1,hf2,hA,hcs,hsh,show (n:Int)<((2 ^ p:Nat):Int) by omega]
  rcases hin with⟨h1,vs,h2⟩|⟨h1,h2⟩
  ·exact .inl ⟨.inl h1,vs,h2⟩
  ·rw[h2]
   rcases ih with⟨h3,vs,h4⟩|⟨h3,h4⟩
   ·exact .inl ⟨.inr h3,vs,h4⟩
   ·exact .inr ⟨fun h=>h.elim h1 h3,h4⟩
theorem zq6{cons:List Co}{p:Nat}{a b:Lv}:z29 cons p a b=true ↔ LeqS cons p a b:=by
 unfold z29;exact @decide_eq_true_iff _ (Classical.propDecidable _)
theorem ymr(cons:List Co)(hcons:∀c∈cons,c.ok)(p:Nat)(a b:Lv)(ha:a.ok)(hb:b.ok)(hC:zed cons p=true)(hA:zaz a p 0=true)(hB:zaz b p 0=true)(H:List AO):
  ∃vs,F zoa [.sl (Co.css cons),.int .i64 p,.agg a.cs,.agg b.cs] H=some (.ret (.tup [.bool (z29 cons p a b),.sl (zav vs),.int .i64 0]),H):=by
 have hc:=hC;simp only[zed,Bool.and_eq_true,decide_eq_true_eq]at hc;have hr:=fun H=>ztp cons (by omega) hcons p H
 have hra:=fun H=>zem a ha p 0 H
 have hrb:=fun H=>zem b hb p 0 H
 have h:=yey cons hcons hc.1.2 p (by omega) a b ha hb H (2 ^ p) 0 (by omega)
 rw[Int.natCast_zero]at h;rcases h with⟨⟨k,_,h1,h2⟩,vs,h3⟩|⟨h1,h3⟩
 ·have:z29 cons p a b=false:=by
   rcases hb:z29 cons p a b with _|_
   ·rfl
   ·exact absurd h2 (zq6.1 hb k h1)
  refine⟨vs,?_⟩;rw[zsj,this];simp only[↓reduceIte,go_sem,hr,hra,hrb,hC,hA,hB,h3]
 ·have:z29 cons p a b=true:=zq6.2 fun k hk hbr=>h1 ⟨k,by omega,hk,hbr⟩
  refine⟨[],?_⟩;rw[zsj,this];simp only[↓reduceIte,go_sem,hr,hra,hrb,hC,hA,hB,h3,zgb]
theorem yms(cons:List Co)(hcons:∀c∈cons,c.ok)(hl:cons.length<=140737488355328)(p:Int)(a b:Lv)(ha:a.ok)(hb:b.ok)(hC:(zed cons p && zaz a p 0 && zaz b p 0)=false)(H:List AO):
  F zoa [.sl (Co.css cons),.int .i64 p,.agg a.cs,.agg b.cs] H=some (.ret (.tup [.bool false,.sl [],.int .i64 1]),H):=by
 have hr:=fun H=>ztp cons hl hcons p H
 have hra:=fun H=>zem a ha p 0 H
 have hrb:=fun H=>zem b hb p 0 H
 rw[zsj]
 cases h1:zed cons p
 ·simp only[↓reduceIte,go_sem,hr,hra,hrb,h1]
 cases h2:zaz a p 0
 ·simp only[↓reduceIte,go_sem,hr,hra,hrb,h1,h2]
 cases h3:zaz b p 0
 ·simp only[↓reduceIte,go_sem,hr,hra,hrb,h1,h2,h3]
 ·simp[h1,h2,h3]at hC
end Go.Ab
end
section
set_option linter.unusedVariables false
set_option linter.unusedSimpArgs false
set_option maxRecDepth 100000
set_option maxHeartbeats 2000000
namespace Go.Ab
open Go.RowKit Go.Proofs
theorem ymp(p:Nat)(hp:p<=5)(H:List AO):F zgj [.int .u64 1,.int .u64 p] H=some (.ret (.tup [.int .u64 0,.int .u64 p]),H):=by
 rw[zum]
 match p,hp with
 |0,_=>simp only[↓reduceIte,go_sem];rfl
 |1,_=>simp only[↓reduceIte,go_sem];rfl
 |2,_=>simp only[↓reduceIte,go_sem];rfl
 |3,_=>simp only[↓reduceIte,go_sem];rfl
 |4,_=>simp only[↓reduceIte,go_sem];rfl
 |5,_=>simp only[↓reduceIte,go_sem];rfl
theorem Mul_ok(p:Nat)(hp:p<=5)(H:List AO):F zgv [.int .u64 1,.int .u64 p] H=some (.ret (.tup [.int .u64 0,.int .u64 p]),H):=by
 have hM:=fun H=>ymp p hp H
 rw[zxt];simp only[↓reduceIte,go_sem,hM]
theorem z3e(p:Nat)(hp:p<=1000):IntKind.wrap .u64 (p:Int)=p:=by
 simp only[IntKind.wrap,IntKind.bits,IntKind.signed]
 first|omega|(split <;> omega)|(simp;omega)
theorem ya6(p:Nat)(hp:p<=5)(H:List AO):FK zci [.sl [[.int .i64 (-1)]],.int .i64 p] H=some (.ret (.ol H.length 0),H++[.lst 0 1 (zav (List.replicate p (-1)))]):=by
 have hM:=fun H=>Mul_ok p hp H
 have hw1:IntKind.wrap .u64 1=1:=rfl;rw[zro];simp only[↓reduceIte,go_sem,show ¬ (p:Int)<0 by omega,z3e p (by omega),hw1,hM,List.length_cons,List.length_nil,show ¬ 9223372036854775807<(p:Int) by omega,zam (n:=(p:Int)) (by omega) (by omega),show (p:Int)<=1073741824 by omega,show (0:Int)<=p by omega]
 have m10:((min 1 0:Nat):Int)=0:=rfl;have m11:((min 1 1:Nat):Int)=1:=rfl;have m12:((min 1 2:Nat):Int)=1:=rfl;have m13:((min 1 3:Nat):Int)=1:=rfl;have m14:((min 1 4:Nat):Int)=1:=rfl;have m15:((min 1 5:Nat):Int)=1:=rfl;have t2:Int.toNat 2=2:=rfl;have t4:Int.toNat 4=4:=rfl;have s31:2<=3:=by omega
 have s32:3 - 2=1:=rfl;have s33:3 - 2=1:=rfl;have s42:4 - 2=2:=rfl;have s51:5 - 1=4:=rfl;have s52:5 - 2=3:=rfl;have s54:5 - 4=1:=rfl
 match p,hp with
 |0,_=>
  simp only[↓reduceIte,go_sem,over,List.take,m10];rw[zai,zab];simp only[↓reduceIte,go_sem,over,List.take]
 |1,_=>
  simp only[↓reduceIte,go_sem,over,List.take,t2,t4,s31,s33,s42,s51,s52,s54,m11];rw[zai,zab];simp only[↓reduceIte,go_sem,over,List.take,t2,t4,s32,s42,s52,s54,s31];rfl
 |2,_=>
  simp only[↓reduceIte,go_sem,over,List.take,t2,t4,s31,s33,s42,s51,s52,s54,m12];rw[zai,zab];simp only[↓reduceIte,go_sem,over,List.take,t2,t4,s31,s33,s42,s51,s52,s54,show IntKind.wrap .i64 (1+((min 1 1:Nat):Int))=2 from rfl]
  rw[zai,zab];simp only[↓reduceIte,go_sem,over,List.take,t2,t4,s32,s42,s52,s54,s31];rfl
 |3,_=>
  simp only[↓reduceIte,go_sem,over,List.take,t2,t4,s31,s33,s42,s51,s52,s54,m13];rw[zai,zab];simp only[↓reduceIte,go_sem,over,List.take,t2,t4,s31,s33,s42,s51,s52,s54,show IntKind.wrap .i64 (1+((min 1 2:Nat):Int))=2 from rfl]
  rw[zai,zab];simp only[↓reduceIte,go_sem,over,List.take,t2,t4,s31,s33,s42,s51,s52,s54,show IntKind.wrap .i64 (2+((min 2 1:Nat):Int))=3 from rfl]
  rw[zai,zab];simp only[↓reduceIte,go_sem,over,List.take,t2,t4,s32,s42,s52,s54,s31];rfl
 |4,_=>
  simp only[↓reduceIte,go_sem,over,List.take,t2,t4,s31,s33,s42,s51,s52,s54,m14];rw[zai,zab];simp only[↓reduceIte,go_sem,over,List.take,t2,t4,s31,s33,s42,s51,s52,s54,show IntKind.wrap .i64 (1+((min 1 3:Nat):Int))=2 from rfl]
  rw[zai,zab];simp only[↓reduceIte,go_sem,over,List.take,t2,t4,s31,s33,s42,s51,s52,s54,show IntKind.wrap .i64 (2+((min 2 2:Nat):Int))=4 from rfl]
  rw[zai,zab];simp only[↓reduceIte,go_sem,over,List.take,t2,t4,s32,s42,s52,s54,s31];rfl
 |5,_=>
  simp only[↓reduceIte,go_sem,over,List.take,t2,t4,s31,s33,s42,s51,s52,s54,m15];rw[zai,zab];simp only[↓reduceIte,go_sem,over,List.take,t2,t4,s31,s33,s42,s51,s52,s54,show IntKind.wrap .i64 (1+((min 1 4:Nat):Int))=2 from rfl]
  rw[zai,zab];simp only[↓reduceIte,go_sem,over,List.take,t2,t4,s31,s33,s42,s51,s52,s54,show IntKind.wrap .i64 (2+((min 2 3:Nat):Int))=4 from rfl]
  rw[zai,zab];simp only[↓reduceIte,go_sem,over,List.take,t2,t4,s31,s33,s42,s51,s52,s54,show IntKind.wrap .i64 (4+((min 4 1:Nat):Int))=5 from rfl]
  rw[zai,zab];simp only[↓reduceIte,go_sem,over,List.take,t2,t4,s32,s42,s52,s54,s31];rfl
theorem yed(p:Nat)(hp:p<=5)(H:List AO):FK zid [.int .i64 0,.int .i64 p] H=some (.ret (.agg [.int .i64 0,.ol H.length 0]),H++[.lst 0 1 (zav (List.replicate p (-1)))]):=by
 have hR:=fun H=>ya6 p hp H
 rw[z2m];simp only[↓reduceIte,go_sem,hR]
theorem yku(n ver:Nat)(o:List Int):LtO n (.lst ver 1 (zav o)):=ztc n o
def z6r(n:Int):Int:=if 0<=n then n+1 else n
theorem yau(H:List AO)(id ver:Nat)(hid:id<H.length)(c:Int)(J:List AO)(v2:List AV)(o0:List Int)(h0:H[id]?=some (.lst ver 1 (zav o0))):
  ∀(s p:List Int),o0=p++s->(∀n∈s,-1<=n/\n<=1000)->o0.length<=1000 ->
  zg7 H (H.set id (.lst ver 1 (zav (p.map z6r++s)))++[.lst 0 1 []]) (.ol id ver) (.int .i64 o0.length) (.int .i64 p.length) [.int .i64 c,.ol id ver] [.int .i64 0,.ol H.length 0]=some (.ret (.agg [.int .i64 c,.ol id ver]),H.set id (.lst ver 1 (zav (o0.map z6r)))):=by
 intro s
 induction s with
 |nil=>
  intro p h hb hl;rw[List.append_nil]at h;subst h;rw[zg7,zab];simp only[↓reduceIte,go_sem,List.append_nil,show ¬ H.length<=id by omega]
  rw[ztf (yku _ _ _),if_pos (.agg (by intro a ha;simp at ha;rcases ha with rfl|rfl;exact .int _ _;exact .ol hid))]
 |cons x s ih=>
  intro p h hb hl;have h1:=ih (p++[x]) (by rw[h];simp) (fun n hn=>hb n (by simp[hn])) hl
  have hx:=hb x (by simp)
  have hp:p.length<o0.length:=by rw[h];simp
  have hset:id<(H.set id (.lst ver 1 (zav (p.map z6r++x::s)))).length:=by simpa using hid
  have hget:(H.set id (.lst ver 1 (zav (p.map z6r++x::s)))++[AO.lst 0 1 []])[id]?=some (.lst ver 1 (zav (p.map z6r++x::s))):=by
   rw[List.getElem?_append_left hset];simp[hid]
  have hgx:(p.map z6r++x::s)[p.length]?=some x:=by simp
  simp only[List.map_append,List.map_cons,List.map_nil,List.append_assoc,List.cons_append,List.nil_append]at h1;simp only[zag]at h1;rw[zg7,zab];simp only[↓reduceIte,go_sem,show (p.length:Int)<(o0.length:Int) by omega,hget,hgx,show p.length<(List.map z6r p++x::s).length by simp]
  by_cases hx0:x = -1
  ·subst hx0
   have e:z6r (-1) = -1:=rfl;rw[e]at h1;simp only[↓reduceIte,go_sem,zac (n:=p.length) (by omega),h1,not_true_eq_false]
  ·have e:z6r x=x+1:=if_pos (by omega)
   rw[e]at h1;have hss:∀B,(H.set id (.lst ver 1 (zav (p.map z6r++x::s)))++[AO.lst 0 1 []]).set id B=H.set id B++[AO.lst 0 1 []]:=fun B=>by
    rw[List.set_append_left _ _ hset,List.set_set]
   have hs2:(zav (List.map z6r p++x::s)).set p.length [.int .i64 (x+1)]=zav (List.map z6r p++(x+1)::s):=by
    simp[zav]
   simp only[↓reduceIte,go_sem,hx0,hget,hgx,zam (n:=x+1) (by omega) (by omega),zac (n:=p.length) (by omega),show p.length<(List.map z6r p++x::s).length by simp,hs2,hss]
   exact h1
theorem yjd(c:Int)(hc:-1<=c/\c<=1000)(o:List Int)(ho:∀n∈o,-1<=n/\n<=1000)(hl:o.length<=1000)(H:List AO)(id ver:Nat)(hid:id<H.length)(hH:H[id]?=some (.lst ver 1 (zav o))):F ziv [.agg [.int .i64 c,.ol id ver]] H=some (.ret (.agg [.int .i64 (c+1),.ol id ver]),H.set id (.lst ver 1 (zav (o.map z6r)))):=by
 have h1:=yau H id ver hid (c+1) [] [] o hH o [] rfl ho hl;have hget:(H++[AO.lst 0 1 []])[id]?=some (.lst ver 1 (zav o)):=by rw[List.getElem?_append_left hid,hH]
 have hset:H.set id (.lst ver 1 (zav o))=H:=by
  apply List.ext_getElem?;intro i;rw[List.getElem?_set]
  split
  ·rename_i e;subst e;rw[hH]
  ·rfl
 simp only[List.map_nil,List.nil_append,hset,List.length_nil,Int.natCast_zero]at h1;rw[zsk];simp only[↓reduceIte,go_sem,hget,zam (n:=c+1) (by omega) (by omega)]
 exact h1
theorem yjc(c:Int)(hc:-1<=c/\c<=1000)(H:List AO):F ziv [.agg [.int .i64 c,.ze]] H=some (.ret (.agg [.int .i64 (c+1),.sl []]),H):=by
 rw[zsk];simp only[↓reduceIte,go_sem,zam (n:=c+1) (by omega) (by omega)]
 rw[zg7,zab];simp only[↓reduceIte,go_sem]
theorem ydp(c:Int)(hc:-1<=c/\c<=1000)(H:List AO):F ziv [.agg [.int .i64 c,.sl []]] H=some (.ret (.agg [.int .i64 (c+1),.sl []]),H):=by
 rw[zsk];simp only[↓reduceIte,go_sem,zam (n:=c+1) (by omega) (by omega)]
 rw[zg7,zab];simp only[↓reduceIte,go_sem]
def zpl(l:List Int)(n:Int):Int:=l.foldl max n
theorem yif(H:List AO)(id ver:Nat)(l:List Int)(hl:l.length<=1000)(hH:H[id]?=some (.lst ver 1 (zav l))):∀(s p:List Int) (n:Int),l=p++s->zc2 H H (.ol id ver) (.int .i64 n) (.int .i64 p.length)=some (.ret (.int .i64 (zpl s n)),H):=by
 intro s
 induction s with
 |nil=>
  intro p n h;rw[List.append_nil]at h;subst h;rw[zc2,zab];simp only[↓reduceIte,go_sem,hH,zpl,List.foldl_nil]
 |cons x s ih=>
  intro p n h;have h1:=ih (p++[x]) (max n x) (by rw[h];simp)
  have hga:l[p.length]?=some x:=by rw[h];simp
  have hp:p.length<l.length:=by rw[h];simp
  have hmax:(if x > n then x else n)=max n x:=by split <;> omega
  simp only[zag]at h1;rw[zc2,zab];simp only[↓reduceIte,go_sem,hH,hga,hp,show (p.length:Int)<(l.length:Int) by omega,hmax,zac (n:=p.length) (by omega),h1]
  simp only[zpl,List.foldl_cons]
theorem yie(H:List AO)(id ver:Nat)(x:Int)(l:List Int)(hl:(x::l).length<=1000)(hH:H[id]?=some (.lst ver 1 (zav (x::l)))):F zew [.ol id ver] H=some (.ret (.int .i64 (zpl l x)),H):=by
 have h1:=yif H id ver (x::l) hl hH l [x] x rfl;rw[zpn];have h0:(x::l)[0]?=some x:=rfl;simp only[↓reduceIte,go_sem,hH,h0,List.length_cons,show ¬ ((l.length+1:Nat):Int)<1 by omega,show 0<l.length+1 by omega]
 exact h1
def OwnI(n:Nat)(h:List AO)(a:AV)(l:List Int):Prop:=((a = .ze\/a = .sl [])/\l=[])\/∃id ver,a = .ol id ver/\n<=id/\h[id]?=some (.lst ver 1 (zav l))
theorem OwnI.app{n:Nat}{h:List AO}{a:AV}{l:List Int}(o:OwnI n h a l)(x:List AO):OwnI n (h++x) a l:=by
 rcases o with h0|⟨id,ver,h1,h2,h3⟩
 ·exact .inl h0
 ·exact .inr ⟨id,ver,h1,h2,by rw[List.getElem?_append_left (by have:=(List.getElem?_eq_some_iff.1 h3).1;omega)];exact h3⟩
theorem yia(c:Int)(l:List Int)(hl:l.length<=900)(H:List AO)(a:AV)(n:Nat)(o:OwnI n H a l):F zpe [.agg [.int .i64 c,a]] H=some (.ret (.int .i64 (zpl l (-1))),H):=by
 rcases o with⟨ha,rfl⟩|⟨id,ver,rfl,hn,hH⟩
 ·have hM:=yie (H++[.lst 1 1 (zav [-1])]) H.length 1 (-1) [] (by simp) (by simp)
  simp only[zav,List.map_cons,List.map_nil]at hM;rcases ha with rfl|rfl
  ·rw[zun]
   simp only[↓reduceIte,go_sem,hM]
  ·rw[zun]
   simp only[↓reduceIte,go_sem,hM]
 ·have hid:=(List.getElem?_eq_some_iff.1 hH).1
  have hM:=yie (H++[.lst 1 1 (zav (-1::l))]) H.length 1 (-1) l (by simp;omega) (by simp)
  have e:zav (-1::l)=[.int .i64 (-1)]::zav l:=rfl;simp only[e]at hM;have hg:∀x,(H++[x])[id]?=some (.lst ver 1 (zav l)):=fun x=>by rw[List.getElem?_append_left hid,hH]
  have h1:(∀x:List AV,x∈zav l->x.length=1)=True:=eq_true (by intro x hx;obtain⟨z,_,rfl⟩:=List.mem_map.1 hx;rfl)
  rw[zun];simp only[↓reduceIte,go_sem,hH,hg,h1,show 1+l.length<=1073741824 by omega,hM]
end Go.Ab
end
section
set_option linter.unusedVariables false
set_option linter.unusedSimpArgs false
set_option maxRecDepth 100000
set_option maxHeartbeats 2000000
namespace Go.Ab
open Go.RowKit Go.Proofs
theorem OwnI.elems{n:Nat}{h:List AO}{a:AV}{l:List Int}(o:OwnI n h a l):zk0 h a=some (zav l):=by
 rcases o with⟨rfl|rfl,rfl⟩|⟨id,ver,rfl,h2,h3⟩
 ·rfl
 ·rfl
 ·simp[zk0,h3]
theorem z1d(l:List Int):∀e∈zav l,e.length=1:=by intro e he;obtain⟨z,_,rfl⟩:=List.mem_map.1 he;rfl
theorem yhk{n:Nat}{h:List AO}{a:AV}{x:Int}{l:List Int}(hl:l.length<=1000)(o:OwnI n h a (x::l)):FK za0 [a] h=some (.ret (.ol h.length 0),h++[.lst 0 1 (zav (x::l))]):=by
 rw[zmy];unfold zva;dsimp only;rw[o.elems];dsimp only;have e:zav (x::l)=[.int .i64 x]::zav l:=rfl;rw[if_pos ⟨by omega,by omega,by rw[zq9];simp;omega,z1d _⟩,e]
theorem yca{n:Nat}{h:List AO}{a:AV}(o:OwnI n h a []):FK za0 [a] h=some (.ret .ze,h):=by
 rw[zmy];unfold zva;dsimp only;rw[o.elems];dsimp only;rw[if_pos ⟨by omega,by omega,by rw[zq9];simp,z1d _⟩]
 rfl
theorem zsb(c d:Int):(if d > c then d else c)=max c d:=by split <;> omega
theorem ygb{n:Nat}{h:List AO}{a b:AV}(c d:Int)(oa:OwnI n h a [])(ob:OwnI n h b []):FK zgn [.agg [.int .i64 c,a],.sl [[.int .i64 d,b]]] h=some (.ret (.agg [.int .i64 (max c d),.ze]),h):=by
 have hC:=yca oa;have hw:IntKind.wrap .i64 (0+1)=1:=rfl;have hw1:IntKind.wrap .i64 1=1:=rfl;have key:zce h h (.sl [[.int .i64 d,b]]) (.int .i64 1) (.int .i64 0) [.int .i64 0,.sl []] [.int .i64 c,.ze]=some (.ret (.agg [.int .i64 (max c d),.ze]),h):=by
  rcases ob with⟨rfl|rfl,_⟩|⟨id2,ver2,rfl,g2,g3⟩
  ·rw[zce,zab]
   simp only[↓reduceIte,go_sem,zsb];rw[ze2,zab];simp only[↓reduceIte,go_sem,hw,hw1];rw[zce,zab];simp only[↓reduceIte,go_sem]
  ·rw[zce,zab]
   simp only[↓reduceIte,go_sem,zsb];rw[ze2,zab];simp only[↓reduceIte,go_sem,hw,hw1];rw[zce,zab];simp only[↓reduceIte,go_sem]
  ·rw[zce,zab]
   simp only[↓reduceIte,go_sem,zsb,g3];rw[ze2,zab];simp only[↓reduceIte,go_sem,hw,hw1];rw[zce,zab];simp only[↓reduceIte,go_sem]
 rw[zu7];rcases oa with⟨rfl|rfl,_⟩|⟨id,ver,rfl,h2,h3⟩
 ·simp only[↓reduceIte,go_sem,hC,key]
 ·simp only[↓reduceIte,go_sem,hC,key]
 ·simp only[↓reduceIte,go_sem,hC,key]
theorem yks{h:List AO}(c d:Int)(L M:List Int)(hl:L.length<=900)(hm:M.length=L.length)(id ver:Nat)(g3:h[id]?=some (.lst ver 1 (zav M))):∀(s t p q:List Int),L=p++s->M=q++t->p.length=q.length ->
  ze2 h (h++[.lst 0 1 (zav (List.zipWith max p q++s))]) (.sl [[.int .i64 d,.ol id ver]]) (.int .i64 1) (.int .i64 0) (.ol id ver) (.int .i64 M.length) (.int .i64 p.length) [.int .i64 0,.sl []] [.int .i64 c,.ol h.length 0] =
  zce h (h++[.lst 0 1 (zav (List.zipWith max L M))]) (.sl [[.int .i64 d,.ol id ver]]) (.int .i64 1) (.int .i64 1) [.int .i64 0,.sl []] [.int .i64 c,.ol h.length 0]:=by
 have hid:=(List.getElem?_eq_some_iff.1 g3).1;have hw:IntKind.wrap .i64 (0+1)=1:=rfl;have hw1:IntKind.wrap .i64 1=1:=rfl;intro s
 induction s with
 |nil=>
  intro t p q h1 h2 h3;have:t=[]:=by
   rw[h1,h2]at hm;simp at hm;exact List.eq_nil_of_length_eq_zero (by omega)
  subst this;rw[List.append_nil]at h1 h2;subst h1 h2;rw[ze2,zab];simp only[↓reduceIte,go_sem,hw,hw1,List.append_nil,hm]
 |cons x s ih=>
  intro t p q h1 h2 h3
  cases t with
  |nil=>rw[h1,h2]at hm;simp at hm;omega
  |cons y t=>
  have ih:=ih t (p++[x]) (q++[y]) (by rw[h1];simp) (by rw[h2];simp) (by simp[h3])
  have hz:List.zipWith max (p++[x]) (q++[y])++s=List.zipWith max p q++max x y::s:=by rw[List.zipWith_append (h:=h3)];simp
  have hzl:(List.zipWith max p q).length=p.length:=by rw[List.length_zipWith];omega
  have hgy:M[p.length]?=some y:=by rw[h2,h3];simp
  have hgx:(List.zipWith max p q++x::s)[p.length]?=some x:=by rw[<- hzl];simp
  have hpl:p.length<M.length:=by rw[h2,h3];simp
  have hpz:p.length<(List.zipWith max p q++x::s).length:=by simp;omega
  have hg:∀z,(h++[z])[id]?=some (.lst ver 1 (zav M)):=fun z=>by rw[List.getElem?_append_left hid,g3]
  have hs2:(zav (List.zipWith max p q++x::s)).set p.length [.int .i64 (max x y)]=zav (List.zipWith max p q++max x y::s):=by
   rw[<- hzl];simp[zav]
  rw[hz]at ih;simp only[zag]at ih;rw[ze2,zab];simp only[↓reduceIte,go_sem,show (p.length:Int)<(M.length:Int) by omega,hgy,hgx,hpz,hpl,hg,zsb,hs2,zac (n:=p.length) (by omega),ih]
theorem ykr{n:Nat}{h:List AO}{a b:AV}(c d:Int)(x y:Int)(l m:List Int)(hl:l.length<=800)(hm:m.length=l.length)(oa:OwnI n h a (x::l))(ob:OwnI n h b (y::m)):FK zgn [.agg [.int .i64 c,a],.sl [[.int .i64 d,b]]] h=some (.ret (.agg [.int .i64 (max c d),.ol h.length 0]),h++[.lst 0 1 (zav (List.zipWith max (x::l) (y::m)))]):=by
 have hC:=yhk (by omega) oa
 rcases oa with⟨_,h0⟩|⟨id,ver,rfl,h2,h3⟩
 ·cases h0
 rcases ob with⟨_,h0⟩|⟨id2,ver2,rfl,g2,g3⟩
 ·cases h0
 have hid:=(List.getElem?_eq_some_iff.1 g3).1;have hg:∀z,(h++[z])[id2]?=some (.lst ver2 1 (zav (y::m))):=fun z=>by rw[List.getElem?_append_left hid,g3]
 have hin:=yks (h:=h) (max c d) d (x::l) (y::m) (by simp;omega) (by simp[hm]) id2 ver2 g3 (x::l) (y::m) [] [] rfl rfl rfl
 simp only[List.length_nil,Int.natCast_zero,List.zipWith_nil_left,List.nil_append,List.length_cons]at hin;rw[zu7];simp only[↓reduceIte,go_sem,hC];rw[zce,zab];simp only[↓reduceIte,go_sem,hg,zsb,hin];rw[zce,zab];simp only[↓reduceIte,go_sem]
theorem OwnI.mono{n m:Nat}{h:List AO}{a:AV}{l:List Int}(o:OwnI n h a l)(hm:m<=n):OwnI m h a l:=by
 rcases o with h0|⟨id,ver,h1,h2,h3⟩
 ·exact .inl h0
 ·exact .inr ⟨id,ver,h1,by omega,h3⟩
theorem yja{B X:List AO}{a:AV}{l:List Int}(c:Int)(hc:-1<=c/\c<=1000)(hb:∀n∈l,-1<=n/\n<=1000)(hl:l.length<=1000)(o:OwnI B.length (B++X) a l):∃X' a',F ziv [.agg [.int .i64 c,a]] (B++X)=some (.ret (.agg [.int .i64 (c+1),a']),B++X')/\OwnI B.length (B++X') a' (l.map z6r):=by
 rcases o with⟨rfl|rfl,rfl⟩|⟨id,ver,rfl,h2,h3⟩
 ·exact⟨X,_,yjc c hc _,.inl ⟨.inr rfl,rfl⟩⟩
 ·exact⟨X,_,ydp c hc _,.inl ⟨.inr rfl,rfl⟩⟩
 ·have hid:=(List.getElem?_eq_some_iff.1 h3).1
  have h4:=yjd c hc l hb hl (B++X) id ver hid h3;rw[List.set_append_right _ _ h2]at h4;refine⟨_,_,h4,.inr ⟨id,ver,rfl,h2,?_⟩⟩;rw[List.length_append]at hid;rw[List.getElem?_append_right h2,List.getElem?_set_self (by omega)]
theorem ykq{B X:List AO}{a b:AV}{l m:List Int}(c d:Int)(hl:l.length<=700)(hm:m.length=l.length)(oa:OwnI B.length (B++X) a l)(ob:OwnI B.length (B++X) b m):∃X' a',FK zgn [.agg [.int .i64 c,a],.sl [[.int .i64 d,b]]] (B++X)=some (.ret (.agg [.int .i64 (max c d),a']),B++X')/\OwnI B.length (B++X') a' (List.zipWith max l m):=by
 cases l with
 |nil=>
  obtain rfl:m=[]:=List.eq_nil_of_length_eq_zero hm;exact⟨X,_,ygb c d oa ob,.inl ⟨.inl rfl,rfl⟩⟩
 |cons x l=>
  cases m with
  |nil=>simp at hm
  |cons y m=>
   have:=ykr c d x y l m (by simp at hl;omega) (by simpa using hm) oa ob
   rw[List.append_assoc]at this;exact⟨_,_,this,.inr ⟨_,0,rfl,by simp,by rw[<- List.append_assoc];simp⟩⟩
theorem z67{f:Fl}{p:Nat}{d:Int}(g:f.good p d):(decide (f.c=0) && decide (zpl f.o (-1) = -1))=zpb f:=by
 have key:∀(l:List Int) (n:Int),(∀x∈l,-1<=x) -> -1<=n->(zpl l n = -1 ↔ n = -1/\∀x∈l,x<0):=by
  intro l
  induction l with
  |nil=>intro n _ _;simp[zpl]
  |cons x l ih=>
   intro n h0 hn;have hx:=h0 x (by simp)
   have:=ih (max n x) (fun y hy=>h0 y (by simp[hy])) (by omega)
   simp only[zpl,List.foldl_cons]at this ⊢;rw[this];constructor
   ·rintro ⟨h1,h2⟩
    exact⟨by omega,fun y hy=>by rcases List.mem_cons.1 hy with rfl|hy;omega;exact h2 y hy⟩
   ·rintro ⟨h1,h2⟩
    have:=h2 x (by simp)
    exact⟨by omega,fun y hy=>h2 y (by simp[hy])⟩
 have:=key f.o (-1) g.o0 (by omega)
 rw[zpb]
 congr 1
 rw[Bool.eq_iff_iff,decide_eq_true_iff,this];simp
theorem OwnI.one{n:Nat}{h:List AO}{a:AV}{l:List Int}(o:OwnI n h a l):AV.one a=true:=by
 rcases o with⟨rfl|rfl,rfl⟩|⟨id,ver,rfl,h2,h3⟩ <;> rfl
theorem ofK_ok(z:List Bool)(hz:z.length<=5)(l:Lv):∀d,d<=100->rightB z.length 0 l d=true->∀h:List AO,∃X a,FK zgm [.agg l.cs,.sl (bls z)] h=some (.ret (.agg [.int .i64 (rawF z l).c,a]),h++X)/\OwnI h.length (h++X) a (rawF z l).o:=by
 induction l using Lv.ind with
 |h k n ks ih=>
 intro d hd h H;have hg:=zhn z (.mk k n ks) d h;rw[rightB]at h
 split at h
 ·cases h
 split at h
 ·cases h
 rename_i hd1 hk;have hk:(ks.length:Int)=zgk k:=by simpa using hk
 have hP:=fun H=>yed z.length hz H
 rw[ybx];rw[rawF]at hg ⊢;unfold zgk at hk
 match ks,hk,ih,h,hg with
 |[],hk,ih,h,hg=>
  simp at hk;by_cases h5:k=5
  ·subst h5
   simp at h;obtain⟨h0,hn⟩:=h;obtain⟨j,rfl⟩:=Int.eq_ofNat_of_zero_le h0;have hj:j<z.length:=by omega
   obtain⟨b,hb⟩:∃b,z[j]?=some b:=⟨z[j],by simp[hj]⟩
   simp only[rawFs,zvq,Int.toNat_natCast,hb,if_true];have hgr:(List.replicate z.length (-1:Int))[j]?=some (-1):=by simp[hj]
   have hs:(zav (List.replicate z.length (-1))).set j [AV.int .i64 0]=zav ((List.replicate z.length (-1)).set j 0):=by simp[zav,List.map_set]
   cases b
   ·simp only[↓reduceIte,go_sem,Lv.cs,Lv.css,hP,hb,List.length_replicate,hj,hgr,hs]
    exact⟨_,_,rfl,.inr ⟨H.length,0,rfl,Nat.le_refl _,by simp⟩⟩
   ·simp only[↓reduceIte,go_sem,Lv.cs,Lv.css,hP,hb,zp8,Option.some.injEq,Bool.true_eq_false]
    exact⟨_,_,rfl,.inr ⟨H.length,0,rfl,Nat.le_refl _,by simp⟩⟩
  ·have h2:¬ k=2:=by grind
   have h3:¬ k=3:=by grind
   have h4:¬ k=4:=by grind
   simp only[rawFs,zvq,if_neg h5];simp only[↓reduceIte,go_sem,Lv.cs,Lv.css,h2,h3,h4,h5,hP];exact⟨_,_,rfl,.inr ⟨H.length,0,rfl,Nat.le_refl _,by simp[zp8]⟩⟩
 |[a],hk,ih,h,hg=>
  have k2:k=2:=by simp at hk;grind
  subst k2;simp[rightsB]at h;have ga:=zhn z a (d - 1) h.1;obtain⟨X,w,h1,h2⟩:=ih a (by simp) (d - 1) (by omega) h.1 (H++[.lst 0 1 (zav (List.replicate z.length (-1)))])
  obtain⟨X',w',h3,h4⟩:=yja (rawF z a).c (by have:=ga.c0;have:=ga.cd;omega) (fun n hn=>by have:=ga.o0 n hn;have:=ga.od n hn;omega) (by rw[ga.len];omega) h2
  rw[List.append_assoc,List.append_assoc]at h3;rw[List.append_assoc]at h4;simp only[List.cons_append,List.nil_append]at h3 h4;simp only[rawFs,zvq,if_true];have q1:=h2.one;have q2:=h4.one;simp only[AV.one]at q1 q2;simp only[↓reduceIte,go_sem,Lv.cs,Lv.css,hP,h1,h3,q1,q2];exact⟨_,_,rfl,h4.mono (by simp)⟩
 |[a,b],hk,ih,h,hg=>
  have h5:¬ k=5:=by rintro rfl;simp at hk
  have h6:¬ k=6:=by rintro rfl;simp at hk
  rw[if_neg h5,if_neg h6]at h;simp[rightsB]at h;have ga:=zhn z a (d - 1) h.1.1;have gb:=zhn z b (d - 1) h.1.2;have k34:k=3\/k=4:=by simp at hk;grind
  have hb1:=h.1.2;simp only[rawFs,zvq];have mx:∀P:List AO,∃X w Y v Z u,FK zgm [.agg a.cs,.sl (bls z)] (H++P)=some (.ret (.agg [.int .i64 (rawF z a).c,w]),H++(P++X))/\FK zgm [.agg b.cs,.sl (bls z)] (H++(P++X))=some (.ret (.agg [.int .i64 (rawF z b).c,v]),H++(P++(X++Y))) /\
    FK zgn [.agg [.int .i64 (rawF z a).c,w],.sl [[.int .i64 (rawF z b).c,v]]] (H++(P++(X++Y)))=some (.ret (.agg [.int .i64 (max (rawF z a).c (rawF z b).c),u]),H++(P++Z))/\AV.one w=true/\AV.one v=true/\OwnI H.length (H++(P++Z)) u (List.zipWith max (rawF z a).o (rawF z b).o):=by
   intro P;obtain⟨X,w,h1,h2⟩:=ih a (by simp) (d - 1) (by omega) h.1.1 (H++P)
   obtain⟨Y,v,h3,h4⟩:=ih b (by simp) (d - 1) (by omega) h.1.2 ((H++P)++X)
   have h5:=h2.app Y;have h6:=h4.mono (show (H++P).length<=_ by simp)
   rw[List.append_assoc (H++P)]at h5 h6;obtain⟨Z,u,h7,h8⟩:=ykq (B:=H++P) (X:=X++Y) (rawF z a).c (rawF z b).c (by rw[ga.len];omega) (by rw[ga.len,gb.len]) h5 h6
   simp only[List.append_assoc]at h1 h3 h7 h8;exact⟨X,w,Y,v,Z,u,h1,h3,h7,h2.one,h4.one,h8.mono (by simp)⟩
  rcases k34 with rfl|rfl
  ·obtain⟨X,w,Y,v,Z,u,h1,h3,h7,q1,q2,h8⟩:=mx [.lst 0 1 (zav (List.replicate z.length (-1)))]
   simp only[List.cons_append,List.nil_append]at h1 h3 h7 h8;have q3:=h8.one;simp only[AV.one]at q1 q2 q3;simp only[↓reduceIte,go_sem,Lv.cs,Lv.css,hP,h1,h3,h7,q1,q2,q3];exact⟨_,_,rfl,h8⟩
  ·obtain⟨W,t,g1,g2⟩:=ih b (by simp) (d - 1) (by omega) hb1 (H++[.lst 0 1 (zav (List.replicate z.length (-1)))])
   have hT:=yia (rawF z b).c (rawF z b).o (by rw[gb.len];omega) _ _ _ g2
   have hn:=z67 gb;rw[List.append_assoc]at g1 hT g2;simp only[List.cons_append,List.nil_append]at g1 hT g2;have q4:=g2.one;simp only[AV.one]at q4;simp only[↓reduceIte,go_sem,Lv.cs,Lv.css,hP,g1,hT,q4];obtain⟨X,w,Y,v,Z,u,h1,h3,h7,q1,q2,h8⟩:=mx (.lst 0 1 (zav (List.replicate z.length (-1)))::W);simp only[List.cons_append]at h1 h3 h7 h8;have q3:=h8.one;simp only[AV.one]at q1 q2 q3;by_cases c1:(rawF z b).c=0
   ·by_cases c2:zpl (rawF z b).o (-1) = -1
    ·have e:zpb (rawF z b)=true:=by rw[<- hn,c1,c2];rfl
     simp only[c1,c2,e,if_true,if_neg (show ¬ (4:Int)=3 by omega)]
     rw[c1]at hn;refine⟨_,_,rfl,?_⟩;exact g2.mono (by simp)
    ·have e:zpb (rawF z b)=false:=by rw[<- hn];simp[c2]
     simp only[if_neg (show ¬ (4:Int)=3 by omega),if_true,e]
     simp only[↓reduceIte,go_sem,c1,c2]at h1 h3 h7 ⊢;simp only[↓reduceIte,go_sem,h1,h3,h7,q1,q2,q3,c1,c2];have e2:(zx9 (rawF z a) (rawF z b)).c=max (rawF z a).c 0:=by simp[zx9,c1]
     rw[e2];exact⟨_,_,rfl,h8⟩
   ·have e:zpb (rawF z b)=false:=by rw[<- hn];simp[c1]
    simp only[if_neg (show ¬ (4:Int)=3 by omega),if_true,e]
    simp only[↓reduceIte,go_sem,h1,h3,h7,q1,q2,q3,c1];exact⟨_,_,rfl,h8⟩
 |a::b::c::r,hk,ih,h,hg=>
  exfalso;simp at hk
  grind
theorem maxL_ge(c:Int):∀(l:List Int) (n:Int),-1<=n->(∀x∈l,-1<=x)->((zpl l n ≠ -1/\c<=zpl l n+1) ↔ (0<=n/\c<=n+1)\/∃x∈l,0<=x/\c<=x+1):=by
 intro l
 induction l with
 |nil=>
  intro n hn _;simp only[zpl,List.foldl_nil];constructor
  ·rintro ⟨h1,h2⟩;exact .inl ⟨by omega,h2⟩
  ·rintro (⟨h1,h2⟩|⟨x,hx,_⟩)
   ·exact⟨by omega,h2⟩
   ·cases hx
 |cons y l ih=>
  intro n hn h0;have hy:=h0 y (by simp)
  have:=ih (max n y) (by omega) (fun x hx=>h0 x (by simp[hx]))
  simp only[zpl,List.foldl_cons]at this ⊢;rw[this];constructor
  ·rintro (h|⟨x,hx,h⟩)
   ·by_cases h1:y<=n
    ·rw[Int.max_eq_left h1]at h;exact .inl h
    ·rw[Int.max_eq_right (by omega)]at h;exact .inr ⟨y,by simp,h⟩
   ·exact .inr ⟨x,by simp[hx],h⟩
  ·rintro (h|⟨x,hx,h⟩)
   ·exact .inl (by omega)
   ·rcases List.mem_cons.1 hx with rfl|hx
    ·exact .inl (by omega)
    ·exact .inr ⟨x,hx,h⟩
theorem yev(B:Int):∀(l:List Int) (n:Int),n<=B->(∀x∈l,x<=B)->n<=zpl l n/\zpl l n<=B
 |[],n,h,_=>⟨Int.le_refl _,h⟩
 |y::l,n,h,h0=>by
  have:=h0 y (by simp)
  have:=yev B l (max n y) (by omega) (fun x hx=>h0 x (by simp[hx]))
  simp only[zpl,List.foldl_cons]at this ⊢;omega
theorem z8r(l:Lv)(hl:l.ok)(z:List Bool)(H:List AO):F zkz [.agg l.cs,.sl (bls z)] H=some (.ret (.tup [.agg (za9 l z).cs,.int .i64 (ycv l z)]),H):=by
 have hR:=fun H=>zhj l hl z.length 0 H
 rw[zyz];by_cases h:zaz l z.length 0=true
 ·have hz:=zvy h
  have hg:=zhn z l 12 hz.2;obtain⟨X,a,h1,h2⟩:=ofK_ok z hz.1 l 12 (by omega) hz.2 H
  have hT:=yia (rawF z l).c (rawF z l).o (by rw[hg.len];omega) _ _ _ h2
  have q:=h2.one;simp only[AV.one]at q;have hmx:=maxL_ge (rawF z l).c (rawF z l).o (-1) (by omega) hg.o0
  have hnrm:z9k (rawF z l).c (rawF z l).o=if zpl (rawF z l).o (-1) ≠ -1/\(rawF z l).c<=zpl (rawF z l).o (-1)+1 then 0 else (rawF z l).c:=by
   unfold z9k;have e:((rawF z l).o.any fun n=>decide (0<=n) && decide ((rawF z l).c<=n+1))=true ↔ (zpl (rawF z l).o (-1) ≠ -1/\(rawF z l).c<=zpl (rawF z l).o (-1)+1):=by
    rw[hmx];simp
   by_cases c:(zpl (rawF z l).o (-1) ≠ -1/\(rawF z l).c<=zpl (rawF z l).o (-1)+1)
   ·rw[if_pos c,if_pos (e.2 c)]
   ·rw[if_neg c,if_neg (fun k=>c (e.1 k))]
  rw[ycv,za9,if_pos h,if_pos h,normF,hnrm];have hbd:=yev 12 (rawF z l).o (-1) (by omega) hg.od
  have hw:=zam (n:=zpl (rawF z l).o (-1)+1) (by omega) (by omega)
  rcases h2 with⟨ha,h0⟩|⟨id,ver,rfl,h2,h3⟩
  ·rw[h0]at hT hw ⊢
   have hm:zpl [] (-1) = -1:=rfl;rcases ha with rfl|rfl
   ·simp only[↓reduceIte,go_sem,hR,h,h1,hT,hm,Fl.cs,ne_eq,not_true_eq_false,false_and,zgb]
   ·simp only[↓reduceIte,go_sem,hR,h,h1,hT,hm,Fl.cs,ne_eq,not_true_eq_false,false_and,zgb]
  ·have hset:∀o,(H++X).set id o=H++X.set (id - H.length) o:=fun o=>List.set_append_right _ _ h2
   simp only[↓reduceIte,go_sem,hR,h,h1,hT,hw,h2,h3,hset,Fl.cs];by_cases c1:zpl (rawF z l).o (-1) = -1
   ·simp[c1]
   ·by_cases c2:(rawF z l).c<=zpl (rawF z l).o (-1)+1
    ·simp[c1,c2]
    ·simp[c1,c2]
 ·rw[ycv,za9,if_neg h,if_neg h]
  simp only[↓reduceIte,go_sem,hR,h,yde,Fl.cs]
end Go.Ab
end
section
set_option linter.unusedVariables false
set_option linter.unusedSimpArgs false
set_option maxRecDepth 100000
set_option maxHeartbeats 2000000
namespace Go.Ab
open Go.RowKit Go.Proofs
theorem bit_get:∀n:Fin 32,∀i:Fin 5,(!decide (IntKind.wrap .u64 ((BitVec.ofInt 64 (shI false .u64 (n.val:Int) (i.val:Int)) &&& BitVec.ofInt 64 1).toNat:Int)=0))=decide ((n.val / 2 ^ i.val) % 2=1):=by decide
theorem ycc:∀(i n:Nat),zde n (i+1)=zde n i++[decide ((n / 2 ^ i) % 2=1)]:=by
 intro i
 induction i with
 |zero=>intro n;simp[zde]
 |succ i ih=>
  intro n;rw[zde,ih,zde,List.cons_append]
  congr 3
  rw[Nat.div_div_eq_div_mul,Nat.pow_succ',]
abbrev encZ(z:List Bool):List AV:=[.sl (bls z)]
def yoe(p:Nat):AV:=.fn (.func zmq) [] [.fp [.int .i64 p]]
theorem AllP_ok(p:Nat)(H:List AO):F zxe [.int .i64 p] H=some (.ret (yoe p),H):=by
 have h:Lt H.length (.fn (.func zmq) [] [.fp [.int .i64 p]])=True:=by
  simp only[eq_iff_iff,iff_true];exact .fn (by simp) (by intro x hx;simp at hx;subst hx;exact .fp (by intro a ha;simp at ha;subst ha;exact .int _ _))
 rw[ygz];simp only[↓reduceIte,go_sem,yoe,h]
def zoz(p:Nat):Nat->Nat->List (List Bool)
 |_,0=>[]
 |n,j+1=>zde n p::zoz p (n+1) j
theorem z0q{S E α:Type}{y:AV}{n:Nat}{enc:α->List AV}{W:S->List AO}{WE:E->List AO}{stp:S->α->Option (S ⊕ E)}(hy:Ys y n enc W WE stp)(s:S)(r:S ⊕ E)(X J:List AO):
  ze0 (W s++X) (.ret (.tup [])) (hp W WE r++(X++J))=some (.ret (.tup []),hp W WE r++X):=by
 have l1:(W s).length=n:=hy.len (.inl s);have l2:=hy.len r;rw[<- List.append_assoc];exact z1j (by omega) (fun id o ho=>by rw[l1];exact hy.fr s r id o ho) (.tup (by simp))
theorem allZ_in(p:Nat)(hp:p<=5)(n:Nat)(hn:n<32)(H A:List AO)(y x7:AV):∀(j i:Nat),i+j=p ->
  zg5 H (A++[.lst 0 1 (bls (zde n i)++List.replicate j [.bool false])]) y (.fp [.int .i64 p]) (.int .u64 n) (.ol A.length 0) x7 (.int .u64 n) (.int .i64 p) (.int .i64 i) =
  zg5 H (A++[.lst 0 1 (bls (zde n p))]) y (.fp [.int .i64 p]) (.int .u64 n) (.ol A.length 0) x7 (.int .u64 n) (.int .i64 p) (.int .i64 p):=by
 intro j
 induction j with
 |zero=>
  intro i h;obtain rfl:i=p:=by omega
  simp
 |succ j ih=>
  intro i h;have ih:=ih (i+1) (by omega)
  have hb:=bit_get ⟨n,hn⟩ ⟨i,by omega⟩
  dsimp only at hb;have hset:(bls (zde n i)++List.replicate (j+1) [AV.bool false]).set i [.bool (decide (n / 2 ^ i % 2=1))]=bls (zde n (i+1))++List.replicate j [.bool false]:=by
   have hl:(bls (zde n i)).length=i:=by rw[z8l,zhi]
   rw[List.set_append_right _ _ (by omega),hl,Nat.sub_self,List.replicate_succ,List.set_cons_zero,ycc]
   simp[bls]
  have hil:i<(bls (zde n i)++List.replicate (j+1) [AV.bool false]).length:=by simp[z8l,zhi]
  have hgi:(bls (zde n i)++List.replicate (j+1) [AV.bool false])[i]?=some [.bool false]:=by
   have hl:(bls (zde n i)).length=i:=by rw[z8l,zhi]
   rw[List.getElem?_append_right (by omega),hl,Nat.sub_self,List.replicate_succ];rfl
  rw[<- ih];simp only[Int.natCast_add,Int.natCast_one]
  conv=>lhs;rw[zg5,zab]
  generalize hes:bls (zde n i)++List.replicate (j+1) [AV.bool false]=es at hset hil hgi;simp only[↓reduceIte,go_sem,show (i:Int)<(p:Int) by omega,hil,hgi,zac (n:=i) (by omega)]
  refine (congrArg (fun b=>zg5 H (A++[.lst 0 1 (es.set i [.bool b])]) y (.fp [.int .i64 p]) (.int .u64 n) (.ol A.length 0) x7 (.int .u64 n) (.int .i64 p) (.int .i64 ((i:Int)+1))) hb).trans ?_
  rw[hset]
theorem ymb(p:Nat)(h5:p<=5):yik (yoe p) encZ (zoz p 0 (2 ^ p)):=by
 intro S E y m W WE stp hy s X r hr;have hpw:=pow5 p h5;have hsh:shI true .u64 1 (p:Int)=((2 ^ p:Nat):Int):=by
  match p,h5 with
  |0,_=>rfl
  |1,_=>rfl
  |2,_=>rfl
  |3,_=>rfl
  |4,_=>rfl
  |5,_=>rfl
 have hone:=hy.one;have hcell:y.cells=[y]:=by cases y <;> first|rfl|(simp[AV.one]at hone)
 unfold AV.cells at hcell;unfold AV.one at hone;have loop:∀(j n:Nat),n+j=2 ^ p->∀(a:S) (J:List AO),zm8 stp (zoz p n j) a=some r->zlr (W s++X) (W a++(X++J)) y (.fp [.int .i64 p]) (.int .u64 ((2 ^ p:Nat):Int)) (.int .u64 n)=some (.ret (.tup []),hp W WE r++X):=by
  intro j
  induction j with
  |zero=>
   intro n h a J hq;rw[zoz,zm8]at hq;cases hq;rw[zlr,zab];simp only[↓reduceIte,go_sem,show ¬ (n:Int)<((2 ^ p:Nat):Int) by omega]
   exact z0q hy s (.inl a) X J
  |succ j ih=>
   intro n h a J hq;rw[zoz,zm8]at hq;have lA:(W a).length=m:=hy.len (.inl a);have hin:=allZ_in p h5 n (by omega) (W s++X) (W a++(X++J)) y (.int .u64 ((2 ^ p:Nat):Int)) p 0 (by omega)
   rw[zlr,zab];have e0:bls (zde n 0)++List.replicate p [AV.bool false]=List.replicate p [.bool false]:=by simp[zde,bls]
   rw[e0]at hin;simp only[List.append_assoc,List.length_append,Int.natCast_zero]at hin;simp only[↓reduceIte,go_sem,show (n:Int)<((2 ^ p:Nat):Int) by omega,show (p:Int)<=1073741824 by omega,List.length_replicate,hin]
   rw[zg5,zab];have lX:∀o,(W a++(X++(J++[o])))[(W a).length+(X.length+J.length)]?=some o:=fun o=>by
    rw[List.getElem?_append_right (by omega),List.getElem?_append_right (by omega),List.getElem?_append_right (by omega)];simp
   have lS:∀o o',(W a++(X++(J++[o]))).set ((W a).length+(X.length+J.length)) o' = W a++(X++(J++[o'])):=fun o o'=>by
    rw[List.set_append_right _ _ (by omega),List.set_append_right _ _ (by omega),List.set_append_right _ _ (by omega)];simp
   cases hst:stp a (zde n p) with
   |none=>rw[hst]at hq;cases hq
   |some q=>
   rw[hst]at hq;have hc:=hy.call a (zde n p) (X++(J++[.dead])) q hst;simp only[encZ]at hc
   cases q with
   |inl b=>
    have ih:=ih (n+1) (by omega) b (J++[.dead]) hq
    simp only[zfu,Int.natCast_add,Int.natCast_one]at hc ih;have hwu:IntKind.wrap .u64 ((n:Int)+1)=(n:Int)+1:=by have:=z3e (n+1) (by omega);simpa using this
    simp only[↓reduceIte,go_sem,lX,lS,hc,isL,hwu,ih]
   |inr e=>
    cases hq;simp only[zry]at hc
    simp only[↓reduceIte,go_sem,lX,lS,hc,isL];exact z0q hy s (.inr e) X _
 simp only[yoe,zhh,List.cons_append,List.nil_append];show F zmq _ _=_;rw[z76];simp only[↓reduceIte,go_sem,hsh];have:=loop (2 ^ p) 0 (by omega) s [] hr
 simpa using this
end Go.Ab
end
section
set_option linter.unusedVariables false
set_option linter.unusedSimpArgs false
set_option maxRecDepth 100000
set_option maxHeartbeats 2000000
namespace Go.Ab
open Go.RowKit Go.Proofs
theorem ykz(n:Int)(h0:0<=n)(hn:n<=1073741824)(H:List AO):F zfs [.ze,.int .i64 n] H=if n=0 then some (.ret .ze,H) else some (.ret (.ol H.length 1),H++[.lst 1 2 []]):=by
 rw[zti];by_cases h:n=0
 ·subst h
  have e1:IntKind.wrap .i64 0=0:=zam (by omega) (by omega)
  simp only[↓reduceIte,go_sem,Int.sub_self,e1]
 ·simp only[↓reduceIte,go_sem,h,show ¬ n<0 by omega,show 0<n by omega,Int.sub_self,Int.sub_zero,zam (n:=0) (by omega) (by omega),zam (n:=n) (by omega) (by omega),hn]
inductive AccA (H:List AO):AV->List At->List AO->Prop
 |ze:AccA H .ze [] H
 |ol (ver:Nat) (es:List At):AccA H (.ol H.length ver) es (H++[.lst ver 2 (At.css es)])
def slA(xs:List (List At)):List (List AV):=xs.map fun x=>[.sl (At.css x)]
@[go_sem] theorem slA_len(xs:List (List At)):(slA xs).length=xs.length:=by simp[slA]
@[go_sem] theorem slA_get(xs:List (List At))(i:Nat):(slA xs)[i]?=xs[i]?.map fun x=>[.sl (At.css x)]:=by simp[slA]
@[go_sem] theorem atcss_all2(ks:List At):(∀e∈At.css ks,e.length=2)=True:=by
 refine eq_true fun e he=>?_
 obtain⟨x,_,rfl⟩:=List.mem_map.1 he;rfl
theorem zqx:At.css []=[]:=rfl
theorem zm5(x:At)(l:List At):At.css (x::l)=x.cs::At.css l:=rfl
theorem yhv(a b:List At):At.css (a++b)=At.css a++At.css b:=by simp[At.css]
theorem yb8(xs:List (List At))(hlen:xs.length<=1000)(ht:xs.flatten.length<=1073741824)(H:List AO):
  F zep [.sl (slA xs)] H=some (.ret (.sl (At.css xs.flatten)),H):=by
 have loop1:∀(suf pre:List (List At)) {v:AV} {es:List At} {H1:List AO},xs=pre++suf->AccA (H++[.lst 0 2 []]) v es H1->es.length+suf.flatten.length<=1073741824 ->
   zeh H H1 v (.sl (slA xs)) (.int .i64 xs.length) (.int .i64 pre.length)=some (.ret (.sl (At.css (es++suf.flatten))),H):=by
  intro suf
  induction suf with
  |nil=>
   intro pre v es H1 e ha hb;subst e;rw[zeh,zab]
   cases ha with
   |ze=>simp only[↓reduceIte,go_sem,List.flatten_nil,zqx,zm5]
   |ol ver=>simp only[↓reduceIte,go_sem,List.flatten_nil]
  |cons x suf ih=>
   intro pre v es H1 e ha hb;subst e;simp at hlen;rw[List.flatten_cons,List.length_append]at hb;rw[zeh,zab]
   cases ha with
   |ze=>
    cases x with
    |nil=>
     have:=ih (pre++[[]]) (by simp) (AccA.ze (H:=H++[.lst 0 2 []])) (by simpa using hb)
     simp only[zag]at this;simp only[↓reduceIte,go_sem,zqx,zm5,zac (n:=pre.length) (by omega),this,List.flatten_cons]
    |cons y ys=>
     have:=ih (pre++[y::ys]) (by simp) (AccA.ol (H:=H++[.lst 0 2 []]) 0 (y::ys)) (by simpa using hb)
     simp only[zag]at this;simp only[↓reduceIte,go_sem,zqx,zm5]at this;simp at hb;simp only[↓reduceIte,go_sem,zqx,zm5,zac (n:=pre.length) (by omega),show ys.length<1073741824 by omega,this,List.flatten_cons]
   |ol ver=>
    have:=ih (pre++[x]) (by simp) (AccA.ol (H:=H++[.lst 0 2 []]) (ver+1) (es++x)) (by simp at hb ⊢;omega)
    simp only[zag]at this;simp only[↓reduceIte,go_sem]at this;simp only[↓reduceIte,go_sem,zac (n:=pre.length) (by omega),show es.length+x.length<=1073741824 by omega,<- yhv,this,List.flatten_cons,List.append_assoc]
 have loop0:∀(suf pre:List (List At)),xs=pre++suf ->
   zei H (H++[.lst 0 2 []]) (.sl (slA xs)) (.int .i64 pre.flatten.length) (.sl (slA xs)) (.int .i64 xs.length) (.int .i64 pre.length)=some (.ret (.sl (At.css xs.flatten)),H):=by
  intro suf
  induction suf with
  |nil=>
   intro pre e;subst e;simp only[List.append_nil]at *;have hg:=ykz pre.flatten.length (by omega) (by omega) (H++[.lst 0 2 []])
   rw[zei,zab];by_cases h0:pre.flatten.length=0
   ·have h1:=loop1 pre [] rfl (AccA.ze (H:=H++[.lst 0 2 []])) (by simpa using ht)
    simp only[List.length_nil,Int.natCast_zero,List.nil_append]at h1;rw[if_pos (by omega)]at hg
    simp only[↓reduceIte,go_sem,hg,h1]
   ·have h1:=loop1 pre [] rfl (AccA.ol (H:=H++[.lst 0 2 []]) 1 []) (by simpa using ht)
    simp only[List.length_nil,Int.natCast_zero,List.nil_append]at h1;rw[if_neg (by omega)]at hg
    simp only[↓reduceIte,go_sem,zqx,zm5]at hg h1;simp only[↓reduceIte,go_sem,hg,h1]
  |cons x suf ih=>
   intro pre e;subst e;simp at hlen;have:=ih (pre++[x]) (by simp)
   have hl:((pre++[x]).flatten.length:Int)=(pre.flatten.length:Int)+(x.length:Int):=by simp
   rw[hl]at this;simp only[zag]at this;simp only[List.flatten_append,List.flatten_cons,List.length_append]at ht;rw[zei,zab];simp only[↓reduceIte,go_sem,zac (n:=pre.length) (by omega),zam (n:=(pre.flatten.length:Int)+(x.length:Int)) (by omega) (by omega),show ¬ (pre.flatten.length:Int)+(x.length:Int)<0 by omega]
   rw[this]
 have h0:=loop0 xs [] rfl;simp only[List.length_nil,Int.natCast_zero,List.flatten_nil]at h0;rw[zrp];simp only[↓reduceIte,go_sem,h0]
@[go_sem] theorem atcs_over2(a b:At):over a.cs 0 b.cs=b.cs:=rfl
theorem ybh(g:At->Int)(f:AV)(H:List AO)(l:List At)(hlen:l.length<=1000)(hf:∀x∈l,∀y∈l,cfl T f [.agg x.cs,.agg y.cs] H=some (.ret (.int .i64 (g x - g y)),H))(hne:l≠[]):
  ∃a∈l,g a=z32 (l.map g)/\F zec [.sl (At.css l),f] H=some (.ret (.agg a.cs),H):=by
 have loop:∀(s p:List At) (b:At),l=p++s->p≠[]->b∈l->g b=z32 (p.map g)->∃a∈l,g a=z32 (l.map g)/\zc1 H H (.sl (At.css l)) f (.int .i64 p.length) [.int .i64 0,.int .i64 0] b.cs=some (.ret (.agg a.cs),H):=by
  intro s
  induction s with
  |nil=>
   intro p b h hp hb hg;rw[List.append_nil]at h;subst h;refine⟨b,hb,hg,?_⟩;rw[zc1,zab];simp only[↓reduceIte,go_sem]
  |cons x s ih=>
   intro p b h hp hb hg;have hx:x∈l:=by rw[h];simp
   have hga:l[p.length]?=some x:=by rw[h];simp
   have hpl:p.length<l.length:=by rw[h];simp
   have hc:=hf x hx b hb;have hms:=zw7 (g x) (p.map g) (by simpa using hp)
   by_cases hlt:g x - g b<0
   ·obtain⟨a,h1,h2,h3⟩:=ih (p++[x]) x (by rw[h];simp) (by simp) hx (by rw[List.map_append,List.map_cons,List.map_nil,hms];omega)
    refine⟨a,h1,h2,?_⟩;simp only[zag]at h3;rw[zc1,zab];simp only[↓reduceIte,go_sem,show (p.length:Int)<(l.length:Int) by omega,hga,hc,hlt,zac (n:=p.length) (by omega),h3]
   ·obtain⟨a,h1,h2,h3⟩:=ih (p++[x]) b (by rw[h];simp) (by simp) hb (by rw[List.map_append,List.map_cons,List.map_nil,hms];omega)
    refine⟨a,h1,h2,?_⟩;simp only[zag]at h3;rw[zc1,zab];simp only[↓reduceIte,go_sem,show (p.length:Int)<(l.length:Int) by omega,hga,hc,hlt,zac (n:=p.length) (by omega),h3]
 cases l with
 |nil=>exact absurd rfl hne
 |cons x l=>
  obtain⟨a,h1,h2,h3⟩:=loop l [x] x rfl (by simp) (by simp) rfl
  refine⟨a,h1,h2,?_⟩;have h0:(x::l)[0]?=some x:=rfl;rw[zqm];simp only[↓reduceIte,go_sem,h0,List.length_cons,show ¬ ((l.length+1:Nat):Int)<1 by omega]
  exact h3
theorem yl1(m:List Int)(vars:Nat)(hm:okM vars m)(h16:vars=16)(H:List AO)(id b ver:Nat)(hH:H[id]?=some (.lst ver 1 (zav m)))(hb:H[b]?=some (.box [.ov id ver 1 0 16]))(x y:At)(hx:0<=x.v/\x.v<16/\0<=x.o/\x.o<=1000)(hy:0<=y.v/\y.v<16/\0<=y.o/\y.o<=1000):
  F zj0 [.agg x.cs,.agg y.cs,.ptr b 0] H=some (.ret (.int .i64 ((gI m x.v - x.o) - (gI m y.v - y.o))),H):=by
 have hgx:=hm.get hx.1 (by omega)
 have hgy:=hm.get hy.1 (by omega)
 have hm':=hm.1;rw[z2l];simp only[↓reduceIte,go_sem,hH,hb,hm',h16,hx.1,hy.1,hgx.1,hgy.1,show x.v.toNat<16 by omega,show y.v.toNat<16 by omega,Nat.zero_add,zam (n:=gI m x.v - x.o) (by omega) (by omega),zam (n:=gI m y.v - y.o) (by omega) (by omega),zam (n:=(gI m x.v - x.o) - (gI m y.v - y.o)) (by omega) (by omega)]
theorem ymw(c:Cl)(m:List Int)(vars:Nat)(hm:okM vars m)(h16:vars=16)(hc:c.ok vars)(H:List AO)(id ver:Nat)(hH:H[id]?=some (.lst ver 1 (zav m))):F zqf [.agg c.cs,.ov id ver 1 0 16] H=some (.ret (.int .i64 (zvb c m)),H):=by
 have hid:=(List.getElem?_eq_some_iff.1 hH).1;have hH':(H++[.box [.ov id ver 1 0 16]])[id]?=some (.lst ver 1 (zav m)):=by rw[List.getElem?_append_left hid,hH]
 obtain⟨a,h1,h2,h3⟩:=ybh (fun a=>gI m a.v - a.o) (.fn (.func zj0) [] [.ptr H.length 0]) (H++[.box [.ov id ver 1 0 16]]) c.f (by have:=hc.len;omega) (fun x hx y hy=>by
  simp only[zhh,List.cons_append,List.nil_append];exact yl1 m vars hm h16 _ id H.length ver hH' (by simp) x y (by have:=hc.at_ x hx;omega) (by have:=hc.at_ y hy;omega)) (by have:=hc.ne;intro h;rw[h]at this;simp at this)
 have ha:=hc.at_ a h1;have hga:=hm.get ha.1 ha.2.1;have hb:=yhx hm hc;have ht:=hc.to;have hm':=hm.1;rw[zvb,<- h2]at hb ⊢;rw[z8a];simp only[↓reduceIte,go_sem,h3,hH',hm',h16,ha.1,hga.1,show a.v.toNat<16 by omega,Nat.zero_add,zam (n:=gI m a.v - a.o) (by omega) (by omega),zam (n:=gI m a.v - a.o+c.t.o) (by omega) (by omega)]
def ztt(l:List Cl):AV:=.fn (.func zia) [] [.fp [.sl (Cl.css l)]]
theorem z2v(l:List Cl)(H:List AO):F zl4 [.sl (Cl.css l)] H=some (.ret (ztt l),H):=by
 rw[z5j];simp only[↓reduceIte,go_sem,ztt]
abbrev ylk(p:Nat×At):List AV:=[.int .i64 p.1,.agg p.2.cs]
def zr2:List Cl->Nat->List (Nat×At)
 |[],_=>[]
 |c::r,i=>((c.f++[c.t]).map fun a=>(i,a))++zr2 r (i+1)
theorem z54(l:List Cl)(hl:l.length<=1000)(hf:∀c∈l,c.f.length<=1000):yik (ztt l) ylk (zr2 l 0):=by
 intro S E y m W WE stp hy s X r hr;have hone:=hy.one;have hcell:y.cells=[y]:=by cases y <;> first|rfl|(simp[AV.one]at hone)
 unfold AV.cells at hcell;unfold AV.one at hone;have fin:=fun r=>z0q hy s r X []
 simp only[List.append_nil]at fin;have loop0:∀(i:Nat) (L:List At) (rest:List (Nat×At)),i<1000->L.length<=1001 ->
   (∀a:S,zm8 stp rest a=some r->zfz (W s++X) (W a++X) y (.sl (Cl.css l)) (.int .i64 l.length) (.int .i64 (i+1))=some (.ret (.tup []),hp W WE r++X)) ->
   ∀(t p:List At),L=p++t->∀(a:S),zm8 stp (t.map (fun a=>(i,a))++rest) a=some r->zhu (W s++X) (W a++X) y (.int .i64 i) (.sl (Cl.css l)) (.int .i64 l.length) (.int .i64 i) (.sl (At.css L)) (.int .i64 L.length) (.int .i64 p.length)=some (.ret (.tup []),hp W WE r++X):=by
  intro i L rest hi hL hrest t
  induction t with
  |nil=>
   intro p h a hq;rw[List.append_nil]at h;subst h;have h1:=hrest a (by simpa using hq)
   rw[zhu,zab];simp only[↓reduceIte,go_sem,zac (n:=i) (by omega),h1]
  |cons x t ih=>
   intro p h a hq;have hga:L[p.length]?=some x:=by rw[h];simp
   have hpl:p.length<L.length:=by rw[h];simp
   rw[List.map_cons,List.cons_append,zm8]at hq
   cases hst:stp a (i,x) with
   |none=>rw[hst]at hq;cases hq
   |some q=>
   rw[hst]at hq;have hc:=hy.call a (i,x) X q hst;simp only[ylk]at hc;rw[zhu,zab]
   cases q with
   |inl b=>
    have ih:=ih (p++[x]) (by rw[h];simp) b hq
    simp only[zfu,zag]at hc ih;simp only[↓reduceIte,go_sem,show (p.length:Int)<(L.length:Int) by omega,hga,hc,isL,zac (n:=p.length) (by omega),ih]
   |inr e=>
    cases hq;simp only[zry]at hc
    simp only[↓reduceIte,go_sem,show (p.length:Int)<(L.length:Int) by omega,hga,hc,isL]
    exact fin (.inr e)
 have loop1:∀(t p:List Cl),l=p++t->∀(a:S),zm8 stp (zr2 t p.length) a=some r->zfz (W s++X) (W a++X) y (.sl (Cl.css l)) (.int .i64 l.length) (.int .i64 p.length)=some (.ret (.tup []),hp W WE r++X):=by
  intro t
  induction t with
  |nil=>
   intro p h a hq;rw[List.append_nil]at h;subst h;rw[zr2,zm8]at hq;cases hq;rw[zfz,zab];simp only[↓reduceIte,go_sem];exact fin (.inl a)
  |cons c t ih=>
   intro p h a hq;have hga:l[p.length]?=some c:=by rw[h];simp
   have hpl:p.length<l.length:=by rw[h];simp
   have hcf:=hf c (by rw[h];simp)
   have hco:=fun H=>yb8 [c.f,[c.t]] (by simp) (by simp;omega) H
   have e:([c.f,[c.t]]:List (List At)).flatten=c.f++[c.t]:=by simp
   have e2:slA [c.f,[c.t]]=[[.sl (At.css c.f)],[.sl [c.t.cs]]]:=rfl;rw[e,e2]at hco;have h0:=loop0 p.length (c.f++[c.t]) (zr2 t (p.length+1)) (by omega) (by simp;omega) (fun b hb=>by
    have:=ih (p++[c]) (by rw[h];simp) b (by simpa using hb)
    simpa only[zag] using this) (c.f++[c.t]) [] rfl a (by rw[zr2]at hq;exact hq)
   simp only[List.length_nil,Int.natCast_zero]at h0;rw[zfz,zab];simp only[↓reduceIte,go_sem,show (p.length:Int)<(l.length:Int) by omega,hga,hco,h0]
 simp only[ztt,zhh,List.cons_append,List.nil_append];show F zia _ _=_;rw[zyx];simp only[↓reduceIte,go_sem];exact loop1 l [] rfl s hr
theorem yl9(xs:List Cl)(hlen:xs.length<=1000)(f:AV)(p:Cl->Bool)(H:List AO)(hf:∀e∈xs,cfl T f [.agg e.cs] H=some (.ret (.bool (p e)),H)):
  F zb5 [.sl (Cl.css xs),f] H=some (.ret (.bool (xs.any p)),H):=by
 have loop:∀(suf pre:List Cl),xs=pre++suf->∃r:Int,zbz H H (.sl (Cl.css xs)) f (.int .i64 xs.length) (.int .i64 pre.length)=some (.ret (.int .i64 r),H)/\decide (0<=r)=suf.any p:=by
  intro suf
  induction suf with
  |nil=>
   intro pre e;subst e;refine⟨-1,?_,rfl⟩;rw[zbz,zab];simp only[↓reduceIte,go_sem]
  |cons x suf ih=>
   intro pre e;subst e;obtain⟨r,h1,h2⟩:=ih (pre++[x]) (by simp)
   simp only[zag]at h1;have hfx:=hf x (by simp)
   simp at hlen
   cases hp:p x with
   |true=>
    refine⟨pre.length,?_,by simp[hp]⟩
    rw[zbz,zab];simp only[↓reduceIte,go_sem,hfx,hp]
   |false=>
    refine⟨r,?_,by simp[hp,h2]⟩
    rw[zbz,zab];simp only[↓reduceIte,go_sem,hfx,hp,zac (n:=pre.length) (by omega),h1]
 obtain⟨r,h1,h2⟩:=loop xs [] rfl;simp only[List.length_nil,Int.natCast_zero]at h1;have hi:F zcx [.sl (Cl.css xs),f] H=some (.ret (.int .i64 r),H):=by
  rw[zns];simp only[↓reduceIte,go_sem,h1]
 rw[zlj];simp only[↓reduceIte,go_sem,hi,<- h2]
def zuy(vars:Int)(b:Bool):List AO:=[.box [.int .i64 vars],.box [.bool b]]
def z3s(vars:Int)(_:Unit)(x:Nat×At):Option (Unit ⊕ Unit):=if atB vars x.2 then some (.inl ()) else some (.inr ())
theorem yju(H:List AO)(vars:Int):Ys (.yd (H.length+2+1)) (H.length+2+2) ylk (fun _=>H++(zuy vars false++[.dfr,.slp .ready 47 [(2,.ptr H.length 0),(4,.ptr (H.length+1) 0)] [26,27] zey zev])) (fun _=>H++(zuy vars false++[.dfr,.slp (.done .ret) 47 [(2,.ptr H.length 0),(4,.ptr (H.length+1) 0)] [26,27] zey zev])) (z3s vars):=by
 refine z6k H 2 ylk (fun _=>zuy vars false) (fun _=>zuy vars false) (fun _=>.ret) (z3s vars) 47 [(2,.ptr H.length 0),(4,.ptr (H.length+1) 0)] [26,27] zey zev zvm zvk (fun _=>rfl) ?_ ?_ ?_ ?_
 ·rintro (p|e) <;> rfl
 ·rintro s (p|e) i o ho <;> exact .inl ho
 ·intro p hp;simp at hp;rcases hp with rfl|rfl <;> exact .ptr (by omega)
 ·rintro ⟨⟩ ⟨i,a⟩ X r hst
  refine⟨[],?_⟩;unfold z3s at hst;rcases a with⟨v,o⟩;simp only at hst;have hA:atB vars ⟨v,o⟩=(decide (0<=v) && decide (v<vars) && decide (0<=o) && decide (o<=1000)):=rfl;by_cases h:atB vars ⟨v,o⟩=true
  ·rw[if_pos h]at hst
   cases hst;obtain⟨h1,h2,h3,h4⟩:=z8n.1 h
   simp only at h1 h2 h3 h4;simp only[↓reduceIte,go_sem,zuy,ylk,At.cs,z7e,isL,show ¬ v<0 by omega,show ¬ vars<=v by omega,show ¬ o<0 by omega,show ¬ 1000<o by omega]
  ·rw[if_neg h]at hst
   cases hst;have hn:¬ (0<=v/\v<vars/\0<=o/\o<=1000):=fun k=>h (z8n.2 k)
   simp only[↓reduceIte,go_sem,zuy,ylk,At.cs,z7e,isL];by_cases h1:v<0
   ·rw[if_neg (by simpa using h1)]
   by_cases h2:vars<=v
   ·rw[if_pos h1,if_neg (by simpa using h2)]
   by_cases h3:o<0
   ·rw[if_pos h1,if_pos h2,if_neg (by simpa using h3)]
   ·rw[if_pos h1,if_pos h2,if_pos h3,if_pos (by omega)]
theorem zza(vars:Int):∀xs:List (Nat×At),zm8 (z3s vars) xs ()=some (if (xs.all fun x=>atB vars x.2)=true then .inl () else .inr ())
 |[]=>rfl
 |x::xs=>by
  rw[zm8,List.all_cons];unfold z3s
  cases h:atB vars x.2
  ·rfl
  ·simp only[if_true,Bool.true_and]
   exact zza vars xs
theorem zz7(q:At->Bool):∀(l:List Cl) (i:Nat),((zr2 l i).all fun x=>q x.2)=l.all fun c=>c.f.all q && q c.t
 |[],i=>rfl
 |c::l,i=>by
  rw[zr2,List.all_append,zz7 q l,List.all_cons,List.all_map,List.all_append];simp[Function.comp_def]
def z7b(c:Cl):Bool:=decide (c.f.length<1) || decide (6<c.f.length)
theorem many_ok(c:Cl)(H:List AO):F zib [.agg c.cs] H=some (.ret (.bool (z7b c)),H):=by
 rw[zyy,z7b];simp only[↓reduceIte,go_sem];by_cases h:(c.f.length:Int)<1
 ·simp only[h,show c.f.length<1 by omega];simp
 ·simp only[h,show ¬ c.f.length<1 by omega]
  by_cases h2:6<c.f.length
  ·simp[show (6:Int)<c.f.length by omega,h2]
  ·simp[show ¬ (6:Int)<c.f.length by omega,h2]
theorem zyf(vars:Int)(l:List Cl)(hl:l.length<=1000)(hf:∀c∈l,c.f.length<=1000)(H:List AO):F zl5 [.int .i64 vars,.sl (Cl.css l)] H=some (.ret (.bool (ziw vars l)),H):=by
 have hM:=fun H=>yl9 l hl (.fn (.func zib) [] []) z7b H (fun c hc=>by
  simp only[zhh,List.cons_append,List.nil_append,yac];exact many_ok c H)
 have hr:=z54 l hl hf _ _ _ _ _ _ _ (yju H vars) () [] _ (zza vars _);rw[zz7]at hr;have he:=fun st=>zuz (H:=H) (DR:=zuy vars false) (k:=2) rfl (st:=st) (nn:=47) (t:=[(2,.ptr H.length 0),(4,.ptr (H.length+1) 0)]) (ps:=[26,27]) (asg:=zey) (body:=zev)
 rw[z5k,ziw];simp only[zuy,ztt,zhh,List.cons_append,List.nil_append,List.append_nil,Nat.add_assoc,Nat.reduceAdd]at hr he;by_cases c1:vars<1
 ·have e:(decide (1<=vars) && decide (vars<=16) && decide (l.length<=60) && l.all (clB vars))=false:=by rw[decide_eq_false (show ¬ 1<=vars by omega)];rfl
  rw[e];simp only[↓reduceIte,go_sem,c1]
 by_cases c2:16<vars
 ·have e:(decide (1<=vars) && decide (vars<=16) && decide (l.length<=60) && l.all (clB vars))=false:=by rw[decide_eq_false (show ¬ vars<=16 by omega)];simp
  rw[e];simp only[↓reduceIte,go_sem,c1,c2]
 by_cases c3:(60:Int)<l.length
 ·have e:(decide (1<=vars) && decide (vars<=16) && decide (l.length<=60) && l.all (clB vars))=false:=by rw[decide_eq_false (show ¬ l.length<=60 by omega)];simp
  rw[e];simp only[↓reduceIte,go_sem,c1,c2,c3]
 have e:(decide (1<=vars) && decide (vars<=16) && decide (l.length<=60) && l.all (clB vars))=l.all (clB vars):=by rw[decide_eq_true (show 1<=vars by omega),decide_eq_true (show vars<=16 by omega),decide_eq_true (show l.length<=60 by omega)];simp
 rw[e]
 cases c4:l.any z7b with
 |true=>
  have e2:l.all (clB vars)=false:=by
   obtain⟨c,hc,hm⟩:=List.any_eq_true.1 c4;rw[Bool.eq_false_iff];intro k;have:=List.all_eq_true.1 k c hc;simp only[clB,Bool.and_eq_true,decide_eq_true_eq]at this;simp only[z7b,Bool.or_eq_true,decide_eq_true_eq]at hm;omega
  rw[e2];simp only[↓reduceIte,go_sem,c1,c2,c3,hM,c4]
 |false=>
  have e2:l.all (clB vars)=l.all fun c=>c.f.all (atB vars) && atB vars c.t:=by
   apply Bool.eq_iff_iff.2;simp only[List.all_eq_true];have hm:∀c∈l,z7b c=false:=by simpa using c4
   constructor
   ·intro k c hc
    have:=k c hc;simp only[clB,Bool.and_eq_true,decide_eq_true_eq]at this ⊢;exact⟨this.1.2,this.2⟩
   ·intro k c hc
    have:=k c hc;have h2:=hm c hc;simp only[z7b,Bool.or_eq_false_iff,decide_eq_false_iff_not]at h2;simp only[clB,Bool.and_eq_true,decide_eq_true_eq]at this ⊢;exact⟨⟨⟨by omega,by omega⟩,this.1⟩,this.2⟩
  rw[e2]
  cases c5:l.all fun c=>c.f.all (atB vars) && atB vars c.t with
  |true=>
   rw[c5]at hr;simp only[if_true,zfu]at hr;simp only[↓reduceIte,go_sem,c1,c2,c3,hM,c4,z2v,ztt,hr,he,List.mem_cons,List.not_mem_nil,or_false,forall_eq,List.nodup_cons,List.nodup_nil,not_false_eq_true,and_self]
  |false=>
   rw[c5]at hr;simp only[Bool.false_eq_true,if_false,zry]at hr;simp only[↓reduceIte,go_sem,c1,c2,c3,hM,c4,z2v,ztt,hr,he,List.mem_cons,List.not_mem_nil,or_false,forall_eq,List.nodup_cons,List.nodup_nil,not_false_eq_true,and_self]
def z01(l:List Cl)(n:Int):List AO:=[.box [.sl (Cl.css l)],.box [.int .i64 n]]
def z7a(l:List Cl)(n:Int)(x:Nat×At):Option (Int ⊕ Empty):=match l[x.1]? with
 |some c=>if 0<=n/\n<=1000/\0<=c.t.o/\c.t.o<=1000/\0<=x.2.o/\x.2.o<=1000 then some (.inl (max n (c.t.o - x.2.o))) else none
 |none=>none
theorem most_ys(H:List AO)(l:List Cl):Ys (.yd (H.length+2+1)) (H.length+2+2) ylk (fun n=>H++(z01 l n++[.dfr,.slp .ready 28 [(3,.ptr H.length 0),(4,.ptr (H.length+1) 0)] [14,15] zfm zfk])) (fun e:Empty=>H++(noE e++[.dfr,.slp (.done (noE e)) 28 [(3,.ptr H.length 0),(4,.ptr (H.length+1) 0)] [14,15] zfm zfk])) (z7a l):=by
 refine z6k H 2 ylk (z01 l) noE noE (z7a l) 28 [(3,.ptr H.length 0),(4,.ptr (H.length+1) 0)] [14,15] zfm zfk zw3 zw1 (fun _=>rfl) ?_ ?_ ?_ ?_
 ·rintro (p|e)
  ·rfl
  ·exact e.elim
 ·rintro s (p|e) i o ho
  ·match i,ho with
   |0,ho=>simp[zfu,z01]at ho;subst ho;exact .inl (by simp[z01])
   |1,ho=>simp[zfu,z01]at ho;subst ho;exact .inr fun a ha=>by simp at ha;subst ha;exact .int _ _
   |j+2,ho=>simp[zfu,z01]at ho
  ·exact e.elim
 ·intro p hp;simp at hp;rcases hp with rfl|rfl <;> exact .ptr (by omega)
 ·rintro n ⟨i,a⟩ X r hst
  refine⟨[],?_⟩;unfold z7a at hst;simp only at hst
  cases hc:l[i]? with
  |none=>rw[hc]at hst;cases hst
  |some c=>
  rw[hc]at hst;simp only at hst
  split at hst
  ·rename_i hb
   cases hst;simp only[↓reduceIte,go_sem,z01,ylk,z7e,isL,hc,zam (n:=c.t.o - a.o) (by omega) (by omega),zsb]
  ·cases hst
theorem yeq(l:List Cl)(vars:Nat)(hl:∀c∈l,c.ok vars):∀(t p:List Cl),l=p++t->∀n,0<=n/\n<=1000->zm8 (z7a l) (zr2 t p.length) n=some (.inl (t.foldl (fun n c=>zg8 c n c.f) n)):=by
 have one:∀(i:Nat) (c:Cl),l[i]?=some c->c.ok vars->∀(L:List At),(∀a∈L,0<=a.o/\a.o<=1000)->∀n,0<=n/\n<=1000->zm8 (z7a l) (L.map fun a=>(i,a)) n=some (.inl (zg8 c n L)):=by
  intro i c hc ho L
  induction L with
  |nil=>intro _ n hn;rfl
  |cons a L ih=>
   intro hL n hn;have ha:=hL a (by simp)
   have ht:=ho.to;rw[List.map_cons,zm8];have e:z7a l n (i,a)=some (.inl (max n (c.t.o - a.o))):=by
    unfold z7a;simp only[hc];rw[if_pos (by omega)]
   rw[e];exact ih (fun b hb=>hL b (by simp[hb])) _ (by omega)
 intro t
 induction t with
 |nil=>intro p h n hn;rfl
 |cons c t ih=>
  intro p h n hn;have hc:l[p.length]?=some c:=by rw[h];simp
  have ho:=hl c (by rw[h];simp)
  have h1:=one p.length c hc ho (c.f++[c.t]) (fun a ha=>by
   rcases List.mem_append.1 ha with ha|ha
   ·have:=ho.at_ a ha;omega
   ·simp at ha;subst ha;have:=ho.to;omega) n hn
  have hb:=zs6 ho c.f (fun _ h=>h) hn
  have e:zg8 c n (c.f++[c.t])=zg8 c n c.f:=by
   unfold zg8 at hb ⊢;rw[List.foldl_append];simp only[List.foldl_cons,List.foldl_nil];omega
  rw[e]at h1;have h2:=ih (p++[c]) (by rw[h];simp) (zg8 c n c.f) hb
  rw[zeg]at h2;rw[zr2,z1f,h1];exact h2
theorem ycr(vars:Nat)(l:List Cl)(h:ziw vars l=true)(H:List AO):F zqe [.int .i64 vars,.sl (Cl.css l)] H=some (.ret (.tup [.int .i64 (zs8 l),.int .i64 0]),H):=by
 have hR:=zg1.1 h;have hr08:=fun H=>zyf vars l (by omega) (fun c hc=>by have:=(hR.2.2.2 c hc).len;omega) H
 have hr:=z54 l (by omega) (fun c hc=>by have:=(hR.2.2.2 c hc).len;omega) _ _ _ _ _ _ _ (most_ys H l) 0 [] _ (yeq l vars hR.2.2.2 l [] rfl 0 (by omega))
 rw[<- zs7]at hr;have he:=zuz (H:=H) (DR:=z01 l (zs8 l)) (k:=2) rfl (st:=.ready) (nn:=28) (t:=[(3,.ptr H.length 0),(4,.ptr (H.length+1) 0)]) (ps:=[14,15]) (asg:=zfm) (body:=zfk);simp only[zfu,z01,ztt,zhh,List.cons_append,List.nil_append,List.append_nil,Nat.add_assoc,Nat.reduceAdd]at hr he;rw[z79];simp only[↓reduceIte,go_sem,hr08,h,z2v,ztt,hr,he,List.mem_cons,List.not_mem_nil,or_false,forall_eq,List.nodup_cons,List.nodup_nil,not_false_eq_true,and_self];exact if_pos (.tup (by intro a ha;simp at ha;rcases ha with rfl|rfl <;> exact .int _ _))
theorem yew(vars:Nat)(l:List Cl)(h:ziw vars l=true)(H:List AO):F zmc [.int .i64 vars,.sl (Cl.css l)] H=some (.ret (.int .i64 (zh7 vars l)),H):=by
 have hr:=zg1.1 h;have hb:=zvz l hr.2.2.2 (n:=0) (by omega)
 rw[<- zs7]at hb;have h1:0<=((vars:Int) - 1)*zs8 l:=Int.mul_nonneg (by omega) hb.1
 have h2:((vars:Int) - 1)*zs8 l<=15*1000:=Int.mul_le_mul (by omega) hb.2 hb.1 (by omega)
 rw[z1r,zh7];simp only[↓reduceIte,go_sem,ycr vars l h,zam (n:=(vars:Int) - 1) (by omega) (by omega),zam (n:=((vars:Int) - 1)*zs8 l) (by omega) (by omega)]
end Go.Ab
end
section
set_option linter.unusedVariables false
set_option linter.unusedSimpArgs false
set_option maxRecDepth 100000
set_option maxHeartbeats 2000000
namespace Go.Ab
open Go.RowKit Go.Proofs
def zmt(m:List Int):List AV:=m.map fun n=>.int .i64 n
@[go_sem] theorem ziu(m:List Int):(zmt m).length=m.length:=by simp[zmt]
@[go_sem] theorem intA_one(m:List Int):(zmt m).all AV.one=true:=by simp[zmt,AV.one]
theorem z1b(m:List Int):(zmt m).map (fun a=>[a])=zav m:=by simp[zmt,zav]
theorem zxl(m:List Int):(zav m).flatten=zmt m:=by
 induction m with
 |nil=>rfl
 |cons x m ih=>simp only[zav,List.map_cons,List.flatten_cons,zmt]at ih ⊢;rw[ih];rfl
theorem z7h(n:Nat)(m:List Int):∀a∈zmt m,Lt n a:=by
 intro a ha;obtain⟨x,_,rfl⟩:=List.mem_map.1 ha;exact .int _ _
@[go_sem] theorem lt_intA(n:Nat)(m:List Int):(∀a∈zmt m,Lt n a)=True:=eq_true (z7h n m)
theorem z1e(n:Nat):∀(m:List Int) (h:List AO),zv5 n (zmt m) h=(zmt m,h)
 |[],h=>rfl
 |x::m,h=>by
  have ih:=z1e n m h;simp only[zmt,List.map_cons]at ih ⊢;rw[zv5];simp only[z7n];rw[ih]
theorem z0z{α:Type}:∀(m z p:List α),m.length<=z.length->over (p++z) p.length m=p++(m++z.drop m.length)
 |[],z,p,_=>by simp[over]
 |x::m,[],p,h=>by simp at h
 |x::m,y::z,p,h=>by
  have ih:=z0z m z (p++[x]) (by simpa using h)
  rw[over,List.set_append_right _ _ (Nat.le_refl _),Nat.sub_self,List.set_cons_zero];simp only[List.append_assoc,List.cons_append,List.nil_append,List.length_append,List.length_cons,List.length_nil,Nat.zero_add]at ih;rw[ih];simp
def zwh:List (List AV):=zav (List.replicate 16 0)
theorem z3b:[[AV.int .i64 0],[AV.int .i64 0],[AV.int .i64 0],[AV.int .i64 0],[AV.int .i64 0],[AV.int .i64 0],[AV.int .i64 0],[AV.int .i64 0],[AV.int .i64 0],[AV.int .i64 0],[AV.int .i64 0],[AV.int .i64 0],[AV.int .i64 0],[AV.int .i64 0],[AV.int .i64 0],[AV.int .i64 0]]=zwh:=rfl
def zhd(m:List Int):List Int:=m++List.replicate (16 - m.length) 0
theorem zpa(m:List Int)(h:m.length<=16):(zhd m).length=16:=by simp[zhd];omega
theorem over16(m:List Int)(hm:m.length<=16):over zwh 0 (List.take 16 (zav m))=zav (zhd m):=by
 have h:=z0z (zav m) zwh [] (by simp[zav,zwh];exact hm)
 rw[List.take_of_length_le (by simp[zav];exact hm)]
 simp only[List.nil_append,List.length_nil]at h;rw[h,show zwh=List.replicate 16 [AV.int .i64 0] from rfl,List.drop_replicate]
 simp[zav,zhd,List.map_append]
theorem of_ok(m:List Int)(hm:m.length<=16)(H:List AO):F zst [.sl (zav m)] H=some (.ret (.agg (zmt (zhd m))),H):=by
 have h1:(∀x:List AV,x∈zav m->x.length=1)=True:=eq_true (by intro x hx;obtain⟨z,_,rfl⟩:=List.mem_map.1 hx;rfl)
 have hp:=zpa m hm;have hz16:zwh.length=16:=rfl;have hi16:(zav (zhd m)).length=16:=by rw[zq9];exact hp
 rw[ybu];simp only[↓reduceIte,go_sem,h1,z3b,over16 m hm,hp,zxl,hz16,hi16,z1b,z1e]
theorem zs3{α:Type}(z m:List α)(h:m.length=z.length):over z 0 m=m:=by
 have:=z0z m z [] (by omega)
 simp only[List.nil_append,List.length_nil]at this;rw[this,h,List.drop_length,List.append_nil]
noncomputable def LRnd(H h:List AO)(id:Nat)(x7 x8 x9:AV)(v4:List AV):Option RH:=awL T [2,4,7,8,9] [4] zky (zap 0 (thn (aw T (A zml 6 .ret) (zah H [.c 16 true 4])) (zah H [.c 16 true 4]))) ⟨⟨28,[(2,.op id 0 1 0 0),(4,.lp 4 0),(7,.v x7),(8,.v x8),(9,.v x9)]⟩,[(4,v4)],h,[]⟩
theorem gRnd(H h:List AO)(id:Nat)(x7 x8 x9:AV)(v4:List AV):awL T [2,4,7,8,9] [4] zky (zap 0 (thn (aw T (A zml 6 .ret) (zah H [.c 16 true 4])) (zah H [.c 16 true 4]))) ⟨⟨28,[(2,.op id 0 1 0 0),(4,.lp 4 0),(7,.v x7),(8,.v x8),(9,.v x9)]⟩,[(4,v4)],h,[]⟩=LRnd H h id x7 x8 x9 v4:=rfl
theorem ya1(l:List Cl)(hl:∀c∈l,c.ok 16)(hb:l.length<=1000)(H:List AO)(v4:List AV)(h4:v4.length=16):∀(s p:List Cl),l=p++s->∀(B:Int) (m:List Int),bdM 16 B m->0<=B->B+1000*s.length<=1000000000 ->
  LRnd H (H++[.lst 0 1 (zav m)]) H.length (.sl (Cl.css l)) (.int .i64 l.length) (.int .i64 p.length) v4=some (.ret (.agg (zmt (za7 s m))),H):=by
 intro s
 induction s with
 |nil=>
  intro p h B m hm h0 hB;rw[List.append_nil]at h;subst h;rw[LRnd,zab];have hl16:=hm.1;have ho:over v4 0 (zmt m)=zmt m:=zs3 _ _ (by rw[ziu];omega)
  have hr:rd 16 true (zmt m)=some (.v (.agg (zmt m))):=zog (by rw[ziu];omega)
  have hfz:∀h,zv5 H.length (zmt m) h=(zmt m,h):=fun h=>z1e _ _ _
  simp only[↓reduceIte,go_sem,hl16,h4,zxl,za7,List.foldl_nil,ho,hr,hfz]
 |cons c s ih=>
  intro p h B m hm h0 hB;simp only[List.length_cons,Int.natCast_add,Int.natCast_one]at hB;have hc:=hl c (by rw[h];simp)
  have hga:l[p.length]?=some c:=by rw[h];simp
  have hp:p.length<l.length:=by rw[h];simp
  have hA:=ymw c m 16 (hm.ok (by omega)) rfl hc (H++[.lst 0 1 (zav m)]) H.length 0 (by simp)
  have hgm:=(hm.ok (by omega)).get hc.to.1 hc.to.2.1
  have hgl:=(hm.ok (by omega)).lt hc.to.1 hc.to.2.1
  have hl16:=hm.1;have ht2:c.t.v<16:=hc.to.2.1;have hset:(zav m).set c.t.v.toNat [.int .i64 (max (gI m c.t.v) (zvb c m))]=zav (zlf m c):=by simp[zav,List.map_set,zlf]
  have h1:=ih (p++[c]) (by rw[h];simp) (B+1000) (zlf m c) (hm.step hc h0) (by omega) (by omega)
  simp only[zag]at h1;have hround:za7 (c::s) m=za7 s (zlf m c):=rfl;rw[LRnd,zab,hround];simp only[↓reduceIte,go_sem,hga,hp,show (p.length:Int)<(l.length:Int) by omega,hA,hc.to.1,hgm.1,hgl,hl16,ht2,zac (n:=p.length) (by omega),zsb,hset,gRnd,h1]
theorem yjt(l:List Cl)(hl:∀c∈l,c.ok 16)(hb:l.length<=1000)(m:List Int)(B:Int)(hm:bdM 16 B m)(h0:0<=B)(hB:B+1000*l.length<=1000000000)(H:List AO):F zfa [.agg (zmt m),.sl (Cl.css l)] H=some (.ret (.agg (zmt (za7 l m))),H):=by
 have hl16:=hm.1;have h1:=fun v4 h4=>ya1 l hl hb H v4 h4 l [] rfl B m hm h0 hB
 simp only[List.length_nil,Int.natCast_zero]at h1;rw[zsd];simp only[↓reduceIte,go_sem,hl16,z1b,gRnd];exact h1 _ rfl
theorem z93:∀(a b:List Int),a.length=b.length->eqI (zmt a) (zmt b)=some (decide (a=b))
 |[],[],_=>rfl
 |[],_::_,h=>by simp at h
 |_::_,[],h=>by simp at h
 |x::a,y::b,h=>by
  have ih:=z93 a b (by simpa using h)
  simp only[zmt,List.map_cons]at ih ⊢;rw[eqI];by_cases e:x=y
  ·simp[e,ih]
  ·simp[e]
theorem yid(H:List AO)(id ver:Nat)(l:List Int)(hl:l.length=16)(hH:H[id]?=some (.lst ver 1 (zav l))):∀(s p:List Int) (n:Int),l=p++s->zc2 H H (.ov id ver 1 0 16) (.int .i64 n) (.int .i64 p.length)=some (.ret (.int .i64 (zpl s n)),H):=by
 intro s
 induction s with
 |nil=>
  intro p n h;rw[List.append_nil]at h;subst h;have htk:(List.take 16 (zav l)).length=16:=by simp[zav];omega
  rw[zc2,zab];simp only[↓reduceIte,go_sem,hH,hl,zpl,List.foldl_nil,htk,show ¬ (16:Int)<((16:Nat):Int) by omega]
 |cons x s ih=>
  intro p n h;have h1:=ih (p++[x]) (max n x) (by rw[h];simp)
  have hga:l[p.length]?=some x:=by rw[h];simp
  have hp:p.length<l.length:=by rw[h];simp
  have hmax:(if x > n then x else n)=max n x:=by split <;> omega
  simp only[zag]at h1;have htk:(List.take 16 (zav l)).length=16:=by simp[zav];omega
  rw[zc2,zab];simp only[↓reduceIte,go_sem,hH,hl,hga,hp,show (p.length:Int)<16 by omega,show p.length<16 by omega,Nat.zero_add,hmax,htk,show (p.length:Int)<((16:Nat):Int) by omega,zac (n:=p.length) (by omega),h1]
  simp only[zpl,List.foldl_cons]
theorem MaxV_ok(H:List AO)(id ver:Nat)(x:Int)(l:List Int)(hl:(x::l).length=16)(hH:H[id]?=some (.lst ver 1 (zav (x::l)))):F zew [.ov id ver 1 0 16] H=some (.ret (.int .i64 (zpl l x)),H):=by
 have h1:=yid H id ver (x::l) hl hH l [x] x rfl;rw[zpn];have h0:(x::l)[0]?=some x:=rfl;have htk:(List.take 16 (zav (x::l))).length=16:=by simp[zav]at hl ⊢;omega
 simp only[↓reduceIte,go_sem,hH,h0,hl,htk,show ¬ ((16:Nat):Int)<1 by omega]
 exact h1
theorem zv0(B:Int):∀(l:List Int) (n:Int),B<zpl l n ↔ B<n\/∃x∈l,B<x
 |[],n=>by simp[zpl]
 |y::l,n=>by
  have:=zv0 B l (max n y);simp only[zpl,List.foldl_cons]at this ⊢;rw[this];simp only[List.mem_cons,exists_eq_or_imp];rw[show B<max n y ↔ B<n\/B<y by omega,or_assoc]
theorem yeg(m:List Int)(v:Int)(h0:0<=v)(h1:v<m.length):gI (zhd m) v=gI m v:=by
 unfold gI zhd;simp only[List.getD];rw[List.getElem?_append_left (by omega)]
theorem pad_set(m:List Int)(i:Nat)(x:Int)(h:i<m.length):(zhd m).set i x=zhd (m.set i x):=by
 unfold zhd;rw[List.set_append_left _ _ h,List.length_set]
theorem yj8(m:List Int)(c:Cl)(vars:Nat)(hc:c.ok vars)(hm:m.length=vars):zvb c (zhd m)=zvb c m:=by
 unfold zvb
 congr 2
 apply List.map_congr_left;intro a ha;have:=hc.at_ a ha;rw[yeg m a.v this.1 (by omega)]
theorem yj7(m:List Int)(c:Cl)(vars:Nat)(hc:c.ok vars)(hm:m.length=vars):zlf (zhd m) c=zhd (zlf m c):=by
 have ht:=hc.to;unfold zlf;rw[yj8 m c vars hc hm,yeg m c.t.v ht.1 (by omega),pad_set m _ _ (by omega)]
theorem zs2(vars:Nat):∀(l:List Cl) (m:List Int),(∀c∈l,c.ok vars)->m.length=vars->za7 l (zhd m)=zhd (za7 l m)
 |[],m,_,_=>rfl
 |c::l,m,hl,hm=>by
  have:=zs2 vars l (zlf m c) (fun d hd=>hl d (by simp[hd])) (by rw[zss,hm])
  have e:=yj7 m c vars (hl c (by simp)) hm
  unfold za7 at this ⊢;rw[List.foldl_cons,List.foldl_cons,e,this]
theorem yef{a b:List Int}(h:a.length=b.length):zhd a=zhd b ↔ a=b:=by
 unfold zhd;rw[h];constructor
 ·intro e;exact List.append_cancel_right e
 ·rintro rfl;rfl
theorem pad_bd{vars:Nat}{B:Int}{m:List Int}(h:bdM vars B m)(hv:vars<=16)(hB:0<=B):bdM 16 B (zhd m):=by
 refine⟨zpa m (by rw[h.1];exact hv),fun x hx=>?_⟩
 unfold zhd at hx;rcases List.mem_append.1 hx with hx|hx
 ·exact h.2 x hx
 ·have:=(List.mem_replicate.1 hx).2;omega
theorem pad_max{m:List Int}{x:Int}{l:List Int}(e:zhd m=x::l)(B:Int)(hB:0<=B):B<zpl l x ↔ ∃y∈m,B<y:=by
 rw[zv0];have:(B<x\/∃y∈l,B<y) ↔ ∃y∈zhd m,B<y:=by rw[e];simp
 rw[this];unfold zhd;constructor
 ·rintro ⟨y,hy,h⟩
  rcases List.mem_append.1 hy with hy|hy
  ·exact⟨y,hy,h⟩
  ·have:=(List.mem_replicate.1 hy).2;omega
 ·rintro ⟨y,hy,h⟩
  exact⟨y,List.mem_append_left _ hy,h⟩
theorem ok16{vars:Nat}{c:Cl}(h:c.ok vars)(hv:vars<=16):c.ok 16 :=
 ⟨h.ne,h.len,fun a ha=>by have:=h.at_ a ha;omega,by have:=h.to;omega⟩
end Go.Ab
end
