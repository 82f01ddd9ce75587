/- What the law ConvMany of layer 17 comes to, part 23. Conditions: none. -/
import Derived.Test.YthebfdakjfnpeaaGreatZdau
section
set_option linter.unusedVariables false
set_option linter.unusedSimpArgs false
set_option maxRecDepth 100000
set_option maxHeartbeats 2000000
namespace Go.Ab
open Go.RowKit Go.Proofs
variable {α S E : Type}
def zl0(stp:S->α->Option (S ⊕ E)):List α->S->Option (S ⊕ E)
 |[],s=>some (.inl s)
 |x::r,s=>match stp s x with
  |some (.inl s')=>zl0 stp r s'
  |some (.inr e)=>some (.inr e)
  |none=>none
theorem zy2(stp:S->α->Option (S ⊕ E)):∀(a b:List α) (s:S),zl0 stp (a++b) s=match zl0 stp a s with
  |some (.inl s')=>zl0 stp b s'
  |some (.inr e)=>some (.inr e)
  |none=>none
 |[],b,s=>rfl
 |x::a,b,s=>by
  rw[List.cons_append,zl0,zl0]
  cases stp s x with
  |none=>rfl
  |some r=>cases r with
   |inl s'=>exact zy2 stp a b s'
   |inr e=>rfl
def hp(W:S->List AO)(WE:E->List AO):S ⊕ E->List AO
 |.inl s=>W s
 |.inr e=>WE e
@[go_sem] theorem ze3(W:S->List AO)(WE:E->List AO)(s:S):hp W WE (.inl s)=W s:=rfl
@[go_sem] theorem zqf(W:S->List AO)(WE:E->List AO)(e:E):hp W WE (.inr e)=WE e:=rfl
def isL:S ⊕ E->Bool
 |.inl _=>true
 |.inr _=>false
structure Ys (y:AV) (n:Nat) (enc:α->List AV) (W:S->List AO) (WE:E->List AO) (stp:S->α->Option (S ⊕ E)):Prop where
 one:y.one=true
 lt:Lt n y
 len:∀r,(hp W WE r).length=n
 fr:∀s r (id:Nat) (o:AO),(hp W WE r)[id]?=some o->(W s)[id]?=some o\/LtO n o
 call:∀s x X r,stp s x=some r->cfl T y (enc x) (W s++X)=some (.ret (.bool (isL r)),hp W WE r++X)
def yfd(fv:AV)(enc:α->List AV)(xs:List α):Prop :=
 ∀(S E:Type) (y:AV) (n:Nat) (W:S->List AO) (WE:E->List AO) (stp:S->α->Option (S ⊕ E)),Ys y n enc W WE stp->∀s X r,zl0 stp xs s=some r->cfl T fv [y] (W s++X)=some (.ret (.tup []),hp W WE r++X)
theorem Lt.mono{n m:Nat}(hm:n<=m){a:AV}(h:Lt n a):Lt m a:=by
 induction h with
 |bool b=>exact .bool b
 |int k x=>exact .int k x
 |str s=>exact .str s
 |nilp=>exact .nilp
 |ptr h=>exact .ptr (by omega)
 |nils z=>exact .nils z
 |sl h ih=>exact .sl ih
 |ol h=>exact .ol (by omega)
 |nilm=>exact .nilm
 |fmap hk hv ihk ihv=>exact .fmap ihk ihv
 |mp h=>exact .mp (by omega)
 |fn ha hb iha ihb=>exact .fn iha ihb
 |nilf=>exact .nilf
 |agg h ih=>exact .agg ih
 |tup h ih=>exact .tup ih
 |iface h ih=>exact .iface ih
 |nili=>exact .nili
 |fp h ih=>exact .fp ih
 |yd h=>exact .yd (by omega)
 |ze=>exact .ze
 |ov h=>exact .ov (by omega)
 |fk k=>exact .fk k
 |junk=>exact .junk
theorem LtO.mono{n m:Nat}(hm:n<=m){o:AO}(h:LtO n o):LtO m o:=by
 cases o with
 |dead=>trivial
 |box cs=>exact fun a ha=>(h a ha).mono hm
 |lst v s es=>exact fun a ha=>(h a ha).mono hm
 |mapo es=>exact⟨fun p hp=>(h.1 p hp).mono hm,fun p hp=>(h.2 p hp).mono hm⟩
 |dfr=>trivial
 |slp st k t ps x y=>exact fun p hp=>(h p hp).mono hm
theorem zy6{H A X J:List AO}{r:Res}(hlen:A.length=H.length)(hfr:∀(id:Nat) (o:AO),A[id]?=some o->H[id]?=some o\/LtO H.length o)(hr:LtR (H++X).length r):ze4 (H++X) r (A++X++J)=some (r,A++X):=by
 unfold ze4;have e:(A++X++J).take (H++X).length=A++X:=List.take_left' (by simp[hlen])
 have hc:∀(id:Nat) (o:AO),(A++X++J)[id]?=some o->id<(H++X).length->(H++X)[id]?=some o\/LtO (H++X).length o:=by
  intro id o ho hi;have hi2:id<(A++X).length:=by rw[List.length_append]at hi ⊢;omega
  rw[List.getElem?_append_left hi2]at ho;by_cases h1:id<A.length
  ·rw[List.getElem?_append_left h1]at ho
   rcases hfr id o ho with k|k
   ·exact .inl (by rw[List.getElem?_append_left (by omega)];exact k)
   ·exact .inr (k.mono (by simp))
  ·rw[List.getElem?_append_right (by omega)]at ho
   exact .inl (by rw[List.getElem?_append_right (by omega),<- hlen];exact ho)
 rw[if_pos ⟨hr,hc⟩,e]
@[go_sem] theorem lt_fp{n:Nat}{l:List AV}:Lt n (.fp l)=∀a∈l,Lt n a:=propext ⟨fun h=>by cases h;assumption,.fp⟩
def z4t(JE:E->Jmp):S ⊕ E->LSt
 |.inl _=>.ready
 |.inr e=>.done (JE e)
theorem yfv{H D D' X J:List AO}{nn:Nat}{t:List (Nat×AV)}{ps:List Nat}{asg body:FC}{st:LSt}{b:Bool}(hl:D'.length=D.length)
  (hfr:∀(i:Nat) (o:AO),D'[i]?=some o->D[i]?=some o\/LtO (H.length+D.length+2) o) (ht:∀p∈t,Lt (H.length+D.length+2) p.2) :
  zsa (H++(D++(.dfr :: .slp .ready nn t ps asg body::X))) (H.length+D.length+1) st b (H++(D' ++ (.dfr :: .slp .busy nn t ps asg body::(X++J))))=some (.ret (.bool b),H++(D' ++ (.dfr :: .slp st nn t ps asg body::X))):=by
 have hg:(H++(D' ++ (.dfr :: .slp .busy nn t ps asg body::(X++J))))[H.length+D.length+1]?=some (.slp .busy nn t ps asg body):=by
  rw[List.getElem?_append_right (by omega),List.getElem?_append_right (by omega),show H.length+D.length+1 - H.length - D'.length=1 by omega];rfl
 rw[z57 hg];have hs:(H++(D' ++ (.dfr :: .slp .busy nn t ps asg body::(X++J)))).set (H.length+D.length+1) (.slp st nn t ps asg body)=(H++(D' ++ (.dfr :: .slp st nn t ps asg body::X)))++J:=by
  rw[List.set_append_right _ _ (by omega),List.set_append_right _ _ (by omega),show H.length+D.length+1 - H.length - D'.length=1 by omega];simp
 rw[hs];unfold ze4;have hlen:(H++(D++(.dfr :: .slp .ready nn t ps asg body::X))).length=(H++(D' ++ (.dfr :: .slp st nn t ps asg body::X))).length:=by simp[hl]
 have hle:H.length+D.length+2<=(H++(D++(AO.dfr :: .slp .ready nn t ps asg body::X))).length:=by simp;omega
 rw[List.take_left' hlen.symm,if_pos];refine⟨.bool _,fun id o ho hi=>?_⟩
 rw[hlen]at hi;rw[List.getElem?_append_left hi]at ho;by_cases h1:id<H.length
 ·rw[List.getElem?_append_left h1]at ho ⊢;exact .inl ho
 rw[List.getElem?_append_right (by omega)]at ho ⊢
 by_cases h2:id - H.length<D.length
 ·rw[List.getElem?_append_left (by omega)]at ho ⊢
  rcases hfr _ _ ho with k|k
  ·exact .inl k
  ·exact .inr (k.mono hle)
 rw[List.getElem?_append_right (by omega),hl]at ho
 rw[List.getElem?_append_right (by omega)]
 match hj:id - H.length - D.length,ho with
 |0,ho=>exact .inl ho
 |1,ho=>simp at ho;subst ho;exact .inr fun p hp=>(ht p hp).mono hle
 |j+2,ho=>exact .inl ho
theorem z30(H:List AO)(k:Nat)(enc:α->List AV)(D:S->List AO)(DE:E->List AO)(JE:E->Jmp)(stp:S->α->Option (S ⊕ E))(nn:Nat)(t:List (Nat×AV))(ps:List Nat)(asg body:FC)(ha:asg.okd=true)(hb:body.okd=true)(hps:∀x,(enc x).length=ps.length)
  (hk:∀r,(hp D DE r).length=k) (hfr:∀s r (i:Nat) (o:AO),(hp D DE r)[i]?=some o->(D s)[i]?=some o\/LtO (H.length+k+2) o) (ht:∀p∈t,Lt (H.length+k+2) p.2)
  (call:∀s x X r,stp s x=some r->∃J,aw T asg (yK T (H++(D s++(.dfr :: .slp .ready nn t ps asg body::X))) (H.length+k+1) body) ⟨setPs ps (enc x) ⟨nn,yfm t⟩,[],H++(D s++(.dfr :: .slp .ready nn t ps asg body::X)),[H.length+k+1]⟩ =
   zsa (H++(D s++(.dfr :: .slp .ready nn t ps asg body::X))) (H.length+k+1) (z4t JE r) (isL r) (H++(hp D DE r++(.dfr :: .slp .busy nn t ps asg body::(X++J))))) :
  Ys (.yd (H.length+k+1)) (H.length+k+2) enc (fun s=>H++(D s++[.dfr,.slp .ready nn t ps asg body])) (fun e=>H++(DE e++[.dfr,.slp (.done (JE e)) nn t ps asg body])) stp:=by
 have hhp:∀r:S ⊕ E,hp (fun s=>H++(D s++[AO.dfr,.slp .ready nn t ps asg body])) (fun e=>H++(DE e++[.dfr,.slp (.done (JE e)) nn t ps asg body])) r=H++(hp D DE r++[.dfr,.slp (z4t JE r) nn t ps asg body]):=fun r=>by cases r <;> rfl
 have hkD:∀s,(D s).length=k:=fun s=>hk (.inl s)
 refine⟨rfl,.yd (by omega),fun r=>?_,fun s r id o ho=>?_,fun s x X r hst=>?_⟩
 ·rw[hhp];have:=hk r;simp;omega
 ·rw[hhp]at ho
  by_cases h1:id<H.length
  ·rw[List.getElem?_append_left h1]at ho ⊢;exact .inl ho
  rw[List.getElem?_append_right (by omega)]at ho ⊢
  by_cases h2:id - H.length<k
  ·rw[List.getElem?_append_left (by rw[hk];omega)]at ho
   rw[List.getElem?_append_left (by rw[hkD];omega)]
   exact hfr s r _ _ ho
  rw[List.getElem?_append_right (by rw[hk];omega),hk]at ho
  rw[List.getElem?_append_right (by rw[hkD];omega),hkD]
  match hj:id - H.length - k,ho with
  |0,ho=>exact .inl ho
  |1,ho=>simp at ho;subst ho;exact .inr ht
  |j+2,ho=>simp at ho
 ·obtain⟨J,e⟩:=call s x X r hst
  rw[hhp];have hg:(H++(D s++(AO.dfr :: .slp .ready nn t ps asg body::X)))[H.length+k+1]?=some (.slp .ready nn t ps asg body):=by
   rw[List.getElem?_append_right (by omega),List.getElem?_append_right (by rw[hkD];omega),hkD,show H.length+k+1 - H.length - k=1 by omega];rfl
  simp only[List.append_assoc,List.cons_append,List.nil_append];rw[ykh hg (hps x) ha hb,e];have:=yfv (H:=H) (D:=D s) (D':=hp D DE r) (X:=X) (J:=J) (nn:=nn) (t:=t) (ps:=ps) (asg:=asg) (body:=body) (st:=z4t JE r) (b:=isL r) (by rw[hk,hkD]) (fun i o h=>by rw[hkD];exact hfr s r i o h) (by rw[hkD];exact ht)
  rw[hkD]at this;exact this
theorem zs9{H DR:List AO}{k:Nat}(hk:DR.length=k){st:LSt}{nn:Nat}{t:List (Nat×AV)}{ps:List Nat}{asg body:FC}:
  (H++(DR++[AO.dfr,.slp st nn t ps asg body]))[H.length+k+1]?=some (.slp st nn t ps asg body)/\(H++(DR++[AO.dfr,.slp st nn t ps asg body])).set (H.length+k+1) .dead=H++(DR++[.dfr,.dead]):=by
 constructor
 ·rw[List.getElem?_append_right (by omega),List.getElem?_append_right (by omega),show H.length+k+1 - H.length - DR.length=1 by omega];rfl
 ·rw[List.set_append_right _ _ (by omega),List.set_append_right _ _ (by omega),show H.length+k+1 - H.length - DR.length=1 by omega];rfl
end Go.Ab
end
section
set_option linter.unusedVariables false
set_option linter.unusedSimpArgs false
set_option maxRecDepth 100000
set_option maxHeartbeats 2000000
namespace Go.Ab
open Go.RowKit Go.Proofs
theorem yhr{A A' W Z:List AO}{o o':AO}{r:Res}(hlen:A'.length=A.length)(hfr:∀(id:Nat) (x:AO),A'[id]?=some x->A[id]?=some x\/LtO A.length x)(ho:LtO (A++(W++o::Z)).length o')(hr:LtR (A++(W++o::Z)).length r):
  ze4 (A++(W++o::Z)) r (A' ++ (W++o' :: Z))=some (r,A' ++ (W++o' :: Z)):=by
 unfold ze4;have e:(A' ++ (W++o' :: Z)).take (A++(W++o::Z)).length=A' ++ (W++o' :: Z):=List.take_of_length_le (by simp[hlen])
 have hc:∀(id:Nat) (x:AO),(A' ++ (W++o' :: Z))[id]?=some x->id<(A++(W++o::Z)).length->(A++(W++o::Z))[id]?=some x\/LtO (A++(W++o::Z)).length x:=by
  intro id x hx hi;by_cases h1:id<A'.length
  ·rw[List.getElem?_append_left h1]at hx
   rcases hfr id x hx with k|k
   ·exact .inl (by rw[List.getElem?_append_left (by omega)];exact k)
   ·exact .inr (k.mono (by simp))
  ·rw[List.getElem?_append_right (by omega)]at hx
   rw[List.getElem?_append_right (by omega),<- hlen]
   by_cases h2:id - A'.length<W.length
   ·rw[List.getElem?_append_left h2]at hx ⊢;exact .inl hx
   ·rw[List.getElem?_append_right (by omega)]at hx ⊢
    cases h3:id - A'.length - W.length with
    |zero=>rw[h3]at hx;simp at hx;subst hx;exact .inr ho
    |succ j=>rw[h3]at hx;simp at hx ⊢;exact .inl hx
 rw[if_pos ⟨hr,hc⟩,e]
theorem ybq{A W Z:List AO}{o:AO}:(A++(W++o::Z))[A.length+W.length]?=some o:=by
 rw[List.getElem?_append_right (by omega),List.getElem?_append_right (by omega)];simp
theorem ybp{A W Z:List AO}{o p:AO}:(A++(W++o::Z)).set (A.length+W.length) p=A++(W++p::Z):=by
 rw[List.set_append_right _ _ (by omega),List.set_append_right _ _ (by omega)];simp
end Go.Ab
end
section
set_option linter.unusedVariables false
set_option linter.unusedSimpArgs false
set_option maxRecDepth 100000
set_option maxHeartbeats 2000000
namespace Go.Ab
open Go.RowKit Go.Proofs
def jk:Nat->List AO
 |0=>[]
 |m+1=>jk m++[.dfr,.dead]
def dsl(b:Nat):Nat->List Nat
 |0=>[]
 |m+1=>(b+2*m)::dsl b m
theorem zo0:∀m,(jk m).length=2*m
 |0=>rfl
 |m+1=>by rw[jk,List.length_append,zo0 m];simp;omega
theorem jk_at(A Z:List AO)(m:Nat):(A++(jk (m+1)++Z))[A.length+2*m]?=some .dfr:=by
 rw[List.getElem?_append_right (by omega),show A.length+2*m - A.length=2*m by omega,jk,List.append_assoc,List.getElem?_append_right (by rw[zo0];omega),zo0]
 simp
theorem zvw(b:Nat):∀m,∀i∈dsl b m,b<=i/\i<b+2*m
 |0,i,h=>by simp[dsl]at h
 |m+1,i,h=>by
  simp[dsl]at h;rcases h with rfl|h
  ·omega
  ·have:=zvw b m i h;omega
theorem z26(b:Nat):∀m,(dsl b m).Nodup
 |0=>by simp[dsl]
 |m+1=>by
  rw[dsl,List.nodup_cons];exact⟨fun h=>by have:=zvw b m _ h;omega,z26 b m⟩
theorem ydz(A:List AO):∀(m:Nat) (Z:List AO),yft (A++(jk m++Z)) (dsl A.length m)=true
 |0,Z=>rfl
 |m+1,Z=>by
  rw[dsl,yft,jk_at];dsimp only;have:=ydz A m ([.dfr,.dead]++Z);rw[jk,List.append_assoc];exact this
theorem inRd_jk(A:List AO):∀(m:Nat) (Z:List AO),yfs (A++(jk m++Z)) (dsl A.length m)=false
 |0,Z=>rfl
 |1,Z=>by
  have:=jk_at A Z 0;simp only[dsl,yfs,Nat.mul_zero,Nat.add_zero]at this ⊢;rw[this]
 |m+2,Z=>rfl
theorem set_jk(A Z:List AO)(m:Nat):∃D,D.length=2/\(A++(jk (m+1)++Z)).set (A.length+2*m) .dead=A++(jk m++(D++Z)):=by
 refine⟨[.dead,.dead],rfl,?_⟩;rw[List.set_append_right _ _ (by omega),show A.length+2*m - A.length=2*m by omega,jk,List.append_assoc,List.set_append_right _ _ (by rw[zo0];omega),zo0]
 simp
theorem z7k(A:List AO):∀(m:Nat) (Z:List AO),∃D,D.length=2*m+Z.length/\zi6 (A++(jk m++Z)) (dsl A.length m)=A++D
 |0,Z=>⟨Z,by simp,rfl⟩
 |m+1,Z=>by
  obtain⟨D,hD,e⟩:=set_jk A Z m;obtain⟨D',hD',e'⟩:=z7k A m (D++Z);refine⟨D',by simp at hD';omega,?_⟩
  rw[dsl,zi6,e,e']
theorem finF_jk{A H0:List AO}(hA:A.length=H0.length)(m:Nat):∃D:List AO,∀(rs:List RS) (o:Out) (t:Ts) (ls:List (Nat×List AV)),zah H0 rs o ⟨t,ls,A++jk m,dsl A.length m⟩=zah H0 rs o ⟨t,ls,A++D,[]⟩:=by
 obtain⟨D,_,e⟩:=z7k A m [];rw[List.append_nil]at e;refine⟨D,fun rs o t ls=>?_⟩
 cases m with
 |zero=>simp only[dsl,zi6]at e;rw[dsl,e]
 |succ m=>
  have h1:∀i∈dsl A.length (m+1),H0.length<=i:=fun i hi=>by have:=zvw _ _ i hi;omega
  have h2:=z26 A.length (m+1);rw[dsl]at h1 h2 e ⊢;rw[ydp,if_pos ⟨h1,h2⟩,e]
theorem ydo{S E α:Type}{y:AV}{n:Nat}{enc:α->List AV}{W:S->List AO}{WE:E->List AO}{stp:S->α->Option (S ⊕ E)}(hy:Ys y n enc W WE stp)(s:S)(r:S ⊕ E)(X:List AO)(m:Nat){o:Out}(ho:o = .normal\/o = .ret)(t:Ts)(ls:List (Nat×List AV)):
  zah (W s++X) [] o ⟨t,ls,hp W WE r++(X++jk m),dsl (n+X.length) m⟩=some (.ret (.tup []),hp W WE r++X):=by
 have l1:(W s).length=n:=hy.len (.inl s);have l2:=hy.len r;obtain⟨D,e⟩:=finF_jk (A:=hp W WE r++X) (H0:=W s++X) (by simp[l1,l2]) m
 rw[<- List.append_assoc,show n+X.length=(hp W WE r++X).length by simp[l2],e]
 have hf:=zy6 (H:=W s) (A:=hp W WE r) (X:=X) (J:=D) (r:=.ret (.tup [])) (by rw[l1,l2]) (by rw[l1];exact hy.fr s r) (show Lt _ _ from .tup (by simp))
 rcases ho with rfl|rfl
 ·rw[z43];simp only[zjj];exact hf
 ·rw[yhq];simp only[zjj];exact hf
end Go.Ab
end
section
set_option linter.unusedVariables false
set_option linter.unusedSimpArgs false
set_option maxRecDepth 100000
set_option maxHeartbeats 2000000
namespace Go.Ab
open Go.RowKit Go.Proofs
def zaq(L:List Int):List (List AV):=L.map fun b=>[.int .i64 b]
@[go_sem] theorem zpv(L:List Int):(zaq L).length=L.length:=by simp[zaq]
@[go_sem] theorem i64s_get(L:List Int)(i:Nat):(zaq L)[i]?=L[i]?.map fun b=>[.int .i64 b]:=by simp[zaq]
@[go_sem] theorem zfi:zaq []=[]:=rfl
theorem zln(a:List Int)(n:Int):zaq a++[[.int .i64 n]]=zaq (a++[n]):=by simp[zaq]
theorem z4y(n:Nat)(L:List Int):∀a∈(zaq L).flatten,Lt n a:=by
 intro a ha;obtain⟨e,he,h2⟩:=List.mem_flatten.1 ha;obtain⟨x,hx,rfl⟩:=List.mem_map.1 he;simp at h2;subst h2;exact .int _ _
@[go_sem] theorem lt_i64s(n:Nat)(L:List Int):(∀a∈(zaq L).flatten,Lt n a)=True:=eq_true (z4y n L)
def zfm:List Int->List Int->List Int
 |out,[]=>out
 |out,n::r=>zfm (if out.contains n then out else out++[n]) r
theorem zou:∀(a b out:List Int),zfm out (a++b)=zfm (zfm out a) b
 |[],b,out=>rfl
 |n::a,b,out=>by rw[List.cons_append,zfm,zfm,zou a b]
theorem zlg:∀(a out:List Int),(zfm out a).length<=out.length+a.length
 |[],out=>by simp[zfm]
 |n::a,out=>by
  rw[zfm];have:=zlg a (if out.contains n then out else out++[n])
  split at this <;> simp at * <;> split <;> simp_all <;> omega
def noE{β:Type}(e:Empty):β:=e.elim
end Go.Ab
end
section
set_option linter.unusedVariables false
set_option linter.unusedSimpArgs false
set_option maxRecDepth 100000
set_option maxHeartbeats 2000000
namespace Go.Ab
open Go.RowKit Go.Proofs
theorem zug(a:List Lv)(x:Lv):Lv.css a++[x.cs]=Lv.css (a++[x]):=by rw[yd3];rfl
def byL(ps ms:List Lv)(k n:Int):Option Lv:=if k=5 then ps[n.toNat]? else if k=6 then ms[n.toNat]? else none
mutual
def subL(ps ms:List Lv):Lv->Lv
 |.mk k n ks=>match byL ps ms k n with
  |some x=>x
  |none=>.mk k n (subLs ps ms ks)
def subLs(ps ms:List Lv):List Lv->List Lv
 |[]=>[]
 |x::r=>subL ps ms x::subLs ps ms r
end
theorem z6a(ps ms:List Lv):∀ks:List Lv,subLs ps ms ks=ks.map (subL ps ms)
 |[]=>rfl
 |x::r=>by rw[subLs,z6a ps ms r];rfl
theorem zw5{p m k n:Int}{ks:List Lv}{d:Int}(h:rightB p m (.mk k n ks) d=true):1<=d/\(ks.length:Int)=zgp k/\0<=n/\(k=5->n<p)/\(k=6->n<m)/\(k≠5->k≠6->n=0)/\rightsB p m ks (d - 1)=true:=by
 rw[rightB]at h
 split at h
 ·cases h
 split at h
 ·cases h
 rename_i h1 h2;have h2:(ks.length:Int)=zgp k:=by simpa using h2
 split at h
 ·rename_i h5
  subst h5;have:ks=[]:=List.eq_nil_of_length_eq_zero (by simp[zgp]at h2;simp[h2])
  subst this;simp at h;exact⟨by omega,h2,h.1,fun _=>h.2,by omega,by omega,rfl⟩
 split at h
 ·rename_i h5
  subst h5;have:ks=[]:=List.eq_nil_of_length_eq_zero (by simp[zgp]at h2;simp[h2])
  subst this;simp at h;exact⟨by omega,h2,h.1,by omega,fun _=>h.2,by omega,rfl⟩
 ·simp at h
  exact⟨by omega,h2,by omega,by omega,by omega,fun _ _=>h.2,h.1⟩
theorem zw2{p m:Int}{ks:List Lv}{d:Int}(h:rightsB p m ks d=true){x:Lv}(hx:x∈ks):rightB p m x d=true:=by
 rw[zqp,List.all_eq_true]at h;exact h x hx
theorem ztn{l:Lv}{p m:Int}(h:zax l p m=true):rightB p m l 12=true:=by
 unfold zax at h;simp only[Bool.and_eq_true]at h;exact h.2
theorem z10(k:Int):zgp k<=2:=by unfold zgp;grind
def zsh(l:List Lv):Prop:=∀x∈l,x.ok
theorem byL_ok{ps ms:List Lv}(hp:zsh ps)(hm:zsh ms){k n:Int}{x:Lv}(h:byL ps ms k n=some x):x.ok:=by
 unfold byL at h
 split at h
 ·exact hp x (List.mem_of_getElem? h)
 ·split at h
  ·exact hm x (List.mem_of_getElem? h)
  ·cases h
theorem z37{ps ms:List Lv}(hp:zsh ps)(hm:zsh ms)(l:Lv):l.ok->(subL ps ms l).ok:=by
 induction l using Lv.ind with
 |h k n ks ih=>
 intro hl;rw[subL]
 split
 ·rename_i x h;exact byL_ok hp hm h
 ·rw[z6a]
  refine .mk (by simpa using hl.len) fun x hx=>?_
  obtain⟨y,hy,rfl⟩:=List.mem_map.1 hx;exact ih y hy (hl.all y hy)
def z4g:Lv×Int->AV
 |(l,e)=>.tup [.agg l.cs,.int .i64 e]
def zeroL:Lv:=.mk 0 0 []
def zbz(l:List Lv):Bool:=l.all fun x=>zax x 5 10
def zr9(l:Lv)(ps ms:List Lv):Lv×Int :=
 if zax l 5 10=false\/5<ps.length\/10<ms.length\/zbz ps=false\/zbz ms=false then (zeroL,1)
 else if zax (subL ps ms l) 5 10 then (subL ps ms l,0) else (zeroL,2)
theorem zw7(xs:List Lv)(hlen:xs.length<=140737488355328)(hx:zsh xs)(H:List AO):F ziw [.sl (Lv.css xs)] H=some (.ret (.bool (zbz xs)),H):=by
 have loop:∀(suf pre:List Lv),xs=pre++suf->zie H H (.sl (Lv.css xs)) (.int .i64 pre.length)=some (.ret (.bool (zbz suf)),H):=by
  intro suf
  induction suf with
  |nil=>
   intro pre e;subst e;rw[zie,zab];simp only[↓reduceIte,go_sem,zbz,List.all_nil]
  |cons x suf ih=>
   intro pre e;subst e;simp at hlen;have:=ih (pre++[x]) (by simp)
   simp only[zaf]at this;have hr:=zd0 x (hx x (by simp)) 5 10 H
   rw[zie,zab];unfold zbz at *;rw[List.all_cons]
   cases h:zax x 5 10 <;> simp only[h]at hr <;> simp only[↓reduceIte,go_sem,hr,zac (n:=pre.length) (by omega),this,Bool.true_and,Bool.false_and]
 have:=loop xs [] rfl;simp only[List.length_nil,Int.natCast_zero]at this;rw[zzx];simp only[↓reduceIte,go_sem,this]
theorem yf4(p m:Int)(ps ms:List Lv)(l:Lv):l.ok->∀(d:Int),rightB p m l d=true->∀(H:List AO),F zm6 [.agg l.cs,.sl (Lv.css ps),.sl (Lv.css ms)] H=some (.ret (.agg (subL ps ms l).cs),H):=by
 induction l using Lv.ind with
 |h k n ks ih=>
 intro hl d hr H;obtain⟨hd,hk,hn,h5,h6,h0,hks⟩:=zw5 hr;have hk3:=z10 k;have loop:∀(suf pre done:List Lv),ks=pre++suf->done.length=pre.length ->
   zkl H (H++[.lst 0 3 [],.lst done.length 3 (Lv.css done),.lst 0 3 []]) (.sl (Lv.css ps)) (.sl (Lv.css ms)) (.int .i64 pre.length) [.int .i64 k,.int .i64 n,.sl (Lv.css ks)]
    [.int .i64 0,.int .i64 0,.ol H.length 0] [.int .i64 k,.int .i64 n,.ol (H.length+1) done.length]=some (.ret (.agg (Lv.mk k n (done++subLs ps ms suf)).cs),H):=by
  intro suf
  induction suf with
  |nil=>
   intro pre done e he;subst e;rw[zkl,zab];simp only[↓reduceIte,go_sem,subLs,Lv.cs]
  |cons x suf ih2=>
   intro pre done e he;subst e;simp at hk;have:=ih2 (pre++[x]) (done++[subL ps ms x]) (by simp) (by simp[he])
   simp only[zaf]at this;simp only[zf6,List.append_assoc,List.cons_append,List.nil_append]at this;have hdl:done.length<=1073741823:=by omega
   rw[zkl,zab,subLs];simp only[↓reduceIte,go_sem,ih x (by simp) (hl.all x (by simp)) (d - 1) (zw2 hks (by simp)),zac (n:=pre.length) (by omega),hdl,zug,this]
 have l0:=loop ks [] [] rfl rfl;simp only[List.length_nil,Int.natCast_zero,List.nil_append,Lv.css,Lv.cs]at l0;rw[z5i,subL,byL];have hN:(n.toNat:Int)=n:=Int.toNat_of_nonneg hn;by_cases e5:k=5
 ·subst e5
  by_cases hlt:n<(ps.length:Int)
  ·obtain⟨x,hx⟩:∃x,ps[n.toNat]?=some x:=⟨ps[n.toNat],by simp⟩
   simp only[↓reduceIte,go_sem,Lv.cs,hlt,hn,hx]
  ·have hx:ps[n.toNat]?=none:=List.getElem?_eq_none (by omega)
   simp only[↓reduceIte,go_sem,Lv.cs,hlt,hx,l0]
 ·by_cases e6:k=6
  ·subst e6
   by_cases hlt:n<(ms.length:Int)
   ·obtain⟨x,hx⟩:∃x,ms[n.toNat]?=some x:=⟨ms[n.toNat],by simp⟩
    simp only[↓reduceIte,go_sem,Lv.cs,hlt,hn,hx]
   ·have hx:ms[n.toNat]?=none:=List.getElem?_eq_none (by omega)
    simp only[↓reduceIte,go_sem,Lv.cs,hlt,hx,l0]
  ·simp only[↓reduceIte,go_sem,Lv.cs,e5,e6,l0]
theorem yix(l:Lv)(ps ms:List Lv)(hl:l.ok)(hp:zsh ps)(hm:zsh ms)(hpl:ps.length<=140737488355328)(hml:ms.length<=140737488355328)(H:List AO):
  F zos [.agg l.cs,.sl (Lv.css ps),.sl (Lv.css ms)] H=some (.ret (z4g (zr9 l ps ms)),H):=by
 rw[z5j,zr9];have h1:=zd0 l hl 5 10 H;have h2:=zw7 ps hpl hp H;have h3:=zw7 ms hml hm H;by_cases hr:zax l 5 10=true
 ·by_cases a1:5<ps.length
  ·have a1':(5:Int)<ps.length:=by omega
   simp only[↓reduceIte,go_sem,h1,hr,a1,a1',z4g,zeroL,Lv.cs,Lv.css,Bool.true_eq_false,false_or,true_or]
  by_cases a2:10<ms.length
  ·have a1':¬ (5:Int)<ps.length:=by omega
   have a2':(10:Int)<ms.length:=by omega
   simp only[↓reduceIte,go_sem,h1,hr,a1,a1',a2,a2',z4g,zeroL,Lv.cs,Lv.css,Bool.true_eq_false,false_or,true_or]
  have a1':¬ (5:Int)<ps.length:=by omega
  have a2':¬ (10:Int)<ms.length:=by omega
  cases b1:zbz ps with
  |false=>simp only[↓reduceIte,go_sem,h1,h2,hr,a1,a1',a2,a2',b1,z4g,zeroL,Lv.cs,Lv.css,Bool.true_eq_false,false_or,true_or]
  |true=>
  cases b2:zbz ms with
  |false=>simp only[↓reduceIte,go_sem,h1,h2,h3,hr,a1,a1',a2,a2',b1,b2,z4g,zeroL,Lv.cs,Lv.css,Bool.true_eq_false,false_or,true_or]
  |true=>
  have h4:=yf4 5 10 ps ms l hl 12 (ztn hr) H;have h5:=zd0 (subL ps ms l) (z37 hp hm l hl) 5 10 H
  cases b3:zax (subL ps ms l) 5 10 <;> simp only[b3]at h5 <;> simp only[↓reduceIte,go_sem,h1,h2,h3,h4,h5,hr,a1,a1',a2,a2',b1,b2,b3,z4g,zeroL,Lv.cs,Lv.css,Bool.true_eq_false,Bool.false_eq_true,or_self,true_or]
 ·simp only[Bool.not_eq_true]at hr
  simp only[↓reduceIte,go_sem,h1,hr,z4g,zeroL,Lv.cs,Lv.css,true_or]
theorem ybh(l:Lv)(hl:l.ok)(H:List AO):F zl5 [.agg l.cs] H=some (.ret (.bool (!zax l 5 10)),H):=by
 rw[z8w];simp only[↓reduceIte,go_sem,zgt l hl]
theorem grow_ok(n:Int)(h0:0<=n)(hn:n<=1073741824)(H:List AO):F zem [.ze,.int .i64 n] H=if n=0 then some (.ret .ze,H) else some (.ret (.ol H.length 1),H++[.lst 1 3 []]):=by
 rw[zqt];by_cases h:n=0
 ·subst h
  have e1:IntKind.wrap .i64 0=0:=zam (by omega) (by omega)
  simp only[↓reduceIte,go_sem,Int.sub_self,e1]
 ·simp only[↓reduceIte,go_sem,h,show ¬ n<0 by omega,show 0<n by omega,Int.sub_self,Int.sub_zero,zam (n:=0) (by omega) (by omega),zam (n:=n) (by omega) (by omega),hn]
inductive AccL (H:List AO):AV->List Lv->List AO->Prop
 |ze:AccL H .ze [] H
 |ol (ver:Nat) (es:List Lv):AccL H (.ol H.length ver) es (H++[.lst ver 3 (Lv.css es)])
def sls(xs:List (List Lv)):List (List AV):=xs.map fun x=>[.sl (Lv.css x)]
@[go_sem] theorem sls_len(xs:List (List Lv)):(sls xs).length=xs.length:=by simp[sls]
@[go_sem] theorem sls_get(xs:List (List Lv))(i:Nat):(sls xs)[i]?=xs[i]?.map fun x=>[.sl (Lv.css x)]:=by simp[sls]
@[go_sem] theorem css_all3(ks:List Lv):(∀e∈Lv.css ks,e.length=3)=True:=by
 refine eq_true fun e he=>?_
 rw[Lv.css_eq]at he;obtain⟨x,_,rfl⟩:=List.mem_map.1 he;exact yd4 x
theorem z3c(xs:List (List Lv))(hlen:xs.length<=1000)(ht:xs.flatten.length<=1073741824)(H:List AO):
  F zcs [.sl (sls xs)] H=some (.ret (.sl (Lv.css xs.flatten)),H):=by
 have loop1:∀(suf pre:List (List Lv)) {v:AV} {es:List Lv} {H1:List AO},xs=pre++suf->AccL (H++[.lst 0 3 []]) v es H1->es.length+suf.flatten.length<=1073741824 ->
   zdm H H1 v (.sl (sls xs)) (.int .i64 xs.length) (.int .i64 pre.length)=some (.ret (.sl (Lv.css (es++suf.flatten))),H):=by
  intro suf
  induction suf with
  |nil=>
   intro pre v es H1 e ha hb;subst e;rw[zdm,zab]
   cases ha with
   |ze=>simp only[↓reduceIte,go_sem,List.flatten_nil,Lv.css]
   |ol ver=>simp only[↓reduceIte,go_sem,List.flatten_nil]
  |cons x suf ih=>
   intro pre v es H1 e ha hb;subst e;simp at hlen;rw[List.flatten_cons,List.length_append]at hb;rw[zdm,zab]
   cases ha with
   |ze=>
    cases x with
    |nil=>
     have:=ih (pre++[[]]) (by simp) (AccL.ze (H:=H++[.lst 0 3 []])) (by simpa using hb)
     simp only[zaf]at this;simp only[↓reduceIte,go_sem,Lv.css,zac (n:=pre.length) (by omega),this,List.flatten_cons]
    |cons y ys=>
     have:=ih (pre++[y::ys]) (by simp) (AccL.ol (H:=H++[.lst 0 3 []]) 0 (y::ys)) (by simpa using hb)
     simp only[zaf]at this;simp only[↓reduceIte,go_sem,Lv.css]at this;simp at hb;simp only[↓reduceIte,go_sem,Lv.css,zac (n:=pre.length) (by omega),show ys.length<1073741824 by omega,this,List.flatten_cons]
   |ol ver=>
    have:=ih (pre++[x]) (by simp) (AccL.ol (H:=H++[.lst 0 3 []]) (ver+1) (es++x)) (by simp at hb ⊢;omega)
    simp only[zaf]at this;simp only[↓reduceIte,go_sem]at this;simp only[↓reduceIte,go_sem,zac (n:=pre.length) (by omega),show es.length+x.length<=1073741824 by omega,<- yd3,this,List.flatten_cons,List.append_assoc]
 have loop0:∀(suf pre:List (List Lv)),xs=pre++suf ->
   zdn H (H++[.lst 0 3 []]) (.sl (sls xs)) (.int .i64 pre.flatten.length) (.sl (sls xs)) (.int .i64 xs.length) (.int .i64 pre.length)=some (.ret (.sl (Lv.css xs.flatten)),H):=by
  intro suf
  induction suf with
  |nil=>
   intro pre e;subst e;simp only[List.append_nil]at *;have hg:=grow_ok pre.flatten.length (by omega) (by omega) (H++[.lst 0 3 []])
   rw[zdn,zab];by_cases h0:pre.flatten.length=0
   ·have h1:=loop1 pre [] rfl (AccL.ze (H:=H++[.lst 0 3 []])) (by simpa using ht)
    simp only[List.length_nil,Int.natCast_zero,List.nil_append]at h1;rw[if_pos (by omega)]at hg
    simp only[↓reduceIte,go_sem,hg,h1]
   ·have h1:=loop1 pre [] rfl (AccL.ol (H:=H++[.lst 0 3 []]) 1 []) (by simpa using ht)
    simp only[List.length_nil,Int.natCast_zero,List.nil_append]at h1;rw[if_neg (by omega)]at hg
    simp only[↓reduceIte,go_sem,Lv.css]at hg h1;simp only[↓reduceIte,go_sem,hg,h1]
  |cons x suf ih=>
   intro pre e;subst e;simp at hlen;have:=ih (pre++[x]) (by simp)
   have hl:((pre++[x]).flatten.length:Int)=(pre.flatten.length:Int)+(x.length:Int):=by simp
   rw[hl]at this;simp only[zaf]at this;simp only[List.flatten_append,List.flatten_cons,List.length_append]at ht;rw[zdn,zab];simp only[↓reduceIte,go_sem,zac (n:=pre.length) (by omega),zam (n:=(pre.flatten.length:Int)+(x.length:Int)) (by omega) (by omega),show ¬ (pre.flatten.length:Int)+(x.length:Int)<0 by omega]
   rw[this]
 have h0:=loop0 xs [] rfl;simp only[List.length_nil,Int.natCast_zero,List.flatten_nil]at h0;rw[zo9];simp only[↓reduceIte,go_sem,h0]
def GoodL(fv:AV)(ps ms:List Lv)(H:List AO):Prop:=∀(X:List AO) (k n:Int) (ks:List Lv),0<=n->cfl T fv [.agg (Lv.mk k n ks).cs] (H++X)=some (.ret (.tup [.agg ((byL ps ms k n).getD (.mk k n ks)).cs,.bool (byL ps ms k n).isSome]),H++X)
theorem GoodL.ext{fv:AV}{ps ms:List Lv}{H:List AO}(h:GoodL fv ps ms H)(Y:List AO):GoodL fv ps ms (H++Y):=fun X k n ks hn=>by rw[List.append_assoc];exact h (Y++X) k n ks hn
theorem yfw(p m:Int)(fv:AV)(hfv:fv.one=true)(ps ms:List Lv)(l:Lv):l.ok->∀(d:Int),rightB p m l d=true->∀(H:List AO),GoodL fv ps ms H ->
  F zm9 [.agg l.cs,fv] H=some (.ret (.agg (subL ps ms l).cs),H):=by
 induction l using Lv.ind with
 |h k n ks ih=>
 intro hl d hr H hg;obtain⟨hd,hk,hn,h5,h6,h0,hks⟩:=zw5 hr;have hk3:=z10 k;have loop:∀(suf pre done:List Lv),ks=pre++suf->done.length=pre.length ->
   zkm H (H++[.lst 0 3 [],.lst 0 3 [],.lst done.length 3 (Lv.css done),.lst 0 3 []]) fv (.sl (Lv.css ks)) (.int .i64 ks.length) (.int .i64 pre.length)
    [.int .i64 0,.int .i64 0,.ol H.length 0] [.int .i64 k,.int .i64 n,.ol (H.length+2) done.length]=some (.ret (.agg (Lv.mk k n (done++subLs ps ms suf)).cs),H):=by
  intro suf
  induction suf with
  |nil=>
   intro pre done e he;subst e;rw[zkm,zab];simp only[↓reduceIte,go_sem,subLs,Lv.cs]
  |cons x suf ih2=>
   intro pre done e he;subst e;simp at hk;have:=ih2 (pre++[x]) (done++[subL ps ms x]) (by simp) (by simp[he])
   simp only[zaf]at this;simp only[zf6,List.append_assoc,List.cons_append,List.nil_append]at this;have hdl:done.length<=1073741823:=by omega
   rw[zkm,zab,subLs];simp only[↓reduceIte,go_sem,ih x (by simp) (hl.all x (by simp)) (d - 1) (zw2 hks (by simp)) _ (hg.ext _),zac (n:=pre.length) (by omega),hdl,zug,this]
 have l0:=loop ks [] [] rfl rfl;simp only[List.length_nil,Int.natCast_zero,List.nil_append,Lv.css,Lv.cs]at l0;have hb:=hg [.lst 0 3 []] k n ks hn;rw[z5k,subL]
 cases hx:byL ps ms k n with
 |some x=>
  simp only[hx,Option.getD_some,Option.isSome_some]at hb;rw[Lv.cs]at hb ⊢;simp only[↓reduceIte,go_sem,hb]
 |none=>
  simp only[hx,Option.getD_none,Option.isSome_none]at hb;rw[Lv.cs]at hb;rw[Lv.cs];simp only[↓reduceIte,go_sem,hb,l0];rfl
theorem Sub_ok(l:Lv)(ps ms:List Lv)(hl:l.ok)(hp:zsh ps)(hm:zsh ms)(hpl:ps.length<=140737488355328)(hml:ms.length<=140737488355328)(H:List AO):
  F zrn [.agg l.cs,.sl (Lv.css ps),.sl (Lv.css ms)] H=some (.ret (z4g (zr9 l ps ms)),H):=by
 have h1:=ybh l hl (H++[.box [.sl (Lv.css ps)],.box [.sl (Lv.css ms)]]);rw[z8x,zr9];by_cases hr:zax l 5 10=true
 ·by_cases a1:5<ps.length
  ·have a1':(5:Int)<ps.length:=by omega
   simp only[↓reduceIte,go_sem,h1,hr,a1,a1',z4g,zeroL,Lv.cs,Lv.css,Bool.true_eq_false,false_or,true_or]
  by_cases a2:10<ms.length
  ·have a1':¬ (5:Int)<ps.length:=by omega
   have a2':(10:Int)<ms.length:=by omega
   simp only[↓reduceIte,go_sem,h1,hr,a1,a1',a2,a2',z4g,zeroL,Lv.cs,Lv.css,Bool.true_eq_false,false_or,true_or]
  have a1':¬ (5:Int)<ps.length:=by omega
  have a2':¬ (10:Int)<ms.length:=by omega
  have hc:=z3c [ps,ms] (by simp) (by simp;omega) (H++[.box [.sl (Lv.css ps)],.box [.sl (Lv.css ms)]])
  simp only[sls,List.map_cons,List.map_nil,List.flatten_cons,List.flatten_nil,List.append_nil]at hc;have ha:=z0n (ps++ms) (by simp;omega) (.fn (.func zl5) [] []) (fun x=>!zax x 5 10) (H++[.box [.sl (Lv.css ps)],.box [.sl (Lv.css ms)]]) (fun x hx=>by
   simp only[yef];exact ybh x (by rcases List.mem_append.1 hx with h|h;exact hp x h;exact hm x h) _)
  rw[<- List.not_all_eq_any_not,List.all_append]at ha;rw[show (ps.all fun x=>zax x 5 10)=zbz ps from rfl,show (ms.all fun x=>zax x 5 10)=zbz ms from rfl]at ha
  by_cases hb:(zbz ps && zbz ms)=true
  ·have hb2:=hb
   rw[Bool.and_eq_true]at hb2;have hg:GoodL (.fn (.func zna) [] [.ptr H.length 0,.ptr (H.length+1) 0]) ps ms (H++[.box [.sl (Lv.css ps)],.box [.sl (Lv.css ms)]]):=by
    intro X k n ks hn;simp only[zgr,List.cons_append,List.nil_append,List.append_assoc,z2x];have e:((H++AO.box [.sl (Lv.css ps)]::AO.box [.sl (Lv.css ms)]::X)[H.length+1]?)=some (.box [.sl (Lv.css ms)]):=by rw[z0l];rfl
    have e0:((H++AO.box [.sl (Lv.css ps)]::AO.box [.sl (Lv.css ms)]::X)[H.length]?)=some (.box [.sl (Lv.css ps)]):=by rw[z0m];rfl
    generalize H++AO.box [.sl (Lv.css ps)]::AO.box [.sl (Lv.css ms)]::X=H' at *;unfold byL;have hN:(n.toNat:Int)=n:=Int.toNat_of_nonneg hn;by_cases e5:k=5
    ·subst e5
     by_cases hlt:n<(ps.length:Int)
     ·obtain⟨x,hx⟩:∃x,ps[n.toNat]?=some x:=⟨ps[n.toNat],by simp⟩
      simp only[↓reduceIte,go_sem,Lv.cs,e,e0,hlt,hn,hx,Option.getD_some,Option.isSome_some]
     ·have hx:ps[n.toNat]?=none:=List.getElem?_eq_none (by omega)
      simp only[↓reduceIte,go_sem,Lv.cs,e,e0,hlt,hx,Option.getD_none,Option.isSome_none]
    ·by_cases e6:k=6
     ·subst e6
      by_cases hlt:n<(ms.length:Int)
      ·obtain⟨x,hx⟩:∃x,ms[n.toNat]?=some x:=⟨ms[n.toNat],by simp⟩
       simp only[↓reduceIte,go_sem,Lv.cs,e,e0,hlt,hn,hx,Option.getD_some,Option.isSome_some]
      ·have hx:ms[n.toNat]?=none:=List.getElem?_eq_none (by omega)
       simp only[↓reduceIte,go_sem,Lv.cs,e,e0,hlt,hx,Option.getD_none,Option.isSome_none]
     ·simp only[↓reduceIte,go_sem,Lv.cs,e,e0,e5,e6,Option.getD_none,Option.isSome_none]
   have ht:=yfw 5 10 _ rfl ps ms l hl 12 (ztn hr) _ hg;have h5:=ybh (subL ps ms l) (z37 hp hm l hl) (H++[.box [.sl (Lv.css ps)],.box [.sl (Lv.css ms)]]);simp only[hb]at ha
   cases b3:zax (subL ps ms l) 5 10 <;> simp only[b3]at h5 <;> simp only[↓reduceIte,go_sem,h1,hr,a1,a1',a2,a2',hb2.1,hb2.2,hc,ha,ht,h5,b3,z4g,zeroL,Lv.cs,Lv.css,Bool.true_eq_false,Bool.false_eq_true,or_self,true_or,false_or]
  ·have hb':zbz ps=false\/zbz ms=false:=by
    cases h1:zbz ps <;> cases h2:zbz ms <;> simp_all
   simp only[Bool.not_eq_true]at hb;simp only[hb]at ha;simp only[↓reduceIte,go_sem,h1,hr,a1,a1',a2,a2',hb',hc,ha,z4g,zeroL,Lv.cs,Lv.css,Bool.true_eq_false,or_self,true_or,or_true,false_or]
 ·simp only[Bool.not_eq_true]at hr
  simp only[↓reduceIte,go_sem,h1,hr,z4g,zeroL,Lv.cs,Lv.css,true_or]
end Go.Ab
end
section
set_option linter.unusedVariables false
set_option linter.unusedSimpArgs false
set_option maxRecDepth 100000
set_option maxHeartbeats 2000000
namespace Go.Ab
open Go.RowKit Go.Proofs
mutual
def rightT(p m:Int):Te->Int->Int->Bool
 |.mk k n ls ks,v,d=>if d<1 then false else if (ks.length:Int)≠zft k then false else if ((ls.all fun x=>zax x p m) && zl4 k n ls v)=false then false else rightTs p m k ks 0 v (d - 1)
def rightTs(p m:Int)(k:Int):List Te->Int->Int->Int->Bool
 |[],_,_,_=>true
 |x::r,i,v,d=>rightT p m x (v+binds k i) d && rightTs p m k r (i+1) v d
end
theorem z77(p m:Int)(t:Te):t.ok->∀(v d:Int),-1000<=d/\d<=1000->0<=v/\v+d<=1000000->∀(H:List AO),F zg6 [.agg t.cs,.int .i64 v,.int .i64 p,.int .i64 m,.int .i64 d] H=some (.ret (.bool (rightT p m t v d)),H):=by
 induction t using Te.ind with
 |h k n ls ks ih=>
 intro hl v d hd hv H;have hlen:=hl.len;have loop:¬ d<1->∀(suf pre:List Te),ks=pre++suf ->
   zh6 H H (.int .i64 v) (.int .i64 p) (.int .i64 m) (.int .i64 d) (.int .i64 pre.length) [.int .i64 k,.int .i64 n,.sl (Lv.css ls),.sl (Te.css ks)]=some (.ret (.bool (rightTs p m k suf pre.length v (d - 1))),H):=by
  intro hd1 suf
  induction suf with
  |nil=>
   intro pre e;subst e;rw[zh6,zab];simp only[↓reduceIte,go_sem,rightTs]
  |cons x suf ih2=>
   intro pre e;subst e;simp at hlen;have:=ih2 (pre++[x]) (by simp)
   simp only[zaf]at this;have hb:=zlw k pre.length;rw[zh6,zab,rightTs];simp only[↓reduceIte,go_sem,zs3,zam (n:=d - 1) (by omega) (by omega),zam (n:=v+binds k pre.length) (by omega) (by omega),ih x (by simp) (hl.all x (by simp)) (v+binds k pre.length) (d - 1) (by omega) (by omega) H,zac (n:=pre.length) (by omega),this]
   cases rightT p m x (v+binds k pre.length) (d - 1) <;> simp
 have:=fun h=>loop h ks [] rfl
 simp only[List.length_nil,Int.natCast_zero]at this;rw[zzk,rightT];simp only[↓reduceIte,go_sem,Te.cs,yc5,z8i k n ls ks hl.len2 hl.all2];by_cases h1:d<1
 ·simp[h1]
 ·simp only[this h1]
  grind
def zc6(t:Te)(v p m:Int):Bool:=decide (0<=v) && decide (v<=1000) && decide (0<=p) && decide (p<=5) && decide (0<=m) && decide (m<=10) && decide (parts t 601<=600) && rightT p m t v 30
theorem zha(t:Te)(hl:t.ok)(v p m:Int)(H:List AO):F zex [.agg t.cs,.int .i64 v,.int .i64 p,.int .i64 m] H=some (.ret (.bool (zc6 t v p m)),H):=by
 rw[zzo,zc6];have hr:0<=v->v<=1000->F zg6 [.agg t.cs,.int .i64 v,.int .i64 p,.int .i64 m,.int .i64 30] H=some (.ret (.bool (rightT p m t v 30)),H):=fun h1 h2=>z77 p m t hl v 30 (by omega) (by omega) H
 by_cases h1:0<=v <;> by_cases h2:v<=1000 <;> simp only[↓reduceIte,go_sem,h1,h2,z8c t hl 601 (by omega),hr] <;> grind
def zcc(t:Te):Bool:=zc6 t 1000 5 10
theorem zdb(t:Te)(hl:t.ok)(H:List AO):F zec [.agg t.cs] H=some (.ret (.bool (zcc t)),H):=by
 rw[zzn,zcc];simp only[↓reduceIte,go_sem,zha t hl]
mutual
def teEq:Te->Te->Bool
 |.mk a b l ks,.mk c d m js=>decide (a=c) && decide (b=d) && lvsEq l m && tesEq ks js
def tesEq:List Te->List Te->Bool
 |[],[]=>true
 |x::l,y::m=>teEq x y && tesEq l m
 |_,_=>false
end
theorem zuq:∀{l m:List Te},l.length≠m.length->tesEq l m=false
 |[],[],h=>absurd rfl h
 |[],_::_,_=>by rw[tesEq];all_goals simp
 |_::_,[],_=>by rw[tesEq];all_goals simp
 |x::l,y::m,h=>by rw[tesEq,zuq (l:=l) (m:=m) (by simpa using h)];simp
theorem yat(a:Te):a.ok->∀(b:Te) (H:List AO),F zks [.agg a.cs,.agg b.cs] H=some (.ret (.bool (teEq a b)),H):=by
 induction a using Te.ind with
 |h k n ls ks ih=>
 intro hl b H;obtain⟨k',n',ls',ks'⟩:=b;have hlen:=hl.len;have hlen2:=hl.len2;have loop2:ks.length=ks'.length->∀(suf pre suf' pre':List Te),ks=pre++suf->ks' = pre' ++ suf' -> pre.length=pre'.length ->
   zjc H H (.int .i64 pre.length) [.int .i64 k,.int .i64 n,.sl (Lv.css ls),.sl (Te.css ks)] [.int .i64 k',.int .i64 n',.sl (Lv.css ls'),.sl (Te.css ks')]=some (.ret (.bool (tesEq suf suf')),H):=by
  intro hll suf
  induction suf with
  |nil=>
   intro pre suf' pre' e e' he;subst e;subst e';have:suf' = []:=List.eq_nil_of_length_eq_zero (by simp at hll;omega)
   subst this;rw[zjc,zab];simp only[↓reduceIte,go_sem,tesEq]
  |cons x suf ih2=>
   intro pre suf' pre' e e' he;subst e;subst e';simp at hlen
   cases suf' with
   |nil=>simp at hll;omega
   |cons y suf'=>
   have hy:(pre' ++ y::suf')[pre.length]?=some y:=by rw[he];simp
   have:=ih2 (pre++[x]) suf' (pre' ++ [y]) (by simp) (by simp) (by simp[he])
   simp only[zaf]at this;rw[zjc,zab,tesEq];simp only[↓reduceIte,go_sem,hy,ih x (by simp) (hl.all x (by simp)) y H,zac (n:=pre.length) (by omega),this]
   cases teEq x y <;> simp
 have loop1:ks.length=ks'.length->ls.length=ls'.length->∀(suf pre suf' pre':List Lv),ls=pre++suf->ls' = pre' ++ suf' -> pre.length=pre'.length ->
   zjd H H (.int .i64 pre.length) [.int .i64 k,.int .i64 n,.sl (Lv.css ls),.sl (Te.css ks)] [.int .i64 k',.int .i64 n',.sl (Lv.css ls'),.sl (Te.css ks')]=some (.ret (.bool (lvsEq suf suf' && tesEq ks ks')),H):=by
  intro hkk hll suf
  induction suf with
  |nil=>
   intro pre suf' pre' e e' he;subst e;subst e';have:suf' = []:=List.eq_nil_of_length_eq_zero (by simp at hll;omega)
   subst this;rw[zjd,zab];have:=loop2 hkk ks [] ks' [] rfl rfl rfl;simp only[List.length_nil,Int.natCast_zero,List.append_nil]at this;simp only[↓reduceIte,go_sem,lvsEq,this,Bool.true_and]
  |cons x suf ih2=>
   intro pre suf' pre' e e' he;subst e;subst e';simp at hlen2
   cases suf' with
   |nil=>simp at hll;omega
   |cons y suf'=>
   have hy:(pre' ++ y::suf')[pre.length]?=some y:=by rw[he];simp
   have:=ih2 (pre++[x]) suf' (pre' ++ [y]) (by simp) (by simp) (by simp[he])
   simp only[zaf]at this;rw[zjd,zab,lvsEq];simp only[↓reduceIte,go_sem,hy,zuu x (hl.all2 x (by simp)) y H,zac (n:=pre.length) (by omega),this]
   cases lvEq x y <;> simp
 rw[z2l,teEq];simp only[↓reduceIte,go_sem,Te.cs];by_cases h3:ks.length=ks'.length
 ·by_cases h4:ls.length=ls'.length
  ·have:=loop1 h3 h4 ls [] ls' [] rfl rfl rfl
   simp only[List.length_nil,Int.natCast_zero]at this;rw[this]
   grind
  ·have h4':¬ (ls.length:Int)=(ls'.length:Int):=by omega
   rw[zrm h4];simp[h4']
 ·have h3':¬ (ks.length:Int)=(ks'.length:Int):=by omega
  rw[zuq h3];simp[h3']
end Go.Ab
end
section
set_option linter.unusedVariables false
set_option linter.unusedSimpArgs false
set_option maxRecDepth 100000
set_option maxHeartbeats 2000000
namespace Go.Ab
open Go.RowKit Go.Proofs
mutual
def liftT(b:Int):Te->Int->Te
 |.mk k n ls ks,f=>.mk k (if k=1/\f<=n then n+b else n) ls (liftTs b k ks 0 f)
def liftTs(b k:Int):List Te->Int->Int->List Te
 |[],_,_=>[]
 |x::r,i,f=>liftT b x (f+binds k i)::liftTs b k r (i+1) f
end
mutual
def openT(u:Te):Te->Int->Te
 |.mk k n ls ks,f=>if k=1/\n=f then liftT f u 0 else .mk k (if k=1/\f<n then n - 1 else n) ls (openTs u k ks 0 f)
def openTs(u:Te)(k:Int):List Te->Int->Int->List Te
 |[],_,_=>[]
 |x::r,i,f=>openT u x (f+binds k i)::openTs u k r (i+1) f
end
theorem zoz(k:Int):zft k<=3:=by unfold zft;grind
theorem zf3{p m k n v d:Int}{ls:List Lv}{ks:List Te}(h:rightT p m (.mk k n ls ks) v d=true):
  1<=d/\(ks.length:Int)=zft k/\(ls.all fun x=>zax x p m)=true/\zl4 k n ls v=true/\rightTs p m k ks 0 v (d - 1)=true:=by
 rw[rightT]at h
 split at h
 ·cases h
 ·split at h
  ·cases h
  ·split at h
   ·cases h
   ·rename_i h1 h2 h3
    simp at h3;exact⟨by omega,by simpa using h2,by simpa using h3.1,h3.2,h⟩
theorem zuw{p m k v d:Int}:∀{a b:List Te} {i:Int},rightTs p m k (a++b) i v d=true->rightTs p m k a i v d=true/\rightTs p m k b (i+a.length) v d=true
 |[],b,i,h=>⟨rfl,by simpa using h⟩
 |x::a,b,i,h=>by
  rw[List.cons_append,rightTs,Bool.and_eq_true]at h;obtain⟨h1,h2⟩:=zuw h.2;refine⟨by rw[rightTs,h.1,h1];rfl,?_⟩
  have:i+((x::a).length:Int)=i+1+(a.length:Int):=by simp;omega
  rw[this];exact h2
theorem zk9{p m k v d:Int}{a b:List Te}{x:Te}(h:rightTs p m k (a++x::b) 0 v d=true):rightT p m x (v+binds k a.length) d=true:=by
 have:=(zuw h).2;rw[rightTs,Bool.and_eq_true]at this;simpa using this.1
theorem zow{n v:Int}{ls:List Lv}(h:zl4 1 n ls v=true):0<=n/\n<v/\ls=[]:=by
 unfold zl4 at h;simp at h;exact⟨h.1.1,h.1.2,h.2⟩
theorem z1u(p m b:Int)(hb:0<=b/\b<=1000000)(t:Te):t.ok->∀(v d f:Int),rightT p m t v d=true->d<=1000->0<=v/\v+d<=1000000 -> -1000000<=f/\f+d<=1000000->∀(H:List AO),
  F zit [.agg t.cs,.int .i64 f,.int .i64 b] H=some (.ret (.agg (liftT b t f).cs),H):=by
 induction t using Te.ind with
 |h k n ls ks ih=>
 intro hl v d f hr hd hv hf H;obtain⟨hd1,hk,hls,hn,hks⟩:=zf3 hr;have hk3:=zoz k;have loop:∀(n':Int) (suf pre done:List Te),ks=pre++suf->done.length=pre.length ->
   zjb H (H++[.lst 0 3 [],.lst 0 4 [],.lst 0 3 [],.lst done.length 4 (Te.css done),.lst 0 3 [],.lst 0 4 []]) (.int .i64 f) (.int .i64 b) (.int .i64 pre.length) [.int .i64 k,.int .i64 n,.sl (Lv.css ls),.sl (Te.css ks)]
    [.int .i64 0,.int .i64 0,.ol H.length 0,.ol (H.length+1) 0] [.int .i64 k,.int .i64 n',.sl (Lv.css ls),.ol (H.length+3) done.length]=some (.ret (.agg (Te.mk k n' ls (done++liftTs b k suf pre.length f)).cs),H):=by
  intro n' suf
  induction suf with
  |nil=>
   intro pre done e he;subst e;rw[zjb,zab];simp only[↓reduceIte,go_sem,liftTs,Te.cs]
  |cons x suf ih2=>
   intro pre done e he;subst e;simp at hk;have:=ih2 (pre++[x]) (done++[liftT b x (f+binds k pre.length)]) (by simp) (by simp[he])
   simp only[zaf]at this;simp only[zf6,List.append_assoc,List.cons_append,List.nil_append]at this;have hdl:done.length<=1073741823:=by omega
   have hbr:=zlw k pre.length;rw[zjb,zab,liftTs];simp only[↓reduceIte,go_sem,zs3,zam (n:=f+binds k pre.length) (by omega) (by omega),ih x (by simp) (hl.all x (by simp)) (v+binds k pre.length) (d - 1) (f+binds k pre.length) (zk9 hks) (by omega) (by omega) (by omega),zac (n:=pre.length) (by omega),hdl,this]
 have l0:=fun n'=>loop n' ks [] [] rfl rfl
 simp only[List.length_nil,Int.natCast_zero,List.nil_append,Te.css,Te.cs]at l0;rw[z2j,liftT];by_cases h1:k=1
 ·subst h1
  obtain⟨h2,h3,h4⟩:=zow hn;simp only[↓reduceIte,go_sem,Te.cs,zam (n:=n+b) (by omega) (by omega),l0]
  split <;> simp_all
 ·simp only[↓reduceIte,go_sem,Te.cs,h1,l0,false_and]
theorem ykf{k n:Int}{ls:List Lv}{ks:List Te}(h:(Te.mk k n ls ks).ok)(n':Int){js:List Te}(hl:js.length=ks.length)(hj:∀x∈js,x.ok):(Te.mk k n' ls js).ok:=by
 cases h with
 |mk a b c d=>exact .mk (by omega) b c hj
theorem zxh(b k:Int):∀(ks:List Te) (i f:Int),(liftTs b k ks i f).length=ks.length
 |[],_,_=>rfl
 |x::r,i,f=>by rw[liftTs];simp[zxh b k r]
theorem zxe(u:Te)(k:Int):∀(ks:List Te) (i f:Int),(openTs u k ks i f).length=ks.length
 |[],_,_=>rfl
 |x::r,i,f=>by rw[openTs];simp[zxe u k r]
theorem zxg{b k:Int}{p:Te->Prop}:∀{ks:List Te} {i f:Int},(∀x∈ks,∀f,p (liftT b x f))->∀y∈liftTs b k ks i f,p y
 |[],_,_,_,y,hy=>by cases hy
 |x::r,i,f,h,y,hy=>by
  rw[liftTs]at hy;rcases List.mem_cons.1 hy with rfl|hy
  ·exact h x (by simp) _
  ·exact zxg (fun z hz=>h z (by simp[hz])) y hy
theorem zxd{u:Te}{k:Int}{p:Te->Prop}:∀{ks:List Te} {i f:Int},(∀x∈ks,∀f,p (openT u x f))->∀y∈openTs u k ks i f,p y
 |[],_,_,_,y,hy=>by cases hy
 |x::r,i,f,h,y,hy=>by
  rw[openTs]at hy;rcases List.mem_cons.1 hy with rfl|hy
  ·exact h x (by simp) _
  ·exact zxd (fun z hz=>h z (by simp[hz])) y hy
theorem zyr(b:Int)(t:Te):t.ok->∀f,(liftT b t f).ok:=by
 induction t using Te.ind with
 |h k n ls ks ih=>intro h f;rw[liftT];exact ykf h _ (zxh _ _ _ _ _) (zxg fun x hx=>ih x hx (h.all x hx))
theorem z4l(u:Te)(hu:u.ok)(t:Te):t.ok->∀f,(openT u t f).ok:=by
 induction t using Te.ind with
 |h k n ls ks ih=>
  intro h f;rw[openT]
  split
  ·exact zyr f u hu 0
  ·exact ykf h _ (zxe _ _ _ _ _) (zxd fun x hx=>ih x hx (h.all x hx))
theorem ybd(p m:Int)(u:Te)(huk:u.ok)(vu du:Int)(hu:rightT p m u vu du=true)(hdu:du<=1000)(hvu:0<=vu/\vu+du<=1000000)(t:Te):t.ok->∀(v d f:Int),rightT p m t v d=true->d<=1000->0<=v/\v+d<=1000000->0<=f/\f+d<=1000000->∀(H:List AO),
  F zkr [.agg t.cs,.int .i64 f,.agg u.cs] H=some (.ret (.agg (openT u t f).cs),H):=by
 induction t using Te.ind with
 |h k n ls ks ih=>
 intro hl v d f hr hd hv hf H;obtain⟨hd1,hk,hls,hn,hks⟩:=zf3 hr;have hk3:=zoz k;have loop:∀(n':Int) (suf pre done:List Te),ks=pre++suf->done.length=pre.length ->
   zja H (H++[.lst 0 3 [],.lst 0 4 [],.lst 0 3 [],.lst done.length 4 (Te.css done),.lst 0 3 [],.lst 0 4 []]) (.int .i64 f) (.int .i64 pre.length) [.int .i64 k,.int .i64 n,.sl (Lv.css ls),.sl (Te.css ks)] u.cs
    [.int .i64 0,.int .i64 0,.ol H.length 0,.ol (H.length+1) 0] [.int .i64 k,.int .i64 n',.sl (Lv.css ls),.ol (H.length+3) done.length]=some (.ret (.agg (Te.mk k n' ls (done++openTs u k suf pre.length f)).cs),H):=by
  intro n' suf
  induction suf with
  |nil=>
   intro pre done e he;subst e;rw[zja,zab];simp only[↓reduceIte,go_sem,openTs,Te.cs]
  |cons x suf ih2=>
   intro pre done e he;subst e;simp at hk;have:=ih2 (pre++[x]) (done++[openT u x (f+binds k pre.length)]) (by simp) (by simp[he])
   simp only[zaf]at this;simp only[zf6,List.append_assoc,List.cons_append,List.nil_append]at this;have hdl:done.length<=1073741823:=by omega
   have hbr:=zlw k pre.length;rw[zja,zab,openTs];simp only[↓reduceIte,go_sem,zs3,zam (n:=f+binds k pre.length) (by omega) (by omega),ih x (by simp) (hl.all x (by simp)) (v+binds k pre.length) (d - 1) (f+binds k pre.length) (zk9 hks) (by omega) (by omega) (by omega),zac (n:=pre.length) (by omega),hdl,this]
 have l0:=fun n'=>loop n' ks [] [] rfl rfl
 simp only[List.length_nil,Int.natCast_zero,List.nil_append,Te.css,Te.cs]at l0;have hL:=fun h1=>z1u p m f ⟨h1,by omega⟩ u huk vu du 0 hu hdu hvu (by omega)
 rw[z2i,openT];by_cases h1:k=1
 ·subst h1
  obtain⟨h2,h3,h4⟩:=zow hn;by_cases h5:n=f
  ·simp only[↓reduceIte,go_sem,Te.cs,h5,hL hf.1,and_self]
  ·simp only[↓reduceIte,go_sem,Te.cs,zam (n:=n - 1) (by omega) (by omega),l0,h5]
   split <;> simp_all
 ·simp only[↓reduceIte,go_sem,Te.cs,h1,l0,false_and]
end Go.Ab
end
section
set_option linter.unusedVariables false
set_option linter.unusedSimpArgs false
set_option maxRecDepth 100000
set_option maxHeartbeats 2000000
namespace Go.Ab
open Go.RowKit Go.Proofs
def zeroT:Te:=.mk 0 0 [] []
theorem zfp{t:Te}(h:zcc t=true):rightT 5 10 t 1000 30=true:=by
 unfold zcc zc6 at h;simp at h;exact h.2
def zuo(t:Te):Te×Int:=if zcc t=true then (t,0) else (zeroT,2)
abbrev zjl(x:Te×Int):AV:=.tup [.agg x.1.cs,.int .i64 x.2]
def zh1(t:Te)(f b:Int):Te×Int:=if zcc t=false\/f<0\/1000<f\/b<0\/1000<b then (zeroT,1) else zuo (liftT b t f)
def zlz(t u:Te):Te×Int:=if zcc t=false\/zcc u=false then (zeroT,1) else zuo (openT u t 0)
theorem ye8(t:Te)(hl:t.ok)(f b:Int)(H:List AO):F zm1 [.agg t.cs,.int .i64 f,.int .i64 b] H=some (.ret (zjl (zh1 t f b)),H):=by
 rw[z2n,zh1];by_cases h:zcc t=false\/f<0\/1000<f\/b<0\/1000<b
 ·simp only[h,↓reduceIte]
  by_cases h1:zcc t=true
  ·simp[h1]at h
   by_cases h2:f<0
   ·simp only[↓reduceIte,go_sem,zdb t hl,h1,h2,zjl,zeroT,Te.cs,Lv.css,Te.css]
   by_cases h3:1000<f
   ·simp only[↓reduceIte,go_sem,zdb t hl,h1,h2,h3,zjl,zeroT,Te.cs,Lv.css,Te.css]
   by_cases h4:b<0
   ·simp only[↓reduceIte,go_sem,zdb t hl,h1,h2,h3,h4,zjl,zeroT,Te.cs,Lv.css,Te.css]
   have h5:1000<b:=by omega
   simp only[↓reduceIte,go_sem,zdb t hl,h1,h2,h3,h4,h5,zjl,zeroT,Te.cs,Lv.css,Te.css]
  ·simp only[Bool.not_eq_true]at h1
   simp only[↓reduceIte,go_sem,zdb t hl,h1,zjl,zeroT,Te.cs,Lv.css,Te.css]
 ·simp only[h,↓reduceIte]
  simp at h;have hs:=zfp h.1;have h2:¬ f<0:=by omega
  have h3:¬ 1000<f:=by omega
  have h4:¬ b<0:=by omega
  have h5:¬ 1000<b:=by omega
  have hL:=z1u 5 10 b (by omega) t hl 1000 30 f hs (by omega) (by omega) (by omega)
  have ho:=zdb _ (zyr b t hl f);unfold zuo zjl;simp only[↓reduceIte,go_sem,zdb t hl,h.1,h2,h3,h4,h5,hL,ho,zjl,zeroT,Te.cs,Lv.css,Te.css]
  cases zcc (liftT b t f) <;> simp[Te.cs,Lv.css,Te.css]
theorem znr(t u:Te)(hl:t.ok)(hu:u.ok)(H:List AO):F zkt [.agg t.cs,.agg u.cs] H=some (.ret (zjl (zlz t u)),H):=by
 rw[z2m,zlz];by_cases h:zcc t=false\/zcc u=false
 ·simp only[h,↓reduceIte]
  cases h1:zcc t with
  |true=>
   have h2:zcc u=false:=by simpa [h1] using h
   simp only[↓reduceIte,go_sem,zdb t hl,zdb u hu,h1,h2,zjl,zeroT,Te.cs,Lv.css,Te.css]
  |false=>simp only[↓reduceIte,go_sem,zdb t hl,h1,zjl,zeroT,Te.cs,Lv.css,Te.css]
 ·simp only[h,↓reduceIte]
  simp at h;have hO:=ybd 5 10 u hu 1000 30 (zfp h.2) (by omega) (by omega) t hl 1000 30 0 (zfp h.1) (by omega) (by omega) (by omega)
  have ho:=zdb _ (z4l u hu t hl 0);unfold zuo zjl;simp only[↓reduceIte,go_sem,zdb t hl,zdb u hu,h.1,h.2,hO,ho,zjl,zeroT,Te.cs,Lv.css,Te.css]
  cases zcc (openT u t 0) <;> simp[Te.cs,Lv.css,Te.css]
end Go.Ab
end
section
set_option linter.unusedVariables false
set_option linter.unusedSimpArgs false
set_option maxRecDepth 100000
set_option maxHeartbeats 2000000
namespace Go.Ab
open Go.RowKit Go.Proofs
def zse:List (AV×AV):=[(.int .i64 1,.agg [.int .i64 0,.int .i64 (-1)]),(.int .i64 2,.agg [.int .i64 0,.int .i64 (-1)]),(.int .i64 3,.agg [.int .i64 0,.int .i64 (-1)]),(.int .i64 4,.agg [.int .i64 2,.int .i64 (-1)]),
 (.int .i64 5,.agg [.int .i64 2,.int .i64 1]),(.int .i64 6,.agg [.int .i64 2,.int .i64 1]),(.int .i64 7,.agg [.int .i64 3,.int .i64 2])]
theorem zoo(H:List AO):F zik [] H=some (.ret (.fmap zse),H):=by
 rw[zzb];simp only[↓reduceIte,go_sem,zmh,zgq,zse]
def yek(k:Int):Int:=if k=5\/k=6 then 1 else if k=7 then 2 else -1
theorem zk8:zmh .i64 zse=true:=rfl
theorem znu(k:Int)(h:1<=k/\k<=7):zgq k zse=some (some (.agg [.int .i64 (zft k),.int .i64 (yek k)])):=by
 have:k=1\/k=2\/k=3\/k=4\/k=5\/k=6\/k=7:=by omega
 rcases this with rfl|rfl|rfl|rfl|rfl|rfl|rfl <;> rfl
theorem z4a(k:Int)(h:¬ (1<=k/\k<=7)):zgq k zse=some none:=by
 simp only[zgq,zse]
 repeat' split
 all_goals first|omega|rfl
theorem z4v(k:Int)(h:¬ (1<=k/\k<=7)):zft k = -1:=by
 unfold zft;grind
theorem z4u{k:Int}(h:0<=zft k):1<=k/\k<=7:=by
 unfold zft at h;grind
theorem z3i(k i:Int)(hi:0<=i):(if yek k=i then (1:Int) else 0)=binds k i:=by
 unfold yek binds;grind
theorem yh9(k n:Int)(ls:List Lv)(ks:List Te)(i:Int)(hk:1<=k/\k<=7)(hi:0<=i)(H:List AO):F zim [.agg [.int .i64 k,.int .i64 n,.sl (Lv.css ls),.sl (Te.css ks)],.int .i64 i] H=some (.ret (.int .i64 (binds k i)),H):=by
 rw[z2f,<- z3i k i hi];simp only[↓reduceIte,go_sem,zoo,zk8,znu k hk]
 split <;> simp_all
theorem z3h(k n:Int)(ls:List Lv)(ks:List Te)(i:Int)(hk:0<=zft k)(hi:0<=i)(H:List AO):F zim [.agg [.int .i64 k,.int .i64 n,.sl (Lv.css ls),.sl (Te.css ks)],.int .i64 i] H=some (.ret (.int .i64 (binds k i)),H) :=
 yh9 k n ls ks i (z4u hk) hi H
theorem ybl(v p m k n:Int)(ls:List Lv)(ks:List Te)(H:List AO):F zfo [.agg [.int .i64 v,.int .i64 p,.int .i64 m],.agg [.int .i64 k,.int .i64 n,.sl (Lv.css ls),.sl (Te.css ks)]] H=some (.ret (.bool (zl4 k n ls v)),H):=by
 rw[zsx];simp only[↓reduceIte,go_sem,zl4]
 repeat' split
 all_goals (simp_all;try omega)
theorem z76(p m:Int)(t:Te):t.ok->∀(v d:Int),0<=d/\d<=1000->0<=v/\v+d<=1000000->∀(H:List AO),F zek [.agg [.int .i64 v,.int .i64 p,.int .i64 m],.agg t.cs,.int .i64 d] H=some (.ret (.bool (rightT p m t v d)),H):=by
 induction t using Te.ind with
 |h k n ls ks ih=>
 intro hl v d hd hv H;have hlen:=hl.len;have hc:F zak [.sl (Lv.css ls),.fn (.func zej) [] [.ptr H.length 0]] (H++[.box [.int .i64 v,.int .i64 p,.int .i64 m]])=some (.ret (.bool (ls.any fun x=>!zax x p m)),H++[.box [.int .i64 v,.int .i64 p,.int .i64 m]]):=by
  refine z0n ls hl.len2 _ _ _ fun x hx=>?_
  simp only[↓reduceIte,go_sem,zqr,zgt x (hl.all2 x hx)]
 rw[<- List.not_all_eq_any_not]at hc;have loop:0<=zft k->¬ d<1->∀(suf pre:List Te),ks=pre++suf ->
   ze0 H (H++[.box [.int .i64 v,.int .i64 p,.int .i64 m]]) (.int .i64 d) (.ptr H.length 0) (.sl (Te.css ks)) (.int .i64 ks.length) (.int .i64 pre.length) [.int .i64 k,.int .i64 n,.sl (Lv.css ls),.sl (Te.css ks)]=some (.ret (.bool (rightTs p m k suf pre.length v (d - 1))),H):=by
  intro hk0 hd1 suf
  induction suf with
  |nil=>
   intro pre e;subst e;rw[ze0,zab];simp only[↓reduceIte,go_sem,rightTs]
  |cons x suf ih2=>
   intro pre e;subst e;simp at hlen;have:=ih2 (pre++[x]) (by simp)
   simp only[zaf]at this;have hb:=zlw k pre.length;rw[ze0,zab,rightTs];simp only[↓reduceIte,go_sem,z3h k n ls _ pre.length hk0 (by omega),zam (n:=d - 1) (by omega) (by omega),zam (n:=v+binds k pre.length) (by omega) (by omega),ih x (by simp) (hl.all x (by simp)) (v+binds k pre.length) (d - 1) (by omega) (by omega),zac (n:=pre.length) (by omega),this]
   cases rightT p m x (v+binds k pre.length) (d - 1) <;> simp
 have:=fun h0 h1=>loop h0 h1 ks [] rfl
 simp only[List.length_nil,Int.natCast_zero]at this;rw[zsw,rightT];by_cases hk:1<=k/\k<=7
 ·by_cases hd0:d=0
  ·subst hd0
   simp only[↓reduceIte,go_sem,Te.cs,zoo,zk8,znu k hk,show (0:Int)<1 from by decide]
  ·have hd1:¬ d<1:=by omega
   by_cases hkl:(ks.length:Int)=zft k
   ·simp only[↓reduceIte,go_sem,Te.cs,zoo,zk8,znu k hk,hd0,hd1,hkl,ybl,hc]
    rw[<- hkl,this (by omega) hd1]
    cases zl4 k n ls v <;> cases (ls.all fun x=>zax x p m) <;> simp
   ·simp only[↓reduceIte,go_sem,Te.cs,zoo,zk8,znu k hk,hd0,hd1,hkl]
    simp[hkl]
 ·simp only[↓reduceIte,go_sem,Te.cs,zoo,zk8,z4a k hk]
  have:¬ (ks.length:Int)=zft k:=by rw[z4v k hk];omega
  simp[this]
theorem zi4(t:Te)(hl:t.ok)(v p m:Int)(hv:0<=v/\v<=1000)(H:List AO):F zcw [.agg [.int .i64 v,.int .i64 p,.int .i64 m],.agg t.cs] H=some (.ret (.bool (decide (parts t 601<=600) && rightT p m t v 30)),H):=by
 rw[ztv];simp only[↓reduceIte,go_sem,yba t hl 601 (by omega),z76 p m t hl v 30 (by omega) (by omega)]
 grind
theorem zqj(H:List AO):F zl2 [] H=some (.ret (.agg [.int .i64 1000,.int .i64 5,.int .i64 10]),H):=by
 rw[z8u];simp only[↓reduceIte,go_sem]
theorem zfb(t:Te):(decide (parts t 601<=600) && rightT 5 10 t 1000 30)=zcc t:=by simp[zcc,zc6]
theorem zk0(t:Te)(hl:t.ok)(v p m:Int)(H:List AO):F zhb [.agg t.cs,.int .i64 v,.int .i64 p,.int .i64 m] H=some (.ret (.bool (zc6 t v p m)),H):=by
 rw[z2g,zc6];by_cases h1:v<0
 ·simp only[↓reduceIte,go_sem,h1]
  simp;omega
 by_cases h2:1000<v
 ·simp only[↓reduceIte,go_sem,h1,h2]
  simp;omega
 simp only[↓reduceIte,go_sem,h1,h2,zi4 t hl v p m (by omega)]
 have h3:0<=v:=by omega
 have h4:v<=1000:=by omega
 simp only[h3,h4,decide_true,Bool.true_and];by_cases h5:p<0
 ·simp[h5];omega
 by_cases h6:5<p
 ·simp[h5,h6];omega
 by_cases h7:m<0
 ·simp[h5,h6,h7];omega
 by_cases h8:10<m
 ·simp[h5,h6,h7,h8];omega
 simp[h5,h6,h7,h8];simp[show 0<=p by omega,show p<=5 by omega,show 0<=m by omega,show m<=10 by omega]
mutual
def turnT(g:Int->Int->Te):Te->Int->Te
 |.mk k n ls ks,f=>if k=1 then g n f else .mk k n ls (turnTs g k ks 0 f)
def turnTs(g:Int->Int->Te)(k:Int):List Te->Int->Int->List Te
 |[],_,_=>[]
 |x::r,i,f=>turnT g x (f+binds k i)::turnTs g k r (i+1) f
end
def Good(fv:AV)(g:Int->Int->Te)(B:Int)(H:List AO):Prop:=∀(X:List AO) (n f:Int),0<=n/\n<=B->0<=f/\f<=B->cfl T fv [.int .i64 n,.int .i64 f] (H++X)=some (.ret (.agg (g n f).cs),H++X)
theorem Good.ext{fv:AV}{g:Int->Int->Te}{B:Int}{H:List AO}(h:Good fv g B H)(Y:List AO):Good fv g B (H++Y):=fun X n f hn hf=>by rw[List.append_assoc];exact h (Y++X) n f hn hf
theorem yai(p m:Int)(fv:AV)(hfv:fv.one=true)(g:Int->Int->Te)(B:Int)(t:Te):t.ok->∀(v d f:Int),rightT p m t v d=true->d<=1000->0<=v/\v+d<=B+1->0<=f/\f+d<=B+1->B<=1000000->∀(H:List AO),Good fv g B H ->
  F zk3 [.agg t.cs,.int .i64 f,fv] H=some (.ret (.agg (turnT g t f).cs),H):=by
 induction t using Te.ind with
 |h k n ls ks ih=>
 intro hl v d f hr hd hv hf hB H hg;obtain⟨hd1,hk,hls,hn,hks⟩:=zf3 hr;have hk3:=zoz k;have loop:∀(suf pre done:List Te),ks=pre++suf->done.length=pre.length ->
   zkh H (H++[.lst 0 3 [],.lst 0 4 [],.lst 0 3 [],.lst done.length 4 (Te.css done),.lst 0 3 [],.lst 0 4 []]) (.int .i64 f) fv (.sl (Te.css ks)) (.int .i64 ks.length) (.int .i64 pre.length) [.int .i64 k,.int .i64 n,.sl (Lv.css ls),.sl (Te.css ks)]
    [.int .i64 0,.int .i64 0,.ol H.length 0,.ol (H.length+1) 0] [.int .i64 k,.int .i64 n,.sl (Lv.css ls),.ol (H.length+3) done.length]=some (.ret (.agg (Te.mk k n ls (done++turnTs g k suf pre.length f)).cs),H):=by
  intro suf
  induction suf with
  |nil=>
   intro pre done e he;subst e;rw[zkh,zab];simp only[↓reduceIte,go_sem,turnTs,Te.cs]
  |cons x suf ih2=>
   intro pre done e he;subst e;simp at hk;have:=ih2 (pre++[x]) (done++[turnT g x (f+binds k pre.length)]) (by simp) (by simp[he])
   simp only[zaf]at this;simp only[zf6,List.append_assoc,List.cons_append,List.nil_append]at this;have hdl:done.length<=1073741823:=by omega
   have hbr:=zlw k pre.length;rw[zkh,zab,turnTs];simp only[↓reduceIte,go_sem,z3h k n ls _ pre.length (by omega) (by omega),zam (n:=f+binds k pre.length) (by omega) (by omega),ih x (by simp) (hl.all x (by simp)) (v+binds k pre.length) (d - 1) (f+binds k pre.length) (zk9 hks) (by omega) (by omega) (by omega) hB _ (hg.ext _),zac (n:=pre.length) (by omega),hdl,this]
 have l0:=loop ks [] [] rfl rfl;simp only[List.length_nil,Int.natCast_zero,List.nil_append,Te.css,Te.cs]at l0;rw[z47,turnT];by_cases h1:k=1
 ·subst h1
  obtain⟨h2,h3,h4⟩:=zow hn;have:=hg [.lst 0 3 [],.lst 0 4 []] n f (by omega) (by omega)
  simp only[↓reduceIte,go_sem,Te.cs,this]
 ·simp only[↓reduceIte,go_sem,Te.cs,h1,l0]
theorem zqn(n:Int)(H:List AO):F zf2 [.int .i64 n] H=some (.ret (.agg (Te.mk 1 n [] []).cs),H):=by
 rw[zvp];simp only[↓reduceIte,go_sem,Te.cs,Lv.css,Te.css]
def z8m(f b:Int)(n d:Int):Te:=.mk 1 (if f+d<=n then n+b else n) [] []
mutual
theorem turn_lift(p m f b:Int):∀(t:Te) (v d δ:Int),rightT p m t v d=true->turnT (z8m f b) t δ=liftT b t (f+δ)
 |.mk k n ls ks,v,d,δ,h=>by
  obtain⟨hd1,hk,hls,hn,hks⟩:=zf3 h;rw[turnT,liftT];by_cases h1:k=1
  ·subst h1
   obtain⟨h2,h3,h4⟩:=zow hn;have:ks=[]:=List.eq_nil_of_length_eq_zero (by simp[zft]at hk;simp[hk])
   subst this;subst h4;simp[z8m,liftTs]
  ·rw[if_neg h1,turn_lifts p m f b k ks 0 v (d - 1) δ hks]
   simp[h1]
theorem turn_lifts(p m f b k:Int):∀(ks:List Te) (i v d δ:Int),rightTs p m k ks i v d=true->turnTs (z8m f b) k ks i δ=liftTs b k ks i (f+δ)
 |[],i,v,d,δ,h=>rfl
 |x::r,i,v,d,δ,h=>by
  rw[rightTs,Bool.and_eq_true]at h;rw[turnTs,liftTs,turn_lift p m f b x _ _ _ h.1,turn_lifts p m f b k r _ _ _ _ h.2,Int.add_assoc]
end
theorem z61(p m:Int)(t:Te)(hl:t.ok)(v d f b:Int)(hr:rightT p m t v d=true)(hd:d<=1000)(hv:0<=v/\v+d<=100000)(hf:0<=f/\f<=100000)(hb:0<=b/\b<=100000)(H:List AO):
  F zms [.agg t.cs,.int .i64 f,.int .i64 b] H=some (.ret (.agg (liftT b t f).cs),H):=by
 have hg:Good (.fn (.func zil) [] [.ptr H.length 0,.ptr (H.length+1) 0]) (z8m f b) 100000 (H++[.box [.int .i64 f],.box [.int .i64 b]]):=by
  intro X n δ hn hδ;simp only[zgr,List.cons_append,List.nil_append,zzc,List.append_assoc];have e:((H++AO.box [.int .i64 f]::AO.box [.int .i64 b]::X)[H.length+1]?)=some (.box [.int .i64 b]):=by rw[z0l];rfl
  have e0:((H++AO.box [.int .i64 f]::AO.box [.int .i64 b]::X)[H.length]?)=some (.box [.int .i64 f]):=by rw[z0m];rfl
  generalize H++AO.box [.int .i64 f]::AO.box [.int .i64 b]::X=H' at *;unfold z8m;simp only[↓reduceIte,go_sem,e,e0,zqn,zam (n:=f+δ) (by omega) (by omega),zam (n:=n+b) (by omega) (by omega)]
  split <;> simp_all
 have:=yai p m (.fn (.func zil) [] [.ptr H.length 0,.ptr (H.length+1) 0]) rfl (z8m f b) 100000 t hl v d 0 hr hd (by omega) (by omega) (by omega) _ hg
 rw[turn_lift p m f b t v d 0 hr,Int.add_zero]at this;rw[z49];simp only[↓reduceIte,go_sem,this]
def z8d(u:Te)(n d:Int):Te:=if n=d then liftT d u 0 else if d<n then .mk 1 (n - 1) [] [] else .mk 1 n [] []
mutual
theorem turn_open(p m:Int)(u:Te):∀(t:Te) (v d δ:Int),rightT p m t v d=true->turnT (z8d u) t δ=openT u t δ
 |.mk k n ls ks,v,d,δ,h=>by
  obtain⟨hd1,hk,hls,hn,hks⟩:=zf3 h;rw[turnT,openT];by_cases h1:k=1
  ·subst h1
   obtain⟨h2,h3,h4⟩:=zow hn;have:ks=[]:=List.eq_nil_of_length_eq_zero (by simp[zft]at hk;simp[hk])
   subst this;subst h4;simp[z8d,openTs];by_cases h5:n=δ
   ·simp[h5]
   ·simp[h5]
    split <;> rfl
  ·rw[if_neg h1,turn_opens p m u k ks 0 v (d - 1) δ hks]
   simp[h1]
theorem turn_opens(p m:Int)(u:Te)(k:Int):∀(ks:List Te) (i v d δ:Int),rightTs p m k ks i v d=true->turnTs (z8d u) k ks i δ=openTs u k ks i δ
 |[],i,v,d,δ,h=>rfl
 |x::r,i,v,d,δ,h=>by
  rw[rightTs,Bool.and_eq_true]at h;rw[turnTs,openTs,turn_open p m u x _ _ _ h.1,turn_opens p m u k r _ _ _ _ h.2]
end
theorem yaj(t:Te)(hl:t.ok)(H:List AO):F zmr [.agg t.cs] H=some (.ret (zjl (zuo t)),H):=by
 rw[z48,zuo];simp only[↓reduceIte,go_sem,zqj,zi4 t hl 1000 5 10 (by omega),zfb,zjl,zeroT,Te.cs,Lv.css,Te.css]
 cases zcc t <;> simp[Te.cs,Lv.css,Te.css]
theorem yi3(t:Te)(hl:t.ok)(f b:Int)(H:List AO):F zok [.agg t.cs,.int .i64 f,.int .i64 b] H=some (.ret (zjl (zh1 t f b)),H):=by
 rw[z5c,zh1];by_cases h:zcc t=false\/f<0\/1000<f\/b<0\/1000<b
 ·simp only[h,↓reduceIte]
  by_cases h1:zcc t=true
  ·simp[h1]at h
   by_cases h2:f<0
   ·simp only[↓reduceIte,go_sem,zqj,zi4 t hl 1000 5 10 (by omega),zfb,h1,h2,zjl,zeroT,Te.cs,Lv.css,Te.css]
   by_cases h3:1000<f
   ·simp only[↓reduceIte,go_sem,zqj,zi4 t hl 1000 5 10 (by omega),zfb,h1,h2,h3,zjl,zeroT,Te.cs,Lv.css,Te.css]
   by_cases h4:b<0
   ·simp only[↓reduceIte,go_sem,zqj,zi4 t hl 1000 5 10 (by omega),zfb,h1,h2,h3,h4,zjl,zeroT,Te.cs,Lv.css,Te.css]
   have h5:1000<b:=by omega
   simp only[↓reduceIte,go_sem,zqj,zi4 t hl 1000 5 10 (by omega),zfb,h1,h2,h3,h4,h5,zjl,zeroT,Te.cs,Lv.css,Te.css]
  ·simp only[Bool.not_eq_true]at h1
   simp only[↓reduceIte,go_sem,zqj,zi4 t hl 1000 5 10 (by omega),zfb,h1,zjl,zeroT,Te.cs,Lv.css,Te.css]
 ·simp only[h,↓reduceIte]
  simp at h;have h2:¬ f<0:=by omega
  have h3:¬ 1000<f:=by omega
  have h4:¬ b<0:=by omega
  have h5:¬ 1000<b:=by omega
  have hL:=z61 5 10 t hl 1000 30 f b (zfp h.1) (by omega) (by omega) (by omega) (by omega)
  simp only[↓reduceIte,go_sem,zqj,zi4 t hl 1000 5 10 (by omega),zfb,h.1,h2,h3,h4,h5,hL,yaj _ (zyr b t hl f)]
theorem z7v(t u:Te)(hl:t.ok)(hu:u.ok)(H:List AO):F zmt [.agg t.cs,.agg u.cs] H=some (.ret (zjl (zlz t u)),H):=by
 rw[z5b,zlz];by_cases h:zcc t=false\/zcc u=false
 ·simp only[h,↓reduceIte]
  cases h1:zcc t with
  |true=>
   have h2:zcc u=false:=by simpa [h1] using h
   simp only[↓reduceIte,go_sem,zqj,zi4 t hl 1000 5 10 (by omega),zi4 u hu 1000 5 10 (by omega),zfb,h1,h2,zjl,zeroT,Te.cs,Lv.css,Te.css]
  |false=>simp only[↓reduceIte,go_sem,zqj,zi4 t hl 1000 5 10 (by omega),zfb,h1,zjl,zeroT,Te.cs,Lv.css,Te.css]
 ·simp only[h,↓reduceIte]
  simp at h;have hsu:=zfp h.2;have hg:Good (.fn (.func zin) [] [.ptr H.length 0]) (z8d u) 2000 (H++[.box u.cs]):=by
   intro X n δ hn hδ;simp only[zgr,List.cons_append,List.nil_append,zzd,List.append_assoc];have e0:((H++AO.box u.cs::X)[H.length]?)=some (.box u.cs):=by rw[z0m];rfl
   generalize H++AO.box u.cs::X=H' at *;have hL:=fun f hf=>z61 5 10 u hu 1000 30 0 f hsu (by omega) (by omega) (by omega) hf
   unfold z8d;by_cases h5:n=δ
   ·subst h5
    simp only[↓reduceIte,go_sem,e0,hL n (by omega)]
   ·by_cases h6:δ<n
    ·simp only[↓reduceIte,go_sem,e0,h5,h6,zam (n:=n - 1) (by omega) (by omega),zqn]
    ·simp only[↓reduceIte,go_sem,e0,h5,h6,zqn]
  have hT:=yai 5 10 (.fn (.func zin) [] [.ptr H.length 0]) rfl (z8d u) 2000 t hl 1000 30 0 (zfp h.1) (by omega) (by omega) (by omega) (by omega) _ hg
  rw[turn_open 5 10 u t 1000 30 0 (zfp h.1)]at hT;simp only[↓reduceIte,go_sem,zqj,zi4 t hl 1000 5 10 (by omega),zi4 u hu 1000 5 10 (by omega),zfb,h.1,h.2,hT,yaj _ (z4l u hu t hl 0)]
theorem eqT_ok(a b:List Te)(hlen:a.length<=140737488355328)(f:AV)(H:List AO)(hf:∀x∈a,∀y,cfl T f [.agg x.cs,.agg y.cs] H=some (.ret (.bool (teEq x y)),H)):
  F zc2 [.sl (Te.css a),.sl (Te.css b),f] H=some (.ret (.bool (tesEq a b)),H):=by
 have loop:a.length=b.length->∀(suf pre suf' pre':List Te),a=pre++suf->b=pre' ++ suf' -> pre.length=pre'.length ->
   zc0 H H (.sl (Te.css b)) f (.sl (Te.css a)) (.int .i64 a.length) (.int .i64 pre.length)=some (.ret (.bool (tesEq suf suf')),H):=by
  intro hll suf
  induction suf with
  |nil=>
   intro pre suf' pre' e e' he;subst e;subst e';have:suf' = []:=List.eq_nil_of_length_eq_zero (by simp at hll;omega)
   subst this;rw[zc0,zab];simp only[↓reduceIte,go_sem,tesEq]
  |cons x suf ih2=>
   intro pre suf' pre' e e' he;subst e;subst e';simp at hlen
   cases suf' with
   |nil=>simp at hll;omega
   |cons y suf'=>
   have hy:(pre' ++ y::suf')[pre.length]?=some y:=by rw[he];simp
   have:=ih2 (pre++[x]) suf' (pre' ++ [y]) (by simp) (by simp) (by simp[he])
   simp only[zaf]at this;rw[zc0,zab,tesEq];simp only[↓reduceIte,go_sem,hy,hf x (by simp) y,zac (n:=pre.length) (by omega),this]
   cases teEq x y <;> simp
 rw[zn3];by_cases h3:a.length=b.length
 ·have:=loop h3 a [] b [] rfl rfl rfl
  simp only[List.length_nil,Int.natCast_zero]at this;have h3':(a.length:Int)=b.length:=by omega
  simp only[↓reduceIte,go_sem,h3',not_true_eq_false];rw[<- h3',this]
 ·have h3':¬ (a.length:Int)=(b.length:Int):=by omega
  simp only[↓reduceIte,go_sem,h3',zuq h3]
theorem yar(a:Te):a.ok->∀(b:Te) (H:List AO),F zk4 [.agg a.cs,.agg b.cs] H=some (.ret (.bool (teEq a b)),H):=by
 induction a using Te.ind with
 |h k n ls ks ih=>
 intro hl b H;obtain⟨k',n',ls',ks'⟩:=b;have h1:=yke ls ls' hl.len2 (.fn (.func zhg) [] []) H (fun x hx y=>ygd x (hl.all2 x hx) y H)
 have h2:=eqT_ok ks ks' hl.len (.fn (.func zk4) [] []) H (fun x hx y=>ih x hx (hl.all x hx) y H)
 rw[z5a,teEq];simp only[↓reduceIte,go_sem,Te.cs,h1,h2]
 grind
end Go.Ab
end
section
set_option linter.unusedVariables false
set_option linter.unusedSimpArgs false
set_option maxRecDepth 100000
set_option maxHeartbeats 2000000
namespace Go.Ab
open Go.RowKit Go.Proofs
def mxE(a b:Int):Int:=if b > a then b else a
mutual
def subT(ps ms:List Lv):Te->Te
 |.mk k n ls ks=>.mk k n (ls.map fun l=>(zr9 l ps ms).1) (subTs ps ms ks)
def subTs(ps ms:List Lv):List Te->List Te
 |[]=>[]
 |x::r=>subT ps ms x::subTs ps ms r
end
mutual
def errT(ps ms:List Lv):Te->Int->Int
 |.mk _ _ ls ks,e=>errTs ps ms ks (errLs ps ms ls e)
def errTs(ps ms:List Lv):List Te->Int->Int
 |[],e=>e
 |x::r,e=>errTs ps ms r (errT ps ms x e)
def errLs(ps ms:List Lv):List Lv->Int->Int
 |[],e=>e
 |l::r,e=>errLs ps ms r (mxE e (zr9 l ps ms).2)
end
mutual
def okTm(ps ms:List Lv):Te->Bool
 |.mk _ _ ls ks=>(ls.all fun l=>decide ((zr9 l ps ms).2=0)) && okTms ps ms ks
def okTms(ps ms:List Lv):List Te->Bool
 |[]=>true
 |x::r=>okTm ps ms x && okTms ps ms r
end
theorem yiw(l:Lv)(ps ms:List Lv):(zr9 l ps ms).2=0\/(zr9 l ps ms).2=1\/(zr9 l ps ms).2=2:=by
 unfold zr9;split
 ·simp
 ·split <;> simp
theorem zxu(ps ms:List Lv):∀(ls:List Lv) (e:Int),0<=e->(0<=errLs ps ms ls e/\(errLs ps ms ls e=0 ↔ e=0/\(ls.all fun l=>decide ((zr9 l ps ms).2=0))=true))
 |[],e,h=>by simp[errLs,h]
 |l::r,e,h=>by
  have hs:=yiw l ps ms;have hm:0<=mxE e (zr9 l ps ms).2:=by unfold mxE;split <;> omega
  have hz:mxE e (zr9 l ps ms).2=0 ↔ e=0/\(zr9 l ps ms).2=0:=by unfold mxE;split <;> omega
  have:=zxu ps ms r _ hm;rw[errLs];refine⟨this.1,?_⟩;rw[this.2,hz];simp[and_assoc]
mutual
theorem errT_zero(ps ms:List Lv):∀(t:Te) (e:Int),0<=e->(0<=errT ps ms t e/\(errT ps ms t e=0 ↔ e=0/\okTm ps ms t=true))
 |.mk k n ls ks,e,h=>by
  have h1:=zxu ps ms ls e h;have h2:=errTs_zero ps ms ks _ h1.1;rw[errT,okTm];refine⟨h2.1,?_⟩;rw[h2.2,h1.2,Bool.and_eq_true,and_assoc]
theorem errTs_zero(ps ms:List Lv):∀(ks:List Te) (e:Int),0<=e->(0<=errTs ps ms ks e/\(errTs ps ms ks e=0 ↔ e=0/\okTms ps ms ks=true))
 |[],e,h=>by simp[errTs,okTms,h]
 |x::r,e,h=>by
  have h1:=errT_zero ps ms x e h;have h2:=errTs_zero ps ms r _ h1.1;rw[errTs,okTms];refine⟨h2.1,?_⟩;rw[h2.2,h1.2,Bool.and_eq_true,and_assoc]
end
theorem yiv{l:Lv}{ps ms:List Lv}(hl:l.ok)(hp:zsh ps)(hm:zsh ms):(zr9 l ps ms).1.ok:=by
 have hz:zeroL.ok:=.mk (by simp) (by intro x hx;cases hx)
 unfold zr9
 split
 ·exact hz
 ·split
  ·exact z37 hp hm l hl
  ·exact hz
theorem zt1(ps ms:List Lv):∀ks:List Te,subTs ps ms ks=ks.map (subT ps ms)
 |[]=>rfl
 |x::r=>by rw[subTs,zt1 ps ms r];rfl
theorem subT_ok{ps ms:List Lv}(hp:zsh ps)(hm:zsh ms)(t:Te):t.ok->(subT ps ms t).ok:=by
 induction t using Te.ind with
 |h k n ls ks ih=>
 intro hl;rw[subT,zt1];refine .mk (by simpa using hl.len) (by simpa using hl.len2) (fun x hx=>?_) (fun x hx=>?_)
 ·obtain⟨y,hy,rfl⟩:=List.mem_map.1 hx
  exact yiv (hl.all2 y hy) hp hm
 ·obtain⟨y,hy,rfl⟩:=List.mem_map.1 hx
  exact ih y hy (hl.all y hy)
def zpj(t:Te)(ps ms:List Lv):Te×Int :=
 if zcc t=false\/5<ps.length\/10<ms.length\/zbz ps=false\/zbz ms=false then (zeroT,1)
 else if okTm ps ms t=true then (subT ps ms t,0) else (zeroT,2)
theorem yiu{t:Te}{ps ms:List Lv}(ht:t.ok)(hp:zsh ps)(hm:zsh ms):(zpj t ps ms).1.ok:=by
 have hz:zeroT.ok:=.mk (by simp) (by simp) (by intro x hx;cases hx) (by intro x hx;cases hx)
 unfold zpj
 split
 ·exact hz
 ·split
  ·exact subT_ok hp hm t ht
  ·exact hz
open Classical in
theorem zpy{A X J:List AO}{o o':AO}{r:Res}(ho:LtO (A.length+(X.length+1)) o'):ze4 (A++(o::X)) r (A++(o' :: (X++J)))=if LtR (A++(o::X)).length r then some (r,A++(o' :: X)) else none:=by
 have e:A++(o' :: (X++J))=(A++(o::X)).set A.length o' ++ J:=by simp
 have hl:(A++(o::X)).length=A.length+(X.length+1):=by simp
 rw[e,z19 (by rw[hl];exact ho)]
 simp
open Classical in
theorem zfe{A X:List AO}{o o':AO}{r:Res}(ho:LtO (A.length+(X.length+1)) o'):ze4 (A++(o::X)) r (A++(o' :: X))=if LtR (A++(o::X)).length r then some (r,A++(o' :: X)) else none:=by
 have:=zpy (A:=A) (X:=X) (J:=[]) (o:=o) (o':=o') (r:=r) ho
 rwa [List.append_nil]at this
theorem putB_lt(n:Nat)(ps ms:List Lv)(e:Int):LtO n (.box [.sl (Lv.css ps),.sl (Lv.css ms),.int .i64 e]):=by
 intro a ha;simp at ha;rcases ha with rfl|rfl|rfl
 ·exact .sl fun a ha=>of_eq_true (z6z n ps) a ha
 ·exact .sl fun a ha=>of_eq_true (z6z n ms) a ha
 ·exact .int _ _
theorem ya8(ps ms:List Lv)(hp:zsh ps)(hm:zsh ms)(hpl:ps.length<=140737488355328)(hml:ms.length<=140737488355328)(p m:Int)(t:Te):t.ok->∀(v d:Int),rightT p m t v d=true->∀(A X:List AO) (e:Int),
  F zdy [.ptr A.length 0,.agg t.cs] (A++(.box [.sl (Lv.css ps),.sl (Lv.css ms),.int .i64 e]::X))=some (.ret (.agg (subT ps ms t).cs),A++(.box [.sl (Lv.css ps),.sl (Lv.css ms),.int .i64 (errT ps ms t e)]::X)):=by
 induction t using Te.ind with
 |h k n ls ks ih=>
 intro hl v d hr A X e;obtain⟨hd1,hk,hls,hn,hks⟩:=zf3 hr;have hk3:=zoz k;have hl5:ls.length<=5:=by
  unfold zl4 at hn
  split at hn
  ·simp at hn;simp[hn.2]
  ·split at hn
   ·simp at hn;omega
   ·split at hn
    ·simp at hn;exact hn.2
    ·simp at hn;simp[hn.2]
 have hf:=fun (o o':AO) r J (ho:LtO (A.length+(X.length+1)) o')=>zpy (A:=A) (X:=X) (J:=J) (o:=o) (o':=o') (r:=r) ho
 have loop1:∀(suf pre done:List Te) (e':Int),ks=pre++suf->done.length=pre.length ->
   zeg (A++(.box [.sl (Lv.css ps),.sl (Lv.css ms),.int .i64 e]::X)) (A++(.box [.sl (Lv.css ps),.sl (Lv.css ms),.int .i64 e']::(X++[.lst 0 3 [],.lst 0 4 [],.lst ls.length 3 (Lv.css (ls.map fun l=>(zr9 l ps ms).1)),.lst done.length 4 (Te.css done),.lst 0 3 [],.lst 0 4 []])))
    (.ptr A.length 0) (.sl (Te.css ks)) (.int .i64 ks.length) (.int .i64 pre.length) [.int .i64 0,.int .i64 0,.ol (A.length+(X.length+1)) 0,.ol (A.length+(X.length+2)) 0] [.int .i64 k,.int .i64 n,.ol (A.length+(X.length+3)) ls.length,.ol (A.length+(X.length+4)) done.length] =
   some (.ret (.agg (Te.mk k n (ls.map fun l=>(zr9 l ps ms).1) (done++subTs ps ms suf)).cs),A++(.box [.sl (Lv.css ps),.sl (Lv.css ms),.int .i64 (errTs ps ms suf e')]::X)):=by
  intro suf
  induction suf with
  |nil=>
   intro pre done e' eq he;subst eq;rw[zeg,zab];simp only[↓reduceIte,go_sem,subTs,Te.cs,errTs,hf,putB_lt,Nat.add_le_add_iff_left,Nat.reduceLeDiff]
  |cons x suf ih2=>
   intro pre done e' eq he;subst eq;simp at hk;have:=ih2 (pre++[x]) (done++[subT ps ms x]) (errT ps ms x e') (by simp) (by simp[he])
   simp only[zaf]at this;simp only[zf6,List.append_assoc,List.cons_append,List.nil_append]at this;have hdl:done.length<=1073741823:=by omega
   rw[zeg,zab,subTs,errTs];simp only[↓reduceIte,go_sem,ih x (by simp) (hl.all x (by simp)) _ _ (zk9 hks),zac (n:=pre.length) (by omega),hdl,this]
 have loop0:∀(suf pre:List Lv) (e':Int),ls=pre++suf ->
   zeh (A++(.box [.sl (Lv.css ps),.sl (Lv.css ms),.int .i64 e]::X)) (A++(.box [.sl (Lv.css ps),.sl (Lv.css ms),.int .i64 e']::(X++[.lst 0 3 [],.lst 0 4 [],.lst pre.length 3 (Lv.css (pre.map fun l=>(zr9 l ps ms).1)),.lst 0 4 [],.lst 0 3 [],.lst 0 4 []])))
    (.ptr A.length 0) (.sl (Lv.css ls)) (.int .i64 ls.length) (.int .i64 pre.length) [.int .i64 k,.int .i64 n,.sl (Lv.css ls),.sl (Te.css ks)] [.int .i64 0,.int .i64 0,.ol (A.length+(X.length+1)) 0,.ol (A.length+(X.length+2)) 0] [.int .i64 k,.int .i64 n,.ol (A.length+(X.length+3)) pre.length,.ol (A.length+(X.length+4)) 0] =
   some (.ret (.agg (Te.mk k n (ls.map fun l=>(zr9 l ps ms).1) (subTs ps ms ks)).cs),A++(.box [.sl (Lv.css ps),.sl (Lv.css ms),.int .i64 (errTs ps ms ks (errLs ps ms suf e'))]::X)):=by
  intro suf
  induction suf with
  |nil=>
   intro pre e' eq;subst eq;rw[List.append_nil]at *;have h1:=loop1 ks [] [] e' rfl rfl;simp only[List.length_nil,Int.natCast_zero,List.nil_append,Te.css]at h1;rw[zeh,zab];simp only[↓reduceIte,go_sem,errLs,h1]
  |cons l suf ih2=>
   intro pre e' eq;subst eq;simp at hl5;have:=ih2 (pre++[l]) (mxE e' (zr9 l ps ms).2) (by simp)
   simp only[zaf]at this;simp only[zf6,List.map_append,List.map_cons,List.map_nil]at this;have hs:=fun H=>Sub_ok l ps ms (hl.all2 l (by simp)) hp hm hpl hml H
   simp only[z4g]at hs;rw[zeh,zab,errLs];simp only[↓reduceIte,go_sem,hs,zac (n:=pre.length) (by omega),zug,List.length_map,show pre.length+(0+1)<=1073741824 by omega]
   unfold mxE at this ⊢;rw[this];simp only[List.map_append,List.map_cons]
 have h0:=loop0 ls [] e rfl;simp only[List.length_nil,Int.natCast_zero,List.map_nil,Lv.css]at h0;rw[zrt,subT,errT];simp only[↓reduceIte,go_sem,Te.cs];exact h0
theorem yfx(l:Lv)(hl:l.ok)(H:List AO):F zpn [.agg l.cs] H=some (.ret (.bool (!zax l 5 10)),H):=by
 rw[z8r];simp only[↓reduceIte,go_sem,zgt l hl]
theorem z3s(t:Te):zc6 t 1000 5 10=zcc t:=rfl
theorem TSub_ok(t:Te)(ps ms:List Lv)(ht:t.ok)(hp:zsh ps)(hm:zsh ms)(hpl:ps.length<=140737488355328)(hml:ms.length<=140737488355328)(H:List AO):
  F zq3 [.agg t.cs,.sl (Lv.css ps),.sl (Lv.css ms)] H=some (.ret (zjl (zpj t ps ms)),H):=by
 have h1:=fun H=>zk0 t ht 1000 5 10 H
 simp only[z3s]at h1;rw[z8t,zpj];by_cases hr:zcc t=true
 ·by_cases a1:5<ps.length
  ·have a1':(5:Int)<ps.length:=by omega
   simp only[↓reduceIte,go_sem,h1,hr,a1,a1',zjl,zeroT,Te.cs,Lv.css,Te.css,Bool.true_eq_false,false_or,true_or]
  by_cases a2:10<ms.length
  ·have a1':¬ (5:Int)<ps.length:=by omega
   have a2':(10:Int)<ms.length:=by omega
   simp only[↓reduceIte,go_sem,h1,hr,a1,a1',a2,a2',zjl,zeroT,Te.cs,Lv.css,Te.css,Bool.true_eq_false,false_or,true_or]
  have a1':¬ (5:Int)<ps.length:=by omega
  have a2':¬ (10:Int)<ms.length:=by omega
  have hc:=z3c [ps,ms] (by simp) (by simp;omega) H
  simp only[sls,List.map_cons,List.map_nil,List.flatten_cons,List.flatten_nil,List.append_nil]at hc;have ha:=z0n (ps++ms) (by simp;omega) (.fn (.func zpn) [] []) (fun x=>!zax x 5 10) H (fun x hx=>by
   simp only[yef];exact yfx x (by rcases List.mem_append.1 hx with h|h;exact hp x h;exact hm x h) _)
  rw[<- List.not_all_eq_any_not,List.all_append]at ha;rw[show (ps.all fun x=>zax x 5 10)=zbz ps from rfl,show (ms.all fun x=>zax x 5 10)=zbz ms from rfl]at ha
  by_cases hb:(zbz ps && zbz ms)=true
  ·have hb2:=hb
   rw[Bool.and_eq_true]at hb2;have hq:=ya8 ps ms hp hm hpl hml 5 10 t ht 1000 30 (zfp hr) H [] 0;have hz:=errT_zero ps ms t 0 (by omega)
   simp only[hb]at ha;by_cases b3:okTm ps ms t=true
   ·have b4:errT ps ms t 0=0:=hz.2.2 ⟨rfl,b3⟩
    rw[b4]at hq;simp only[↓reduceIte,go_sem,h1,hr,a1,a1',a2,a2',hb2.1,hb2.2,hc,ha,hq,b3,zjl,zeroT,Te.cs,Lv.css,Te.css,Bool.true_eq_false,Bool.false_eq_true,or_self,true_or,false_or]
   ·have b4:¬ errT ps ms t 0=0:=fun h=>b3 (hz.2.1 h).2
    simp only[Bool.not_eq_true]at b3;simp only[↓reduceIte,go_sem,h1,hr,a1,a1',a2,a2',hb2.1,hb2.2,hc,ha,hq,b3,b4,zjl,zeroT,Te.cs,Lv.css,Te.css,Bool.true_eq_false,Bool.false_eq_true,or_self,true_or,false_or]
  ·have hb':zbz ps=false\/zbz ms=false:=by
    cases h1:zbz ps <;> cases h2:zbz ms <;> simp_all
   simp only[Bool.not_eq_true]at hb;simp only[hb]at ha;simp only[↓reduceIte,go_sem,h1,hr,a1,a1',a2,a2',hb',hc,ha,zjl,zeroT,Te.cs,Lv.css,Te.css,Bool.true_eq_false,or_self,true_or,or_true,false_or]
 ·simp only[Bool.not_eq_true]at hr
  simp only[↓reduceIte,go_sem,h1,hr,zjl,zeroT,Te.cs,Lv.css,Te.css,true_or]
theorem zw6(xs:List Lv)(hlen:xs.length<=140737488355328)(hx:zsh xs)(H:List AO):F zis [.sl (Lv.css xs)] H=some (.ret (.bool (zbz xs)),H):=by
 have loop:∀(suf pre:List Lv),xs=pre++suf->zh5 H H (.sl (Lv.css xs)) (.int .i64 pre.length)=some (.ret (.bool (zbz suf)),H):=by
  intro suf
  induction suf with
  |nil=>
   intro pre e;subst e;rw[zh5,zab];simp only[↓reduceIte,go_sem,zbz,List.all_nil]
  |cons x suf ih=>
   intro pre e;subst e;simp at hlen;have:=ih (pre++[x]) (by simp)
   simp only[zaf]at this;have hr:=zd0 x (hx x (by simp)) 5 10 H
   rw[zh5,zab];unfold zbz at *;rw[List.all_cons]
   cases h:zax x 5 10 <;> simp only[h]at hr <;> simp only[↓reduceIte,go_sem,hr,zac (n:=pre.length) (by omega),this,Bool.true_and,Bool.false_and]
 have:=loop xs [] rfl;simp only[List.length_nil,Int.natCast_zero]at this;rw[zzj];simp only[↓reduceIte,go_sem,this]
def yjg(ps ms:List Lv)(t:Te):AV:=.tup [.agg (if okTm ps ms t=true then subT ps ms t else zeroT).cs,.bool (okTm ps ms t)]
theorem yf3(ps ms:List Lv)(hp:zsh ps)(hm:zsh ms)(hpl:ps.length<=140737488355328)(hml:ms.length<=140737488355328)(p m:Int)(t:Te):t.ok->∀(v d:Int),rightT p m t v d=true->∀(H:List AO),
  F zmz [.agg t.cs,.sl (Lv.css ps),.sl (Lv.css ms)] H=some (.ret (yjg ps ms t),H):=by
 induction t using Te.ind with
 |h k n ls ks ih=>
 intro hl v d hr H;obtain⟨hd1,hk,hls,hn,hks⟩:=zf3 hr;have hk3:=zoz k;have hl5:ls.length<=5:=by
  unfold zl4 at hn
  split at hn
  ·simp at hn;simp[hn.2]
  ·split at hn
   ·simp at hn;omega
   ·split at hn
    ·simp at hn;exact hn.2
    ·simp at hn;simp[hn.2]
 have loop1:(ls.all fun l=>decide ((zr9 l ps ms).2=0))=true->∀(suf pre done:List Te),ks=pre++suf->done.length=pre.length->(okTms ps ms ks=true->done=subTs ps ms pre)->okTms ps ms ks=okTms ps ms suf ->
   zki H (H++[.lst 0 3 [],.lst 0 4 [],.lst ls.length 3 (Lv.css (ls.map fun l=>(zr9 l ps ms).1)),.lst done.length 4 (Te.css done),.lst 0 3 [],.lst 0 4 []])
    (.sl (Lv.css ps)) (.sl (Lv.css ms)) (.int .i64 pre.length) [.int .i64 k,.int .i64 n,.sl (Lv.css ls),.sl (Te.css ks)] [.int .i64 0,.int .i64 0,.ol H.length 0,.ol (H.length+1) 0] [.int .i64 k,.int .i64 n,.ol (H.length+2) ls.length,.ol (H.length+3) done.length] =
   some (.ret (yjg ps ms (.mk k n ls ks)),H):=by
  intro hls0 suf
  induction suf with
  |nil=>
   intro pre done eq he hdn hok;subst eq;rw[List.append_nil]at *;have h1:okTms ps ms pre=true:=hok;have h2:okTm ps ms (.mk k n ls pre)=true:=by rw[okTm,hls0,h1];rfl
   rw[zki,zab];unfold yjg;rw[h2,if_pos rfl,subT,<- hdn h1];simp only[↓reduceIte,go_sem,Te.cs]
  |cons x suf ih2=>
   intro pre done eq he hdn hok;subst eq;simp at hk;have hx:=ih x (by simp) (hl.all x (by simp)) _ _ (zk9 hks)
   unfold yjg at hx;have hdl:done.length<=1073741823:=by omega
   rw[zki,zab];rw[okTms]at hok
   cases hxk:okTm ps ms x with
   |true=>
    rw[hxk,Bool.true_and]at hok;have:=ih2 (pre++[x]) (done++[subT ps ms x]) (by simp) (by simp[he]) (fun h=>by rw[hdn h];simp[zt1]) hok
    simp only[zaf]at this;simp only[zf6,List.append_assoc,List.cons_append,List.nil_append]at this;simp only[hxk]at hx;simp only[↓reduceIte,go_sem,hx,zac (n:=pre.length) (by omega),hdl,yak,this]
   |false=>
    rw[hxk,Bool.false_and]at hok;simp only[hxk]at hx;have h2:okTm ps ms (.mk k n ls (pre++x::suf))=false:=by rw[okTm,hok];simp
    unfold yjg;rw[h2];simp only[↓reduceIte,go_sem,hx,zeroT,Te.cs,Lv.css,Te.css,Bool.false_eq_true,Nat.add_le_add_iff_left,Nat.reduceLeDiff]
 have loop0:∀(suf pre:List Lv),ls=pre++suf->(ls.all fun l=>decide ((zr9 l ps ms).2=0))=(suf.all fun l=>decide ((zr9 l ps ms).2=0)) ->
   zkj H (H++[.lst 0 3 [],.lst 0 4 [],.lst pre.length 3 (Lv.css (pre.map fun l=>(zr9 l ps ms).1)),.lst 0 4 [],.lst 0 3 [],.lst 0 4 []])
    (.sl (Lv.css ps)) (.sl (Lv.css ms)) (.int .i64 pre.length) [.int .i64 k,.int .i64 n,.sl (Lv.css ls),.sl (Te.css ks)] [.int .i64 0,.int .i64 0,.ol H.length 0,.ol (H.length+1) 0] [.int .i64 k,.int .i64 n,.ol (H.length+2) pre.length,.ol (H.length+3) 0] =
   some (.ret (yjg ps ms (.mk k n ls ks)),H):=by
  intro suf
  induction suf with
  |nil=>
   intro pre eq hall;subst eq;rw[List.append_nil]at *;have h1:=loop1 (by rw[hall];rfl) ks [] [] rfl rfl (fun _=>rfl) rfl
   simp only[List.length_nil,Int.natCast_zero,Te.css]at h1;rw[zkj,zab];simp only[↓reduceIte,go_sem,h1]
  |cons l suf ih2=>
   intro pre eq hall;subst eq;simp at hl5;have hs:=fun H=>yix l ps ms (hl.all2 l (by simp)) hp hm hpl hml H
   simp only[z4g]at hs;rw[zkj,zab];by_cases h0:(zr9 l ps ms).2=0
   ·have:=ih2 (pre++[l]) (by simp) (by rw[hall];simp[h0])
    simp only[zaf]at this;simp only[zf6,List.map_append,List.map_cons,List.map_nil]at this;simp only[↓reduceIte,go_sem,hs,h0,zac (n:=pre.length) (by omega),zug,List.length_map,show pre.length+(0+1)<=1073741824 by omega]
    exact this
   ·have h2:okTm ps ms (.mk k n (pre++l::suf) ks)=false:=by rw[okTm,hall];simp[h0]
    unfold yjg;rw[h2];simp only[↓reduceIte,go_sem,hs,h0,zeroT,Te.cs,Lv.css,Te.css,Bool.false_eq_true,Nat.add_le_add_iff_left,Nat.reduceLeDiff]
 have h0:=loop0 ls [] rfl rfl;simp only[List.length_nil,Int.natCast_zero,List.map_nil,Lv.css]at h0;rw[z5f];simp only[↓reduceIte,go_sem,Te.cs];exact h0
theorem zwa(t:Te)(ps ms:List Lv)(ht:t.ok)(hp:zsh ps)(hm:zsh ms)(hpl:ps.length<=140737488355328)(hml:ms.length<=140737488355328)(H:List AO):
  F zor [.agg t.cs,.sl (Lv.css ps),.sl (Lv.css ms)] H=some (.ret (zjl (zpj t ps ms)),H):=by
 have h1:=fun H=>zdb t ht H
 have h2:=zw6 ps hpl hp H;have h3:=zw6 ms hml hm H;rw[z5g,zpj];by_cases hr:zcc t=true
 ·by_cases a1:5<ps.length
  ·have a1':(5:Int)<ps.length:=by omega
   simp only[↓reduceIte,go_sem,h1,hr,a1,a1',zjl,zeroT,Te.cs,Lv.css,Te.css,Bool.true_eq_false,false_or,true_or]
  by_cases a2:10<ms.length
  ·have a1':¬ (5:Int)<ps.length:=by omega
   have a2':(10:Int)<ms.length:=by omega
   simp only[↓reduceIte,go_sem,h1,hr,a1,a1',a2,a2',zjl,zeroT,Te.cs,Lv.css,Te.css,Bool.true_eq_false,false_or,true_or]
  have a1':¬ (5:Int)<ps.length:=by omega
  have a2':¬ (10:Int)<ms.length:=by omega
  cases b1:zbz ps with
  |false=>simp only[↓reduceIte,go_sem,h1,h2,hr,a1,a1',a2,a2',b1,zjl,zeroT,Te.cs,Lv.css,Te.css,Bool.true_eq_false,false_or,true_or]
  |true=>
  cases b2:zbz ms with
  |false=>simp only[↓reduceIte,go_sem,h1,h2,h3,hr,a1,a1',a2,a2',b1,b2,zjl,zeroT,Te.cs,Lv.css,Te.css,Bool.true_eq_false,false_or,true_or]
  |true=>
  have h4:=yf3 ps ms hp hm hpl hml 5 10 t ht 1000 30 (zfp hr) H;unfold yjg at h4;by_cases b3:okTm ps ms t=true
  ·simp only[b3,if_true]at h4
   simp only[↓reduceIte,go_sem,h1,h2,h3,h4,hr,a1,a1',a2,a2',b1,b2,b3,zjl,zeroT,Te.cs,Lv.css,Te.css,Bool.true_eq_false,Bool.false_eq_true,or_self,true_or]
  ·simp only[Bool.not_eq_true]at b3
   simp only[b3,Bool.false_eq_true,if_false]at h4;simp only[↓reduceIte,go_sem,h1,h2,h3,h4,hr,a1,a1',a2,a2',b1,b2,b3,zjl,zeroT,Te.cs,Lv.css,Te.css,Bool.true_eq_false,Bool.false_eq_true,or_self,true_or]
 ·simp only[Bool.not_eq_true]at hr
  simp only[↓reduceIte,go_sem,h1,hr,zjl,zeroT,Te.cs,Lv.css,Te.css,true_or]
end Go.Ab
end
section
set_option linter.unusedVariables false
set_option linter.unusedSimpArgs false
set_option maxRecDepth 100000
set_option maxHeartbeats 2000000
namespace Go.Ab
open Go.RowKit Go.Proofs
mutual
def subs:Te->List Te
 |.mk k n ls ks=>.mk k n ls ks::subss ks
def subss:List Te->List Te
 |[]=>[]
 |x::r=>subs x++subss r
end
abbrev yh1(t:Te):List AV:=[.agg t.cs]
def ykq(t:Te):AV:=.fn (.func zij) [] [.fp t.cs]
theorem z52(t:Te)(H:List AO):F zpo [.agg t.cs] H=some (.ret (ykq t),H):=by
 rw[z8s]
 cases t with
 |mk k n ls ks=>
 have h:Lt H.length (.fn (.func zij) [] [.fp [.int .i64 k,.int .i64 n,.sl (Lv.css ls),.sl (Te.css ks)]])=True:=by
  simp only[eq_iff_iff,iff_true];refine .fn (by simp) ?_
  intro x hx;simp at hx;subst hx;exact .fp (zs7 H.length (.mk k n ls ks))
 simp only[↓reduceIte,go_sem,ykq,Te.cs,h]
def zsd(y:AV)(st:LSt):AO:=.slp st 25 [(2,.fp [y])] [19] zea zd7
theorem all_ys{S E:Type}{y:AV}{m:Nat}{W:S->List AO}{WE:E->List AO}{stp:S->Te->Option (S ⊕ E)}(hy:Ys y m yh1 W WE stp)(V:List AO):
  Ys (.yd (m+V.length)) (m+V.length+1) yh1 (fun s=>W s++(V++[zsd y .ready])) (fun e=>WE e++(V++[zsd y (.done .ret)])) stp:=by
 have hhp:∀r:S ⊕ E,hp (fun s=>W s++(V++[zsd y .ready])) (fun e=>WE e++(V++[zsd y (.done .ret)])) r=hp W WE r++(V++[zsd y (if isL r=true then .ready else .done .ret)]):=fun r=>by cases r <;> rfl
 refine⟨rfl,.yd (by omega),?_,?_,?_⟩
 ·intro r
  have:=hy.len r;rw[hhp];simp;omega
 ·intro s r id o ho
  have l1:=hy.len (.inl s);have l2:=hy.len r;have l1:(W s).length=m:=l1;rw[hhp]at ho;by_cases h1:id<m
  ·rw[List.getElem?_append_left (by omega)]at ho
   rcases hy.fr s r id o ho with k|k
   ·exact .inl (by rw[List.getElem?_append_left (by omega)];exact k)
   ·exact .inr (k.mono (by omega))
  ·rw[List.getElem?_append_right (by omega)]at ho
   rw[List.getElem?_append_right (by omega),l1,<- l2]
   by_cases h2:id - (hp W WE r).length<V.length
   ·rw[List.getElem?_append_left h2]at ho ⊢;exact .inl ho
   ·rw[List.getElem?_append_right (by omega)]at ho
    cases h3:id - (hp W WE r).length - V.length with
    |zero=>
     rw[h3]at ho;simp at ho;subst ho;refine .inr fun p hp=>?_
     simp at hp;subst hp;exact .fp (by intro a ha;simp at ha;subst ha;exact hy.lt.mono (by omega))
    |succ j=>rw[h3]at ho;simp at ho
 ·intro s x Z r hst
  rw[hhp];have hl:(W s).length=m:=hy.len (.inl s);have hl2:=hy.len r;have hfr:∀(id:Nat) (o:AO),(hp W WE r)[id]?=some o->(W s)[id]?=some o\/LtO (W s).length o:=by rw[hl];exact hy.fr s r
  have hc:=hy.call s x (V++zsd y .busy::Z) r hst;have hlt:∀(st:LSt),LtO (W s++(V++zsd y .ready::Z)).length (zsd y st):=fun st p hp=>by
   simp at hp;subst hp;exact .fp (by intro a ha;simp at ha;subst ha;exact hy.lt.mono (by simp;omega))
  have g1:(W s++(V++zsd y .ready::Z))[m+V.length]?=some (zsd y .ready):=by rw[<- hl];exact ybq
  have s1:(W s++(V++zsd y .ready::Z)).set (m+V.length) (zsd y .busy)=W s++(V++zsd y .busy::Z):=by rw[<- hl];exact ybp
  have g2:(hp W WE r++(V++zsd y .busy::Z))[m+V.length]?=some (zsd y .busy):=by rw[<- hl2];exact ybq
  have s2:∀st,(hp W WE r++(V++zsd y .busy::Z)).set (m+V.length) (zsd y st)=hp W WE r++(V++zsd y st::Z):=fun st=>by rw[<- hl2];exact ybp
  have e1:∀st b,zsa (W s++(V++zsd y .ready::Z)) (m+V.length) st b (hp W WE r++(V++zsd y .busy::Z))=some (.ret (.bool b),hp W WE r++(V++zsd y st::Z)):=fun st b=>by
   have:=z57 (H:=W s++(V++zsd y .ready::Z)) (st:=st) (b:=b) g2;rw[this];show ze4 _ _ ((hp W WE r++(V++zsd y .busy::Z)).set (m+V.length) (zsd y st))=_;rw[s2 st];exact yhr (by rw[hl2,hl]) hfr (hlt st) (.bool _)
  simp only[List.append_assoc,List.cons_append,List.nil_append];rw[ykh g1 rfl ztt ztr];unfold zsd at g1 s1 hc e1;unfold zsd
  cases x with
  |mk xk xn xls xks=>
  simp only[yh1,Te.cs]at hc ⊢
  cases h:isL r with
  |true=>simp only[↓reduceIte,go_sem,g1,s1,hc,h,e1]
  |false=>simp only[↓reduceIte,go_sem,g1,s1,hc,h,e1]
theorem all_seq(t:Te):t.ok->yfd (ykq t) yh1 (subs t):=by
 induction t using Te.ind with
 |h k n ls ks ih=>
 intro hl S E y m W WE stp hy s X r hr;rw[ykq];simp only[zgr,List.cons_append,List.nil_append];have hlen:=hl.len;have hone:=hy.one;have hcell:y.cells=[y]:=by cases y <;> first|rfl|(simp[AV.one]at hone)
 unfold AV.cells at hcell;unfold AV.one at hone;have loop:∀(suf pre:List Te) (a:S),ks=pre++suf->zl0 stp (subss suf) a=some r ->
   zi8 (W s++X) (W a++(X++jk pre.length)) (dsl (m+X.length) pre.length) (.fp [y]) (.sl (Te.css ks)) (.int .i64 ks.length) (.int .i64 pre.length)=some (.ret (.tup []),hp W WE r++X):=by
  intro suf
  induction suf with
  |nil=>
   intro pre a e hq2;subst e;simp only[subss,zl0]at hq2;cases hq2;rw[zi8,zab];simp only[↓reduceIte,go_sem];exact ydo hy s (.inl a) X pre.length (.inl rfl) _ _
  |cons x suf ih2=>
   intro pre a e hq2;subst e;simp at hlen;have lA:(W a).length=m:=hy.len (.inl a);have hn:(W a++(X++jk pre.length)).length=m+(X.length+2*pre.length):=by simp[lA,zo0]
   have hd:yft (W a++(X++jk pre.length)) (dsl (m+X.length) pre.length)=true:=by
    have:=ydz (W a++X) pre.length [];simpa [lA] using this
   have hrd:yfs (W a++(X++jk pre.length)) (dsl (m+X.length) pre.length)=false:=by
    have:=inRd_jk (W a++X) pre.length [];simpa [lA] using this
   rw[subss,zy2]at hq2;obtain⟨q,hq⟩:∃q,zl0 stp (subs x) a=some q:=by
    cases h:zl0 stp (subs x) a with
    |none=>rw[h]at hq2;cases hq2
    |some q=>exact⟨q,rfl⟩
   rw[hq]at hq2;have hx:=ih x (by simp) (hl.all x (by simp)) _ _ _ _ _ _ _ (all_ys hy (X++(jk pre.length++[.dfr]))) a [] q hq
   have lA':=hy.len q;simp only[ykq,zgr,List.append_nil,List.append_assoc,List.cons_append,List.nil_append,List.length_append,zo0,List.length_cons,List.length_nil,zsd]at hx;have hds:(m+(X.length+2*pre.length))::dsl (m+X.length) pre.length=dsl (m+X.length) (pre.length+1):=by rw[dsl];congr 1;omega
   have hg:∀st,(hp W WE q++(X++(jk pre.length++[AO.dfr,AO.slp st 25 [(2,.fp [y])] [19] zea zd7])))[m+(X.length+(2*pre.length+1))]?=some (AO.slp st 25 [(2,.fp [y])] [19] zea zd7):=by
    intro st;rw[<- lA',List.getElem?_append_right (by omega),List.getElem?_append_right (by omega),List.getElem?_append_right (by rw[zo0];omega),zo0]
    rw[show (hp W WE q).length+(X.length+(2*pre.length+1)) - (hp W WE q).length - X.length - 2*pre.length=1 by omega]
    rfl
   have hs:∀st,(hp W WE q++(X++(jk pre.length++[AO.dfr,AO.slp st 25 [(2,.fp [y])] [19] zea zd7]))).set (m+(X.length+(2*pre.length+1))) .dead=hp W WE q++(X++jk (pre.length+1)):=by
    intro st;rw[<- lA',List.set_append_right _ _ (by omega),List.set_append_right _ _ (by omega),List.set_append_right _ _ (by rw[zo0];omega),zo0]
    rw[show (hp W WE q).length+(X.length+(2*pre.length+1)) - (hp W WE q).length - X.length - 2*pre.length=1 by omega]
    rfl
   rw[zi8,zab]
   cases q with
   |inl a'=>
    have:=ih2 (pre++[x]) a' (by simp) hq2
    simp only[zaf,zf6,Int.natCast_add,Int.natCast_one]at this;simp only[ze3]at hx hg hs;rw[<- this];simp only[↓reduceIte,go_sem,z52,ykq,hn,hd,hrd,hx,hg,hs,hds,zac (n:=pre.length) (by omega)]
   |inr e=>
    dsimp only at hq2;cases hq2;have:=fun t ls=>ydo hy s (.inr e) X (pre.length+1) (o:=.ret) (.inr rfl) t ls
    simp only[zqf]at hx hg hs this ⊢;simp only[↓reduceIte,go_sem,z52,ykq,hn,hd,hrd,hx,hg,hs,hds,this]
 rw[show subs (.mk k n ls ks) = .mk k n ls ks::subss ks by rw[subs],zl0]at hr
 obtain⟨q,hq⟩:∃q,stp s (.mk k n ls ks)=some q:=by
  cases h:stp s (.mk k n ls ks) with
  |none=>rw[h]at hr;cases hr
  |some q=>exact⟨q,rfl⟩
 have hc:=hy.call s _ X q hq;rw[hq]at hr;simp only[yh1,Te.cs]at hc;show F zij _ _=_;rw[z2d]
 cases q with
 |inl a=>
  have h0:=loop ks [] a rfl hr;simp only[List.length_nil,Int.natCast_zero,jk,dsl,List.append_nil]at h0;rw[<- h0];simp only[ze3]at hc;simp only[↓reduceIte,go_sem,Te.cs,hone,hcell,hc,isL]
 |inr e=>
  dsimp only at hr;cases hr;simp only[zqf]at hc;have l1:(W s).length=m:=hy.len (.inl s);have l2:(WE e).length=m:=hy.len (.inr e);have hf:=zy6 (H:=W s) (A:=WE e) (X:=X) (J:=[]) (r:=.ret (.tup [])) (by rw[l2];exact l1.symm) (by rw[l1];exact hy.fr s (.inr e)) (show Lt _ _ from .tup (by simp))
  rw[List.append_nil]at hf;simp only[↓reduceIte,go_sem,Te.cs,hone,hcell,hc,isL];exact hf
def zxl(L:List Int):List (AV×AV):=L.map fun n=>(.int .i64 n,.agg [])
@[go_sem] theorem ydc:∀L:List Int,zmh .i64 (zxl L)=true
 |[]=>rfl
 |n::r=>by show zmh .i64 ((.int .i64 n,.agg [])::zxl r)=true;simp only[zmh,if_pos,ydc r]
@[go_sem] theorem ydd(n:Int):∀L:List Int,zgq n (zxl L)=some (if L.contains n then some (.agg []) else none)
 |[]=>rfl
 |m::r=>by
  show zgq n ((.int .i64 m,.agg [])::zxl r)=_;rw[zgq,ydd n r];by_cases h:n=m
  ·subst h;simp
  ·simp[h]
@[go_sem] theorem yhi:zxl []=[]:=rfl
theorem yda(L:List Int)(n:Int):zxl L++[(.int .i64 n,.agg [])]=zxl (L++[n]):=by simp[zxl]
theorem ydb(n:Nat)(L:List Int):LtO n (.mapo (zxl L)):=by
 constructor
 ·intro p hp;obtain⟨x,_,rfl⟩:=List.mem_map.1 hp;exact .int _ _
 ·intro p hp;obtain⟨x,_,rfl⟩:=List.mem_map.1 hp;exact .agg (by simp)
def zp5:Nat×List Int->List Int->Nat×List Int
 |p,[]=>p
 |p,n::r=>zp5 (if p.2.contains n then p else (p.1+1,p.2++[n])) r
theorem z1p:∀(xs:List Int) (p:Nat×List Int),(zp5 p xs).2=zfm p.2 xs
 |[],p=>rfl
 |n::r,p=>by
  rw[zp5,zfm,z1p r];by_cases h:p.2.contains n=true
  ·rw[if_pos h,if_pos h]
  ·rw[if_neg h,if_neg h]
theorem zpx{H H':List AO}{r:Res}(hl:H'.length=H.length)(hr:LtR H.length r)(h:∀(id:Nat) (o:AO),H'[id]?=some o->H[id]?=some o\/LtO H.length o):ze4 H r H' = some (r,H'):=by
 unfold ze4;rw[if_pos ⟨hr,fun id o ho _=>h id o ho⟩,<- hl,List.take_length]
theorem z45{H H':List AO}{r:Res}(J:List AO)(hl:H'.length=H.length)(hr:LtR H.length r)(h:∀(id:Nat) (o:AO),H'[id]?=some o->H[id]?=some o\/LtO H.length o):ze4 H r (H' ++ J)=some (r,H'):=by
 unfold ze4;rw[if_pos ⟨hr,fun id o ho hi=>h id o (by rwa [List.getElem?_append_left (by omega)]at ho)⟩,List.take_left' hl]
theorem yev{A Z:List AO}{o1 o1' b o2 o2':AO}{n:Nat}(h1:LtO n o1')(h2:LtO n o2'):∀(id:Nat) (o:AO),(A++(o1' :: b::o2' :: Z))[id]?=some o->(A++(o1::b::o2::Z))[id]?=some o\/LtO n o:=by
 intro id o ho;by_cases hi:id<A.length
 ·rw[List.getElem?_append_left hi]at ho ⊢;exact .inl ho
 rw[List.getElem?_append_right (by omega)]at ho ⊢
 match id - A.length,ho with
 |0,ho=>simp at ho;subst ho;exact .inr h1
 |1,ho=>simp at ho;subst ho;exact .inl (by simp)
 |2,ho=>simp at ho;subst ho;exact .inr h2
 |j+3,ho=>simp at ho;exact .inl (by simpa using ho)
theorem ygx(b:AO)(xs:List Int)(hx:xs.length<=140737488355328)(A Z:List AO)(ver:Nat)(es:List Int)(hs:es.length+xs.length<=1073741824):
  F zoj [.ol A.length ver,.mp (A.length+2),.sl (zaq xs)] (A++(.lst ver 1 (zaq es)::b :: .mapo (zxl es)::Z)) =
   some (.ret (.ol A.length (zp5 (ver,es) xs).1),A++(.lst (zp5 (ver,es) xs).1 1 (zaq (zp5 (ver,es) xs).2)::b :: .mapo (zxl (zp5 (ver,es) xs).2)::Z)):=by
 have hf:∀(v v2:Nat) (es':List Int),ze4 (A++(.lst ver 1 (zaq es)::b :: .mapo (zxl es)::Z)) (.ret (.ol A.length v2)) (A++(.lst v 1 (zaq es')::b :: .mapo (zxl es')::(Z++[.lst 0 1 []])))=some (.ret (.ol A.length v2),A++(.lst v 1 (zaq es')::b :: .mapo (zxl es')::Z)):=by
  intro v v2 es';have:=z45 (H:=A++(.lst ver 1 (zaq es)::b :: .mapo (zxl es)::Z)) (H':=A++(.lst v 1 (zaq es')::b :: .mapo (zxl es')::Z)) (r:=.ret (.ol A.length v2)) [.lst 0 1 []] (by simp) (.ol (by simp)) (yev (fun a ha=>z4y _ _ a ha) (ydb _ _))
  simpa using this
 have hn:¬ (A.length+(Z.length+3)<=A.length):=by omega
 have loop:∀(suf pre:List Int) (p:Nat×List Int),xs=pre++suf->p.2.length+suf.length<=1073741824 ->
   zkg (A++(.lst ver 1 (zaq es)::b :: .mapo (zxl es)::Z)) (A++(.lst p.1 1 (zaq p.2)::b :: .mapo (zxl p.2)::(Z++[.lst 0 1 []]))) (.ol A.length p.1) (.mp (A.length+2)) (.sl (zaq xs)) (.int .i64 xs.length) (.int .i64 pre.length) =
   some (.ret (.ol A.length (zp5 p suf).1),A++(.lst (zp5 p suf).1 1 (zaq (zp5 p suf).2)::b :: .mapo (zxl (zp5 p suf).2)::Z)):=by
  intro suf
  induction suf with
  |nil=>
   intro pre p e hp;subst e;rw[zkg,zab];simp only[↓reduceIte,go_sem,zp5,hn,hf]
  |cons n suf ih=>
   rintro pre ⟨v,l⟩ e hp
   subst e;simp at hp hx;rw[zkg,zab,zp5];by_cases h:l.contains n=true
   ·have:=ih (pre++[n]) (v,l) (by simp) (by simp;omega)
    simp only[zaf]at this;rw[if_pos h];simp only[↓reduceIte,go_sem,h,zac (n:=pre.length) (by omega),this]
   ·have:=ih (pre++[n]) (v+1,l++[n]) (by simp) (by simp;omega)
    simp only[zaf]at this;rw[if_neg h];simp only[Bool.not_eq_true]at h;simp only[↓reduceIte,go_sem,h,zac (n:=pre.length) (by omega),yda,zln,show l.length+(0+1)<=1073741824 by omega,this]
 have:=loop xs [] (ver,es) rfl hs;simp only[List.length_nil,Int.natCast_zero]at this;rw[z46];simp only[↓reduceIte,go_sem,this]
def Te.kind:Te->Int
 |.mk k _ _ _=>k
def Te.n:Te->Int
 |.mk _ n _ _=>n
def znl:List Te->List Int
 |[]=>[]
 |x::r=>(if x.kind=3 then [x.n] else [])++znl r
theorem z3b:∀a b:List Te,znl (a++b)=znl a++znl b
 |[],b=>rfl
 |x::a,b=>by rw[List.cons_append,znl,znl,z3b a b,List.append_assoc]
def zob(n:Nat)(p:Nat×List Int):List AO:=[.lst p.1 1 (zaq p.2),.box [.ol n p.1],.mapo (zxl p.2),.box [.mp (n+2)]]
def z3a(p:Nat×List Int)(x:Te):Option ((Nat×List Int) ⊕ Empty):=if p.2.length<1073741824 then some (.inl (if x.kind=3 then zp5 p [x.n] else p)) else none
theorem yh6(H:List AO):Ys (.yd (H.length+4+1)) (H.length+4+2) yh1 (fun p=>H++(zob H.length p++[.dfr,.slp .ready 19 [(2,.ptr (H.length+1) 0),(3,.ptr (H.length+3) 0)] [8] zc3 zc1])) (fun e:Empty=>H++(noE e++[.dfr,.slp (.done (noE e)) 19 [(2,.ptr (H.length+1) 0),(3,.ptr (H.length+3) 0)] [8] zc3 zc1])) z3a:=by
 refine z30 H 4 yh1 (zob H.length) noE noE z3a 19 [(2,.ptr (H.length+1) 0),(3,.ptr (H.length+3) 0)] [8] zc3 zc1 zsl zsj (fun _=>rfl) ?_ ?_ ?_ ?_
 ·rintro (p|e)
  ·rfl
  ·exact e.elim
 ·rintro s (p|e) i o ho
  ·match i,ho with
   |0,ho=>simp[ze3,zob]at ho;subst ho;exact .inr fun a ha=>z4y _ _ a ha
   |1,ho=>simp[ze3,zob]at ho;subst ho;exact .inr fun a ha=>by simp at ha;subst ha;exact .ol (by omega)
   |2,ho=>simp[ze3,zob]at ho;subst ho;exact .inr (ydb _ _)
   |3,ho=>simp[ze3,zob]at ho;subst ho;exact .inl (by simp[zob])
   |j+4,ho=>simp[ze3,zob]at ho
  ·exact e.elim
 ·intro p hp;simp at hp;rcases hp with rfl|rfl <;> exact .ptr (by omega)
 ·rintro ⟨ver,es⟩ ⟨k,n,ls,ks⟩ X r hst
  refine⟨[],?_⟩;unfold z3a at hst
  split at hst
  ·rename_i h2
   dsimp only at h2;cases hst;have hc:=ygx (.box [.ol H.length ver]) [n] (by simp) H (.box [.mp (H.length+2)] :: .dfr :: .slp .busy 19 [(2,.ptr (H.length+1) 0),(3,.ptr (H.length+3) 0)] [8] zc3 zc1::X) ver es (by simp;omega)
   simp only[zaq,List.map_cons,List.map_nil]at hc;by_cases h1:k=3
   ·simp only[↓reduceIte,go_sem,zob,zaq,yh1,Te.cs,Te.kind,Te.n,hc,h1,z4t,isL]
   ·simp only[↓reduceIte,go_sem,zob,zaq,yh1,Te.cs,Te.kind,Te.n,h1,z4t,isL]
  ·cases hst
theorem zs2:∀(xs:List Te) (ver:Nat) (es:List Int),es.length+xs.length<=1073741824->∃v,zl0 z3a xs (ver,es)=some (.inl (v,zfm es (znl xs)))
 |[],ver,es,_=>⟨ver,rfl⟩
 |x::r,ver,es,h=>by
  simp at h;rw[zl0,znl,zou];unfold z3a;rw[if_pos (show es.length<1073741824 by omega)]
  by_cases h1:x.kind=3
  ·rw[if_pos h1,if_pos h1]
   have:=z1p [x.n] (ver,es);rw[show zp5 (ver,es) [x.n]=((zp5 (ver,es) [x.n]).1,zfm es [x.n]) from Prod.ext rfl this]
   have hl:=zlg [x.n] es;simp at hl;exact zs2 r _ _ (by omega)
  ·rw[if_neg h1,if_neg h1];exact zs2 r ver es (by omega)
def zfz(t:Te):List Int:=zfm [] (znl (subs t))
theorem yfg(t:Te)(ht:t.ok)(hx:(subs t).length<=1073741824)(H:List AO):F zk2 [.agg t.cs] H=some (.ret (.sl (zaq (zfz t))),H):=by
 obtain⟨v,hv⟩:=zs2 (subs t) 0 [] (by simpa using hx)
 have hr:=all_seq t ht _ _ _ _ _ _ _ (yh6 H) (0,[]) [] _ hv;have he:=zs9 (H:=H) (DR:=zob H.length (v,zfz t)) (k:=4) rfl (st:=.ready) (nn:=19) (t:=[(2,.ptr (H.length+1) 0),(3,.ptr (H.length+3) 0)]) (ps:=[8]) (asg:=zc3) (body:=zc1);have ha:=z52 t
 cases t with
 |mk k n ls ks=>
 unfold zfz at he ⊢;simp only[ykq,Te.cs]at ha hr;simp only[ze3,zob,zgr,List.cons_append,List.nil_append,List.append_nil,Nat.add_assoc,Nat.reduceAdd,zfi,yhi]at hr he;rw[zza];simp only[↓reduceIte,go_sem,Te.cs,ha,hr,he,List.mem_cons,List.not_mem_nil,or_false,forall_eq,List.nodup_cons,List.nodup_nil,not_false_eq_true,and_self]
theorem z1q:∀(xs out:List Int) (n:Int),out.contains n=true->(zfm out xs).contains n=true
 |[],out,n,h=>h
 |x::r,out,n,h=>by
  rw[zfm];refine z1q r _ n ?_
  split
  ·exact h
  ·simp at h ⊢;exact .inl h
theorem zsg:∀(xs acc out:List Int),zfm out (zfm acc xs)=zfm (zfm out acc) xs
 |[],acc,out=>rfl
 |n::r,acc,out=>by
  rw[zfm,zsg r,zfm];by_cases h:acc.contains n=true
  ·rw[if_pos h]
   have:(zfm out acc).contains n=true:=by
    clear zsg
    induction acc generalizing out with
    |nil=>simp at h
    |cons a acc ih=>
     rw[zfm];by_cases ha:n=a
     ·subst ha
      refine z1q _ _ _ ?_
      split
      ·assumption
      ·simp
     ·have:acc.contains n=true:=by simpa [ha] using h
      exact ih _ this
   rw[if_pos this]
  ·rw[if_neg h,zou,zfm,zfm]
def zti:List Te->List Int
 |[]=>[]
 |x::r=>znl (subs x)++zti r
theorem zq1:∀ks:List Te,znl (subss ks)=zti ks
 |[]=>rfl
 |x::r=>by rw[subss,z3b,zq1 r];rfl
theorem zpg:∀xs:List Te,(znl xs).length<=xs.length
 |[]=>Nat.le_refl _
 |x::r=>by
  have:=zpg r;rw[znl];split <;> simp <;> omega
theorem z56(t:Te):t.ok->(subs t).length<=1073741824->∀(H:List AO),F zhc [.agg t.cs] H=some (.ret (.sl (zaq (zfz t))),H):=by
 induction t using Te.ind with
 |h k n ls ks ih=>
 intro hl hx H;have hlen:=hl.len;have loop0:∀(j:Nat) (m:List Int) (x:Int) (x4:AV),m[j]?=some x->m.length<=1073741824->∀(es:List Int) (ver:Nat),es.length<1073741824->∀(suf pre:List Int),es=pre++suf ->
   zgx H (H++[.lst 0 1 [],.lst ver 1 (zaq es)]) (.ol (H.length+1) ver) x4 (.sl (zaq m)) (.int .i64 j) (.bool (pre.contains x)) (.int .i64 pre.length) (Te.mk k n ls ks).cs =
   ze8 H (H++[.lst 0 1 [],.lst (if es.contains x then ver else ver+1) 1 (zaq (if es.contains x then es else es++[x]))]) (.ol (H.length+1) (if es.contains x then ver else ver+1)) x4 (.sl (zaq m)) (.int .i64 (j+1)) (Te.mk k n ls ks).cs:=by
  intro j m x x4 hj hm es ver hs suf;have hjm:j<m.length:=by
   rcases Nat.lt_or_ge j m.length with h|h
   ·exact h
   ·rw[List.getElem?_eq_none h]at hj;cases hj
  induction suf with
  |nil=>
   intro pre e;rw[List.append_nil]at e;subst e;rw[zgx,zab];by_cases h:es.contains x=true
   ·simp only[h]
    simp only[↓reduceIte,go_sem,zac (n:=j) (by omega)]
   ·simp only[Bool.not_eq_true]at h
    simp only[h];simp only[↓reduceIte,go_sem,hj,hjm,zac (n:=j) (by omega),zln,show es.length+(0+1)<=1073741824 by omega,show es.length<=1073741823 by omega]
  |cons y suf ih2=>
   intro pre e;have:=ih2 (pre++[y]) (by rw[e];simp)
   simp only[zaf]at this;rw[<- this,zgx,zab];have hc:(pre++[y]).contains x=(pre.contains x || decide (y=x)):=by
    rw[Bool.eq_iff_iff];simp only[List.contains_iff_mem,List.mem_append,List.mem_singleton,Bool.or_eq_true,decide_eq_true_eq];exact or_congr_right eq_comm
   have hp:(pre.length:Int)<(es.length:Int):=by rw[e];simp;omega
   have hg:es[pre.length]?=some y:=by rw[e];simp
   have hp2:pre.length<es.length:=by rw[e];simp
   rw[hc]
   cases h:pre.contains x with
   |true=>simp only[↓reduceIte,go_sem,hp,hp2,hg,zac (n:=pre.length) (by omega),Bool.true_or]
   |false=>simp only[↓reduceIte,go_sem,hp,hp2,hg,hj,hjm,zac (n:=pre.length) (by omega),Bool.false_or]
 have loop1:∀(i:Int) (suf pre out:List Int) (ver:Nat),out.length+suf.length<=1073741824->pre.length+suf.length<=1073741824->∃v,
   ze8 H (H++[.lst 0 1 [],.lst ver 1 (zaq out)]) (.ol (H.length+1) ver) (.int .i64 i) (.sl (zaq (pre++suf))) (.int .i64 pre.length) (Te.mk k n ls ks).cs =
   ze7 H (H++[.lst 0 1 [],.lst v 1 (zaq (zfm out suf))]) (.ol (H.length+1) v) (.int .i64 (IntKind.i64.wrap (i+1))) (Te.mk k n ls ks).cs:=by
  intro i suf
  induction suf with
  |nil=>
   intro pre out ver h1 h2;refine⟨ver,?_⟩;rw[ze8,zab,List.append_nil,zfm];simp only[↓reduceIte,go_sem]
  |cons x suf ih2=>
   intro pre out ver h1 h2;simp at h1 h2;have h0:=loop0 pre.length (pre++x::suf) x (.int .i64 i) (by simp) (by simp;omega) out ver (by omega) out [] rfl
   simp only[List.length_nil,Int.natCast_zero,List.contains_nil]at h0;have hl:=zlg [x] out;simp only[zfm]at hl;obtain⟨v,h3⟩:=ih2 (pre++[x]) (if out.contains x then out else out++[x]) (if out.contains x then ver else ver+1) (by simp only[List.length_cons,List.length_nil]at hl;omega) (by simp;omega)
   simp only[zaf,List.append_assoc,List.cons_append,List.nil_append]at h3;refine⟨v,?_⟩;rw[zfm,<- h3,<- h0,ze8,zab];simp only[↓reduceIte,go_sem]
 have loop2:∀(suf pre:List Te) (out:List Int) (ver:Nat),ks=pre++suf->out.length+(zti suf).length<=1073741824->(∀x∈suf,(subs x).length<=1073741824) ->
   ze7 H (H++[.lst 0 1 [],.lst ver 1 (zaq out)]) (.ol (H.length+1) ver) (.int .i64 pre.length) (Te.mk k n ls ks).cs=some (.ret (.sl (zaq (zfm out (zti suf)))),H):=by
  intro suf
  induction suf with
  |nil=>
   intro pre out ver e h1 h2;subst e;rw[ze7,zab,zti,zfm];simp only[↓reduceIte,go_sem,Te.cs]
  |cons x suf ih2=>
   intro pre out ver e h1 h2;subst e;rw[zti]at h1;simp at h1 hlen;have hx1:=h2 x (by simp)
   have hc:=zpg (subs x);have hle:=zlg (znl (subs x)) [];simp at hle;obtain⟨v,h3⟩:=loop1 pre.length (zfz x) [] out ver (by unfold zfz;omega) (by unfold zfz;simp;omega)
   simp only[List.length_nil,Int.natCast_zero,List.nil_append,zac (n:=pre.length) (by omega)]at h3
   have hr:=ih x (by simp) (hl.all x (by simp)) hx1
   have hle2:=zlg (znl (subs x)) out;have h4:=ih2 (pre++[x]) (zfm out (znl (subs x))) v (by simp) (by omega) (fun y hy=>h2 y (by simp[hy]))
   simp only[zaf]at h4;rw[zti,zou,<- h4];rw[show zfm out (zfz x)=zfm out (znl (subs x)) from zsg _ [] out]at h3
   rw[<- h3,ze7,zab];simp only[↓reduceIte,go_sem,Te.cs,hr]
 have hsub:∀x∈ks,(subs x).length<=(subss ks).length:=by
  clear loop0 loop1 loop2 hlen hl ih hx
  induction ks with
  |nil=>simp
  |cons y r ih=>
   intro x hx;rw[subss,List.length_append];rcases List.mem_cons.1 hx with rfl|hx
   ·omega
   ·have:=ih x hx;omega
 rw[subs,List.length_cons]at hx;have hcl:=zpg (subss ks);rw[zq1]at hcl;have e:zfz (.mk k n ls ks)=zfm (if k=3 then [n] else []) (zti ks):=by
  rw[zfz,subs,znl,zou,zq1];rw[show Te.kind (.mk k n ls ks)=k from rfl,show Te.n (.mk k n ls ks)=n from rfl]
  split <;> rfl
 have h0:=loop2 ks [] (if k=3 then [n] else []) (if k=3 then 1 else 0) rfl (by split <;> simp <;> omega) (fun x hx'=>by have:=hsub x hx';omega)
 rw[<- e]at h0;rw[zwm,<- h0];by_cases h:k=3
 ·simp only[h]at *
  simp only[↓reduceIte,go_sem,Te.cs,zaq,List.map_cons,List.map_nil]
 ·simp only[↓reduceIte,go_sem,Te.cs,h]
end Go.Ab
end
section
set_option linter.unusedVariables false
set_option linter.unusedSimpArgs false
set_option maxRecDepth 100000
set_option maxHeartbeats 2000000
namespace Go.Ab
open Go.RowKit Go.Proofs
inductive Co|mk (a b:Lv)
def Co.a:Co->Lv|.mk a _=>a
def Co.b:Co->Lv|.mk _ b=>b
def Co.cs(c:Co):List AV:=c.a.cs++c.b.cs
def Co.css(l:List Co):List (List AV):=l.map Co.cs
def Co.ok(c:Co):Prop:=c.a.ok/\c.b.ok
inductive De|mk (p:Int) (cons:List Co) (type:Te) (has:Bool) (value:Te)
def De.p:De->Int|.mk p _ _ _ _=>p
def De.cons:De->List Co|.mk _ c _ _ _=>c
def De.type:De->Te|.mk _ _ t _ _=>t
def De.has:De->Bool|.mk _ _ _ h _=>h
def De.value:De->Te|.mk _ _ _ _ v=>v
def De.cs(d:De):List AV:=[.int .i64 d.p,.sl (Co.css d.cons)]++d.type.cs++[.bool d.has]++d.value.cs
def De.css(l:List De):List (List AV):=l.map De.cs
def De.ok(d:De):Prop:=d.cons.length<=140737488355328/\(∀c∈d.cons,c.ok)/\d.type.ok/\d.value.ok
@[go_sem] theorem z7i(c:Co):c.cs.length=6:=by rcases c with⟨⟨k,n,ks⟩,⟨k2,n2,ks2⟩⟩;rfl
@[go_sem] theorem cocs_rd(c:Co):rd 6 true c.cs=some (.v (.agg c.cs)):=zm8 (z7i c)
@[go_sem] theorem cocs_rd0(c:Co):rd 3 true c.cs=some (.v (.agg c.a.cs)):=by rcases c with⟨⟨k,n,ks⟩,⟨k2,n2,ks2⟩⟩;rfl
@[go_sem] theorem cocs_rd3(c:Co):rd 3 true (List.drop 3 c.cs)=some (.v (.agg c.b.cs)):=by rcases c with⟨⟨k,n,ks⟩,⟨k2,n2,ks2⟩⟩;rfl
@[go_sem] theorem yea(l:List Co):(Co.css l).length=l.length:=by simp[Co.css]
@[go_sem] theorem cocss_get(l:List Co)(j:Nat):(Co.css l)[j]?=l[j]?.map Co.cs:=by simp[Co.css]
@[go_sem] theorem yh4(d:De):d.cs.length=11:=by rcases d with⟨p,c,⟨k,n,ls,ks⟩,h,⟨k2,n2,ls2,ks2⟩⟩;rfl
@[go_sem] theorem decs_rd(d:De):rd 11 true d.cs=some (.v (.agg d.cs)):=zm8 (yh4 d)
@[go_sem] theorem decs_rd0(d:De):rd 1 false d.cs=some (.v (.int .i64 d.p)):=by rcases d with⟨p,c,⟨k,n,ls,ks⟩,h,⟨k2,n2,ls2,ks2⟩⟩;rfl
@[go_sem] theorem decs_rd1(d:De):rd 1 false (List.drop 1 d.cs)=some (.v (.sl (Co.css d.cons))):=by rcases d with⟨p,c,⟨k,n,ls,ks⟩,h,⟨k2,n2,ls2,ks2⟩⟩;rfl
@[go_sem] theorem decs_rd2(d:De):rd 4 true (List.drop 2 d.cs)=some (.v (.agg d.type.cs)):=by rcases d with⟨p,c,⟨k,n,ls,ks⟩,h,⟨k2,n2,ls2,ks2⟩⟩;rfl
@[go_sem] theorem decs_rd6(d:De):rd 1 false (List.drop 6 d.cs)=some (.v (.bool d.has)):=by rcases d with⟨p,c,⟨k,n,ls,ks⟩,h,⟨k2,n2,ls2,ks2⟩⟩;rfl
@[go_sem] theorem decs_rd7(d:De):rd 4 true (List.drop 7 d.cs)=some (.v (.agg d.value.cs)):=by rcases d with⟨p,c,⟨k,n,ls,ks⟩,h,⟨k2,n2,ls2,ks2⟩⟩;rfl
@[go_sem] theorem over_decs(a b c d e f g h i j k:AV)(x:De):over [a,b,c,d,e,f,g,h,i,j,k] 0 x.cs=x.cs:=by rcases x with⟨p,c,⟨k,n,ls,ks⟩,h,⟨k2,n2,ls2,ks2⟩⟩;rfl
@[go_sem] theorem decss_len(l:List De):(De.css l).length=l.length:=by simp[De.css]
@[go_sem] theorem decss_get(l:List De)(j:Nat):(De.css l)[j]?=l[j]?.map De.cs:=by simp[De.css]
@[go_sem] theorem decs_one(d:De):d.cs.all AV.one=true:=by rcases d with⟨p,c,⟨k,n,ls,ks⟩,h,⟨k2,n2,ls2,ks2⟩⟩;rfl
@[go_sem] theorem cocs_one(c:Co):c.cs.all AV.one=true:=by rcases c with⟨⟨k,n,ks⟩,⟨k2,n2,ks2⟩⟩;rfl
mutual
theorem subs_parts:∀(t:Te) (m:Int),parts t m<m->((subs t).length:Int)<=parts t m
 |.mk k n ls ks,m,h=>by
  rw[parts]at h ⊢;rw[subs,List.length_cons];have:=subss_parts ks m 1 h;omega
theorem subss_parts:∀(ks:List Te) (m n:Int),partsL ks m n<m->n+((subss ks).length:Int)<=partsL ks m n
 |[],m,n,h=>by rw[partsL,subss];simp
 |x::r,m,n,h=>by
  rw[partsL]at h ⊢;have hn:n<m:=by
   rcases Int.lt_or_le n m with h1|h1
   ·exact h1
   ·rw[if_neg (by omega)]at h
    have:=zot r m n;omega
  rw[if_pos hn]at h ⊢;have h1:=zot r m (n+parts x (m - n));have h2:=subs_parts x (m - n) (by omega)
  have h3:=subss_parts r m (n+parts x (m - n)) h;rw[subss,List.length_append];omega
end
theorem zpr{t:Te}{v p m:Int}(h:zc6 t v p m=true):(subs t).length<=1073741824:=by
 have:parts t 601<=600:=by unfold zc6 at h;simp at h;exact h.1.2
 have:=subs_parts t 601 (by omega)
 omega
theorem yik(xs:List (List AV))(hlen:xs.length<=140737488355328)(hsz:∀e∈xs,e.length=6)(f:AV)(p:List AV->Bool)(H:List AO)(hf:∀e∈xs,cfl T f [.agg e] H=some (.ret (.bool (p e)),H)):
  F zbo [.sl xs,f] H=some (.ret (.bool (xs.any p)),H):=by
 have loop:∀(suf pre:List (List AV)),xs=pre++suf->∃r:Int,zb9 H H (.sl xs) f (.int .i64 xs.length) (.int .i64 pre.length)=some (.ret (.int .i64 r),H)/\decide (0<=r)=suf.any p:=by
  intro suf
  induction suf with
  |nil=>
   intro pre e;subst e;refine⟨-1,?_,rfl⟩;rw[zb9,zab];simp only[↓reduceIte,go_sem]
  |cons x suf ih=>
   intro pre e;subst e;obtain⟨r,h1,h2⟩:=ih (pre++[x]) (by simp)
   simp only[zaf]at h1;have hx:=hsz x (by simp)
   have hfx:=hf x (by simp)
   simp at hlen
   cases hp:p x with
   |true=>
    refine⟨pre.length,?_,by simp[hp]⟩
    rw[zb9,zab];simp only[↓reduceIte,go_sem,hx,zm8 hx,hfx,hp]
   |false=>
    refine⟨r,?_,by simp[hp,h2]⟩
    rw[zb9,zab];simp only[↓reduceIte,go_sem,hx,zm8 hx,hfx,hp,zac (n:=pre.length) (by omega),h1]
 obtain⟨r,h1,h2⟩:=loop xs [] rfl;simp only[List.length_nil,Int.natCast_zero]at h1;rw[zmm];have:F zdi [.sl xs,f] H=some (.ret (.int .i64 r),H):=by
  rw[zoe];simp only[↓reduceIte,go_sem,h1]
 simp only[↓reduceIte,go_sem,this,h2]
theorem yij(xs:List Int)(hlen:xs.length<=140737488355328)(f:AV)(p:Int->Bool)(H:List AO)(hf:∀e∈xs,cfl T f [.int .i64 e] H=some (.ret (.bool (p e)),H)):
  F zch [.sl (zaq xs),f] H=some (.ret (.bool (xs.any p)),H):=by
 have loop:∀(suf pre:List Int),xs=pre++suf->∃r:Int,zb8 H H (.sl (zaq xs)) f (.int .i64 xs.length) (.int .i64 pre.length)=some (.ret (.int .i64 r),H)/\decide (0<=r)=suf.any p:=by
  intro suf
  induction suf with
  |nil=>
   intro pre e;subst e;refine⟨-1,?_,rfl⟩;rw[zb8,zab];simp only[↓reduceIte,go_sem]
  |cons x suf ih=>
   intro pre e;subst e;obtain⟨r,h1,h2⟩:=ih (pre++[x]) (by simp)
   simp only[zaf]at h1;have hfx:=hf x (by simp)
   simp at hlen
   cases hp:p x with
   |true=>
    refine⟨pre.length,?_,by simp[hp]⟩
    rw[zb8,zab];simp only[↓reduceIte,go_sem,hfx,hp]
   |false=>
    refine⟨r,?_,by simp[hp,h2]⟩
    rw[zb8,zab];simp only[↓reduceIte,go_sem,hfx,hp,zac (n:=pre.length) (by omega),h1]
 obtain⟨r,h1,h2⟩:=loop xs [] rfl;simp only[List.length_nil,Int.natCast_zero]at h1;rw[zml];have:F zdh [.sl (zaq xs),f] H=some (.ret (.int .i64 r),H):=by
  rw[zod];simp only[↓reduceIte,go_sem,h1]
 simp only[↓reduceIte,go_sem,this,h2]
def zw4(p:Int)(c:Co):Bool:=zax c.a p 0 && zax c.b p 0
def zdt(l:List Co)(p:Int):Bool:=decide (0<=p) && decide (p<=5) && decide (l.length<=8) && l.all (zw4 p)
def mayT(t:Te)(p a:Int):Bool:=zc6 t 0 p 0 && (zfz t).all fun n=>decide (n<a)
def yd0(d:De)(a:Int):Bool:=zdt d.cons d.p && mayT d.type d.p a && (if d.has=true then mayT d.value d.p a else teEq d.value zeroT)
def zth:List De->Int->Bool
 |[],_=>true
 |d::r,a=>yd0 d a && zth r (a+1)
def zqm(env:List De):Bool:=zth env 0 && decide (env.length<=20)
theorem yj1(t:Te)(ht:t.ok)(p a:Int)(H:List AO):F zkw [.agg t.cs,.int .i64 p,.int .i64 a] H=some (.ret (.bool (mayT t p a)),H):=by
 have h1:=fun H=>zk0 t ht 0 p 0 H
 rw[z2w,mayT];by_cases h:zc6 t 0 p 0=true
 ·have h2:=fun H=>yfg t ht (zpr h) H
  have hl:=zlg (znl (subs t)) [];have hl2:=zpg (subs t);have hl3:=zpr h;have h3:=yij (zfz t) (by unfold zfz;simp at hl;omega) (.fn (.func zhe) [] [.ptr H.length 0]) (fun n=>decide (a<=n)) (H++[.box [.int .i64 a]]) (fun n hn=>by
   simp only[zgr,List.cons_append,List.nil_append];show F zhe _ _=_;rw[zwr];simp only[↓reduceIte,go_sem])
  have e:(!(zfz t).any fun n=>decide (a<=n))=(zfz t).all fun n=>decide (n<a):=by
   rw[List.not_any_eq_all_not];congr 1;funext n;rw[Bool.eq_iff_iff];simp
  simp only[↓reduceIte,go_sem,h1,h,h2,h3,e]
 ·simp only[Bool.not_eq_true]at h
  simp only[↓reduceIte,go_sem,h1,h]
theorem zxw(t:Te)(ht:t.ok)(hs:(subs t).length<=1073741824)(a:Int)(H:List AO):F zir [.agg t.cs,.int .i64 a] H=some (.ret (.bool ((zfz t).all fun n=>decide (n<a))),H):=by
 have h2:=fun H=>z56 t ht hs H
 have hl:=zlg (znl (subs t)) [];have hl2:=zpg (subs t);have hlen:(zfz t).length<=1073741824:=by unfold zfz;simp at hl;omega
 have loop:∀(suf pre:List Int),zfz t=pre++suf->zh3 H H (.int .i64 a) (.sl (zaq (zfz t))) (.int .i64 pre.length)=some (.ret (.bool (suf.all fun n=>decide (n<a))),H):=by
  generalize zfz t=xs at hlen;intro suf
  induction suf with
  |nil=>
   intro pre e;subst e;rw[zh3,zab];simp only[↓reduceIte,go_sem,List.all_nil]
  |cons x suf ih=>
   intro pre e;subst e;simp at hlen;have:=ih (pre++[x]) (by simp)
   simp only[zaf]at this;rw[zh3,zab,List.all_cons];by_cases h:x<a
   ·simp only[↓reduceIte,go_sem,show ¬ a<=x by omega,h,zac (n:=pre.length) (by omega),this,Bool.true_and]
   ·simp only[↓reduceIte,go_sem,show a<=x by omega,h,Bool.false_and]
 have:=loop (zfz t) [] rfl;simp only[List.length_nil,Int.natCast_zero]at this
 cases t with
 |mk k n ls ks=>
 simp only[Te.cs]at h2;rw[zzh];simp only[↓reduceIte,go_sem,Te.cs,h2,this]
theorem zr0(l:List Co)(hlen:l.length<=140737488355328)(hl:∀c∈l,c.ok)(p:Int)(H:List AO):F zg8 [.sl (Co.css l),.int .i64 p] H=some (.ret (.bool (zdt l p)),H):=by
 have loop:∀(suf pre:List Co),l=pre++suf->zh9 H H (.sl (Co.css l)) (.int .i64 p) (.int .i64 pre.length)=some (.ret (.bool (suf.all (zw4 p) && (decide (0<=p) && decide (p<=5) && decide (l.length<=8)))),H):=by
  intro suf
  induction suf with
  |nil=>
   intro pre e;rw[List.append_nil]at e;subst e;rw[zh9,zab];simp only[↓reduceIte,go_sem,List.all_nil]
   repeat' split
   all_goals (simp_all <;> try omega)
  |cons x suf ih=>
   intro pre e;have:=ih (pre++[x]) (by rw[e];simp)
   simp only[zaf]at this;have hg:l[pre.length]?=some x:=by rw[e];simp
   have hp:(pre.length:Int)<(l.length:Int):=by rw[e];simp;omega
   obtain⟨ha,hb⟩:=hl x (by rw[e];simp)
   rw[zh9,zab,List.all_cons];have r1:=fun H=>zd0 x.a ha p 0 H
   have r2:=fun H=>zd0 x.b hb p 0 H
   unfold zw4 at this ⊢
   cases h1:zax x.a p 0 <;> cases h2:zax x.b p 0 <;> simp only[h1,h2]at r1 r2 <;>
    simp only[↓reduceIte,go_sem,hp,hg,r1,r2,zac (n:=pre.length) (by omega),this,Bool.true_and,Bool.false_and]
 have:=loop l [] rfl;simp only[List.length_nil,Int.natCast_zero]at this;rw[zzq,zdt];simp only[↓reduceIte,go_sem,this]
 grind
theorem yim(ks:List Co)(hlen:ks.length<=140737488355328)(f:AV)(p:Co->Bool)(H:List AO)(hf:∀x∈ks,cfl T f [.agg x.cs] H=some (.ret (.bool (p x)),H)):
  F zbo [.sl (Co.css ks),f] H=some (.ret (.bool (ks.any p)),H):=by
 let q:List AV->Bool:=fun e=>match cfl T f [.agg e] H with
  |some (.ret (.bool b),_)=>b
  |_=>false
 have hq:∀x∈ks,q x.cs=p x:=fun x hx=>by simp only[q,hf x hx]
 have:=yik (Co.css ks) (by rw[yea];exact hlen) (fun e he=>by obtain⟨x,_,rfl⟩:=List.mem_map.1 he;exact z7i x) f q H (fun e he=>by
  obtain⟨x,hx,rfl⟩:=List.mem_map.1 he;rw[hf x hx,hq x hx])
 rw[this,Co.css,List.any_map]
 congr 4
 have:∀l:List Co,(∀x∈l,q x.cs=p x)->l.any (q ∘ Co.cs)=l.any p:=by
  intro l
  induction l with
  |nil=>intro _;rfl
  |cons a l ih=>intro h;simp[h a (by simp),ih fun x hx=>h x (by simp[hx])]
 exact this ks hq
theorem zuh(l:List Co)(hlen:l.length<=140737488355328)(hl:∀c∈l,c.ok)(p:Int)(H:List AO):F zg3 [.sl (Co.css l),.int .i64 p] H=some (.ret (.bool (zdt l p)),H):=by
 have h3:=yim l hlen (.fn (.func zf1) [] [.ptr H.length 0]) (fun c=>!zw4 p c) (H++[.box [.int .i64 p]]) (fun x hx=>by
  obtain⟨ha,hb⟩:=hl x hx;have r1:=fun H=>zgt x.a ha p 0 H
  have r2:=fun H=>zgt x.b hb p 0 H
  simp only[zgr,List.cons_append,List.nil_append];show F zf1 _ _=_;rw[zvn];unfold zw4;rcases x with⟨⟨k,n,ks⟩,⟨k2,n2,ks2⟩⟩;simp only[Co.a,Co.b,Lv.cs]at r1 r2
  cases h1:zax (.mk k n ks) p 0 <;> cases h2:zax (.mk k2 n2 ks2) p 0 <;> simp only[h1,h2]at r1 r2 <;>
   simp only[↓reduceIte,go_sem,Co.cs,Co.a,Co.b,Lv.cs,r1,r2,h1,h2,Bool.and_self,Bool.and_false,Bool.false_and,Bool.and_true])
 rw[<- List.not_all_eq_any_not]at h3;rw[zy8,zdt];simp only[↓reduceIte,go_sem,h3]
 cases h:l.all (zw4 p)
 all_goals (simp[h];try grind)
theorem yd1(d:De)(hd:d.ok)(a:Int)(H:List AO):F zmy [.agg d.cs,.int .i64 a] H=some (.ret (.bool (yd0 d a)),H):=by
 rcases d with⟨p,cons,t,has,v⟩;obtain⟨h1,h2,h3,h4⟩:=hd;simp only[De.cons,De.type,De.value]at h1 h2 h3 h4;have r1:=fun H=>zr0 cons h1 h2 p H
 have r2:=fun H=>zha t h3 0 p 0 H
 have r3:=fun (h:zc6 t 0 p 0=true) H=>zxw t h3 (zpr h) a H
 have r4:=fun H=>zha v h4 0 p 0 H
 have r5:=fun (h:zc6 v 0 p 0=true) H=>zxw v h4 (zpr h) a H
 have r6:=fun H=>yat v h4 zeroT H
 rw[z2h,yd0];simp only[De.cons,De.type,De.value,De.p,De.has,mayT];rcases t with⟨k,n,ls,ks⟩;rcases v with⟨k2,n2,ls2,ks2⟩;simp only[Te.cs,zeroT,Lv.css,Te.css]at r6;simp only[Te.cs]at r2 r3 r4 r5
 cases e1:zdt cons p
 ·simp only[↓reduceIte,go_sem,De.cs,De.cons,De.type,De.value,De.p,De.has,Te.cs,List.cons_append,List.nil_append,r1,e1,Bool.false_and]
 cases e2:zc6 (.mk k n ls ks) 0 p 0
 ·simp only[↓reduceIte,go_sem,De.cs,De.cons,De.type,De.value,De.p,De.has,Te.cs,List.cons_append,List.nil_append,r1,r2,e1,e2,Bool.false_and,Bool.and_false]
 have r3:=r3 e2
 cases e3:(zfz (.mk k n ls ks)).all fun n=>decide (n<a)
 ·simp only[↓reduceIte,go_sem,De.cs,De.cons,De.type,De.value,De.p,De.has,Te.cs,List.cons_append,List.nil_append,r1,r2,r3,e1,e2,e3,Bool.false_and,Bool.and_false]
 cases has
 ·simp only[↓reduceIte,go_sem,De.cs,De.cons,De.type,De.value,De.p,De.has,Te.cs,List.cons_append,List.nil_append,r1,r2,r3,e1,e2,e3,r6,zeroT,Bool.false_and,Bool.and_false,Bool.true_and,Bool.and_true,Bool.false_eq_true]
 cases e4:zc6 (.mk k2 n2 ls2 ks2) 0 p 0
 ·simp only[↓reduceIte,go_sem,De.cs,De.cons,De.type,De.value,De.p,De.has,Te.cs,List.cons_append,List.nil_append,r1,r2,r3,r4,e1,e2,e3,e4,Bool.false_and,Bool.and_false,Bool.true_and,Bool.and_true]
 have r5:=r5 e4;simp only[↓reduceIte,go_sem,De.cs,De.cons,De.type,De.value,De.p,De.has,Te.cs,List.cons_append,List.nil_append,r1,r2,r3,r4,r5,e1,e2,e3,e4,Bool.false_and,Bool.and_false,Bool.true_and,Bool.and_true]
def zt5(env:List De):Prop:=env.length<=140737488355328/\∀d∈env,d.ok
theorem z9o(env:List De)(he:zt5 env)(H:List AO):F zla [.sl (De.css env)] H=some (.ret (.bool (zqm env)),H):=by
 obtain⟨hlen,hd⟩:=he;have loop:∀(suf pre:List De),env=pre++suf->zh4 H H (.sl (De.css env)) (.int .i64 pre.length)=some (.ret (.bool (zth suf pre.length && decide (env.length<=20))),H):=by
  intro suf
  induction suf with
  |nil=>
   intro pre e;rw[List.append_nil]at e;subst e;rw[zh4,zab,zth];simp only[↓reduceIte,go_sem,Bool.true_and]
   congr 4
   rw[Bool.eq_iff_iff];simp;omega
  |cons x suf ih=>
   intro pre e;have:=ih (pre++[x]) (by rw[e];simp)
   simp only[zaf]at this;have hg:env[pre.length]?=some x:=by rw[e];simp
   have hp:(pre.length:Int)<(env.length:Int):=by rw[e];simp;omega
   have hr:=fun H=>yd1 x (hd x (by rw[e];simp)) pre.length H
   rw[zh4,zab,zth]
   cases h1:yd0 x pre.length <;> simp only[h1]at hr <;>
    simp only[↓reduceIte,go_sem,hp,hg,hr,zac (n:=pre.length) (by omega),this,Bool.true_and,Bool.false_and]
 have:=loop env [] rfl;simp only[List.length_nil,Int.natCast_zero]at this;rw[zzi,zqm];simp only[↓reduceIte,go_sem,this]
theorem z9n(env:List De)(he:zt5 env)(H:List AO):F zjq [.sl (De.css env)] H=some (.ret (.bool (zqm env)),H):=by
 obtain⟨hlen,hd⟩:=he;have loop:∀(suf pre:List De),env=pre++suf->zg1 H H (.sl (De.css env)) (.sl (De.css env)) (.int .i64 env.length) (.int .i64 pre.length)=some (.ret (.bool (zth suf pre.length && decide (env.length<=20))),H):=by
  intro suf
  induction suf with
  |nil=>
   intro pre e;rw[List.append_nil]at e;subst e;rw[zg1,zab,zth];simp only[↓reduceIte,go_sem,Bool.true_and]
   congr 4
   rw[Bool.eq_iff_iff];simp;omega
  |cons x suf ih=>
   intro pre e;have:=ih (pre++[x]) (by rw[e];simp)
   simp only[zaf]at this;have hg:env[pre.length]?=some x:=by rw[e];simp
   have hp:(pre.length:Int)<(env.length:Int):=by rw[e];simp;omega
   obtain⟨q1,q2,q3,q4⟩:=hd x (by rw[e];simp)
   have r1:=fun H=>zuh x.cons q1 q2 x.p H
   have r2:=fun H=>yj1 x.type q3 x.p pre.length H
   have r3:=fun H=>yj1 x.value q4 x.p pre.length H
   have r4:=fun H=>yar x.value q4 zeroT H
   simp only[zeroT,Te.cs,Lv.css,Te.css]at r4;rw[zg1,zab,zth,yd0]
   cases e1:zdt x.cons x.p <;> cases e2:mayT x.type x.p pre.length <;> cases e0:x.has <;> cases e3:mayT x.value x.p pre.length <;> cases e4:teEq x.value (.mk 0 0 [] []) <;> simp only[e1,e2,e3,e4]at r1 r2 r3 r4 <;>
    simp only[↓reduceIte,go_sem,hp,hg,r1,r2,r3,r4,e0,zeroT,e1,e2,e3,e4,zac (n:=pre.length) (by omega),this,Bool.true_and,Bool.false_and,Bool.and_false,Bool.and_true,Bool.false_eq_true]
 have:=loop env [] rfl;simp only[List.length_nil,Int.natCast_zero]at this;rw[zws,zqm];simp only[↓reduceIte,go_sem,this]
end Go.Ab
end
section
set_option linter.unusedVariables false
set_option linter.unusedSimpArgs false
set_option maxRecDepth 100000
set_option maxHeartbeats 2000000
namespace Go.Ab
open Go.RowKit Go.Proofs
def bls(z:List Bool):List (List AV):=z.map fun b=>[.bool b]
@[go_sem] theorem z5x(z:List Bool):(bls z).length=z.length:=by simp[bls]
@[go_sem] theorem bls_get(z:List Bool)(i:Nat):(bls z)[i]?=z[i]?.map fun b=>[.bool b]:=by simp[bls]
theorem ykj(n:Nat)(z:List Bool):∀a∈(bls z).flatten,Lt n a:=by
 intro a ha;obtain⟨e,he,h2⟩:=List.mem_flatten.1 ha;obtain⟨b,_,rfl⟩:=List.mem_map.1 he;simp at h2;subst h2;exact .bool b
@[go_sem] theorem lt_bls(n:Nat)(z:List Bool):(∀a∈(bls z).flatten,Lt n a)=True:=eq_true (ykj n z)
structure Fl where
 c:Int
 o:List Int
def Fl.cs(f:Fl):List AV:=[.int .i64 f.c,.sl (zaq f.o)]
@[go_sem] theorem flcs_len(f:Fl):f.cs.length=2:=rfl
@[go_sem] theorem flcs_rd(f:Fl):rd 2 true f.cs=some (.v (.agg f.cs)):=rfl
@[go_sem] theorem flcs_rd0(f:Fl):rd 1 false f.cs=some (.v (.int .i64 f.c)):=rfl
@[go_sem] theorem flcs_rd1(f:Fl):rd 1 false (List.drop 1 f.cs)=some (.v (.sl (zaq f.o))):=rfl
@[go_sem] theorem flcs_one(f:Fl):f.cs.all AV.one=true:=rfl
@[go_sem] theorem flcs_over(x y:AV)(f:Fl):over [x,y] 0 f.cs=f.cs:=rfl
@[go_sem] theorem flcs_frz(n:Nat)(f:Fl)(h:List AO):zuc n f.cs h=(f.cs,h):=by simp[Fl.cs,zuc,z42]
theorem flcs_lt(n:Nat)(f:Fl):∀a∈f.cs,Lt n a:=by
 intro a ha;simp[Fl.cs]at ha;rcases ha with rfl|rfl
 ·exact .int _ _
 ·exact .sl (by intro a ha;obtain⟨e,he,h2⟩:=List.mem_flatten.1 ha;obtain⟨x,_,rfl⟩:=List.mem_map.1 he;simp at h2;subst h2;exact .int _ _)
@[go_sem] theorem lt_flcs(n:Nat)(f:Fl):(∀a∈f.cs,Lt n a)=True:=eq_true (flcs_lt n f)
def zov(p:Nat):Fl:=⟨0,List.replicate p (-1)⟩
def zv6(a b:Fl):Fl:=⟨max a.c b.c,List.zipWith max a.o b.o⟩
def znz(f:Fl):Bool:=decide (f.c=0) && f.o.all fun n=>decide (n<0)
def z34(f:Fl):Fl:=⟨f.c+1,f.o.map fun n=>if 0<=n then n+1 else n⟩
def zty(z:List Bool)(k n:Int):List Fl->Fl
 |[]=>if k=5 then (if z[n.toNat]?=some false then ⟨0,(List.replicate z.length (-1)).set n.toNat 0⟩ else zov z.length) else zov z.length
 |[a]=>if k=2 then z34 a else zov z.length
 |a::b::_=>if k=3 then zv6 a b else if k=4 then (if znz b then b else zv6 a b) else zov z.length
mutual
def rawF(z:List Bool):Lv->Fl
 |.mk k n ks=>zty z k n (rawFs z ks)
def rawFs(z:List Bool):List Lv->List Fl
 |[]=>[]
 |x::r=>rawF z x::rawFs z r
end
structure Fl.good (p:Nat) (d:Int) (f:Fl):Prop where
 len:f.o.length=p
 c0:0<=f.c
 cd:f.c<=d
 o0:∀n∈f.o,-1<=n
 od:∀n∈f.o,n<=d
theorem yaa{a b:List Int}{n:Int}(h:n∈List.zipWith max a b):∃x∈a,∃y∈b,n=max x y:=by
 induction a generalizing b with
 |nil=>simp at h
 |cons x a ih=>
  cases b with
  |nil=>simp at h
  |cons y b=>
   simp at h;rcases h with rfl|h
   ·exact⟨x,by simp,y,by simp,rfl⟩
   ·obtain⟨u,hu,v,hv,e⟩:=ih h;exact⟨u,by simp[hu],v,by simp[hv],e⟩
theorem ydf(p:Nat){d:Int}(h:0<=d):(zov p).good p d :=
 ⟨by simp[zov],by simp[zov],by simpa [zov] using h,fun n hn=>by simp[zov]at hn;omega,fun n hn=>by simp[zov]at hn;omega⟩
theorem z14{p:Nat}{d:Int}{a b:Fl}(ha:a.good p d)(hb:b.good p d):(zv6 a b).good p d :=
 ⟨by simp[zv6,ha.len,hb.len],by have:=ha.c0;simp[zv6];omega,by have:=ha.cd;have:=hb.cd;simp[zv6];omega,
  fun n hn=>by obtain⟨x,hx,y,hy,rfl⟩:=yaa hn;have:=ha.o0 x hx;omega,fun n hn=>by obtain⟨x,hx,y,hy,rfl⟩:=yaa hn;have:=ha.od x hx;have:=hb.od y hy;omega⟩
theorem yde{p:Nat}{d:Int}{a:Fl}(ha:a.good p d):(z34 a).good p (d+1) :=
 ⟨by simp[z34,ha.len],by have:=ha.c0;simp[z34];omega,by have:=ha.cd;simp[z34];omega,
  fun n hn=>by simp[z34]at hn;obtain⟨x,hx,rfl⟩:=hn;have:=ha.o0 x hx;split <;> omega,fun n hn=>by simp[z34]at hn;obtain⟨x,hx,rfl⟩:=hn;have:=ha.od x hx;split <;> omega⟩
theorem Fl.good.up{p:Nat}{d e:Int}{a:Fl}(ha:a.good p d)(h:d<=e):a.good p e :=
 ⟨ha.len,ha.c0,by have:=ha.cd;omega,ha.o0,fun n hn=>by have:=ha.od n hn;omega⟩
theorem zgw(z:List Bool)(l:Lv):∀d,rightB z.length 0 l d=true->(rawF z l).good z.length d:=by
 induction l using Lv.ind with
 |h k n ks ih=>
 intro d h;rw[rightB]at h
 split at h
 ·cases h
 split at h
 ·cases h
 rename_i hd hk;have hk:(ks.length:Int)=zgp k:=by simpa using hk
 have hz:∀e:Int,0<=e->(zov z.length).good z.length e:=fun e he=>ydf _ he
 rw[rawF];unfold zgp at hk
 match ks,hk,ih,h with
 |[],hk,ih,h=>
  rw[rawFs,zty]
  split
  ·split
   ·refine⟨by simp,by simp,by simp;omega,fun n hn=>?_,fun n hn=>?_⟩
    ·rcases List.mem_or_eq_of_mem_set hn with hn|rfl
     ·simp at hn;omega
     ·omega
    ·rcases List.mem_or_eq_of_mem_set hn with hn|rfl
     ·simp at hn;omega
     ·omega
   ·exact hz d (by omega)
  ·exact hz d (by omega)
 |[a],hk,ih,h=>
  rw[rawFs,rawFs,zty];have k2:k=2:=by simp at hk;grind
  subst k2;simp[rightsB]at h;have:=yde (ih a (by simp) (d - 1) h.1)
  simp;exact this.up (by omega)
 |a::b::r,hk,ih,h=>
  rw[rawFs,rawFs,zty];have h2:¬ k=5/\¬ k=6:=by
   constructor <;> (rintro rfl;simp at hk;omega)
  rw[if_neg h2.1,if_neg h2.2]at h;simp[rightsB]at h;have ha:=(ih a (by simp) (d - 1) h.1.1).up (show d - 1<=d by omega)
  have hb:=(ih b (by simp) (d - 1) h.1.2.1).up (show d - 1<=d by omega)
  split
  ·exact z14 ha hb
  ·split
   ·split
    ·exact hb
    ·exact z14 ha hb
   ·exact hz d (by omega)
theorem z8g(p:Nat)(hp:p<=1000)(H:List AO):∃ver,FK zfc [.int .i64 0,.int .i64 p] H=some (.ret (.agg [.int .i64 0,.ol (H.length+1) ver]),H++[.lst 0 1 [],.lst ver 1 (zaq (List.replicate p (-1))),.lst 0 1 []]):=by
 have loop:∀(j i:Nat) (ver:Nat) ,i+j=p->∃ver',zid H (H++[.lst 0 1 [],.lst ver 1 (zaq (List.replicate i (-1))),.lst 0 1 []]) (.int .i64 p) (.int .i64 i) [.int .i64 0,.ol H.length 0] [.int .i64 0,.ol (H.length+1) ver]=some (.ret (.agg [.int .i64 0,.ol (H.length+1) ver']),H++[.lst 0 1 [],.lst ver' 1 (zaq (List.replicate p (-1))),.lst 0 1 []]):=by
  intro j
  induction j with
  |zero=>
   intro i ver h;refine⟨ver,?_⟩;rw[zid,zab];simp only[↓reduceIte,go_sem,show ¬ (i:Int)<(p:Int) by omega]
   rw[show i=p by omega]
  |succ j ih=>
   intro i ver h;obtain⟨ver',h1⟩:=ih (i+1) (ver+1) (by omega)
   refine⟨ver',?_⟩;have hsn:zaq (List.replicate i (-1))++[[AV.int .i64 (-1)]]=zaq (List.replicate (i+1) (-1)):=by rw[zln,List.replicate_succ']
   simp only[Int.natCast_add,Int.natCast_one,List.replicate_succ]at h1;rw[zid,zab];simp only[↓reduceIte,go_sem,show (i:Int)<(p:Int) by omega,zac (n:=i) (by omega),List.length_replicate,show i<=1073741823 by omega,hsn,h1]
 obtain⟨ver,h⟩:=loop p 0 0 (by omega)
 refine⟨ver,?_⟩;rw[zzw];simp only[↓reduceIte,go_sem];exact h
theorem ybj(p:Nat)(hp:p<=1000)(H:List AO):F zfc [.int .i64 0,.int .i64 p] H=some (.ret (.agg (zov p).cs),H):=by
 have loop:∀(j i:Nat) (ver:Nat) ,i+j=p->zjg H (H++[.lst 0 1 [],.lst ver 1 (zaq (List.replicate i (-1))),.lst 0 1 []]) (.int .i64 p) (.int .i64 i) [.int .i64 0,.ol H.length 0] [.int .i64 0,.ol (H.length+1) ver]=some (.ret (.agg (zov p).cs),H):=by
  intro j
  induction j with
  |zero=>
   intro i ver h;rw[zjg,zab];obtain rfl:i=p:=by omega
   simp only[↓reduceIte,go_sem,zov,Fl.cs]
  |succ j ih=>
   intro i ver h;have h1:=ih (i+1) (ver+1) (by omega)
   have hsn:zaq (List.replicate i (-1))++[[AV.int .i64 (-1)]]=zaq (List.replicate (i+1) (-1)):=by rw[zln,List.replicate_succ']
   simp only[Int.natCast_add,Int.natCast_one,List.replicate_succ]at h1;rw[zjg,zab];simp only[↓reduceIte,go_sem,show (i:Int)<(p:Int) by omega,zac (n:=i) (by omega),List.length_replicate,show i<=1073741823 by omega,hsn,h1]
 have h:=loop p 0 0 (by omega)
 rw[z2s];simp only[↓reduceIte,go_sem];exact h
theorem yej(a b:Fl)(hl:a.o.length=b.o.length)(hlen:a.o.length<=1000)(H:List AO):F zkv [.agg a.cs,.agg b.cs] H=some (.ret (.agg (zv6 a b).cs),H):=by
 have loop:∀(sa sb pa pb:List Int) (ver:Nat),a.o=pa++sa->b.o=pb++sb->pa.length=pb.length ->
   zjh H (H++[.lst 0 1 [],.lst ver 1 (zaq (List.zipWith max pa pb)),.lst 0 1 []]) (.int .i64 pa.length) a.cs b.cs [.int .i64 0,.ol H.length 0] [.int .i64 (max a.c b.c),.ol (H.length+1) ver]=some (.ret (.agg (zv6 a b).cs),H):=by
  intro sa
  induction sa with
  |nil=>
   intro sb pa pb ver ha hb hp;have:sb=[]:=by
    rw[ha,hb]at hl;simp at hl;exact List.eq_nil_of_length_eq_zero (by omega)
   subst this;rw[List.append_nil]at ha hb;rw[zjh,zab];simp only[↓reduceIte,go_sem,zv6,Fl.cs,ha,hb]
  |cons x sa ih=>
   intro sb pa pb ver ha hb hp
   cases sb with
   |nil=>rw[ha,hb]at hl;simp at hl;omega
   |cons y sb=>
   have h1:=ih sb (pa++[x]) (pb++[y]) (ver+1) (by rw[ha];simp) (by rw[hb];simp) (by simp[hp])
   have hz:List.zipWith max (pa++[x]) (pb++[y])=List.zipWith max pa pb++[max x y]:=by rw[List.zipWith_append (h:=hp)];rfl
   have hzl:(List.zipWith max pa pb).length=pa.length:=by rw[List.length_zipWith];omega
   have hpa:pa.length<=1000:=by rw[ha]at hlen;simp at hlen;omega
   have hga:a.o[pa.length]?=some x:=by rw[ha];simp
   have hgb:b.o[pa.length]?=some y:=by rw[hb,hp];simp
   have hlt:pa.length<a.o.length:=by rw[ha];simp
   have hmax:(if y > x then y else x)=max x y:=by rcases Int.lt_or_le x y with h|h <;> simp[Int.max_def] <;> omega
   rw[hz,<- zln]at h1;simp only[zaf]at h1;rw[zjh,zab];simp only[↓reduceIte,go_sem,Fl.cs,show (pa.length:Int)<(a.o.length:Int) by omega,hga,hgb,hzl,hmax,zac (n:=pa.length) (by omega),show pa.length<=1073741823 by omega]
   simp only[Fl.cs]at h1;exact h1
 have:=loop a.o b.o [] [] 0 rfl rfl rfl;have hmax:(if b.c > a.c then b.c else a.c)=max a.c b.c:=by rcases Int.lt_or_le a.c b.c with h|h <;> simp[Int.max_def] <;> omega
 rw[z2t];simp only[List.length_nil,Int.natCast_zero,List.zipWith_nil_left,zfi,Fl.cs]at this;simp only[↓reduceIte,go_sem,Fl.cs,hmax];exact this
theorem z4n(a:Fl)(hlen:a.o.length<=1000)(H:List AO):F zjo [.agg a.cs] H=some (.ret (.bool (znz a)),H):=by
 have loop:∀(sa pa:List Int),a.o=pa++sa->zg0 H H (.int .i64 pa.length) a.cs=some (.ret (.bool ((sa.all fun n=>decide (n<0)) && decide (a.c=0))),H):=by
  intro sa
  induction sa with
  |nil=>
   intro pa ha;rw[List.append_nil]at ha;rw[zg0,zab];simp only[↓reduceIte,go_sem,Fl.cs,ha,List.all_nil]
  |cons x sa ih=>
   intro pa ha;have h1:=ih (pa++[x]) (by rw[ha];simp)
   have hpa:pa.length<=1000:=by rw[ha]at hlen;simp at hlen;omega
   have hga:a.o[pa.length]?=some x:=by rw[ha];simp
   have hlt:pa.length<a.o.length:=by rw[ha];simp
   simp only[zaf,Fl.cs]at h1;rw[zg0,zab,List.all_cons];by_cases hx:0<=x
   ·simp only[↓reduceIte,go_sem,Fl.cs,show (pa.length:Int)<(a.o.length:Int) by omega,hga,hx,show ¬ x<0 by omega]
   ·simp only[↓reduceIte,go_sem,Fl.cs,show (pa.length:Int)<(a.o.length:Int) by omega,hga,hx,show x<0 by omega,zac (n:=pa.length) (by omega),h1]
 have:=loop a.o [] rfl;simp only[List.length_nil,Int.natCast_zero]at this;rw[zwp,znz,Bool.and_comm];simp only[↓reduceIte,go_sem,Fl.cs]at this ⊢;exact this
end Go.Ab
end
section
set_option linter.unusedVariables false
set_option linter.unusedSimpArgs false
set_option maxRecDepth 100000
set_option maxHeartbeats 2000000
namespace Go.Ab
open Go.RowKit Go.Proofs
structure At where
 v:Int
 o:Int
structure Cl where
 f:List At
 t:At
def At.cs(a:At):List AV:=[.int .i64 a.v,.int .i64 a.o]
def At.css(l:List At):List (List AV):=l.map At.cs
def Cl.cs(c:Cl):List AV:=[.sl (At.css c.f),.int .i64 c.t.v,.int .i64 c.t.o]
def Cl.css(l:List Cl):List (List AV):=l.map Cl.cs
@[go_sem] theorem atcss_len(l:List At):(At.css l).length=l.length:=by simp[At.css]
@[go_sem] theorem atcss_get(l:List At)(i:Nat):(At.css l)[i]?=l[i]?.map At.cs:=by simp[At.css]
@[go_sem] theorem clcss_len(l:List Cl):(Cl.css l).length=l.length:=by simp[Cl.css]
@[go_sem] theorem clcss_get(l:List Cl)(i:Nat):(Cl.css l)[i]?=l[i]?.map Cl.cs:=by simp[Cl.css]
theorem z7n(n:Nat)(l:List At):∀a∈(At.css l).flatten,Lt n a:=by
 intro a ha;obtain⟨e,he,h2⟩:=List.mem_flatten.1 ha;obtain⟨x,_,rfl⟩:=List.mem_map.1 he;simp[At.cs]at h2;rcases h2 with rfl|rfl <;> exact .int _ _
theorem clcs_lt(n:Nat)(c:Cl):∀a∈c.cs,Lt n a:=by
 intro a ha;simp[Cl.cs]at ha;rcases ha with rfl|rfl|rfl
 ·exact .sl (z7n n _)
 ·exact .int _ _
 ·exact .int _ _
theorem z0e(n:Nat)(l:List Cl):∀a∈(Cl.css l).flatten,Lt n a:=by
 intro a ha;obtain⟨e,he,h2⟩:=List.mem_flatten.1 ha;obtain⟨x,_,rfl⟩:=List.mem_map.1 he;exact clcs_lt n x a h2
@[go_sem] theorem lt_atcss(n:Nat)(l:List At):(∀a∈(At.css l).flatten,Lt n a)=True:=eq_true (z7n n l)
@[go_sem] theorem lt_clcss(n:Nat)(l:List Cl):(∀a∈(Cl.css l).flatten,Lt n a)=True:=eq_true (z0e n l)
@[go_sem] theorem atcs_len(a:At):a.cs.length=2:=rfl
@[go_sem] theorem atcs_rd(a:At):rd 2 true a.cs=some (.v (.agg a.cs)):=rfl
@[go_sem] theorem atcs_rd0(a:At):rd 1 false a.cs=some (.v (.int .i64 a.v)):=rfl
@[go_sem] theorem atcs_rd1(a:At):rd 1 false (List.drop 1 a.cs)=some (.v (.int .i64 a.o)):=rfl
@[go_sem] theorem atcs_one(a:At):a.cs.all AV.one=true:=rfl
@[go_sem] theorem atcs_over(x y:AV)(a:At):over [x,y] 0 a.cs=a.cs:=rfl
@[go_sem] theorem atcs_frz(n:Nat)(f:At)(h:List AO):zuc n f.cs h=(f.cs,h):=by simp[At.cs,zuc,z42]
theorem atcs_lt(n:Nat)(f:At):∀a∈f.cs,Lt n a:=by
 intro a ha;simp[At.cs]at ha;rcases ha with rfl|rfl <;> exact .int _ _
@[go_sem] theorem lt_atcs(n:Nat)(f:At):(∀a∈f.cs,Lt n a)=True:=eq_true (atcs_lt n f)
@[go_sem] theorem clcs_len(c:Cl):c.cs.length=3:=rfl
@[go_sem] theorem clcs_rd(c:Cl):rd 3 true c.cs=some (.v (.agg c.cs)):=rfl
@[go_sem] theorem clcs_rd0(c:Cl):rd 1 false c.cs=some (.v (.sl (At.css c.f))):=rfl
@[go_sem] theorem clcs_rd1(c:Cl):rd 2 true (List.drop 1 c.cs)=some (.v (.agg c.t.cs)):=rfl
@[go_sem] theorem clcs_rd1a(c:Cl):rd 1 false (List.drop 1 c.cs)=some (.v (.int .i64 c.t.v)):=rfl
@[go_sem] theorem clcs_rd2(c:Cl):rd 1 false (List.drop 2 c.cs)=some (.v (.int .i64 c.t.o)):=rfl
@[go_sem] theorem clcs_rd11(c:Cl):rd 1 false (List.drop 1 (List.drop 1 c.cs))=some (.v (.int .i64 c.t.o)):=rfl
@[go_sem] theorem clcs_one(c:Cl):c.cs.all AV.one=true:=rfl
@[go_sem] theorem clcs_over(x y z:AV)(c:Cl):over [x,y,z] 0 c.cs=c.cs:=rfl
def atB(vars:Int)(a:At):Bool:=decide (0<=a.v) && decide (a.v<vars) && decide (0<=a.o) && decide (a.o<=1000)
def clB(vars:Int)(c:Cl):Bool:=decide (1<=c.f.length) && decide (c.f.length<=6) && c.f.all (atB vars) && atB vars c.t
def zh0(vars:Int)(l:List Cl):Bool:=decide (1<=vars) && decide (vars<=16) && decide (l.length<=60) && l.all (clB vars)
def gI(m:List Int)(i:Int):Int:=m.getD i.toNat 0
def z1s:List Int->Int
 |[]=>0
 |[x]=>x
 |x::y::r=>min x (z1s (y::r))
def ztk(c:Cl)(m:List Int):Int:=z1s (c.f.map fun a=>gI m a.v - a.o)+c.t.o
def zkb(m:List Int)(c:Cl):List Int:=m.set c.t.v.toNat (max (gI m c.t.v) (ztk c m))
def za1(l:List Cl)(m:List Int):List Int:=l.foldl zkb m
def zrl(l:List Cl):Int:=l.foldl (fun n c=>c.f.foldl (fun n a=>max n (c.t.o - a.o)) n) 0
def zhf(vars:Int)(l:List Cl):Int:=(vars - 1)*zrl l
inductive RunS (l:List Cl) (most:Int):List Int->Option (List Int)->Nat->Prop
 |over {m:List Int} (h:∃x∈za1 l m,most<x):RunS l most m none 1
 |fix {m:List Int} (h:za1 l m=m) (hb:∀x∈m,x<=most):RunS l most m (some m) 1
 |more {m:List Int} {r:Option (List Int)} {k:Nat} (h:za1 l m≠m) (hb:∀x∈za1 l m,x<=most) (hr:RunS l most (za1 l m) r k):RunS l most m r (k+1)
theorem zq5(m:List Int)(c:Cl):(zkb m c).length=m.length:=by simp[zkb]
theorem zmv(l:List Cl)(m:List Int):(za1 l m).length=m.length:=by
 unfold za1
 induction l generalizing m with
 |nil=>rfl
 |cons c l ih=>rw[List.foldl_cons,ih,zq5]
def LeM(a b:List Int):Prop:=a.length=b.length/\∀i,a.getD i 0<=b.getD i 0
theorem LeM.refl(a:List Int):LeM a a:=⟨rfl,fun _=>Int.le_refl _⟩
theorem LeM.trans{a b c:List Int}(h:LeM a b)(k:LeM b c):LeM a c:=⟨h.1.trans k.1,fun i=>Int.le_trans (h.2 i) (k.2 i)⟩
theorem z6f(m:List Int)(i j:Nat)(x:Int):(m.set i x).getD j 0=if i=j/\i<m.length then x else m.getD j 0:=by
 simp only[List.getD,List.getElem?_set];by_cases h:i=j
 ·subst h
  by_cases hl:i<m.length
  ·simp[hl]
  ·simp[hl]
 ·simp[h]
theorem z6c(m:List Int)(c:Cl):LeM m (zkb m c):=by
 refine⟨(zq5 m c).symm,fun i=>?_⟩
 unfold zkb;rw[z6f]
 split
 ·rename_i h;rw[<- h.1];unfold gI;omega
 ·exact Int.le_refl _
theorem zrb(l:List Cl):∀m,LeM m (za1 l m):=by
 unfold za1
 induction l with
 |nil=>exact LeM.refl
 |cons c l ih=>exact fun m=>(z6c m c).trans (ih _)
theorem leM_eq{a b:List Int}(h:LeM a b)(k:LeM b a):a=b:=by
 apply List.ext_getElem h.1;intro i h1 h2;have e1:=h.2 i;have e2:=k.2 i;simp[List.getD,h1,h2]at e1 e2;omega
def z1a(m:List Int):Int:=m.foldr (· + ·) 0
theorem yje:∀{a b:List Int},LeM a b->z1a a<=z1a b
 |[],[],_=>Int.le_refl _
 |[],_::_,h=>by have:=h.1;simp at this
 |_::_,[],h=>by have:=h.1;simp at this
 |x::a,y::b,h=>by
  have h0:=h.2 0;have:=yje (a:=a) (b:=b) ⟨by simpa using h.1,fun i=>by simpa using h.2 (i+1)⟩
  simp at h0;simp only[z1a,List.foldr_cons]at *;omega
theorem yal:∀{a b:List Int},LeM a b->z1a b<=z1a a->a=b
 |[],[],_,_=>rfl
 |[],_::_,h,_=>by have:=h.1;simp at this
 |_::_,[],h,_=>by have:=h.1;simp at this
 |x::a,y::b,h,k=>by
  have h0:=h.2 0;have h1:LeM a b:=⟨by simpa using h.1,fun i=>by simpa using h.2 (i+1)⟩
  have:=yje h1;simp at h0;simp only[z1a,List.foldr_cons]at *;have e:x=y:=by omega
  rw[e,yal h1 (by simp only[z1a];omega)]
theorem z09{B:Int}:∀{m:List Int},(∀x∈m,x<=B)->z1a m<=m.length*B
 |[],_=>by simp[z1a]
 |x::m,h=>by
  have:=z09 (m:=m) fun y hy=>h y (by simp[hy])
  have h0:=h x (by simp)
  simp only[z1a,List.foldr_cons,List.length_cons]at *;rw[Int.natCast_add,Int.add_mul];omega
theorem yax(l:List Cl)(most:Int):∀(d:Nat) (m:List Int),(m.length:Int)*most - z1a m<=d->(∀x∈m,x<=most)->∃r k,RunS l most m r k/\k<=d+1:=by
 intro d
 induction d with
 |zero=>
  intro m hd hb;by_cases h:za1 l m=m
  ·exact⟨_,_,.fix h hb,by omega⟩
  ·by_cases ho:∃x∈za1 l m,most<x
   ·exact⟨_,_,.over ho,by omega⟩
   ·exfalso
    have hb2:∀x∈za1 l m,x<=most:=fun x hx=>Int.not_lt.1 fun hlt=>ho ⟨x,hx,hlt⟩
    have h1:=z09 hb2;rw[zmv]at h1;exact h (yal (zrb l m) (by omega)).symm
 |succ d ih=>
  intro m hd hb;by_cases h:za1 l m=m
  ·exact⟨_,_,.fix h hb,by omega⟩
  ·by_cases ho:∃x∈za1 l m,most<x
   ·exact⟨_,_,.over ho,by omega⟩
   ·have hb2:∀x∈za1 l m,x<=most:=fun x hx=>Int.not_lt.1 fun hlt=>ho ⟨x,hx,hlt⟩
    have hs:z1a m<z1a (za1 l m):=by
     rcases Int.lt_or_le (z1a m) (z1a (za1 l m)) with h1|h1
     ·exact h1
     ·exact absurd (yal (zrb l m) h1).symm h
    obtain⟨r,k,h1,h2⟩:=ih (za1 l m) (by rw[zmv];omega) hb2
    exact⟨r,k+1,.more h hb2 h1,by omega⟩
theorem RunS.det{l:List Cl}{most:Int}{m:List Int}{r r':Option (List Int)}{k k':Nat}(h:RunS l most m r k):RunS l most m r' k' -> r=r' /\ k=k':=by
 induction h generalizing r' k' with
 |over h=>
  intro h2
  cases h2 with
  |over=>exact⟨rfl,rfl⟩
  |fix h3 hb=>obtain⟨x,hx,hlt⟩:=h;rw[h3]at hx;have:=hb x hx;omega
  |more h3 hb _=>obtain⟨x,hx,hlt⟩:=h;have:=hb x hx;omega
 |fix h hb=>
  intro h2
  cases h2 with
  |over h3=>obtain⟨x,hx,hlt⟩:=h3;rw[h]at hx;have:=hb x hx;omega
  |fix=>exact⟨rfl,rfl⟩
  |more h3 _ _=>exact absurd h h3
 |more h hb hr ih=>
  intro h2
  cases h2 with
  |over h3=>obtain⟨x,hx,hlt⟩:=h3;have:=hb x hx;omega
  |fix h3 _=>exact absurd h3 h
  |more _ _ hr2=>obtain⟨rfl,rfl⟩:=ih hr2;exact⟨rfl,rfl⟩
theorem RunS.model{l:List Cl}{most:Int}{m r:List Int}{k:Nat}{o:Option (List Int)}(h:RunS l most m o k):o=some r->za1 l r=r/\(∀x∈r,x<=most)/\r.length=m.length:=by
 induction h with
 |over h=>intro e;cases e
 |fix h hb=>intro e;cases e;exact⟨h,hb,rfl⟩
 |more h hb hr ih=>intro e;obtain⟨h1,h2,h3⟩:=ih e;exact⟨h1,h2,by rw[h3,zmv]⟩
theorem RunS.le{l:List Cl}{most:Int}{m r:List Int}{k:Nat}{o:Option (List Int)}(h:RunS l most m o k):o=some r->LeM m r:=by
 induction h with
 |over h=>intro e;cases e
 |fix h hb=>intro e;cases e;exact LeM.refl _
 |more h hb hr ih=>intro e;exact (zrb l _).trans (ih e)
end Go.Ab
end
section
set_option linter.unusedVariables false
set_option linter.unusedSimpArgs false
set_option maxRecDepth 100000
set_option maxHeartbeats 2000000
namespace Go.Ab
open Go.RowKit Go.Proofs
theorem z35(H:List AO)(i:Int)(w:AV)(c:Int)(o:List Int)(hlen:o.length<=1000)(ho:∀n∈o,-1<=n/\n<=1000):
  ∀(so po:List Int) (ver:Nat),o=po++so->zkk H (H++[.lst 0 1 [],.lst ver 1 (zaq (po.map fun n=>if 0<=n then n+1 else n)),.lst 0 1 []]) (.int .i64 po.length) [.int .i64 0,w] [.int .i64 c,.sl (zaq o)] [.int .i64 i,.ol (H.length+1) ver]=some (.ret (.agg [.int .i64 i,.sl (zaq (o.map fun n=>if 0<=n then n+1 else n))]),H):=by
 intro so
 induction so with
 |nil=>
  intro po ver h;rw[List.append_nil]at h;subst h;rw[zkk,zab];simp only[↓reduceIte,go_sem]
 |cons x so ih=>
  intro po ver h;have h1:=ih (po++[x]) (ver+1) (by rw[h];simp)
  have hga:o[po.length]?=some x:=by rw[h];simp
  have hp:po.length<o.length:=by rw[h];simp
  obtain⟨hx1,hx2⟩:=ho x (by rw[h];simp)
  rw[List.map_append,List.map_cons,List.map_nil,<- zln]at h1;simp only[zaf]at h1;rw[zkk,zab];by_cases hx:0<=x
  ·rw[if_pos hx]at h1
   simp only[↓reduceIte,go_sem,show (po.length:Int)<(o.length:Int) by omega,hga,hx,zam (n:=x+1) (by omega) (by omega),zac (n:=po.length) (by omega),show po.length<=1073741823 by omega,List.length_map,h1]
  ·rw[if_neg hx]at h1
   simp only[↓reduceIte,go_sem,show (po.length:Int)<(o.length:Int) by omega,hga,hx,zac (n:=po.length) (by omega),show po.length<=1073741823 by omega,List.length_map,h1]
theorem ygk(z:List Bool)(hz:z.length<=1000)(l:Lv):∀d,d<=1000->rightB z.length 0 l d=true->∀H,F zgl [.agg l.cs,.sl (bls z)] H=some (.ret (.agg (rawF z l).cs),H):=by
 induction l using Lv.ind with
 |h k n ks ih=>
 intro d hd h H;have hg:=zgw z (.mk k n ks) d h;rw[rightB]at h
 split at h
 ·cases h
 split at h
 ·cases h
 rename_i hd1 hk;have hk:(ks.length:Int)=zgp k:=by simpa using hk
 have hnone:=fun H=>ybj z.length hz H
 rw[z5h];rw[rawF]at hg ⊢;unfold zgp at hk
 match ks,hk,ih,h,hg with
 |[],hk,ih,h,hg=>
  simp at hk;by_cases h5:k=5
  ·subst h5
   simp at h;obtain⟨h0,hn⟩:=h;obtain⟨j,rfl⟩:=Int.eq_ofNat_of_zero_le h0;have hj:j<z.length:=by omega
   obtain⟨b,hb⟩:∃b,z[j]?=some b:=⟨z[j],by simp[hj]⟩
   obtain⟨ver,hK⟩:=z8g z.length hz (H++[.lst 0 1 []]);simp only[rawFs,zty,Int.toNat_natCast,hb,if_true];cases b
   ·have hgr:(List.replicate z.length (-1:Int))[j]?=some (-1):=by simp[hj]
    have hs:(zaq (List.replicate z.length (-1))).set j [AV.int .i64 0]=zaq ((List.replicate z.length (-1)).set j 0):=by simp[zaq,List.map_set]
    simp only[↓reduceIte,go_sem,Lv.cs,Lv.css]at hK ⊢;simp only[↓reduceIte,go_sem,Lv.cs,Lv.css,hK,hb,List.length_replicate,hj,hgr,hs,Fl.cs]
   ·simp only[↓reduceIte,go_sem,Lv.cs,Lv.css]at hK ⊢
    simp only[↓reduceIte,go_sem,Lv.cs,Lv.css,hK,hb,zov,Fl.cs,Option.some.injEq,Bool.true_eq_false]
  ·have h2:¬ k=2:=by grind
   have h3:¬ k=3:=by grind
   have h4:¬ k=4:=by grind
   simp only[rawFs,zty,if_neg h5];simp only[↓reduceIte,go_sem,Lv.cs,Lv.css,h2,h3,h4,h5,hnone]
 |[a],hk,ih,h,hg=>
  have k2:k=2:=by simp at hk;grind
  subst k2;simp[rightsB]at h;have iha:=fun H=>ih a (by simp) (d - 1) (by omega) h.1 H
  have ga:=zgw z a (d - 1) h.1;simp only[rawFs,zty,if_true];generalize rawF z a=fa at iha ga;obtain⟨c,o⟩:=fa;have hc:=ga.c0;have hc2:=ga.cd;have hlen:=ga.len;simp only at hc hc2 hlen;simp only[↓reduceIte,go_sem,Lv.cs,Lv.css,iha,Fl.cs,zam (n:=c+1) (by omega) (by omega)]
  exact z35 H _ _ c o (by omega) (fun n hn=>⟨ga.o0 n hn,by have:=ga.od n hn;omega⟩) o [] 0 rfl
 |[a,b],hk,ih,h,hg=>
  have h5:¬ k=5:=by rintro rfl;simp at hk
  have h6:¬ k=6:=by rintro rfl;simp at hk
  rw[if_neg h5,if_neg h6]at h;simp[rightsB]at h;have iha:=fun H=>ih a (by simp) (d - 1) (by omega) h.1.1 H
  have ihb:=fun H=>ih b (by simp) (d - 1) (by omega) h.1.2 H
  have ga:=zgw z a (d - 1) h.1.1;have gb:=zgw z b (d - 1) h.1.2;have k34:k=3\/k=4:=by simp at hk;grind
  simp only[rawFs,zty];generalize rawF z a=fa at iha ga ⊢;generalize rawF z b=fb at ihb gb ⊢;have hB:=fun H=>yej fa fb (by rw[ga.len,gb.len]) (by rw[ga.len];exact hz) H
  have hN:=fun H=>z4n fb (by rw[gb.len];exact hz) H
  rcases k34 with rfl|rfl
  ·simp only[↓reduceIte,go_sem,Lv.cs,Lv.css,iha,ihb,hB]
  ·cases hn:znz fb <;> simp only[hn]at hN
   ·simp only[↓reduceIte,go_sem,Lv.cs,Lv.css,iha,ihb,hB,hN,hn]
   ·simp only[↓reduceIte,go_sem,Lv.cs,Lv.css,iha,ihb,hB,hN,hn]
 |a::b::c::r,hk,ih,h,hg=>
  exfalso;simp at hk
  grind
end Go.Ab
end
section
set_option linter.unusedVariables false
set_option linter.unusedSimpArgs false
set_option maxRecDepth 100000
set_option maxHeartbeats 2000000
namespace Go.Ab
open Go.RowKit Go.Proofs
def z6w(c:Int)(l:List Int):Int:=if (l.any fun n=>decide (0<=n) && decide (c<=n+1))=true then 0 else c
def normF(f:Fl):Fl:=⟨z6w f.c f.o,f.o⟩
theorem ybi{c:Int}(hc:0<=c)(l:List Int)(x:Int):z6w c (l++[x])=if 0<=x/\z6w c l<=x+1 then 0 else z6w c l:=by
 unfold z6w;rw[List.any_append];by_cases h:(l.any fun n=>decide (0<=n) && decide (c<=n+1))=true
 ·simp[h]
 ·simp only[h]
  simp
theorem nrmF_le{c:Int}(hc:0<=c)(l:List Int):0<=z6w c l/\z6w c l<=c:=by unfold z6w;split <;> omega
theorem zwj(H:List AO)(c:Int)(o:List Int)(hc:0<=c)(hlen:o.length<=1000)(ho:∀n∈o,-1<=n/\n<=1000):
  ∀(so po:List Int),o=po++so->zgf H H (.int .i64 po.length) [.int .i64 0,.sl []] [.int .i64 (z6w c po),.sl (zaq o)]=some (.ret (.tup [.agg [.int .i64 (z6w c o),.sl (zaq o)],.int .i64 0]),H):=by
 intro so
 induction so with
 |nil=>
  intro po h;rw[List.append_nil]at h;subst h;rw[zgf,zab];simp only[↓reduceIte,go_sem]
 |cons x so ih=>
  intro po h;have h1:=ih (po++[x]) (by rw[h];simp)
  have hga:o[po.length]?=some x:=by rw[h];simp
  have hp:po.length<o.length:=by rw[h];simp
  obtain⟨hx1,hx2⟩:=ho x (by rw[h];simp)
  rw[ybi hc]at h1;simp only[zaf]at h1;rw[zgf,zab];by_cases hx:0<=x
  ·by_cases hy:z6w c po<=x+1
   ·rw[if_pos ⟨hx,hy⟩]at h1
    simp only[↓reduceIte,go_sem,show (po.length:Int)<(o.length:Int) by omega,hga,hx,hy,zam (n:=x+1) (by omega) (by omega),zac (n:=po.length) (by omega),h1]
   ·rw[if_neg (by rintro ⟨_,h⟩;exact hy h)]at h1
    simp only[↓reduceIte,go_sem,show (po.length:Int)<(o.length:Int) by omega,hga,hx,hy,zam (n:=x+1) (by omega) (by omega),zac (n:=po.length) (by omega),h1]
  ·rw[if_neg (by rintro ⟨h,_⟩;exact hx h)]at h1
   simp only[↓reduceIte,go_sem,show (po.length:Int)<(o.length:Int) by omega,hga,hx,zac (n:=po.length) (by omega),h1]
theorem zt4{l:Lv}{p:Nat}{m:Int}(h:zax l p m=true):p<=5/\rightB p m l 12=true:=by
 simp only[zax,Bool.and_eq_true,decide_eq_true_eq]at h;exact⟨by omega,h.2⟩
def yab:Fl:=⟨0,[]⟩
def za3(l:Lv)(z:List Bool):Fl:=if zax l z.length 0=true then normF (rawF z l) else yab
def z9t(l:Lv)(z:List Bool):Int:=if zax l z.length 0=true then 0 else 1
theorem zmc(l:Lv)(hl:l.ok)(z:List Bool)(H:List AO):F zd5 [.agg l.cs,.sl (bls z)] H=some (.ret (.tup [.agg (za3 l z).cs,.int .i64 (z9t l z)]),H):=by
 have hR:=fun H=>zd0 l hl z.length 0 H
 rw[zvr];by_cases h:zax l z.length 0=true
 ·have hz:=zt4 h
  have hraw:=fun H=>ygk z (by omega) l 12 (by omega) hz.2 H
  have hg:=zgw z l 12 hz.2;rw[z9t,za3,if_pos h,if_pos h];have:=zwj H (rawF z l).c (rawF z l).o hg.c0 (by rw[hg.len];omega) (fun n hn=>⟨hg.o0 n hn,by have:=hg.od n hn;omega⟩) (rawF z l).o [] rfl
  have hn:z6w (rawF z l).c []=(rawF z l).c:=rfl;simp only[List.length_nil,Int.natCast_zero,hn]at this;simp only[↓reduceIte,go_sem,hR,h,hraw,normF,Fl.cs];exact this
 ·rw[z9t,za3,if_neg h,if_neg h]
  simp only[↓reduceIte,go_sem,hR,h,yab,Fl.cs]
theorem ydk(l:Lv)(z:List Bool)(h:zax l z.length 0=true):(za3 l z).o.length=z.length:=by
 rw[za3,if_pos h];exact (zgw z l 12 (zt4 h).2).len
theorem zi3(l:Lv)(z:List Bool):0<=(za3 l z).c/\(za3 l z).c<=12/\(za3 l z).o.length<=5/\∀n∈(za3 l z).o,-1<=n/\n<=12:=by
 rw[za3]
 split
 ·rename_i h
  have hz:=zt4 h;have hg:=zgw z l 12 hz.2;have hn:=nrmF_le hg.c0 (rawF z l).o;exact⟨hn.1,Int.le_trans hn.2 hg.cd,by show (rawF z l).o.length<=5;rw[hg.len];exact hz.1,fun n hn=>⟨hg.o0 n hn,hg.od n hn⟩⟩
 ·simp[yab]
def zcx:Nat->Nat->List Bool
 |_,0=>[]
 |n,p+1=>decide (n % 2=1)::zcx (n / 2) p
theorem zgs(n p:Nat):(zcx n p).length=p:=by
 induction p generalizing n with
 |zero=>rfl
 |succ p ih=>rw[zcx,List.length_cons,ih]
theorem yfh(n p:Nat)(hn:n<1000)(hp:p<=1000)(H:List AO):F zm5 [.int .i64 n,.int .i64 p] H=some (.ret (.sl (bls (zcx n p))),H):=by
 have loop:∀(j i m:Nat) (z:List Bool) (ver:Nat),i+j=p->m<1000->z.length=i->z++zcx m j=zcx n p->zjf H (H++[.lst 0 1 [],.lst ver 1 (bls z)]) (.int .i64 m) (.int .i64 p) (.ol (H.length+1) ver) (.int .i64 i)=some (.ret (.sl (bls (zcx n p))),H):=by
  intro j
  induction j with
  |zero=>
   intro i m z ver h hm hz he;rw[zcx,List.append_nil]at he;rw[zjf,zab];simp only[↓reduceIte,go_sem,he,show ¬ (i:Int)<(p:Int) by omega]
  |succ j ih=>
   intro i m z ver h hm hz he;have h1:=ih (i+1) (m / 2) (z++[decide (m % 2=1)]) (ver+1) (by omega) (by omega) (by simp[hz]) (by rw[<- he,zcx];simp)
   have hmod:decide ((m:Int).tmod 2=1)=decide (m % 2=1):=by
    rw[Int.tmod_eq_emod_of_nonneg (by omega)];apply decide_eq_decide.2;omega
   have hdiv:(m:Int).tdiv 2=((m / 2:Nat):Int):=by rw[Int.tdiv_eq_ediv_of_nonneg (by omega)];omega
   have hs:bls z++[[.bool (decide (m % 2=1))]]=bls (z++[decide (m % 2=1)]):=by simp[bls]
   simp only[Int.natCast_add,Int.natCast_one]at h1;rw[zjf,zab];simp only[↓reduceIte,go_sem,show (i:Int)<(p:Int) by omega,hz,show i<=1073741823 by omega,hmod,hdiv,zam (n:=((m / 2:Nat):Int)) (by omega) (by omega),hs,zac (n:=i) (by omega),h1]
 rw[z2r];simp only[↓reduceIte,go_sem];exact loop p 0 n [] 0 (by omega) hn rfl rfl
def ze5:List Int->Int->List At
 |[],_=>[]
 |n::r,i=>if 0<=n then ⟨i,n⟩::ze5 r (i+1) else ze5 r (i+1)
def zap(f:Fl):List At:=⟨0,f.c⟩::ze5 f.o 1
theorem zn5(l:List Int)(x:Int):∀i:Int,ze5 (l++[x]) i=ze5 l i++if 0<=x then [⟨i+l.length,x⟩] else []:=by
 induction l with
 |nil=>intro i;simp[ze5]
 |cons n l ih=>
  intro i;rw[List.cons_append,ze5,ze5,ih (i+1)];have:i+1+(l.length:Int)=i+((n::l).length:Int):=by simp;omega
  rw[this]
  split <;> simp
theorem zs4(l:List Int):∀i:Int,(ze5 l i).length<=l.length:=by
 induction l with
 |nil=>intro i;simp[ze5]
 |cons n l ih=>intro i;rw[ze5];have:=ih (i+1);split <;> simp <;> omega
theorem zxz(l:List At)(x:At):At.css l++[x.cs]=At.css (l++[x]):=by simp[At.css]
theorem zp3(f:Fl)(hf:f.o.length<=1000)(H:List AO):F zfr [.agg f.cs] H=some (.ret (.sl (At.css (zap f))),H):=by
 have loop:∀(so po:List Int) (ver:Nat),f.o=po++so->zia H (H++[.lst 0 2 [],.lst ver 2 (At.css (⟨0,f.c⟩::ze5 po 1))]) (.ol (H.length+1) ver) (.int .i64 po.length) f.cs=some (.ret (.sl (At.css (zap f))),H):=by
  intro so
  induction so with
  |nil=>
   intro po ver h;rw[List.append_nil]at h;subst h;rw[zia,zab];simp only[↓reduceIte,go_sem,Fl.cs,zap]
  |cons x so ih=>
   intro po ver h;have hga:f.o[po.length]?=some x:=by rw[h];simp
   have hp:po.length<f.o.length:=by rw[h];simp
   have hlen:=zs4 po 1;rw[zia,zab];by_cases hx:0<=x
   ·have h1:=ih (po++[x]) (ver+1) (by rw[h];simp)
    rw[zn5,if_pos hx]at h1;have hs:At.css ({ v:=0,o:=f.c } :: ze5 po 1)++[[.int .i64 ((po.length:Int)+1),.int .i64 x]]=At.css ({ v:=0,o:=f.c } :: (ze5 po 1++[⟨1+po.length,x⟩])):=by
     rw[<- List.cons_append,<- zxz,Int.add_comm];rfl
    simp only[zaf,Fl.cs]at h1;simp only[↓reduceIte,go_sem,Fl.cs,show (po.length:Int)<(f.o.length:Int) by omega,hga,hx,zac (n:=po.length) (by omega),hs,List.length_cons,show (ze5 po 1).length<=1073741822 by omega,h1]
   ·have h1:=ih (po++[x]) ver (by rw[h];simp)
    rw[zn5,if_neg hx,List.append_nil]at h1;simp only[zaf,Fl.cs]at h1;simp only[↓reduceIte,go_sem,Fl.cs,show (po.length:Int)<(f.o.length:Int) by omega,hga,hx,zac (n:=po.length) (by omega),h1]
 rw[zzr];simp only[↓reduceIte,go_sem];exact loop f.o [] 0 rfl
end Go.Ab
end
section
set_option linter.unusedVariables false
set_option linter.unusedSimpArgs false
set_option maxRecDepth 100000
set_option maxHeartbeats 2000000
namespace Go.Ab
open Go.RowKit Go.Proofs
@[go_sem] theorem atom08_ok(a:At)(vars:Int)(H:List AO):F zku [.agg a.cs,.int .i64 vars] H=some (.ret (.bool (atB vars a)),H):=by
 rw[z2o,atB];simp only[↓reduceIte,go_sem,At.cs]
 grind
theorem z78(vars:Int)(l:List Cl)(H:List AO)(i:Nat)(c:Cl)(hi:l[i]?=some c)(hb:l.length<=1000)(hc:c.f.length<=6):
  ∀(fs fp:List At),c.f=fp++fs->zic H H (.int .i64 vars) (.sl (Cl.css l)) (.int .i64 i) (.int .i64 fp.length)=if fs.all (atB vars)=true then zf0 H H (.int .i64 vars) (.sl (Cl.css l)) (.int .i64 (i+1)) else some (.ret (.bool false),H):=by
 intro fs;have hil:i<l.length:=(List.getElem?_eq_some_iff.1 hi).1
 induction fs with
 |nil=>
  intro fp h;rw[List.append_nil]at h;rw[zic,zab];simp only[↓reduceIte,go_sem,hi,h,List.all_nil,zac (n:=i) (by omega)]
 |cons x fs ih=>
  intro fp h;have h1:=ih (fp++[x]) (by rw[h];simp)
  have hga:c.f[fp.length]?=some x:=by rw[h];simp
  have hp:fp.length<c.f.length:=by rw[h];simp
  simp only[zaf]at h1;rw[zic,zab,List.all_cons]
  cases hx:atB vars x
  ·simp only[↓reduceIte,go_sem,hi,show (fp.length:Int)<(c.f.length:Int) by omega,hga,hx]
  ·simp only[↓reduceIte,go_sem,hi,show (fp.length:Int)<(c.f.length:Int) by omega,hga,hx,zac (n:=fp.length) (by omega),h1]
theorem z4f(vars:Int)(l:List Cl)(H:List AO)(hb:l.length<=1000):
  ∀(s p:List Cl),l=p++s->zf0 H H (.int .i64 vars) (.sl (Cl.css l)) (.int .i64 p.length)=some (.ret (.bool (s.all (clB vars))),H):=by
 intro s
 induction s with
 |nil=>
  intro p h;rw[List.append_nil]at h;rw[zf0,zab];simp only[↓reduceIte,go_sem,h,List.all_nil]
 |cons c s ih=>
  intro p h;have h1:=ih (p++[c]) (by rw[h];simp)
  have hga:l[p.length]?=some c:=by rw[h];simp
  have hp:p.length<l.length:=by rw[h];simp
  simp only[zaf]at h1;have hin:=fun hc=>z78 vars l H p.length c hga hb hc c.f [] rfl
  simp only[List.length_nil,Int.natCast_zero]at hin;rw[zf0,zab,List.all_cons,clB]
  cases hx:atB vars c.t
  ·simp only[↓reduceIte,go_sem,show (p.length:Int)<(l.length:Int) by omega,hga,hx]
  ·by_cases ha:1<=c.f.length
   ·by_cases hb:c.f.length<=6
    ·simp only[↓reduceIte,go_sem,show (p.length:Int)<(l.length:Int) by omega,hga,hx,hin hb,h1,show ¬ ((c.f.length:Int)<1) by omega,show ¬ (6<(c.f.length:Int)) by omega,ha,hb]
     cases c.f.all (atB vars) <;> simp
    ·simp only[↓reduceIte,go_sem,show (p.length:Int)<(l.length:Int) by omega,hga,hx,show ¬ ((c.f.length:Int)<1) by omega,show (6<(c.f.length:Int)) by omega,ha,hb]
   ·simp only[↓reduceIte,go_sem,show (p.length:Int)<(l.length:Int) by omega,hga,hx,show ((c.f.length:Int)<1) by omega,ha]
theorem zx3(vars:Int)(l:List Cl)(H:List AO):F ziv [.int .i64 vars,.sl (Cl.css l)] H=some (.ret (.bool (zh0 vars l)),H):=by
 have h:=fun hb=>z4f vars l H hb l [] rfl
 simp only[List.length_nil,Int.natCast_zero]at h;rw[zzv,zh0];simp only[↓reduceIte,go_sem];by_cases hv:vars<1
 ·simp[hv,show ¬ 1<=vars by omega]
 by_cases hv2:16<vars
 ·simp[hv,hv2,show ¬ vars<=16 by omega]
 by_cases hl:60<(l.length:Int)
 ·simp[hv,hv2,hl,show ¬ l.length<=60 by omega]
 ·simp[hv,hv2,hl,h (by omega),show 1<=vars by omega,show vars<=16 by omega,show l.length<=60 by omega]
structure Cl.ok (vars:Nat) (c:Cl):Prop where
 ne:1<=c.f.length
 len:c.f.length<=6
 at_:∀a∈c.f,0<=a.v/\a.v<vars/\0<=a.o/\a.o<=1000
 to:0<=c.t.v/\c.t.v<vars/\0<=c.t.o/\c.t.o<=1000
theorem z5z{vars:Int}{a:At}:atB vars a=true ↔ 0<=a.v/\a.v<vars/\0<=a.o/\a.o<=1000:=by
 simp[atB,and_assoc]
theorem zgc{vars:Nat}{l:List Cl}:zh0 vars l=true ↔ 1<=vars/\vars<=16/\l.length<=60/\∀c∈l,c.ok vars:=by
 simp only[zh0,Bool.and_eq_true,decide_eq_true_eq,List.all_eq_true,clB,z5z];constructor
 ·rintro ⟨⟨⟨h1,h2⟩,h3⟩,h4⟩
  exact⟨by omega,by omega,h3,fun c hc=>⟨(h4 c hc).1.1.1,(h4 c hc).1.1.2,(h4 c hc).1.2,(h4 c hc).2⟩⟩
 ·rintro ⟨h1,h2,h3,h4⟩
  exact⟨⟨⟨by omega,by omega⟩,h3⟩,fun c hc=>⟨⟨⟨(h4 c hc).ne,(h4 c hc).len⟩,(h4 c hc).at_⟩,(h4 c hc).to⟩⟩
def okM(vars:Nat)(m:List Int):Prop:=m.length=vars/\∀x∈m,-1000000000000<=x/\x<=1000000000000
theorem okM.get{vars:Nat}{m:List Int}(h:okM vars m){v:Int}(h0:0<=v)(h1:v<vars):m[v.toNat]?=some (gI m v) /\ -1000000000000<=gI m v/\gI m v<=1000000000000:=by
 have hl:v.toNat<m.length:=by rw[h.1];omega
 have e:m[v.toNat]?=some (gI m v):=by simp[gI,List.getD,hl]
 exact⟨e,h.2 _ (List.mem_of_getElem? e)⟩
theorem zu8(n:Int):∀l:List Int,l≠[]->z1s (l++[n])=min (z1s l) n
 |[],h=>absurd rfl h
 |[x],_=>rfl
 |x::y::r,_=>by
  have:=zu8 n (y::r) (by simp)
  simp only[List.cons_append,z1s]at this ⊢;rw[this];omega
theorem zyp:∀{l:List Int},l≠[]->z1s l∈l
 |[],h=>absurd rfl h
 |[x],_=>by simp[z1s]
 |x::y::r,_=>by
  have:=zyp (l:=y::r) (by simp)
  rw[z1s];rcases Int.le_total x (z1s (y::r)) with h|h
  ·rw[Int.min_eq_left h];simp
  ·rw[Int.min_eq_right h];exact List.mem_cons_of_mem _ this
theorem yep{vars:Nat}{m:List Int}(hm:okM vars m){c:Cl}(hc:c.ok vars):-1000000001000<=ztk c m/\ztk c m<=1000000001000:=by
 have hne:c.f.map (fun a=>gI m a.v - a.o)≠[]:=by have:=hc.ne;intro h;simp at h;simp[h]at this
 obtain⟨a,ha,e⟩:=List.mem_map.1 (zyp hne);have h1:=hc.at_ a ha;have h2:=hc.to;have h3:=(hm.get h1.1 h1.2.1).2;rw[ztk,<- e];omega
theorem okM.lt{vars:Nat}{m:List Int}(h:okM vars m){v:Int}(h0:0<=v)(h1:v<vars):v.toNat<m.length:=by rw[h.1];omega
theorem z50(m:List Int)(vars:Nat)(hm:okM vars m)(H:List AO)(id ver:Nat)(hH:H[id]?=some (.lst ver 1 (zaq m)))(c:Cl)(hc:c.ok vars):
  ∀(s p:List At) ,c.f=p++s->p≠[]->zgv H H (.ol id ver) (.int .i64 (z1s (p.map fun a=>gI m a.v - a.o))) (.int .i64 p.length) c.cs=some (.ret (.int .i64 (ztk c m)),H):=by
 intro s
 induction s with
 |nil=>
  intro p h hp;rw[List.append_nil]at h;have hb:=yep hm hc;rw[ztk,h]at hb;rw[zgv,zab];simp only[↓reduceIte,go_sem,h,zam (n:=z1s (p.map fun a=>gI m a.v - a.o)+c.t.o) (by omega) (by omega),ztk]
 |cons x s ih=>
  intro p h hp;have h1:=ih (p++[x]) (by rw[h];simp) (by simp)
  have hga:c.f[p.length]?=some x:=by rw[h];simp
  have hpl:p.length<c.f.length:=by rw[h];simp
  have hlen:=hc.len;have hx:=hc.at_ x (by rw[h];simp)
  have hgm:=hm.get hx.1 hx.2.1;have hgl:=hm.lt hx.1 hx.2.1;rw[List.map_append,List.map_cons,List.map_nil,zu8 _ _ (by simpa using hp)]at h1
  simp only[zaf]at h1;have hmin:(if gI m x.v - x.o<z1s (p.map fun a=>gI m a.v - a.o) then gI m x.v - x.o else z1s (p.map fun a=>gI m a.v - a.o))=min (z1s (p.map fun a=>gI m a.v - a.o)) (gI m x.v - x.o):=by split <;> omega
  rw[zgv,zab];simp only[↓reduceIte,go_sem,At.cs,show (p.length:Int)<(c.f.length:Int) by omega,hga,hx.1,hgm.1,hgl,hH,zam (n:=gI m x.v - x.o) (by omega) (by omega),zac (n:=p.length) (by omega),hmin,h1]
theorem yfj(c:Cl)(m:List Int)(vars:Nat)(hm:okM vars m)(hc:c.ok vars)(H:List AO)(id ver:Nat)(hH:H[id]?=some (.lst ver 1 (zaq m))):F zm4 [.agg c.cs,.ol id ver] H=some (.ret (.int .i64 (ztk c m)),H):=by
 obtain⟨x,r,e⟩:∃x r,c.f=x::r:=by
  cases h:c.f with
  |nil=>have:=hc.ne;rw[h]at this;simp at this
  |cons x r=>exact⟨x,r,rfl⟩
 have hx:=hc.at_ x (by rw[e];simp)
 have hgm:=hm.get hx.1 hx.2.1;have hgl:=hm.lt hx.1 hx.2.1;have h0:c.f[0]?=some x:=by rw[e];rfl
 rw[z2q];simp only[↓reduceIte,go_sem,h0,At.cs,hx.1,hgm.1,hgl,hH,zam (n:=gI m x.v - x.o) (by omega) (by omega)]
 have h1:=z50 m vars hm H id ver hH c hc r [x] (by rw[e];rfl) (by simp)
 have hpos:(0:Int)<(c.f.length:Int):=by have:=hc.ne;omega
 rw[zgv,zab];simp only[↓reduceIte,go_sem,h0,hpos,At.cs,hx.1,hgm.1,hgl,hH,zam (n:=gI m x.v - x.o) (by omega) (by omega),Int.lt_irrefl]
 exact h1
def zgi(c:Cl)(n:Int)(l:List At):Int:=l.foldl (fun n a=>max n (c.t.o - a.o)) n
theorem zrj{vars:Nat}{c:Cl}(hc:c.ok vars):∀(l:List At),(∀a∈l,a∈c.f)->∀{n:Int},0<=n/\n<=1000->0<=zgi c n l/\zgi c n l<=1000
 |[],_,_,hn=>hn
 |a::l,hl,n,hn=>by
  have h1:=hc.at_ a (hl a (by simp))
  have h2:=hc.to;exact zrj hc l (fun b hb=>hl b (by simp[hb])) (n:=max n (c.t.o - a.o)) (by omega)
theorem zt6{vars:Nat}:∀(l:List Cl),(∀c∈l,c.ok vars)->∀{n:Int},0<=n/\n<=1000->0<=l.foldl (fun n c=>zgi c n c.f) n/\l.foldl (fun n c=>zgi c n c.f) n<=1000
 |[],_,_,hn=>hn
 |c::l,hl,n,hn=>zt6 l (fun d hd=>hl d (by simp[hd])) (zrj (hl c (by simp)) c.f (fun _ h=>h) hn)
theorem zrk(l:List Cl):zrl l=l.foldl (fun n c=>zgi c n c.f) 0:=rfl
theorem ybo(vars:Nat)(l:List Cl)(hl:∀c∈l,c.ok vars)(hb:l.length<=1000)(H:List AO)(i:Nat)(c:Cl)(hi:l[i]?=some c)(n0:Int)(hn0:0<=n0/\n0<=1000):
  ∀(s p:List At),c.f=p++s->zje H H (.sl (Cl.css l)) (.int .i64 (zgi c n0 p)) (.int .i64 i) (.int .i64 p.length)=zgu H H (.sl (Cl.css l)) (.int .i64 (zgi c n0 c.f)) (.int .i64 (i+1)):=by
 intro s;have hil:i<l.length:=(List.getElem?_eq_some_iff.1 hi).1;have hc:=hl c (List.mem_of_getElem? hi);have hlen:=hc.len
 induction s with
 |nil=>
  intro p h;rw[List.append_nil]at h;rw[zje,zab];simp only[↓reduceIte,go_sem,hi,h,zac (n:=i) (by omega)]
 |cons x s ih=>
  intro p h;have h1:=ih (p++[x]) (by rw[h];simp)
  have hga:c.f[p.length]?=some x:=by rw[h];simp
  have hp:p.length<c.f.length:=by rw[h];simp
  have hx:=hc.at_ x (by rw[h];simp)
  have ht:=hc.to;have hs:zgi c n0 (p++[x])=max (zgi c n0 p) (c.t.o - x.o):=by simp[zgi]
  have hmax:(if c.t.o - x.o > zgi c n0 p then c.t.o - x.o else zgi c n0 p)=max (zgi c n0 p) (c.t.o - x.o):=by split <;> omega
  rw[hs]at h1;simp only[zaf]at h1;rw[zje,zab];simp only[↓reduceIte,go_sem,At.cs,hi,show (p.length:Int)<(c.f.length:Int) by omega,hga,zam (n:=c.t.o - x.o) (by omega) (by omega),zac (n:=p.length) (by omega),hmax,h1]
theorem z8j(vars:Nat)(l:List Cl)(hl:∀c∈l,c.ok vars)(hb:l.length<=1000)(H:List AO):
  ∀(s p:List Cl),l=p++s->∀n,0<=n/\n<=1000->n=p.foldl (fun n c=>zgi c n c.f) 0->zgu H H (.sl (Cl.css l)) (.int .i64 n) (.int .i64 p.length)=some (.ret (.tup [.int .i64 (zrl l),.int .i64 0]),H):=by
 intro s
 induction s with
 |nil=>
  intro p h n hn e;rw[List.append_nil]at h;subst h;rw[zgu,zab];simp only[↓reduceIte,go_sem,e,zrk]
 |cons c s ih=>
  intro p h n hn e;have hga:l[p.length]?=some c:=by rw[h];simp
  have hp:p.length<l.length:=by rw[h];simp
  have h1:=ih (p++[c]) (by rw[h];simp) (zgi c n c.f) (zrj (hl c (by rw[h];simp)) c.f (fun _ h=>h) hn) (by rw[List.foldl_append,<- e];rfl)
  have hin:=ybo vars l hl hb H p.length c hga n hn c.f [] rfl;have h0:zgi c n []=n:=rfl;simp only[zaf]at h1;simp only[List.length_nil,Int.natCast_zero,h0]at hin;rw[zgu,zab];simp only[↓reduceIte,go_sem,show (p.length:Int)<(l.length:Int) by omega,hga,hin,h1]
theorem ye4(vars:Nat)(l:List Cl)(h:zh0 vars l=true)(H:List AO):F zm3 [.int .i64 vars,.sl (Cl.css l)] H=some (.ret (.tup [.int .i64 (zrl l),.int .i64 0]),H):=by
 have hr:=zgc.1 h;have h1:=z8j vars l hr.2.2.2 (by omega) H l [] rfl 0 (by omega) rfl
 rw[z2p];simp only[↓reduceIte,go_sem,zx3,h];exact h1
end Go.Ab
end
section
set_option linter.unusedVariables false
set_option linter.unusedSimpArgs false
set_option maxRecDepth 100000
set_option maxHeartbeats 2000000
namespace Go.Ab
open Go.RowKit Go.Proofs
theorem z8p(m:List Int)(hb:m.length<=1000)(most:Int)(H:List AO)(id ver:Nat)(hH:H[id]?=some (.lst ver 1 (zaq m))):F zlc [.ol id ver,.int .i64 most] H=some (.ret (.bool (m.any fun x=>decide (most<x))),H):=by
 have loop:∀(s p:List Int),m=p++s->zib H H (.ol id ver) (.int .i64 most) (.int .i64 p.length)=some (.ret (.bool (s.any fun x=>decide (most<x))),H):=by
  intro s
  induction s with
  |nil=>
   intro p h;rw[List.append_nil]at h;subst h;rw[zib,zab];simp only[↓reduceIte,go_sem,hH,List.any_nil]
  |cons x s ih=>
   intro p h;have h1:=ih (p++[x]) (by rw[h];simp)
   have hga:m[p.length]?=some x:=by rw[h];simp
   have hp:p.length<m.length:=by rw[h];simp
   simp only[zaf]at h1;rw[zib,zab,List.any_cons];by_cases hx:most<x
   ·simp only[↓reduceIte,go_sem,show (p.length:Int)<(m.length:Int) by omega,hga,hx,hH,hp,Bool.true_or]
   ·simp only[↓reduceIte,go_sem,show (p.length:Int)<(m.length:Int) by omega,hga,hx,hH,hp,zac (n:=p.length) (by omega),h1,Bool.false_or]
 have:=loop m [] rfl;rw[zzs];simp only[↓reduceIte,go_sem,hH];exact this
theorem zw0{m:List Int}{c:Cl}(h:¬ gI m c.t.v<ztk c m):zkb m c=m:=by
 unfold zkb;rw[Int.max_eq_left (by omega)]
 apply List.ext_getElem?;intro i;rw[List.getElem?_set]
 split
 ·rename_i e
  subst e
  split
  ·rename_i hl;simp[gI,List.getD,hl]
  ·rename_i hl;simp[hl]
 ·rfl
theorem z72{m:List Int}{c:Cl}(h:gI m c.t.v<ztk c m)(hl:c.t.v.toNat<m.length):zkb m c=m.set c.t.v.toNat (ztk c m)/\zkb m c≠m:=by
 have e:zkb m c=m.set c.t.v.toNat (ztk c m):=by unfold zkb;rw[Int.max_eq_right (by omega)]
 refine⟨e,fun h2=>?_⟩
 have h3:(m.set c.t.v.toNat (ztk c m)).getD c.t.v.toNat 0=ztk c m:=by rw[z6f,if_pos ⟨rfl,hl⟩]
 rw[<- e,h2]at h3;unfold gI at h;omega
def bdM(vars:Nat)(B:Int)(m:List Int):Prop:=m.length=vars/\∀x∈m,0<=x/\x<=B
theorem bdM.ok{vars:Nat}{B:Int}{m:List Int}(h:bdM vars B m)(hB:B<=1000000000000):okM vars m :=
 ⟨h.1,fun x hx=>by have:=h.2 x hx;omega⟩
theorem bdM.get{vars:Nat}{B:Int}{m:List Int}(h:bdM vars B m){v:Int}(h0:0<=v)(h1:v<vars):0<=gI m v/\gI m v<=B:=by
 have hl:v.toNat<m.length:=by rw[h.1];omega
 have e:m[v.toNat]?=some (gI m v):=by simp[gI,List.getD,hl]
 exact h.2 _ (List.mem_of_getElem? e)
theorem asks_le{vars:Nat}{B:Int}{m:List Int}(hm:bdM vars B m){c:Cl}(hc:c.ok vars):ztk c m<=B+1000:=by
 have hne:c.f.map (fun a=>gI m a.v - a.o)≠[]:=by have:=hc.ne;intro h;simp at h;simp[h]at this
 obtain⟨a,ha,e⟩:=List.mem_map.1 (zyp hne);have h1:=hc.at_ a ha;have h2:=hc.to;have h3:=hm.get h1.1 h1.2.1;rw[ztk,<- e];omega
theorem bdM.step{vars:Nat}{B:Int}{m:List Int}(hm:bdM vars B m){c:Cl}(hc:c.ok vars)(hB:0<=B):bdM vars (B+1000) (zkb m c):=by
 refine⟨by rw[zq5];exact hm.1,fun x hx=>?_⟩
 have ha:=asks_le hm hc;have hg:=hm.get hc.to.1 hc.to.2.1;rcases List.mem_or_eq_of_mem_set hx with hx|rfl
 ·have:=hm.2 x hx;omega
 ·omega
theorem bdM.round{vars:Nat}:∀(l:List Cl) {B:Int} {m:List Int},bdM vars B m->(∀c∈l,c.ok vars)->0<=B->bdM vars (B+1000*l.length) (za1 l m)
 |[],B,m,hm,_,_=>by simpa [za1] using hm
 |c::l,B,m,hm,hl,hB=>by
  have:=bdM.round l (hm.step (hl c (by simp)) hB) (fun d hd=>hl d (by simp[hd])) (by omega)
  have e:B+1000+1000*(l.length:Int)=B+1000*((c::l).length:Int):=by simp;omega
  rw[e]at this;exact this
def z68(most:Int)(m:List Int):Bool:=m.any fun x=>decide (most<x)
theorem zqo(l:List Cl)(most:Int)(vars:Nat)(H:List AO)(hl:∀c∈l,c.ok vars)(hb:l.length<=1000)(hv:vars<=1000):∀(s p:List Cl),l=p++s->∀(B:Int) (ver:Nat) (k:Int) (ch:Bool) (m:List Int),bdM vars B m->0<=B->B+1000*s.length<=1000000000->0<=k->k+s.length<=1000000000000000->∃ver',
  zgz H (H++[.lst 0 1 [],.lst ver 1 (zaq m)]) (.sl (Cl.css l)) (.int .i64 most) (.ol (H.length+1) ver) (.int .i64 k) (.bool ch) (.int .i64 p.length) =
   (if z68 most (za1 s m)=true then some (.ret (.tup [.sl [],.bool false,.int .i64 (k+s.length)]),H) else
    if ch=true\/za1 s m≠m then zd1 H (H++[.lst 0 1 [],.lst ver' 1 (zaq (za1 s m))]) (.sl (Cl.css l)) (.int .i64 most) (.ol (H.length+1) ver') (.int .i64 (k+s.length))
    else some (.ret (.tup [.sl (zaq (za1 s m)),.bool true,.int .i64 (k+s.length)]),H)):=by
 intro s
 induction s with
 |nil=>
  intro p h B ver k ch m hm h0 hB hk0 hk;rw[List.append_nil]at h;have hG:=fun H id ver hH=>z8p m (by rw[hm.1];exact hv) most H id ver hH
  refine⟨ver,?_⟩;have hGG:=hG (H++[.lst 0 1 [],.lst ver 1 (zaq m)]) (H.length+1) ver (by simp)
  rw[zgz,zab];simp only[↓reduceIte,go_sem,h,hGG,z68,za1,List.foldl_nil,List.length_nil,Int.natCast_zero,Int.add_zero]
  cases ch <;> simp
 |cons c s ih=>
  intro p h B ver k ch m hm h0 hB hk0 hk;simp only[List.length_cons,Int.natCast_add,Int.natCast_one]at hB hk;have hc:=hl c (by rw[h];simp)
  have hga:l[p.length]?=some c:=by rw[h];simp
  have hp:p.length<l.length:=by rw[h];simp
  have hA:=yfj c m vars (hm.ok (by omega)) hc (H++[.lst 0 1 [],.lst ver 1 (zaq m)]) (H.length+1) ver (by simp)
  have hgm:=(hm.ok (by omega)).get hc.to.1 hc.to.2.1
  have hgl:=(hm.ok (by omega)).lt hc.to.1 hc.to.2.1
  have hk1:k+1+(s.length:Int)=k+((c::s).length:Int):=by simp;omega
  have hround:za1 (c::s) m=za1 s (zkb m c):=rfl;rw[zgz,zab];by_cases hlt:gI m c.t.v<ztk c m
  ·have hst:=z72 hlt hgl
   obtain⟨ver',h1⟩:=ih (p++[c]) (by rw[h];simp) (B+1000) ver (k+1) true (zkb m c) (hm.step hc h0) (by omega) (by omega) (by omega) (by omega)
   refine⟨ver',?_⟩;have hset:(zaq m).set c.t.v.toNat [.int .i64 (ztk c m)]=zaq (m.set c.t.v.toNat (ztk c m)):=by simp[zaq,List.map_set]
   simp only[zaf,hst.1]at h1;simp only[↓reduceIte,go_sem,hga,hp,show (p.length:Int)<(l.length:Int) by omega,hA,hc.to.1,hgm.1,hgl,hlt,zam (n:=k+1) (by omega) (by omega),zac (n:=p.length) (by omega),hset]
   rw[h1,hround,hst.1,hk1];have hne:za1 s (m.set c.t.v.toNat (ztk c m))≠m:=by
    intro e;rw[<- hst.1]at e;have:=zrb s (zkb m c);rw[e]at this;exact hst.2 (leM_eq (z6c m c) this).symm
   simp[hne]
  ·obtain⟨ver',h1⟩:=ih (p++[c]) (by rw[h];simp) (B+1000) ver (k+1) ch (zkb m c) (hm.step hc h0) (by omega) (by omega) (by omega) (by omega)
   refine⟨ver',?_⟩;simp only[zaf,zw0 hlt]at h1;rw[hround,zw0 hlt];simp only[↓reduceIte,go_sem,hga,hp,show (p.length:Int)<(l.length:Int) by omega,hA,hc.to.1,hgm.1,hgl,hlt,zam (n:=k+1) (by omega) (by omega),zac (n:=p.length) (by omega),h1,hk1]
def z1r(r:Option (List Int)):List (List AV):=match r with|some m=>zaq m|none=>[]
theorem zrp(n:Nat)(z:List Int):∀a∈(zaq z).flatten,Lt n a:=by
 intro a ha;obtain⟨e,he,h2⟩:=List.mem_flatten.1 ha;obtain⟨b,_,rfl⟩:=List.mem_map.1 he;simp at h2;subst h2;exact .int _ _
@[go_sem] theorem lt_modL(n:Nat)(r:Option (List Int)):(∀a∈(z1r r).flatten,Lt n a)=True:=eq_true (by
 cases r with
 |none=>intro a ha;simp[z1r]at ha
 |some m=>exact zrp n m)
theorem z1h(l:List Cl)(most:Int)(vars:Nat)(H:List AO)(hl:∀c∈l,c.ok vars)(hb:l.length<=1000)(hv:vars<=1000)(hm0:0<=most)(hm1:most<=1000000){m:List Int}{r:Option (List Int)}{n:Nat}(hr:RunS l most m r n):
  ∀(ver:Nat) (k:Int),bdM vars most m->0<=k->k+n*l.length<=1000000000000000 ->
  zd1 H (H++[.lst 0 1 [],.lst ver 1 (zaq m)]) (.sl (Cl.css l)) (.int .i64 most) (.ol (H.length+1) ver) (.int .i64 k)=some (.ret (.tup [.sl (z1r r),.bool r.isSome,.int .i64 (k+n*l.length)]),H):=by
 have hgr:∀m,z68 most m=true ↔ ∃x∈m,most<x:=by intro m;simp[z68]
 induction hr with
 |over h=>
  intro ver k hbd hk0 hk;rename_i m;obtain⟨ver',h1⟩:=zqo l most vars H hl hb hv l [] rfl most ver k false m hbd hm0 (by omega) hk0 (by omega)
  rw[if_pos ((hgr _).2 h)]at h1;simp only[List.length_nil,Int.natCast_zero]at h1;rw[zd1,zab];simp only[↓reduceIte,go_sem,h1,z1r,Option.isSome];simp
 |fix h hb2=>
  intro ver k hbd hk0 hk;rename_i m;obtain⟨ver',h1⟩:=zqo l most vars H hl hb hv l [] rfl most ver k false m hbd hm0 (by omega) hk0 (by omega)
  rw[if_neg (by rw[hgr,h];rintro ⟨x,hx,hlt⟩;have:=hb2 x hx;omega),if_neg (by simp[h]),h]at h1
  simp only[List.length_nil,Int.natCast_zero]at h1;rw[zd1,zab];simp only[↓reduceIte,go_sem,h1,z1r,Option.isSome];simp
 |more h hb2 hr ih=>
  intro ver k hbd hk0 hk;rename_i m r n;have e:k+l.length+n*(l.length:Int)=k+((n+1:Nat):Int)*l.length:=by
   rw[Int.natCast_add,Int.add_mul];simp;omega
  have hn0:0<=n*(l.length:Int):=Int.mul_nonneg (by omega) (by omega)
  obtain⟨ver',h1⟩:=zqo l most vars H hl hb hv l [] rfl most ver k false m hbd hm0 (by omega) hk0 (by omega)
  rw[if_neg (by rw[hgr];rintro ⟨x,hx,hlt⟩;have:=hb2 x hx;omega),if_pos (.inr h)]at h1
  have hrb:=hbd.round l hl hm0;rw[ih ver' (k+l.length) ⟨hrb.1,fun x hx=>⟨(hrb.2 x hx).1,hb2 x hx⟩⟩ (by omega) (by omega),e]at h1
  simp only[List.length_nil,Int.natCast_zero]at h1;rw[zd1,zab];simp only[↓reduceIte,go_sem,h1]
theorem z4e(l:List Cl)(most:Int)(vars:Nat)(H:List AO)(hl:∀c∈l,c.ok vars)(hb:l.length<=1000)(hv:vars<=1000)(hv1:1<=vars)(hm0:0<=most)(hm1:most<=1000000){m:List Int}{r:Option (List Int)}{n:Nat}(hr:RunS l most m r n)(hbd:bdM vars most m)(hk:n*(l.length:Int)<=1000000000000000):
  F zjn [.sl (Cl.css l),.sl (zaq m),.int .i64 most] H=some (.ret (.tup [.sl (z1r r),.bool r.isSome,.int .i64 (n*l.length)]),H):=by
 obtain⟨x,q,e⟩:∃x q,m=x::q:=by
  cases m with
  |nil=>have:=hbd.1;simp at this;omega
  |cons x q=>exact⟨x,q,rfl⟩
 subst e;have h1:=fun ver=>z1h l most vars H hl hb hv hm0 hm1 hr ver 0 hbd (by omega) (by omega)
 have hlen:=hbd.1;rw[List.length_cons]at hlen;have hi:zaq (x::q)=[.int .i64 x]::zaq q:=rfl;have h1s:(∀y:List AV,y∈zaq q->y.length=1)=True:=eq_true (by intro y hy;obtain⟨z,_,rfl⟩:=List.mem_map.1 hy;rfl)
 rw[zwo];simp only[Int.zero_add,hi]at h1;simp only[↓reduceIte,go_sem,hi,h1s,show q.length<1073741824 by omega,h1]
theorem z8l(vars:Nat)(l:List Cl)(h:zh0 vars l=true)(H:List AO):F zle [.int .i64 vars,.sl (Cl.css l)] H=some (.ret (.int .i64 (zhf vars l)),H):=by
 have hr:=zgc.1 h;have hb:=zt6 l hr.2.2.2 (n:=0) (by omega)
 rw[<- zrk]at hb;have h1:0<=((vars:Int) - 1)*zrl l:=Int.mul_nonneg (by omega) hb.1
 have h2:((vars:Int) - 1)*zrl l<=15*1000:=Int.mul_le_mul (by omega) hb.2 hb.1 (by omega)
 rw[zzu,zhf];simp only[↓reduceIte,go_sem,ye4 vars l h,zam (n:=(vars:Int) - 1) (by omega) (by omega),zam (n:=((vars:Int) - 1)*zrl l) (by omega) (by omega)]
theorem zro(vars:Nat)(l:List Cl)(h:zh0 vars l=true):0<=zhf vars l/\zhf vars l<=15000:=by
 have hr:=zgc.1 h;have hb:=zt6 l hr.2.2.2 (n:=0) (by omega)
 rw[<- zrk]at hb;have h1:0<=((vars:Int) - 1)*zrl l:=Int.mul_nonneg (by omega) hb.1
 have h2:((vars:Int) - 1)*zrl l<=15*1000:=Int.mul_le_mul (by omega) hb.2 hb.1 (by omega)
 unfold zhf;omega
theorem run0(vars:Nat)(l:List Cl)(h:zh0 vars l=true):∃r k,RunS l (zhf vars l) (List.replicate vars 0) r k/\k<=300001:=by
 have hr:=zgc.1 h;have hb:=zro vars l h;have hs:∀n,z1a (List.replicate n 0)=0:=by
  intro n
  induction n with
  |zero=>rfl
  |succ n ih=>simp only[z1a,List.replicate_succ,List.foldr_cons]at *;omega
 have hmul:(vars:Int)*zhf vars l<=16*15000:=Int.mul_le_mul (by omega) hb.2 hb.1 (by omega)
 obtain⟨r,k,h1,h2⟩:=yax l (zhf vars l) 300000 (List.replicate vars 0) (by rw[hs,List.length_replicate];omega) (fun x hx=>by simp at hx;omega)
 exact⟨r,k,h1,by omega⟩
theorem z9m(vars:Nat)(l:List Cl)(h:zh0 vars l=true){r:Option (List Int)}{k:Nat}(hr:RunS l (zhf vars l) (List.replicate vars 0) r k)(H:List AO):F zld [.int .i64 vars,.sl (Cl.css l)] H=some (.ret (.tup [.sl (z1r r),.bool r.isSome,.int .i64 (k*l.length),.int .i64 0]),H):=by
 have hR:=zgc.1 h;have hb:=zro vars l h;obtain⟨r',k',h1,h2⟩:=run0 vars l h;obtain⟨_,e⟩:=hr.det h1;have hk:(k:Int)*l.length<=300001*60:=Int.mul_le_mul (by omega) (by omega) (by omega) (by omega)
 have hro:=fun H=>z4e l (zhf vars l) vars H hR.2.2.2 (by omega) (by omega) hR.1 hb.1 (by omega) hr ⟨by simp,fun x hx=>by simp at hx;omega⟩ (by omega)
 have hrep:List.replicate vars [AV.int .i64 0]=zaq (List.replicate vars 0):=by simp[zaq]
 rw[zzt];simp only[↓reduceIte,go_sem,zx3,h,z8l vars l h,show (vars:Int)<=1073741824 by omega,show (vars:Int)<=1073741823 by omega,hro,hrep]
end Go.Ab
end
section
set_option linter.unusedVariables false
set_option linter.unusedSimpArgs false
set_option maxRecDepth 100000
set_option maxHeartbeats 2000000
namespace Go.Ab
open Go.RowKit Go.Proofs
def zta:List Bool->Int->List Cl
 |[],_=>[]
 |b::r,i=>if b then zta r (i+1) else ⟨[⟨i,0⟩],⟨0,1⟩⟩::zta r (i+1)
def z93(z:List Bool)(c:Co):List Cl:=(zap (za3 c.a z)).map fun t=>⟨zap (za3 c.b z),t⟩
def zca(cons:List Co)(z:List Bool):List Cl:=zta z 1++cons.flatMap (z93 z)
theorem znm(l:List Cl)(x:Cl):Cl.css l++[x.cs]=Cl.css (l++[x]):=by simp[Cl.css]
theorem z1o(l:List Bool)(x:Bool):∀i:Int,zta (l++[x]) i=zta l i++if x then [] else [⟨[⟨i+l.length,0⟩],⟨0,1⟩⟩]:=by
 induction l with
 |nil=>intro i;simp[zta]
 |cons n l ih=>
  intro i;rw[List.cons_append,zta,zta,ih (i+1)];have:i+1+(l.length:Int)=i+((n::l).length:Int):=by simp;omega
  rw[this]
  split <;> simp
theorem zym(l:List Bool):∀i:Int,(zta l i).length<=l.length:=by
 induction l with
 |nil=>intro i;simp[zta]
 |cons n l ih=>intro i;rw[zta];have:=ih (i+1);split <;> simp <;> omega
theorem z31(m:List Int)(z:List Bool)(hm:m.length=z.length+1)(hb:okM (z.length+1) m)(hz:z.length<=1000):∃vs,∀H,F zjm [.sl (zaq m),.sl (bls z)] H=some (.ret (.sl (zaq vs)),H):=by
 have g0:=hb.get (v:=0) (by omega) (by omega)
 have loop:∀(s p:List Bool) (out:List Int),z=p++s->out.length=p.length->∃vs,∀(H:List AO) (ver:Nat),zgy H (H++[.lst 0 1 [],.lst ver 1 (zaq out)]) (.sl (zaq m)) (.sl (bls z)) (.ol (H.length+1) ver) (.int .i64 p.length)=some (.ret (.sl (zaq vs)),H):=by
  intro s
  induction s with
  |nil=>
   intro p out h ho;rw[List.append_nil]at h;subst h;refine⟨out,fun H ver=>?_⟩
   rw[zgy,zab];simp only[↓reduceIte,go_sem]
  |cons x s ih=>
   intro p out h ho;have hga:z[p.length]?=some x:=by rw[h];simp
   have hp:p.length<z.length:=by rw[h];simp
   have g1:=hb.get (v:=(p.length:Int)+1) (by omega) (by omega)
   have hnn:(0:Int)<=(p.length:Int)+1:=by omega
   obtain⟨vs,h1⟩:=ih (p++[x]) (out++[if x=true then 0 else gI m 0 - gI m ((p.length:Int)+1)]) (by rw[h];simp) (by simp[ho])
   refine⟨vs,fun H ver=>?_⟩
   have h1:=h1 H (ver+1);rw[<- zln]at h1;simp only[zaf]at h1;have e0:m[0]?=some (gI m 0):=g0.1;rw[zgy,zab];cases x
   ·simp only[↓reduceIte,Bool.false_eq_true]at h1
    simp only[↓reduceIte,go_sem,show (p.length:Int)<(z.length:Int) by omega,hga,e0,hnn,g1.1,zac (n:=p.length) (by omega),zam (n:=gI m 0 - gI m ((p.length:Int)+1)) (by omega) (by omega),ho,show p.length<=1073741823 by omega,h1]
   ·simp only[↓reduceIte]at h1
    simp only[↓reduceIte,go_sem,show (p.length:Int)<(z.length:Int) by omega,hga,e0,hnn,g1.1,zac (n:=p.length) (by omega),zam (n:=gI m 0 - gI m ((p.length:Int)+1)) (by omega) (by omega),ho,show p.length<=1073741823 by omega,h1]
 obtain⟨vs,h1⟩:=loop z [] [] rfl rfl;refine⟨vs,fun H=>?_⟩
 have h1:=h1 H 0;rw[zwn];simp only[↓reduceIte,go_sem];exact h1
theorem z5t(cons:List Co)(z:List Bool)(hz:z.length<=1000)(H:List AO):∀(s p:List Bool) (ver:Nat),z=p++s->∃ver',
  zeq H (H++[.lst 0 3 [],.lst ver 3 (Cl.css (zta p 1))]) (.sl (Co.css cons)) (.sl (bls z)) (.ol (H.length+1) ver) (.int .i64 p.length)=zdp H (H++[.lst 0 3 [],.lst ver' 3 (Cl.css (zta z 1))]) (.sl (Co.css cons)) (.sl (bls z)) (.ol (H.length+1) ver') (.int .i64 0):=by
 intro s
 induction s with
 |nil=>
  intro p ver h;rw[List.append_nil]at h;subst h;refine⟨ver,?_⟩;rw[zeq,zab];simp only[↓reduceIte,go_sem]
 |cons x s ih=>
  intro p ver h;have hga:z[p.length]?=some x:=by rw[h];simp
  have hp:p.length<z.length:=by rw[h];simp
  have hl:=zym p 1;cases x
  ·obtain⟨ver',h1⟩:=ih (p++[false]) (ver+1) (by rw[h];simp)
   refine⟨ver',?_⟩;rw[z1o,if_neg (by simp)]at h1
   simp only[zaf]at h1;have hs:Cl.css (zta p 1)++[[.sl [[.int .i64 ((p.length:Int)+1),.int .i64 0]],.int .i64 0,.int .i64 1]]=Cl.css (zta p 1++[⟨[⟨1+p.length,0⟩],⟨0,1⟩⟩]):=by
    rw[<- znm,Int.add_comm];rfl
   rw[zeq,zab];simp only[↓reduceIte,go_sem,show (p.length:Int)<(z.length:Int) by omega,hga,zac (n:=p.length) (by omega),show (zta p 1).length<=1073741823 by omega,hs,h1]
  ·obtain⟨ver',h1⟩:=ih (p++[true]) ver (by rw[h];simp)
   refine⟨ver',?_⟩;rw[z1o,if_pos rfl,List.append_nil]at h1;simp only[zaf]at h1;rw[zeq,zab];simp only[↓reduceIte,go_sem,show (p.length:Int)<(z.length:Int) by omega,hga,zac (n:=p.length) (by omega),h1]
theorem z5s(cons:List Co)(z:List Bool)(H:List AO)(i:Nat)(hi:i<=1000)(fb:Fl)(hfb:fb.o.length<=1000)(l:List At)(hl:l.length<=1000)(out:List Cl)(ho:out.length<=1000):∀(s p:List At) (ver:Nat),l=p++s->∃ver',
  zgd H (H++[.lst 0 3 [],.lst ver 3 (Cl.css (out++p.map fun t=>⟨zap fb,t⟩))]) (.sl (Co.css cons)) (.sl (bls z)) (.ol (H.length+1) ver) (.int .i64 i) (.sl (At.css l)) (.int .i64 p.length) fb.cs=zdp H (H++[.lst 0 3 [],.lst ver' 3 (Cl.css (out++l.map fun t=>⟨zap fb,t⟩))]) (.sl (Co.css cons)) (.sl (bls z)) (.ol (H.length+1) ver') (.int .i64 (i+1)):=by
 intro s
 induction s with
 |nil=>
  intro p ver h;rw[List.append_nil]at h;subst h;refine⟨ver,?_⟩;rw[zgd,zab];simp only[↓reduceIte,go_sem,zac (n:=i) (by omega)]
 |cons x s ih=>
  intro p ver h;have hga:l[p.length]?=some x:=by rw[h];simp
  have hp:p.length<l.length:=by rw[h];simp
  obtain⟨ver',h1⟩:=ih (p++[x]) (ver+1) (by rw[h];simp)
  refine⟨ver',?_⟩;have hA:=fun H=>zp3 fb hfb H
  have hlen:(out++List.map (fun t=>{ f:=zap fb,t:=t:Cl }) p).length<=1073741823:=by simp;omega
  rw[List.map_append,List.map_cons,List.map_nil,<- List.append_assoc,<- znm,Cl.cs]at h1;simp only[zaf]at h1;rw[zgd,zab];simp only[↓reduceIte,go_sem,show (p.length:Int)<(l.length:Int) by omega,hga,zac (n:=p.length) (by omega),hA,At.cs,hlen]
  exact h1
theorem zgb(l:Lv)(z:List Bool):(zap (za3 l z)).length<=6:=by
 have:=zs4 (za3 l z).o 1;have:=(zi3 l z).2.2.1;rw[zap,List.length_cons];omega
theorem z0d(z:List Bool):∀l:List Co,(l.flatMap (z93 z)).length<=6*l.length
 |[]=>by simp
 |c::l=>by
  have:=z0d z l;have:=zgb c.a z;simp only[List.flatMap_cons,List.length_append,z93,List.length_map,List.length_cons];omega
theorem z5r(cons:List Co)(hcons:∀c∈cons,c.ok)(hcl:cons.length<=60)(z:List Bool)(hz:z.length<=5)(H:List AO):∀(s p:List Co) (ver:Nat),cons=p++s ->
  zdp H (H++[.lst 0 3 [],.lst ver 3 (Cl.css (zta z 1++p.flatMap (z93 z)))]) (.sl (Co.css cons)) (.sl (bls z)) (.ol (H.length+1) ver) (.int .i64 p.length)=some (.ret (.sl (Cl.css (zca cons z))),H):=by
 intro s
 induction s with
 |nil=>
  intro p ver h;rw[List.append_nil]at h;subst h;rw[zdp,zab];simp only[↓reduceIte,go_sem,zca]
 |cons x s ih=>
  intro p ver h;have hga:cons[p.length]?=some x:=by rw[h];simp
  have hp:p.length<cons.length:=by rw[h];simp
  have hx:=hcons x (by rw[h];simp)
  have hf1:=fun H=>zmc x.a hx.1 z H
  have hf2:=fun H=>zmc x.b hx.2 z H
  have hA:=fun H=>zp3 (za3 x.a z) (by have:=(zi3 x.a z).2.2.1;omega) H
  rw[zdp,zab];simp only[↓reduceIte,go_sem,show (p.length:Int)<(cons.length:Int) by omega,hga,hf1,hf2,hA]
  have hg:=zi3 x.b z;have hla:=zgb x.a z;obtain⟨ver',h1⟩:=z5s cons z H p.length (by omega) (za3 x.b z) (by omega) (zap (za3 x.a z)) (by omega) (zta z 1++p.flatMap (z93 z)) (by have:=zym z 1;have:=z0d z p;simp only[List.length_append];omega) (zap (za3 x.a z)) [] ver rfl
  have h2:=ih (p++[x]) ver' (by rw[h];simp)
  have e:zta z 1++List.flatMap (z93 z) (p++[x])=(zta z 1++p.flatMap (z93 z))++(zap (za3 x.a z)).map fun t=>⟨zap (za3 x.b z),t⟩:=by
   simp[z93]
  rw[e]at h2;simp only[zaf]at h2;rw[h2]at h1;simp only[List.map_nil,List.append_nil,List.length_nil,Int.natCast_zero]at h1;exact h1
theorem z3e(cons:List Co)(hcons:∀c∈cons,c.ok)(hcl:cons.length<=60)(z:List Bool)(hz:z.length<=5)(H:List AO):F zhp [.sl (Co.css cons),.sl (bls z)] H=some (.ret (.sl (Cl.css (zca cons z))),H):=by
 obtain⟨ver,h0⟩:=z5t cons z (by omega) H z [] 0 rfl
 have h2:=z5r cons hcons hcl z hz H cons [] ver rfl;simp only[List.flatMap_nil,List.append_nil,List.length_nil,Int.natCast_zero]at h2;rw[h2]at h0;rw[zvq];simp only[↓reduceIte,go_sem];exact h0
def zke(a:At)(b:List At):List Cl:=b.map fun y=>⟨[a],⟨y.v,y.o+1⟩⟩
theorem zxf(a:At)(b:List At)(y:At):zke a (b++[y])=zke a b++[⟨[a],⟨y.v,y.o+1⟩⟩]:=by simp[zke]
theorem zxy(t:At):∀(l:List Int) (i:Int),t∈ze5 l i->i<=t.v/\t.v<i+l.length/\0<=t.o/\t.o∈l
 |[],i,h=>by simp[ze5]at h
 |n::l,i,h=>by
  rw[ze5]at h;have ih:=zxy t l (i+1);simp only[List.length_cons,Int.natCast_add,Int.natCast_one,List.mem_cons]
  split at h
  ·rcases List.mem_cons.1 h with rfl|h
   ·exact⟨Int.le_refl _,by simp only[];omega,by assumption,.inl rfl⟩
   ·have:=ih h;exact⟨by omega,by omega,this.2.2.1,.inr this.2.2.2⟩
  ·have:=ih h;exact⟨by omega,by omega,this.2.2.1,.inr this.2.2.2⟩
theorem z16(l:Lv)(z:List Bool):(za3 l z).o.length<=z.length:=by
 by_cases h:zax l z.length 0=true
 ·rw[ydk l z h];omega
 ·rw[za3,if_neg h];simp[yab]
theorem znp(l:Lv)(z:List Bool):∀t∈zap (za3 l z),0<=t.v/\t.v<((z.length+1:Nat):Int)/\0<=t.o/\t.o<=12:=by
 intro t ht;have hg:=zi3 l z;have hl:=z16 l z;rw[zap]at ht;rcases List.mem_cons.1 ht with rfl|ht
 ·exact⟨by simp,by simp only[];omega,hg.1,hg.2.1⟩
 ·have:=zxy t _ _ ht
  have h2:=hg.2.2.2 _ this.2.2.2;omega
theorem z6p(c:Cl):∀(z:List Bool) (i:Int),c∈zta z i->∃j,i<=j/\j<i+z.length/\c=⟨[⟨j,0⟩],⟨0,1⟩⟩
 |[],i,h=>by simp[zta]at h
 |b::z,i,h=>by
  rw[zta]at h;have ih:=z6p c z (i+1);simp only[List.length_cons,Int.natCast_add,Int.natCast_one]
  split at h
  ·obtain⟨j,h1,h2,h3⟩:=ih h;exact⟨j,by omega,by omega,h3⟩
  ·rcases List.mem_cons.1 h with rfl|h
   ·exact⟨i,by omega,by omega,rfl⟩
   ·obtain⟨j,h1,h2,h3⟩:=ih h;exact⟨j,by omega,by omega,h3⟩
theorem z5q(cons:List Co)(z:List Bool):∀c∈zca cons z,c.ok (z.length+1):=by
 intro c hc;rcases List.mem_append.1 hc with hc|hc
 ·obtain⟨j,h1,h2,rfl⟩:=z6p c z 1 hc
  exact⟨by simp,by simp,fun a ha=>by simp at ha;subst ha;simp only[];omega,by simp only[];omega⟩
 ·obtain⟨d,hd,hc⟩:=List.mem_flatMap.1 hc
  obtain⟨t,ht,rfl⟩:=List.mem_map.1 hc;have ht:=znp d.a z t ht;exact⟨by simp[zap],zgb d.b z,fun a ha=>by have:=znp d.b z a ha;omega,by simp only[];omega⟩
theorem yg1(a:At)(b:List At)(vars:Nat)(ha:0<=a.v/\a.v<vars/\0<=a.o/\a.o<=12)(hb:∀t∈b,0<=t.v/\t.v<vars/\0<=t.o/\t.o<=12):∀c∈zke a b,c.ok vars:=by
 intro c hc;obtain⟨y,hy,rfl⟩:=List.mem_map.1 hc;have:=hb y hy;exact⟨by simp,by simp,fun t ht=>by simp at ht;subst ht;omega,by simp only[];omega⟩
def zsn(cons:List Co)(z:List Bool)(b:Lv)(x:At):List Cl:=zca cons z++zke x (zap (za3 b z))
theorem zph(cons:List Co)(z:List Bool):(zca cons z).length<=z.length+6*cons.length:=by
 have:=zym z 1;have:=z0d z cons;rw[zca,List.length_append];omega
theorem zu7(cons:List Co)(hcl:cons.length<=8)(z:List Bool)(hz:z.length<=5)(a b:Lv)(x:At)(hx:x∈zap (za3 a z)):zh0 ((z.length+1:Nat):Int) (zsn cons z b x)=true:=by
 have h1:=zph cons z;have h2:=zgb b z;refine zgc.2 ⟨by omega,by omega,by simp only[zsn,List.length_append,zke,List.length_map];omega,fun c hc=>?_⟩
 rcases List.mem_append.1 hc with hc|hc
 ·exact z5q cons z c hc
 ·exact yg1 x _ _ (znp a z x hx) (znp b z) c hc
def zkc(vars:Nat)(l:List Cl):Prop:=∃m k,RunS l (zhf vars l) (List.replicate vars 0) (some m) k
theorem yay{vars:Nat}{l:List Cl}(h:zh0 vars l=true){m:List Int}{k:Nat}(hr:RunS l (zhf vars l) (List.replicate vars 0) (some m) k):okM vars m:=by
 have h1:=hr.model rfl;have h2:=hr.le rfl;have hb:=zro vars l h;refine⟨by simpa using h1.2.2,fun x hx=>?_⟩
 obtain⟨i,hi⟩:=List.mem_iff_getElem?.1 hx;have h3:=h2.2 i;have h4:=h1.2.1 x hx;have h5:(List.replicate vars (0:Int)).getD i 0=0:=by
  simp only[List.getD,List.getElem?_replicate];split <;> rfl
 rw[h5]at h3;simp only[List.getD,hi,Option.getD_some]at h3;omega
theorem zqk(l:List Cl)(hl:l.length<=1000)(a:At)(b:List At)(hb:b.length<=1000)(hbo:∀y∈b,0<=y.o/\y.o<=1000)(z:List Bool)(hz:z.length<=5)(hR:zh0 ((z.length+1:Nat):Int) (l++zke a b)=true){r:Option (List Int)}{k:Nat}(hr:RunS (l++zke a b) (zhf ((z.length+1:Nat):Int) (l++zke a b)) (List.replicate (z.length+1) 0) r k)(H:List AO):
  ∀(s p:List At) (ver:Nat),b=p++s->∃vs,zer H (H++[.lst ver 3 (Cl.css (l++zke a p))]) (.sl (At.css b)) (.sl (bls z)) (.ol H.length ver) (.int .i64 p.length) a.cs=some (.ret (.tup [.sl (zaq vs),.bool r.isSome]),H):=by
 intro s
 induction s with
 |nil=>
  intro p ver h;rw[List.append_nil]at h;subst h;have hS:=fun H=>z9m (z.length+1) (l++zke a b) hR hr H
  simp only[Int.natCast_add,Int.natCast_one]at hS;rw[zer,zab]
  cases r with
  |none=>
   refine⟨[],?_⟩;simp only[↓reduceIte,go_sem,zac (n:=z.length) (by omega),hS,Option.isSome,z1r,zfi]
  |some m=>
   have hm:=yay hR hr;obtain⟨vs,hV⟩:=z31 m z hm.1 hm (by omega)
   refine⟨vs,?_⟩;simp only[↓reduceIte,go_sem,zac (n:=z.length) (by omega),hS,Option.isSome,z1r,hV]
 |cons x s ih=>
  intro p ver h;have hga:b[p.length]?=some x:=by rw[h];simp
  have hp:p.length<b.length:=by rw[h];simp
  have hx:=hbo x (by rw[h];simp)
  obtain⟨vs,h1⟩:=ih (p++[x]) (ver+1) (by rw[h];simp)
  refine⟨vs,?_⟩;have hlen:(l++zke a p).length<=1073741823:=by simp[zke];omega
  rw[zxf,<- List.append_assoc,<- znm]at h1;simp only[zaf]at h1;rw[zer,zab];simp only[↓reduceIte,go_sem,At.cs,show (p.length:Int)<(b.length:Int) by omega,hga,zac (n:=p.length) (by omega),hlen,zam (n:=x.o+1) (by omega) (by omega)]
  exact h1
theorem z3p(l:List Cl)(hl:l.length<=1000)(a:At)(y:At)(b:List At)(hb:b.length<=100)(hbo:∀t∈y::b,0<=t.o/\t.o<=1000)(z:List Bool)(hz:z.length<=5)(hR:zh0 ((z.length+1:Nat):Int) (l++zke a (y::b))=true){r:Option (List Int)}{k:Nat}(hr:RunS (l++zke a (y::b)) (zhf ((z.length+1:Nat):Int) (l++zke a (y::b))) (List.replicate (z.length+1) 0) r k)(H:List AO):
  ∃vs,F zhq [.sl (Cl.css l),.agg a.cs,.sl (At.css (y::b)),.sl (bls z)] H=some (.ret (.tup [.sl (zaq vs),.bool r.isSome]),H):=by
 cases l with
 |nil=>
  obtain⟨vs,h1⟩:=zqk [] hl a (y::b) (by simp;omega) hbo z hz hR hr H b [y] 0 rfl
  refine⟨vs,?_⟩;have hy:=hbo y (by simp)
  have h0:(y::b)[0]?=some y:=rfl;have e:Cl.css (zke a [y])=[[.sl [a.cs],.int .i64 y.v,.int .i64 (y.o+1)]]:=rfl;have hn:Cl.css []=[]:=rfl;rw[zpa];simp only[List.nil_append,List.length_cons,List.length_nil,e,Int.natCast_add,Int.natCast_zero,Int.zero_add,Int.natCast_one]at h1;simp only[↓reduceIte,go_sem,hn];rw[zer,zab];simp only[↓reduceIte,go_sem,h0,List.length_cons,show (0:Int)<((b.length+1:Nat):Int) by omega,At.cs,zam (n:=y.o+1) (by omega) (by omega),zam (n:=1) (by omega) (by omega)]
  exact h1
 |cons c l=>
  obtain⟨vs,h1⟩:=zqk (c::l) hl a (y::b) (by simp;omega) hbo z hz hR hr H (y::b) [] 0 rfl
  refine⟨vs,?_⟩;have e:Cl.css (c::l)=c.cs::Cl.css l:=rfl;have h3:(∀x:List AV,x∈Cl.css l->x.length=3)=True:=eq_true (by intro x hx;obtain⟨z,_,rfl⟩:=List.mem_map.1 hx;rfl)
  have hm:zke a []=[]:=rfl;rw[zpa];simp only[hm,List.append_nil,List.length_nil,Int.natCast_zero,e]at h1;simp only[List.length_cons]at hl;simp only[↓reduceIte,go_sem,e,h3,show l.length<1073741824 by omega]
  exact h1
def zmb(cons:List Co)(a b:Lv)(z:List Bool):Prop:=∃x∈zap (za3 a z),zkc (z.length+1) (zsn cons z b x)
def LeqS(cons:List Co)(p:Nat)(a b:Lv):Prop:=∀n<2 ^ p,¬ zmb cons a b (zcx n p)
noncomputable def z0z(cons:List Co)(p:Nat)(a b:Lv):Bool:=@decide (LeqS cons p a b) (Classical.propDecidable _)
theorem yg5(cons:List Co)(hcl:cons.length<=8)(p n:Nat)(hp:p<=5)(hn:n<1000)(a b:Lv)(H:List AO)(z:List Bool)(hz:z=zcx n p):
  ∀(s q:List At),zap (za3 a z)=q++s ->
   ((∃x∈s,zkc (z.length+1) (zsn cons z b x))/\∃vs,ze1 H H (.sl (Co.css cons)) (.int .i64 p) (.int .i64 n) (.sl (bls z)) (.sl (At.css (zap (za3 a z)))) (.sl (Cl.css (zca cons z))) (.int .i64 q.length) a.cs b.cs (za3 b z).cs=some (.ret (.tup [.bool false,.sl (zaq vs),.int .i64 0]),H)) \/
   ((¬ ∃x∈s,zkc (z.length+1) (zsn cons z b x))/\ze1 H H (.sl (Co.css cons)) (.int .i64 p) (.int .i64 n) (.sl (bls z)) (.sl (At.css (zap (za3 a z)))) (.sl (Cl.css (zca cons z))) (.int .i64 q.length) a.cs b.cs (za3 b z).cs=zge H H (.sl (Co.css cons)) (.int .i64 p) (.int .i64 (n+1)) a.cs b.cs):=by
 have hzl:z.length=p:=by rw[hz,zgs]
 have hlen:=zgb a z;intro s
 induction s with
 |nil=>
  intro q h;refine .inr ⟨by simp,?_⟩
  rw[List.append_nil]at h;rw[ze1,zab];simp only[↓reduceIte,go_sem,h,zac (n:=n) (by omega)]
 |cons x s ih=>
  intro q h;have hga:(zap (za3 a z))[q.length]?=some x:=by rw[h];simp
  have hq:q.length<(zap (za3 a z)).length:=by rw[h];simp
  have hx:x∈zap (za3 a z):=by rw[h];simp
  have hA:=fun H=>zp3 (za3 b z) (by have:=(zi3 b z).2.2.1;omega) H
  have hright:=zu7 cons hcl z (by omega) a b x hx
  have hcl2:=zph cons z;obtain⟨r,k,hr,_⟩:=run0 (z.length+1) _ hright;have hbo:∀t∈zap (za3 b z),0<=t.o/\t.o<=1000:=fun t ht=>by have:=znp b z t ht;omega
  obtain⟨vs,hag⟩:=z3p (zca cons z) (by omega) x ⟨0,(za3 b z).c⟩ (ze5 (za3 b z).o 1) (by have:=zgb b z;rw[zap,List.length_cons]at this;omega) hbo z (by omega) hright hr H
  rw[show (⟨0,(za3 b z).c⟩::ze5 (za3 b z).o 1)=zap (za3 b z) from rfl]at hag
  cases r with
  |some m=>
   refine .inl ⟨⟨x,by simp,m,k,hr⟩,vs,?_⟩
   rw[ze1,zab];simp only[↓reduceIte,go_sem,show (q.length:Int)<((zap (za3 a z)).length:Int) by omega,hga,hA,hag,Option.isSome]
  |none=>
   have hns:¬ zkc (z.length+1) (zsn cons z b x):=by
    rintro ⟨m,k',h2⟩
    have:=(hr.det h2).1;cases this
   have ih:=ih (q++[x]) (by rw[h];simp)
   simp only[zaf]at ih;have hs:(∃y∈x::s,zkc (z.length+1) (zsn cons z b y)) ↔ ∃y∈s,zkc (z.length+1) (zsn cons z b y):=by simp[hns]
   rw[hs];rcases ih with⟨h1,vs',h2⟩|⟨h1,h2⟩
   ·refine .inl ⟨h1,vs',?_⟩
    rw[ze1,zab];simp only[↓reduceIte,go_sem,show (q.length:Int)<((zap (za3 a z)).length:Int) by omega,hga,hA,hag,Option.isSome,zac (n:=q.length) (by omega),h2]
   ·refine .inr ⟨h1,?_⟩
    rw[ze1,zab];simp only[↓reduceIte,go_sem,show (q.length:Int)<((zap (za3 a z)).length:Int) by omega,hga,hA,hag,Option.isSome,zac (n:=q.length) (by omega),h2]
theorem pow5:∀p:Nat,p<=5->2 ^ p<=32:=fun p hp=>Nat.pow_le_pow_right (by omega) hp
theorem sh_pow(p:Nat)(hp:p<=5):shI true .i64 1 (p:Int)=((2 ^ p:Nat):Int):=by
 match p,hp with
 |0,_=>rfl
 |1,_=>rfl
 |2,_=>rfl
 |3,_=>rfl
 |4,_=>rfl
 |5,_=>rfl
theorem ybu(cons:List Co)(hcons:∀c∈cons,c.ok)(hcl:cons.length<=8)(p:Nat)(hp:p<=5)(a b:Lv)(ha:a.ok)(hb:b.ok)(H:List AO):∀(j n:Nat),n+j=2 ^ p ->
      ((∃k,n<=k/\k<2 ^ p/\zmb cons a b (zcx k p))/\∃vs,zge H H (.sl (Co.css cons)) (.int .i64 p) (.int .i64 n) a.cs b.cs=some (.ret (.tup [.bool false,.sl (zaq vs),.int .i64 0]),H)) \/
      ((¬ ∃k,n<=k/\k<2 ^ p/\zmb cons a b (zcx k p))/\zge H H (.sl (Co.css cons)) (.int .i64 p) (.int .i64 n) a.cs b.cs=some (.ret (.tup [.bool true,.sl [],.int .i64 0]),H)):=by
 have hpw:=pow5 p hp;have hsh:=sh_pow p hp;intro j
 induction j with
 |zero=>
  intro n h;refine .inr ⟨by rintro ⟨k,h1,h2,_⟩;omega,?_⟩
  rw[zge,zab];simp only[↓reduceIte,go_sem,hsh,show ¬ (n:Int)<((2 ^ p:Nat):Int) by omega]
 |succ j ih=>
  intro n h;have hC:=fun H=>yfh n p (by omega) (by omega) H
  have hf1:=fun H=>zmc a ha (zcx n p) H
  have hf2:=fun H=>zmc b hb (zcx n p) H
  have hA:=fun H=>zp3 (za3 a (zcx n p)) (by have:=(zi3 a (zcx n p)).2.2.1;omega) H
  have hcs:=fun H=>z3e cons hcons (by omega) (zcx n p) (by rw[zgs];exact hp) H
  have hin:=yg5 cons hcl p n hp (by omega) a b H (zcx n p) rfl (zap (za3 a (zcx n p))) [] rfl
  have ih:=ih (n+1) (by omega)
  simp only[List.length_nil,Int.natCast_zero]at hin;simp only[Int.natCast_add,Int.natCast_one]at ih;have hex:(∃k,n<=k/\k<2 ^ p/\zmb cons a b (zcx k p)) ↔ zmb cons a b (zcx n p)\/∃k,n+1<=k/\k<2 ^ p/\zmb cons a b (zcx k p):=by
   constructor
   ·rintro ⟨k,h1,h2,h3⟩
    rcases Nat.eq_or_lt_of_le h1 with rfl|h4
    ·exact .inl h3
    ·exact .inr ⟨k,h4,h2,h3⟩
   ·rintro (h3|⟨k,h1,h2,h3⟩)
    ·exact⟨n,by omega,by omega,h3⟩
    ·exact⟨k,by omega,h2,h3⟩
  rw[hex,zge,zab];simp only[↓reduceIte,go_sem,hC,hf1,hf2,hA,hcs,hsh,show (n:Int)<((2 ^ p:Nat):Int) by omega]
  rcases hin with⟨h1,vs,h2⟩|⟨h1,h2⟩
  ·exact .inl ⟨.inl h1,vs,h2⟩
  ·rw[h2]
   rcases ih with⟨h3,vs,h4⟩|⟨h3,h4⟩
   ·exact .inl ⟨.inr h3,vs,h4⟩
   ·exact .inr ⟨fun h=>h.elim h1 h3,h4⟩
theorem zps{cons:List Co}{p:Nat}{a b:Lv}:z0z cons p a b=true ↔ LeqS cons p a b:=by
 unfold z0z;exact @decide_eq_true_iff _ (Classical.propDecidable _)
theorem yi4(cons:List Co)(hcons:∀c∈cons,c.ok)(p:Nat)(a b:Lv)(ha:a.ok)(hb:b.ok)(hC:zdt cons p=true)(hA:zax a p 0=true)(hB:zax b p 0=true)(H:List AO):
  ∃vs,F zm2 [.sl (Co.css cons),.int .i64 p,.agg a.cs,.agg b.cs] H=some (.ret (.tup [.bool (z0z cons p a b),.sl (zaq vs),.int .i64 0]),H):=by
 have hc:=hC;simp only[zdt,Bool.and_eq_true,decide_eq_true_eq]at hc;have hr:=fun H=>zr0 cons (by omega) hcons p H
 have hra:=fun H=>zd0 a ha p 0 H
 have hrb:=fun H=>zd0 b hb p 0 H
 have h:=ybu cons hcons hc.1.2 p (by omega) a b ha hb H (2 ^ p) 0 (by omega)
 rw[Int.natCast_zero]at h;rcases h with⟨⟨k,_,h1,h2⟩,vs,h3⟩|⟨h1,h3⟩
 ·have:z0z cons p a b=false:=by
   rcases hb:z0z cons p a b with _|_
   ·rfl
   ·exact absurd h2 (zps.1 hb k h1)
  refine⟨vs,?_⟩;rw[zqy,this];simp only[↓reduceIte,go_sem,hr,hra,hrb,hC,hA,hB,h3]
 ·have:z0z cons p a b=true:=zps.2 fun k hk hbr=>h1 ⟨k,by omega,hk,hbr⟩
  refine⟨[],?_⟩;rw[zqy,this];simp only[↓reduceIte,go_sem,hr,hra,hrb,hC,hA,hB,h3,zfi]
theorem yi5(cons:List Co)(hcons:∀c∈cons,c.ok)(hl:cons.length<=140737488355328)(p:Int)(a b:Lv)(ha:a.ok)(hb:b.ok)(hC:(zdt cons p && zax a p 0 && zax b p 0)=false)(H:List AO):
  F zm2 [.sl (Co.css cons),.int .i64 p,.agg a.cs,.agg b.cs] H=some (.ret (.tup [.bool false,.sl [],.int .i64 1]),H):=by
 have hr:=fun H=>zr0 cons hl hcons p H
 have hra:=fun H=>zd0 a ha p 0 H
 have hrb:=fun H=>zd0 b hb p 0 H
 rw[zqy]
 cases h1:zdt cons p
 ·simp only[↓reduceIte,go_sem,hr,hra,hrb,h1]
 cases h2:zax a p 0
 ·simp only[↓reduceIte,go_sem,hr,hra,hrb,h1,h2]
 cases h3:zax b p 0
 ·simp only[↓reduceIte,go_sem,hr,hra,hrb,h1,h2,h3]
 ·simp[h1,h2,h3]at hC
end Go.Ab
end
section
set_option linter.unusedVariables false
set_option linter.unusedSimpArgs false
set_option maxRecDepth 100000
set_option maxHeartbeats 2000000
namespace Go.Ab
open Go.RowKit Go.Proofs
theorem yi1(p:Nat)(hp:p<=5)(H:List AO):F zfs [.int .u64 1,.int .u64 p] H=some (.ret (.tup [.int .u64 0,.int .u64 p]),H):=by
 rw[zsy]
 match p,hp with
 |0,_=>simp only[↓reduceIte,go_sem];rfl
 |1,_=>simp only[↓reduceIte,go_sem];rfl
 |2,_=>simp only[↓reduceIte,go_sem];rfl
 |3,_=>simp only[↓reduceIte,go_sem];rfl
 |4,_=>simp only[↓reduceIte,go_sem];rfl
 |5,_=>simp only[↓reduceIte,go_sem];rfl
theorem Mul_ok(p:Nat)(hp:p<=5)(H:List AO):F zf5 [.int .u64 1,.int .u64 p] H=some (.ret (.tup [.int .u64 0,.int .u64 p]),H):=by
 have hM:=fun H=>yi1 p hp H
 rw[zvs];simp only[↓reduceIte,go_sem,hM]
theorem z04(p:Nat)(hp:p<=1000):IntKind.wrap .u64 (p:Int)=p:=by
 simp only[IntKind.wrap,IntKind.bits,IntKind.signed]
 first|omega|(split <;> omega)|(simp;omega)
theorem z8a(p:Nat)(hp:p<=5)(H:List AO):FK zb4 [.sl [[.int .i64 (-1)]],.int .i64 p] H=some (.ret (.ol H.length 0),H++[.lst 0 1 (zaq (List.replicate p (-1)))]):=by
 have hM:=fun H=>Mul_ok p hp H
 have hw1:IntKind.wrap .u64 1=1:=rfl;rw[zp6];simp only[↓reduceIte,go_sem,show ¬ (p:Int)<0 by omega,z04 p (by omega),hw1,hM,List.length_cons,List.length_nil,show ¬ 9223372036854775807<(p:Int) by omega,zam (n:=(p:Int)) (by omega) (by omega),show (p:Int)<=1073741824 by omega,show (0:Int)<=p by omega]
 have m10:((min 1 0:Nat):Int)=0:=rfl;have m11:((min 1 1:Nat):Int)=1:=rfl;have m12:((min 1 2:Nat):Int)=1:=rfl;have m13:((min 1 3:Nat):Int)=1:=rfl;have m14:((min 1 4:Nat):Int)=1:=rfl;have m15:((min 1 5:Nat):Int)=1:=rfl;have t2:Int.toNat 2=2:=rfl;have t4:Int.toNat 4=4:=rfl;have s31:2<=3:=by omega
 have s32:3 - 2=1:=rfl;have s33:3 - 2=1:=rfl;have s42:4 - 2=2:=rfl;have s51:5 - 1=4:=rfl;have s52:5 - 2=3:=rfl;have s54:5 - 4=1:=rfl
 match p,hp with
 |0,_=>
  simp only[↓reduceIte,go_sem,over,List.take,m10];rw[zag,zab];simp only[↓reduceIte,go_sem,over,List.take]
 |1,_=>
  simp only[↓reduceIte,go_sem,over,List.take,t2,t4,s31,s33,s42,s51,s52,s54,m11];rw[zag,zab];simp only[↓reduceIte,go_sem,over,List.take,t2,t4,s32,s42,s52,s54,s31];rfl
 |2,_=>
  simp only[↓reduceIte,go_sem,over,List.take,t2,t4,s31,s33,s42,s51,s52,s54,m12];rw[zag,zab];simp only[↓reduceIte,go_sem,over,List.take,t2,t4,s31,s33,s42,s51,s52,s54,show IntKind.wrap .i64 (1+((min 1 1:Nat):Int))=2 from rfl]
  rw[zag,zab];simp only[↓reduceIte,go_sem,over,List.take,t2,t4,s32,s42,s52,s54,s31];rfl
 |3,_=>
  simp only[↓reduceIte,go_sem,over,List.take,t2,t4,s31,s33,s42,s51,s52,s54,m13];rw[zag,zab];simp only[↓reduceIte,go_sem,over,List.take,t2,t4,s31,s33,s42,s51,s52,s54,show IntKind.wrap .i64 (1+((min 1 2:Nat):Int))=2 from rfl]
  rw[zag,zab];simp only[↓reduceIte,go_sem,over,List.take,t2,t4,s31,s33,s42,s51,s52,s54,show IntKind.wrap .i64 (2+((min 2 1:Nat):Int))=3 from rfl]
  rw[zag,zab];simp only[↓reduceIte,go_sem,over,List.take,t2,t4,s32,s42,s52,s54,s31];rfl
 |4,_=>
  simp only[↓reduceIte,go_sem,over,List.take,t2,t4,s31,s33,s42,s51,s52,s54,m14];rw[zag,zab];simp only[↓reduceIte,go_sem,over,List.take,t2,t4,s31,s33,s42,s51,s52,s54,show IntKind.wrap .i64 (1+((min 1 3:Nat):Int))=2 from rfl]
  rw[zag,zab];simp only[↓reduceIte,go_sem,over,List.take,t2,t4,s31,s33,s42,s51,s52,s54,show IntKind.wrap .i64 (2+((min 2 2:Nat):Int))=4 from rfl]
  rw[zag,zab];simp only[↓reduceIte,go_sem,over,List.take,t2,t4,s32,s42,s52,s54,s31];rfl
 |5,_=>
  simp only[↓reduceIte,go_sem,over,List.take,t2,t4,s31,s33,s42,s51,s52,s54,m15];rw[zag,zab];simp only[↓reduceIte,go_sem,over,List.take,t2,t4,s31,s33,s42,s51,s52,s54,show IntKind.wrap .i64 (1+((min 1 4:Nat):Int))=2 from rfl]
  rw[zag,zab];simp only[↓reduceIte,go_sem,over,List.take,t2,t4,s31,s33,s42,s51,s52,s54,show IntKind.wrap .i64 (2+((min 2 3:Nat):Int))=4 from rfl]
  rw[zag,zab];simp only[↓reduceIte,go_sem,over,List.take,t2,t4,s31,s33,s42,s51,s52,s54,show IntKind.wrap .i64 (4+((min 4 1:Nat):Int))=5 from rfl]
  rw[zag,zab];simp only[↓reduceIte,go_sem,over,List.take,t2,t4,s32,s42,s52,s54,s31];rfl
theorem ya9(p:Nat)(hp:p<=5)(H:List AO):FK zhk [.int .i64 0,.int .i64 p] H=some (.ret (.agg [.int .i64 0,.ol H.length 0]),H++[.lst 0 1 (zaq (List.replicate p (-1)))]):=by
 have hR:=fun H=>z8a p hp H
 rw[zz8];simp only[↓reduceIte,go_sem,hR]
theorem yhe(n ver:Nat)(o:List Int):LtO n (.lst ver 1 (zaq o)):=zrp n o
def z36(n:Int):Int:=if 0<=n then n+1 else n
theorem z7y(H:List AO)(id ver:Nat)(hid:id<H.length)(c:Int)(J:List AO)(v2:List AV)(o0:List Int)(h0:H[id]?=some (.lst ver 1 (zaq o0))):
  ∀(s p:List Int),o0=p++s->(∀n∈s,-1<=n/\n<=1000)->o0.length<=1000 ->
  zgh H (H.set id (.lst ver 1 (zaq (p.map z36++s)))++[.lst 0 1 []]) (.ol id ver) (.int .i64 o0.length) (.int .i64 p.length) [.int .i64 c,.ol id ver] [.int .i64 0,.ol H.length 0]=some (.ret (.agg [.int .i64 c,.ol id ver]),H.set id (.lst ver 1 (zaq (o0.map z36)))):=by
 intro s
 induction s with
 |nil=>
  intro p h hb hl;rw[List.append_nil]at h;subst h;rw[zgh,zab];simp only[↓reduceIte,go_sem,List.append_nil,show ¬ H.length<=id by omega]
  rw[z19 (yhe _ _ _),if_pos (.agg (by intro a ha;simp at ha;rcases ha with rfl|rfl;exact .int _ _;exact .ol hid))]
 |cons x s ih=>
  intro p h hb hl;have h1:=ih (p++[x]) (by rw[h];simp) (fun n hn=>hb n (by simp[hn])) hl
  have hx:=hb x (by simp)
  have hp:p.length<o0.length:=by rw[h];simp
  have hset:id<(H.set id (.lst ver 1 (zaq (p.map z36++x::s)))).length:=by simpa using hid
  have hget:(H.set id (.lst ver 1 (zaq (p.map z36++x::s)))++[AO.lst 0 1 []])[id]?=some (.lst ver 1 (zaq (p.map z36++x::s))):=by
   rw[List.getElem?_append_left hset];simp[hid]
  have hgx:(p.map z36++x::s)[p.length]?=some x:=by simp
  simp only[List.map_append,List.map_cons,List.map_nil,List.append_assoc,List.cons_append,List.nil_append]at h1;simp only[zaf]at h1;rw[zgh,zab];simp only[↓reduceIte,go_sem,show (p.length:Int)<(o0.length:Int) by omega,hget,hgx,show p.length<(List.map z36 p++x::s).length by simp]
  by_cases hx0:x = -1
  ·subst hx0
   have e:z36 (-1) = -1:=rfl;rw[e]at h1;simp only[↓reduceIte,go_sem,zac (n:=p.length) (by omega),h1,not_true_eq_false]
  ·have e:z36 x=x+1:=if_pos (by omega)
   rw[e]at h1;have hss:∀B,(H.set id (.lst ver 1 (zaq (p.map z36++x::s)))++[AO.lst 0 1 []]).set id B=H.set id B++[AO.lst 0 1 []]:=fun B=>by
    rw[List.set_append_left _ _ hset,List.set_set]
   have hs2:(zaq (List.map z36 p++x::s)).set p.length [.int .i64 (x+1)]=zaq (List.map z36 p++(x+1)::s):=by
    simp[zaq]
   simp only[↓reduceIte,go_sem,hx0,hget,hgx,zam (n:=x+1) (by omega) (by omega),zac (n:=p.length) (by omega),show p.length<(List.map z36 p++x::s).length by simp,hs2,hss]
   exact h1
theorem yf2(c:Int)(hc:-1<=c/\c<=1000)(o:List Int)(ho:∀n∈o,-1<=n/\n<=1000)(hl:o.length<=1000)(H:List AO)(id ver:Nat)(hid:id<H.length)(hH:H[id]?=some (.lst ver 1 (zaq o))):F zhz [.agg [.int .i64 c,.ol id ver]] H=some (.ret (.agg [.int .i64 (c+1),.ol id ver]),H.set id (.lst ver 1 (zaq (o.map z36)))):=by
 have h1:=z7y H id ver hid (c+1) [] [] o hH o [] rfl ho hl;have hget:(H++[AO.lst 0 1 []])[id]?=some (.lst ver 1 (zaq o)):=by rw[List.getElem?_append_left hid,hH]
 have hset:H.set id (.lst ver 1 (zaq o))=H:=by
  apply List.ext_getElem?;intro i;rw[List.getElem?_set]
  split
  ·rename_i e;subst e;rw[hH]
  ·rfl
 simp only[List.map_nil,List.nil_append,hset,List.length_nil,Int.natCast_zero]at h1;rw[zqz];simp only[↓reduceIte,go_sem,hget,zam (n:=c+1) (by omega) (by omega)]
 exact h1
theorem yf1(c:Int)(hc:-1<=c/\c<=1000)(H:List AO):F zhz [.agg [.int .i64 c,.ze]] H=some (.ret (.agg [.int .i64 (c+1),.sl []]),H):=by
 rw[zqz];simp only[↓reduceIte,go_sem,zam (n:=c+1) (by omega) (by omega)]
 rw[zgh,zab];simp only[↓reduceIte,go_sem]
theorem yam(c:Int)(hc:-1<=c/\c<=1000)(H:List AO):F zhz [.agg [.int .i64 c,.sl []]] H=some (.ret (.agg [.int .i64 (c+1),.sl []]),H):=by
 rw[zqz];simp only[↓reduceIte,go_sem,zam (n:=c+1) (by omega) (by omega)]
 rw[zgh,zab];simp only[↓reduceIte,go_sem]
def zn8(l:List Int)(n:Int):Int:=l.foldl max n
theorem ye7(H:List AO)(id ver:Nat)(l:List Int)(hl:l.length<=1000)(hH:H[id]?=some (.lst ver 1 (zaq l))):∀(s p:List Int) (n:Int),l=p++s->zcl H H (.ol id ver) (.int .i64 n) (.int .i64 p.length)=some (.ret (.int .i64 (zn8 s n)),H):=by
 intro s
 induction s with
 |nil=>
  intro p n h;rw[List.append_nil]at h;subst h;rw[zcl,zab];simp only[↓reduceIte,go_sem,hH,zn8,List.foldl_nil]
 |cons x s ih=>
  intro p n h;have h1:=ih (p++[x]) (max n x) (by rw[h];simp)
  have hga:l[p.length]?=some x:=by rw[h];simp
  have hp:p.length<l.length:=by rw[h];simp
  have hmax:(if x > n then x else n)=max n x:=by split <;> omega
  simp only[zaf]at h1;rw[zcl,zab];simp only[↓reduceIte,go_sem,hH,hga,hp,show (p.length:Int)<(l.length:Int) by omega,hmax,zac (n:=p.length) (by omega),h1]
  simp only[zn8,List.foldl_cons]
theorem ye6(H:List AO)(id ver:Nat)(x:Int)(l:List Int)(hl:(x::l).length<=1000)(hH:H[id]?=some (.lst ver 1 (zaq (x::l)))):F zd9 [.ol id ver] H=some (.ret (.int .i64 (zn8 l x)),H):=by
 have h1:=ye7 H id ver (x::l) hl hH l [x] x rfl;rw[zoa];have h0:(x::l)[0]?=some x:=rfl;simp only[↓reduceIte,go_sem,hH,h0,List.length_cons,show ¬ ((l.length+1:Nat):Int)<1 by omega,show 0<l.length+1 by omega]
 exact h1
def OwnI(n:Nat)(h:List AO)(a:AV)(l:List Int):Prop:=((a = .ze\/a = .sl [])/\l=[])\/∃id ver,a = .ol id ver/\n<=id/\h[id]?=some (.lst ver 1 (zaq l))
theorem OwnI.app{n:Nat}{h:List AO}{a:AV}{l:List Int}(o:OwnI n h a l)(x:List AO):OwnI n (h++x) a l:=by
 rcases o with h0|⟨id,ver,h1,h2,h3⟩
 ·exact .inl h0
 ·exact .inr ⟨id,ver,h1,h2,by rw[List.getElem?_append_left (by have:=(List.getElem?_eq_some_iff.1 h3).1;omega)];exact h3⟩
theorem ye3(c:Int)(l:List Int)(hl:l.length<=900)(H:List AO)(a:AV)(n:Nat)(o:OwnI n H a l):F zn1 [.agg [.int .i64 c,a]] H=some (.ret (.int .i64 (zn8 l (-1))),H):=by
 rcases o with⟨ha,rfl⟩|⟨id,ver,rfl,hn,hH⟩
 ·have hM:=ye6 (H++[.lst 1 1 (zaq [-1])]) H.length 1 (-1) [] (by simp) (by simp)
  simp only[zaq,List.map_cons,List.map_nil]at hM;rcases ha with rfl|rfl
  ·rw[zsz]
   simp only[↓reduceIte,go_sem,hM]
  ·rw[zsz]
   simp only[↓reduceIte,go_sem,hM]
 ·have hid:=(List.getElem?_eq_some_iff.1 hH).1
  have hM:=ye6 (H++[.lst 1 1 (zaq (-1::l))]) H.length 1 (-1) l (by simp;omega) (by simp)
  have e:zaq (-1::l)=[.int .i64 (-1)]::zaq l:=rfl;simp only[e]at hM;have hg:∀x,(H++[x])[id]?=some (.lst ver 1 (zaq l)):=fun x=>by rw[List.getElem?_append_left hid,hH]
  have h1:(∀x:List AV,x∈zaq l->x.length=1)=True:=eq_true (by intro x hx;obtain⟨z,_,rfl⟩:=List.mem_map.1 hx;rfl)
  rw[zsz];simp only[↓reduceIte,go_sem,hH,hg,h1,show 1+l.length<=1073741824 by omega,hM]
end Go.Ab
end
section
set_option linter.unusedVariables false
set_option linter.unusedSimpArgs false
set_option maxRecDepth 100000
set_option maxHeartbeats 2000000
namespace Go.Ab
open Go.RowKit Go.Proofs
theorem OwnI.elems{n:Nat}{h:List AO}{a:AV}{l:List Int}(o:OwnI n h a l):zjw h a=some (zaq l):=by
 rcases o with⟨rfl|rfl,rfl⟩|⟨id,ver,rfl,h2,h3⟩
 ·rfl
 ·rfl
 ·simp[zjw,h3]
theorem zy0(l:List Int):∀e∈zaq l,e.length=1:=by intro e he;obtain⟨z,_,rfl⟩:=List.mem_map.1 he;rfl
theorem yed{n:Nat}{h:List AO}{a:AV}{x:Int}{l:List Int}(hl:l.length<=1000)(o:OwnI n h a (x::l)):FK zau [a] h=some (.ret (.ol h.length 0),h++[.lst 0 1 (zaq (x::l))]):=by
 rw[zlr];unfold ztj;dsimp only;rw[o.elems];dsimp only;have e:zaq (x::l)=[.int .i64 x]::zaq l:=rfl;rw[if_pos ⟨by omega,by omega,by rw[zpv];simp;omega,zy0 _⟩,e]
theorem z88{n:Nat}{h:List AO}{a:AV}(o:OwnI n h a []):FK zau [a] h=some (.ret .ze,h):=by
 rw[zlr];unfold ztj;dsimp only;rw[o.elems];dsimp only;rw[if_pos ⟨by omega,by omega,by rw[zpv];simp,zy0 _⟩]
 rfl
theorem zqq(c d:Int):(if d > c then d else c)=max c d:=by split <;> omega
theorem yc7{n:Nat}{h:List AO}{a b:AV}(c d:Int)(oa:OwnI n h a [])(ob:OwnI n h b []):FK zfw [.agg [.int .i64 c,a],.sl [[.int .i64 d,b]]] h=some (.ret (.agg [.int .i64 (max c d),.ze]),h):=by
 have hC:=z88 oa;have hw:IntKind.wrap .i64 (0+1)=1:=rfl;have hw1:IntKind.wrap .i64 1=1:=rfl;have key:zb0 h h (.sl [[.int .i64 d,b]]) (.int .i64 1) (.int .i64 0) [.int .i64 0,.sl []] [.int .i64 c,.ze]=some (.ret (.agg [.int .i64 (max c d),.ze]),h):=by
  rcases ob with⟨rfl|rfl,_⟩|⟨id2,ver2,rfl,g2,g3⟩
  ·rw[zb0,zab]
   simp only[↓reduceIte,go_sem,zqq];rw[zed,zab];simp only[↓reduceIte,go_sem,hw,hw1];rw[zb0,zab];simp only[↓reduceIte,go_sem]
  ·rw[zb0,zab]
   simp only[↓reduceIte,go_sem,zqq];rw[zed,zab];simp only[↓reduceIte,go_sem,hw,hw1];rw[zb0,zab];simp only[↓reduceIte,go_sem]
  ·rw[zb0,zab]
   simp only[↓reduceIte,go_sem,zqq,g3];rw[zed,zab];simp only[↓reduceIte,go_sem,hw,hw1];rw[zb0,zab];simp only[↓reduceIte,go_sem]
 rw[ztg];rcases oa with⟨rfl|rfl,_⟩|⟨id,ver,rfl,h2,h3⟩
 ·simp only[↓reduceIte,go_sem,hC,key]
 ·simp only[↓reduceIte,go_sem,hC,key]
 ·simp only[↓reduceIte,go_sem,hC,key]
theorem yhc{h:List AO}(c d:Int)(L M:List Int)(hl:L.length<=900)(hm:M.length=L.length)(id ver:Nat)(g3:h[id]?=some (.lst ver 1 (zaq M))):∀(s t p q:List Int),L=p++s->M=q++t->p.length=q.length ->
  zed h (h++[.lst 0 1 (zaq (List.zipWith max p q++s))]) (.sl [[.int .i64 d,.ol id ver]]) (.int .i64 1) (.int .i64 0) (.ol id ver) (.int .i64 M.length) (.int .i64 p.length) [.int .i64 0,.sl []] [.int .i64 c,.ol h.length 0] =
  zb0 h (h++[.lst 0 1 (zaq (List.zipWith max L M))]) (.sl [[.int .i64 d,.ol id ver]]) (.int .i64 1) (.int .i64 1) [.int .i64 0,.sl []] [.int .i64 c,.ol h.length 0]:=by
 have hid:=(List.getElem?_eq_some_iff.1 g3).1;have hw:IntKind.wrap .i64 (0+1)=1:=rfl;have hw1:IntKind.wrap .i64 1=1:=rfl;intro s
 induction s with
 |nil=>
  intro t p q h1 h2 h3;have:t=[]:=by
   rw[h1,h2]at hm;simp at hm;exact List.eq_nil_of_length_eq_zero (by omega)
  subst this;rw[List.append_nil]at h1 h2;subst h1 h2;rw[zed,zab];simp only[↓reduceIte,go_sem,hw,hw1,List.append_nil,hm]
 |cons x s ih=>
  intro t p q h1 h2 h3
  cases t with
  |nil=>rw[h1,h2]at hm;simp at hm;omega
  |cons y t=>
  have ih:=ih t (p++[x]) (q++[y]) (by rw[h1];simp) (by rw[h2];simp) (by simp[h3])
  have hz:List.zipWith max (p++[x]) (q++[y])++s=List.zipWith max p q++max x y::s:=by rw[List.zipWith_append (h:=h3)];simp
  have hzl:(List.zipWith max p q).length=p.length:=by rw[List.length_zipWith];omega
  have hgy:M[p.length]?=some y:=by rw[h2,h3];simp
  have hgx:(List.zipWith max p q++x::s)[p.length]?=some x:=by rw[<- hzl];simp
  have hpl:p.length<M.length:=by rw[h2,h3];simp
  have hpz:p.length<(List.zipWith max p q++x::s).length:=by simp;omega
  have hg:∀z,(h++[z])[id]?=some (.lst ver 1 (zaq M)):=fun z=>by rw[List.getElem?_append_left hid,g3]
  have hs2:(zaq (List.zipWith max p q++x::s)).set p.length [.int .i64 (max x y)]=zaq (List.zipWith max p q++max x y::s):=by
   rw[<- hzl];simp[zaq]
  rw[hz]at ih;simp only[zaf]at ih;rw[zed,zab];simp only[↓reduceIte,go_sem,show (p.length:Int)<(M.length:Int) by omega,hgy,hgx,hpz,hpl,hg,zqq,hs2,zac (n:=p.length) (by omega),ih]
theorem yhb{n:Nat}{h:List AO}{a b:AV}(c d:Int)(x y:Int)(l m:List Int)(hl:l.length<=800)(hm:m.length=l.length)(oa:OwnI n h a (x::l))(ob:OwnI n h b (y::m)):FK zfw [.agg [.int .i64 c,a],.sl [[.int .i64 d,b]]] h=some (.ret (.agg [.int .i64 (max c d),.ol h.length 0]),h++[.lst 0 1 (zaq (List.zipWith max (x::l) (y::m)))]):=by
 have hC:=yed (by omega) oa
 rcases oa with⟨_,h0⟩|⟨id,ver,rfl,h2,h3⟩
 ·cases h0
 rcases ob with⟨_,h0⟩|⟨id2,ver2,rfl,g2,g3⟩
 ·cases h0
 have hid:=(List.getElem?_eq_some_iff.1 g3).1;have hg:∀z,(h++[z])[id2]?=some (.lst ver2 1 (zaq (y::m))):=fun z=>by rw[List.getElem?_append_left hid,g3]
 have hin:=yhc (h:=h) (max c d) d (x::l) (y::m) (by simp;omega) (by simp[hm]) id2 ver2 g3 (x::l) (y::m) [] [] rfl rfl rfl
 simp only[List.length_nil,Int.natCast_zero,List.zipWith_nil_left,List.nil_append,List.length_cons]at hin;rw[ztg];simp only[↓reduceIte,go_sem,hC];rw[zb0,zab];simp only[↓reduceIte,go_sem,hg,zqq,hin];rw[zb0,zab];simp only[↓reduceIte,go_sem]
theorem OwnI.mono{n m:Nat}{h:List AO}{a:AV}{l:List Int}(o:OwnI n h a l)(hm:m<=n):OwnI m h a l:=by
 rcases o with h0|⟨id,ver,h1,h2,h3⟩
 ·exact .inl h0
 ·exact .inr ⟨id,ver,h1,by omega,h3⟩
theorem yf0{B X:List AO}{a:AV}{l:List Int}(c:Int)(hc:-1<=c/\c<=1000)(hb:∀n∈l,-1<=n/\n<=1000)(hl:l.length<=1000)(o:OwnI B.length (B++X) a l):∃X' a',F zhz [.agg [.int .i64 c,a]] (B++X)=some (.ret (.agg [.int .i64 (c+1),a']),B++X')/\OwnI B.length (B++X') a' (l.map z36):=by
 rcases o with⟨rfl|rfl,rfl⟩|⟨id,ver,rfl,h2,h3⟩
 ·exact⟨X,_,yf1 c hc _,.inl ⟨.inr rfl,rfl⟩⟩
 ·exact⟨X,_,yam c hc _,.inl ⟨.inr rfl,rfl⟩⟩
 ·have hid:=(List.getElem?_eq_some_iff.1 h3).1
  have h4:=yf2 c hc l hb hl (B++X) id ver hid h3;rw[List.set_append_right _ _ h2]at h4;refine⟨_,_,h4,.inr ⟨id,ver,rfl,h2,?_⟩⟩;rw[List.length_append]at hid;rw[List.getElem?_append_right h2,List.getElem?_set_self (by omega)]
theorem yha{B X:List AO}{a b:AV}{l m:List Int}(c d:Int)(hl:l.length<=700)(hm:m.length=l.length)(oa:OwnI B.length (B++X) a l)(ob:OwnI B.length (B++X) b m):∃X' a',FK zfw [.agg [.int .i64 c,a],.sl [[.int .i64 d,b]]] (B++X)=some (.ret (.agg [.int .i64 (max c d),a']),B++X')/\OwnI B.length (B++X') a' (List.zipWith max l m):=by
 cases l with
 |nil=>
  obtain rfl:m=[]:=List.eq_nil_of_length_eq_zero hm;exact⟨X,_,yc7 c d oa ob,.inl ⟨.inl rfl,rfl⟩⟩
 |cons x l=>
  cases m with
  |nil=>simp at hm
  |cons y m=>
   have:=yhb c d x y l m (by simp at hl;omega) (by simpa using hm) oa ob
   rw[List.append_assoc]at this;exact⟨_,_,this,.inr ⟨_,0,rfl,by simp,by rw[<- List.append_assoc];simp⟩⟩
theorem z4m{f:Fl}{p:Nat}{d:Int}(g:f.good p d):(decide (f.c=0) && decide (zn8 f.o (-1) = -1))=znz f:=by
 have key:∀(l:List Int) (n:Int),(∀x∈l,-1<=x) -> -1<=n->(zn8 l n = -1 ↔ n = -1/\∀x∈l,x<0):=by
  intro l
  induction l with
  |nil=>intro n _ _;simp[zn8]
  |cons x l ih=>
   intro n h0 hn;have hx:=h0 x (by simp)
   have:=ih (max n x) (fun y hy=>h0 y (by simp[hy])) (by omega)
   simp only[zn8,List.foldl_cons]at this ⊢;rw[this];constructor
   ·rintro ⟨h1,h2⟩
    exact⟨by omega,fun y hy=>by rcases List.mem_cons.1 hy with rfl|hy;omega;exact h2 y hy⟩
   ·rintro ⟨h1,h2⟩
    have:=h2 x (by simp)
    exact⟨by omega,fun y hy=>h2 y (by simp[hy])⟩
 have:=key f.o (-1) g.o0 (by omega)
 rw[znz]
 congr 1
 rw[Bool.eq_iff_iff,decide_eq_true_iff,this];simp
theorem OwnI.one{n:Nat}{h:List AO}{a:AV}{l:List Int}(o:OwnI n h a l):AV.one a=true:=by
 rcases o with⟨rfl|rfl,rfl⟩|⟨id,ver,rfl,h2,h3⟩ <;> rfl
theorem ofK_ok(z:List Bool)(hz:z.length<=5)(l:Lv):∀d,d<=100->rightB z.length 0 l d=true->∀h:List AO,∃X a,FK zfv [.agg l.cs,.sl (bls z)] h=some (.ret (.agg [.int .i64 (rawF z l).c,a]),h++X)/\OwnI h.length (h++X) a (rawF z l).o:=by
 induction l using Lv.ind with
 |h k n ks ih=>
 intro d hd h H;have hg:=zgw z (.mk k n ks) d h;rw[rightB]at h
 split at h
 ·cases h
 split at h
 ·cases h
 rename_i hd1 hk;have hk:(ks.length:Int)=zgp k:=by simpa using hk
 have hP:=fun H=>ya9 z.length hz H
 rw[z8y];rw[rawF]at hg ⊢;unfold zgp at hk
 match ks,hk,ih,h,hg with
 |[],hk,ih,h,hg=>
  simp at hk;by_cases h5:k=5
  ·subst h5
   simp at h;obtain⟨h0,hn⟩:=h;obtain⟨j,rfl⟩:=Int.eq_ofNat_of_zero_le h0;have hj:j<z.length:=by omega
   obtain⟨b,hb⟩:∃b,z[j]?=some b:=⟨z[j],by simp[hj]⟩
   simp only[rawFs,zty,Int.toNat_natCast,hb,if_true];have hgr:(List.replicate z.length (-1:Int))[j]?=some (-1):=by simp[hj]
   have hs:(zaq (List.replicate z.length (-1))).set j [AV.int .i64 0]=zaq ((List.replicate z.length (-1)).set j 0):=by simp[zaq,List.map_set]
   cases b
   ·simp only[↓reduceIte,go_sem,Lv.cs,Lv.css,hP,hb,List.length_replicate,hj,hgr,hs]
    exact⟨_,_,rfl,.inr ⟨H.length,0,rfl,Nat.le_refl _,by simp⟩⟩
   ·simp only[↓reduceIte,go_sem,Lv.cs,Lv.css,hP,hb,zov,Option.some.injEq,Bool.true_eq_false]
    exact⟨_,_,rfl,.inr ⟨H.length,0,rfl,Nat.le_refl _,by simp⟩⟩
  ·have h2:¬ k=2:=by grind
   have h3:¬ k=3:=by grind
   have h4:¬ k=4:=by grind
   simp only[rawFs,zty,if_neg h5];simp only[↓reduceIte,go_sem,Lv.cs,Lv.css,h2,h3,h4,h5,hP];exact⟨_,_,rfl,.inr ⟨H.length,0,rfl,Nat.le_refl _,by simp[zov]⟩⟩
 |[a],hk,ih,h,hg=>
  have k2:k=2:=by simp at hk;grind
  subst k2;simp[rightsB]at h;have ga:=zgw z a (d - 1) h.1;obtain⟨X,w,h1,h2⟩:=ih a (by simp) (d - 1) (by omega) h.1 (H++[.lst 0 1 (zaq (List.replicate z.length (-1)))])
  obtain⟨X',w',h3,h4⟩:=yf0 (rawF z a).c (by have:=ga.c0;have:=ga.cd;omega) (fun n hn=>by have:=ga.o0 n hn;have:=ga.od n hn;omega) (by rw[ga.len];omega) h2
  rw[List.append_assoc,List.append_assoc]at h3;rw[List.append_assoc]at h4;simp only[List.cons_append,List.nil_append]at h3 h4;simp only[rawFs,zty,if_true];have q1:=h2.one;have q2:=h4.one;simp only[AV.one]at q1 q2;simp only[↓reduceIte,go_sem,Lv.cs,Lv.css,hP,h1,h3,q1,q2];exact⟨_,_,rfl,h4.mono (by simp)⟩
 |[a,b],hk,ih,h,hg=>
  have h5:¬ k=5:=by rintro rfl;simp at hk
  have h6:¬ k=6:=by rintro rfl;simp at hk
  rw[if_neg h5,if_neg h6]at h;simp[rightsB]at h;have ga:=zgw z a (d - 1) h.1.1;have gb:=zgw z b (d - 1) h.1.2;have k34:k=3\/k=4:=by simp at hk;grind
  have hb1:=h.1.2;simp only[rawFs,zty];have mx:∀P:List AO,∃X w Y v Z u,FK zfv [.agg a.cs,.sl (bls z)] (H++P)=some (.ret (.agg [.int .i64 (rawF z a).c,w]),H++(P++X))/\FK zfv [.agg b.cs,.sl (bls z)] (H++(P++X))=some (.ret (.agg [.int .i64 (rawF z b).c,v]),H++(P++(X++Y))) /\
    FK zfw [.agg [.int .i64 (rawF z a).c,w],.sl [[.int .i64 (rawF z b).c,v]]] (H++(P++(X++Y)))=some (.ret (.agg [.int .i64 (max (rawF z a).c (rawF z b).c),u]),H++(P++Z))/\AV.one w=true/\AV.one v=true/\OwnI H.length (H++(P++Z)) u (List.zipWith max (rawF z a).o (rawF z b).o):=by
   intro P;obtain⟨X,w,h1,h2⟩:=ih a (by simp) (d - 1) (by omega) h.1.1 (H++P)
   obtain⟨Y,v,h3,h4⟩:=ih b (by simp) (d - 1) (by omega) h.1.2 ((H++P)++X)
   have h5:=h2.app Y;have h6:=h4.mono (show (H++P).length<=_ by simp)
   rw[List.append_assoc (H++P)]at h5 h6;obtain⟨Z,u,h7,h8⟩:=yha (B:=H++P) (X:=X++Y) (rawF z a).c (rawF z b).c (by rw[ga.len];omega) (by rw[ga.len,gb.len]) h5 h6
   simp only[List.append_assoc]at h1 h3 h7 h8;exact⟨X,w,Y,v,Z,u,h1,h3,h7,h2.one,h4.one,h8.mono (by simp)⟩
  rcases k34 with rfl|rfl
  ·obtain⟨X,w,Y,v,Z,u,h1,h3,h7,q1,q2,h8⟩:=mx [.lst 0 1 (zaq (List.replicate z.length (-1)))]
   simp only[List.cons_append,List.nil_append]at h1 h3 h7 h8;have q3:=h8.one;simp only[AV.one]at q1 q2 q3;simp only[↓reduceIte,go_sem,Lv.cs,Lv.css,hP,h1,h3,h7,q1,q2,q3];exact⟨_,_,rfl,h8⟩
  ·obtain⟨W,t,g1,g2⟩:=ih b (by simp) (d - 1) (by omega) hb1 (H++[.lst 0 1 (zaq (List.replicate z.length (-1)))])
   have hT:=ye3 (rawF z b).c (rawF z b).o (by rw[gb.len];omega) _ _ _ g2
   have hn:=z4m gb;rw[List.append_assoc]at g1 hT g2;simp only[List.cons_append,List.nil_append]at g1 hT g2;have q4:=g2.one;simp only[AV.one]at q4;simp only[↓reduceIte,go_sem,Lv.cs,Lv.css,hP,g1,hT,q4];obtain⟨X,w,Y,v,Z,u,h1,h3,h7,q1,q2,h8⟩:=mx (.lst 0 1 (zaq (List.replicate z.length (-1)))::W);simp only[List.cons_append]at h1 h3 h7 h8;have q3:=h8.one;simp only[AV.one]at q1 q2 q3;by_cases c1:(rawF z b).c=0
   ·by_cases c2:zn8 (rawF z b).o (-1) = -1
    ·have e:znz (rawF z b)=true:=by rw[<- hn,c1,c2];rfl
     simp only[c1,c2,e,if_true,if_neg (show ¬ (4:Int)=3 by omega)]
     rw[c1]at hn;refine⟨_,_,rfl,?_⟩;exact g2.mono (by simp)
    ·have e:znz (rawF z b)=false:=by rw[<- hn];simp[c2]
     simp only[if_neg (show ¬ (4:Int)=3 by omega),if_true,e]
     simp only[↓reduceIte,go_sem,c1,c2]at h1 h3 h7 ⊢;simp only[↓reduceIte,go_sem,h1,h3,h7,q1,q2,q3,c1,c2];have e2:(zv6 (rawF z a) (rawF z b)).c=max (rawF z a).c 0:=by simp[zv6,c1]
     rw[e2];exact⟨_,_,rfl,h8⟩
   ·have e:znz (rawF z b)=false:=by rw[<- hn];simp[c1]
    simp only[if_neg (show ¬ (4:Int)=3 by omega),if_true,e]
    simp only[↓reduceIte,go_sem,h1,h3,h7,q1,q2,q3,c1];exact⟨_,_,rfl,h8⟩
 |a::b::c::r,hk,ih,h,hg=>
  exfalso;simp at hk
  grind
theorem maxL_ge(c:Int):∀(l:List Int) (n:Int),-1<=n->(∀x∈l,-1<=x)->((zn8 l n ≠ -1/\c<=zn8 l n+1) ↔ (0<=n/\c<=n+1)\/∃x∈l,0<=x/\c<=x+1):=by
 intro l
 induction l with
 |nil=>
  intro n hn _;simp only[zn8,List.foldl_nil];constructor
  ·rintro ⟨h1,h2⟩;exact .inl ⟨by omega,h2⟩
  ·rintro (⟨h1,h2⟩|⟨x,hx,_⟩)
   ·exact⟨by omega,h2⟩
   ·cases hx
 |cons y l ih=>
  intro n hn h0;have hy:=h0 y (by simp)
  have:=ih (max n y) (by omega) (fun x hx=>h0 x (by simp[hx]))
  simp only[zn8,List.foldl_cons]at this ⊢;rw[this];constructor
  ·rintro (h|⟨x,hx,h⟩)
   ·by_cases h1:y<=n
    ·rw[Int.max_eq_left h1]at h;exact .inl h
    ·rw[Int.max_eq_right (by omega)]at h;exact .inr ⟨y,by simp,h⟩
   ·exact .inr ⟨x,by simp[hx],h⟩
  ·rintro (h|⟨x,hx,h⟩)
   ·exact .inl (by omega)
   ·rcases List.mem_cons.1 hx with rfl|hx
    ·exact .inl (by omega)
    ·exact .inr ⟨x,hx,h⟩
theorem ybr(B:Int):∀(l:List Int) (n:Int),n<=B->(∀x∈l,x<=B)->n<=zn8 l n/\zn8 l n<=B
 |[],n,h,_=>⟨Int.le_refl _,h⟩
 |y::l,n,h,h0=>by
  have:=h0 y (by simp)
  have:=ybr B l (max n y) (by omega) (fun x hx=>h0 x (by simp[hx]))
  simp only[zn8,List.foldl_cons]at this ⊢;omega
theorem z54(l:Lv)(hl:l.ok)(z:List Bool)(H:List AO):F zjv [.agg l.cs,.sl (bls z)] H=some (.ret (.tup [.agg (za3 l z).cs,.int .i64 (z9t l z)]),H):=by
 have hR:=fun H=>zgt l hl z.length 0 H
 rw[zwv];by_cases h:zax l z.length 0=true
 ·have hz:=zt4 h
  have hg:=zgw z l 12 hz.2;obtain⟨X,a,h1,h2⟩:=ofK_ok z hz.1 l 12 (by omega) hz.2 H
  have hT:=ye3 (rawF z l).c (rawF z l).o (by rw[hg.len];omega) _ _ _ h2
  have q:=h2.one;simp only[AV.one]at q;have hmx:=maxL_ge (rawF z l).c (rawF z l).o (-1) (by omega) hg.o0
  have hnrm:z6w (rawF z l).c (rawF z l).o=if zn8 (rawF z l).o (-1) ≠ -1/\(rawF z l).c<=zn8 (rawF z l).o (-1)+1 then 0 else (rawF z l).c:=by
   unfold z6w;have e:((rawF z l).o.any fun n=>decide (0<=n) && decide ((rawF z l).c<=n+1))=true ↔ (zn8 (rawF z l).o (-1) ≠ -1/\(rawF z l).c<=zn8 (rawF z l).o (-1)+1):=by
    rw[hmx];simp
   by_cases c:(zn8 (rawF z l).o (-1) ≠ -1/\(rawF z l).c<=zn8 (rawF z l).o (-1)+1)
   ·rw[if_pos c,if_pos (e.2 c)]
   ·rw[if_neg c,if_neg (fun k=>c (e.1 k))]
  rw[z9t,za3,if_pos h,if_pos h,normF,hnrm];have hbd:=ybr 12 (rawF z l).o (-1) (by omega) hg.od
  have hw:=zam (n:=zn8 (rawF z l).o (-1)+1) (by omega) (by omega)
  rcases h2 with⟨ha,h0⟩|⟨id,ver,rfl,h2,h3⟩
  ·rw[h0]at hT hw ⊢
   have hm:zn8 [] (-1) = -1:=rfl;rcases ha with rfl|rfl
   ·simp only[↓reduceIte,go_sem,hR,h,h1,hT,hm,Fl.cs,ne_eq,not_true_eq_false,false_and,zfi]
   ·simp only[↓reduceIte,go_sem,hR,h,h1,hT,hm,Fl.cs,ne_eq,not_true_eq_false,false_and,zfi]
  ·have hset:∀o,(H++X).set id o=H++X.set (id - H.length) o:=fun o=>List.set_append_right _ _ h2
   simp only[↓reduceIte,go_sem,hR,h,h1,hT,hw,h2,h3,hset,Fl.cs];by_cases c1:zn8 (rawF z l).o (-1) = -1
   ·simp[c1]
   ·by_cases c2:(rawF z l).c<=zn8 (rawF z l).o (-1)+1
    ·simp[c1,c2]
    ·simp[c1,c2]
 ·rw[z9t,za3,if_neg h,if_neg h]
  simp only[↓reduceIte,go_sem,hR,h,yab,Fl.cs]
end Go.Ab
end
section
set_option linter.unusedVariables false
set_option linter.unusedSimpArgs false
set_option maxRecDepth 100000
set_option maxHeartbeats 2000000
namespace Go.Ab
open Go.RowKit Go.Proofs
theorem bit_get:∀n:Fin 32,∀i:Fin 5,(!decide (IntKind.wrap .u64 ((BitVec.ofInt 64 (shI false .u64 (n.val:Int) (i.val:Int)) &&& BitVec.ofInt 64 1).toNat:Int)=0))=decide ((n.val / 2 ^ i.val) % 2=1):=by decide
theorem z9a:∀(i n:Nat),zcx n (i+1)=zcx n i++[decide ((n / 2 ^ i) % 2=1)]:=by
 intro i
 induction i with
 |zero=>intro n;simp[zcx]
 |succ i ih=>
  intro n;rw[zcx,ih,zcx,List.cons_append]
  congr 3
  rw[Nat.div_div_eq_div_mul,Nat.pow_succ',]
abbrev encZ(z:List Bool):List AV:=[.sl (bls z)]
def ykp(p:Nat):AV:=.fn (.func zlk) [] [.fp [.int .i64 p]]
theorem AllP_ok(p:Nat)(H:List AO):F zve [.int .i64 p] H=some (.ret (ykp p),H):=by
 have h:Lt H.length (.fn (.func zlk) [] [.fp [.int .i64 p]])=True:=by
  simp only[eq_iff_iff,iff_true];exact .fn (by simp) (by intro x hx;simp at hx;subst hx;exact .fp (by intro a ha;simp at ha;subst ha;exact .int _ _))
 rw[ydt];simp only[↓reduceIte,go_sem,ykp,h]
def zno(p:Nat):Nat->Nat->List (List Bool)
 |_,0=>[]
 |n,j+1=>zcx n p::zno p (n+1) j
theorem zye{S E α:Type}{y:AV}{n:Nat}{enc:α->List AV}{W:S->List AO}{WE:E->List AO}{stp:S->α->Option (S ⊕ E)}(hy:Ys y n enc W WE stp)(s:S)(r:S ⊕ E)(X J:List AO):
  ze4 (W s++X) (.ret (.tup [])) (hp W WE r++(X++J))=some (.ret (.tup []),hp W WE r++X):=by
 have l1:(W s).length=n:=hy.len (.inl s);have l2:=hy.len r;rw[<- List.append_assoc];exact zy6 (by omega) (fun id o ho=>by rw[l1];exact hy.fr s r id o ho) (.tup (by simp))
theorem allZ_in(p:Nat)(hp:p<=5)(n:Nat)(hn:n<32)(H A:List AO)(y x7:AV):∀(j i:Nat),i+j=p ->
  zgg H (A++[.lst 0 1 (bls (zcx n i)++List.replicate j [.bool false])]) y (.fp [.int .i64 p]) (.int .u64 n) (.ol A.length 0) x7 (.int .u64 n) (.int .i64 p) (.int .i64 i) =
  zgg H (A++[.lst 0 1 (bls (zcx n p))]) y (.fp [.int .i64 p]) (.int .u64 n) (.ol A.length 0) x7 (.int .u64 n) (.int .i64 p) (.int .i64 p):=by
 intro j
 induction j with
 |zero=>
  intro i h;obtain rfl:i=p:=by omega
  simp
 |succ j ih=>
  intro i h;have ih:=ih (i+1) (by omega)
  have hb:=bit_get ⟨n,hn⟩ ⟨i,by omega⟩
  dsimp only at hb;have hset:(bls (zcx n i)++List.replicate (j+1) [AV.bool false]).set i [.bool (decide (n / 2 ^ i % 2=1))]=bls (zcx n (i+1))++List.replicate j [.bool false]:=by
   have hl:(bls (zcx n i)).length=i:=by rw[z5x,zgs]
   rw[List.set_append_right _ _ (by omega),hl,Nat.sub_self,List.replicate_succ,List.set_cons_zero,z9a]
   simp[bls]
  have hil:i<(bls (zcx n i)++List.replicate (j+1) [AV.bool false]).length:=by simp[z5x,zgs]
  have hgi:(bls (zcx n i)++List.replicate (j+1) [AV.bool false])[i]?=some [.bool false]:=by
   have hl:(bls (zcx n i)).length=i:=by rw[z5x,zgs]
   rw[List.getElem?_append_right (by omega),hl,Nat.sub_self,List.replicate_succ];rfl
  rw[<- ih];simp only[Int.natCast_add,Int.natCast_one]
  conv=>lhs;rw[zgg,zab]
  generalize hes:bls (zcx n i)++List.replicate (j+1) [AV.bool false]=es at hset hil hgi;simp only[↓reduceIte,go_sem,show (i:Int)<(p:Int) by omega,hil,hgi,zac (n:=i) (by omega)]
  refine (congrArg (fun b=>zgg H (A++[.lst 0 1 (es.set i [.bool b])]) y (.fp [.int .i64 p]) (.int .u64 n) (.ol A.length 0) x7 (.int .u64 n) (.int .i64 p) (.int .i64 ((i:Int)+1))) hb).trans ?_
  rw[hset]
theorem yin(p:Nat)(h5:p<=5):yfd (ykp p) encZ (zno p 0 (2 ^ p)):=by
 intro S E y m W WE stp hy s X r hr;have hpw:=pow5 p h5;have hsh:shI true .u64 1 (p:Int)=((2 ^ p:Nat):Int):=by
  match p,h5 with
  |0,_=>rfl
  |1,_=>rfl
  |2,_=>rfl
  |3,_=>rfl
  |4,_=>rfl
  |5,_=>rfl
 have hone:=hy.one;have hcell:y.cells=[y]:=by cases y <;> first|rfl|(simp[AV.one]at hone)
 unfold AV.cells at hcell;unfold AV.one at hone;have loop:∀(j n:Nat),n+j=2 ^ p->∀(a:S) (J:List AO),zl0 stp (zno p n j) a=some r->zkn (W s++X) (W a++(X++J)) y (.fp [.int .i64 p]) (.int .u64 ((2 ^ p:Nat):Int)) (.int .u64 n)=some (.ret (.tup []),hp W WE r++X):=by
  intro j
  induction j with
  |zero=>
   intro n h a J hq;rw[zno,zl0]at hq;cases hq;rw[zkn,zab];simp only[↓reduceIte,go_sem,show ¬ (n:Int)<((2 ^ p:Nat):Int) by omega]
   exact zye hy s (.inl a) X J
  |succ j ih=>
   intro n h a J hq;rw[zno,zl0]at hq;have lA:(W a).length=m:=hy.len (.inl a);have hin:=allZ_in p h5 n (by omega) (W s++X) (W a++(X++J)) y (.int .u64 ((2 ^ p:Nat):Int)) p 0 (by omega)
   rw[zkn,zab];have e0:bls (zcx n 0)++List.replicate p [AV.bool false]=List.replicate p [.bool false]:=by simp[zcx,bls]
   rw[e0]at hin;simp only[List.append_assoc,List.length_append,Int.natCast_zero]at hin;simp only[↓reduceIte,go_sem,show (n:Int)<((2 ^ p:Nat):Int) by omega,show (p:Int)<=1073741824 by omega,List.length_replicate,hin]
   rw[zgg,zab];have lX:∀o,(W a++(X++(J++[o])))[(W a).length+(X.length+J.length)]?=some o:=fun o=>by
    rw[List.getElem?_append_right (by omega),List.getElem?_append_right (by omega),List.getElem?_append_right (by omega)];simp
   have lS:∀o o',(W a++(X++(J++[o]))).set ((W a).length+(X.length+J.length)) o' = W a++(X++(J++[o'])):=fun o o'=>by
    rw[List.set_append_right _ _ (by omega),List.set_append_right _ _ (by omega),List.set_append_right _ _ (by omega)];simp
   cases hst:stp a (zcx n p) with
   |none=>rw[hst]at hq;cases hq
   |some q=>
   rw[hst]at hq;have hc:=hy.call a (zcx n p) (X++(J++[.dead])) q hst;simp only[encZ]at hc
   cases q with
   |inl b=>
    have ih:=ih (n+1) (by omega) b (J++[.dead]) hq
    simp only[ze3,Int.natCast_add,Int.natCast_one]at hc ih;have hwu:IntKind.wrap .u64 ((n:Int)+1)=(n:Int)+1:=by have:=z04 (n+1) (by omega);simpa using this
    simp only[↓reduceIte,go_sem,lX,lS,hc,isL,hwu,ih]
   |inr e=>
    cases hq;simp only[zqf]at hc
    simp only[↓reduceIte,go_sem,lX,lS,hc,isL];exact zye hy s (.inr e) X _
 simp only[ykp,zgr,List.cons_append,List.nil_append];show F zlk _ _=_;rw[z5l];simp only[↓reduceIte,go_sem,hsh];have:=loop (2 ^ p) 0 (by omega) s [] hr
 simpa using this
end Go.Ab
end
section
set_option linter.unusedVariables false
set_option linter.unusedSimpArgs false
set_option maxRecDepth 100000
set_option maxHeartbeats 2000000
namespace Go.Ab
open Go.RowKit Go.Proofs
theorem yhj(n:Int)(h0:0<=n)(hn:n<=1073741824)(H:List AO):F ze2 [.ze,.int .i64 n] H=if n=0 then some (.ret .ze,H) else some (.ret (.ol H.length 1),H++[.lst 1 2 []]):=by
 rw[zru];by_cases h:n=0
 ·subst h
  have e1:IntKind.wrap .i64 0=0:=zam (by omega) (by omega)
  simp only[↓reduceIte,go_sem,Int.sub_self,e1]
 ·simp only[↓reduceIte,go_sem,h,show ¬ n<0 by omega,show 0<n by omega,Int.sub_self,Int.sub_zero,zam (n:=0) (by omega) (by omega),zam (n:=n) (by omega) (by omega),hn]
inductive AccA (H:List AO):AV->List At->List AO->Prop
 |ze:AccA H .ze [] H
 |ol (ver:Nat) (es:List At):AccA H (.ol H.length ver) es (H++[.lst ver 2 (At.css es)])
def slA(xs:List (List At)):List (List AV):=xs.map fun x=>[.sl (At.css x)]
@[go_sem] theorem slA_len(xs:List (List At)):(slA xs).length=xs.length:=by simp[slA]
@[go_sem] theorem slA_get(xs:List (List At))(i:Nat):(slA xs)[i]?=xs[i]?.map fun x=>[.sl (At.css x)]:=by simp[slA]
@[go_sem] theorem atcss_all2(ks:List At):(∀e∈At.css ks,e.length=2)=True:=by
 refine eq_true fun e he=>?_
 obtain⟨x,_,rfl⟩:=List.mem_map.1 he;rfl
theorem zpi:At.css []=[]:=rfl
theorem zlx(x:At)(l:List At):At.css (x::l)=x.cs::At.css l:=rfl
theorem yen(a b:List At):At.css (a++b)=At.css a++At.css b:=by simp[At.css]
theorem z87(xs:List (List At))(hlen:xs.length<=1000)(ht:xs.flatten.length<=1073741824)(H:List AO):
  F zd3 [.sl (slA xs)] H=some (.ret (.sl (At.css xs.flatten)),H):=by
 have loop1:∀(suf pre:List (List At)) {v:AV} {es:List At} {H1:List AO},xs=pre++suf->AccA (H++[.lst 0 2 []]) v es H1->es.length+suf.flatten.length<=1073741824 ->
   zdv H H1 v (.sl (slA xs)) (.int .i64 xs.length) (.int .i64 pre.length)=some (.ret (.sl (At.css (es++suf.flatten))),H):=by
  intro suf
  induction suf with
  |nil=>
   intro pre v es H1 e ha hb;subst e;rw[zdv,zab]
   cases ha with
   |ze=>simp only[↓reduceIte,go_sem,List.flatten_nil,zpi,zlx]
   |ol ver=>simp only[↓reduceIte,go_sem,List.flatten_nil]
  |cons x suf ih=>
   intro pre v es H1 e ha hb;subst e;simp at hlen;rw[List.flatten_cons,List.length_append]at hb;rw[zdv,zab]
   cases ha with
   |ze=>
    cases x with
    |nil=>
     have:=ih (pre++[[]]) (by simp) (AccA.ze (H:=H++[.lst 0 2 []])) (by simpa using hb)
     simp only[zaf]at this;simp only[↓reduceIte,go_sem,zpi,zlx,zac (n:=pre.length) (by omega),this,List.flatten_cons]
    |cons y ys=>
     have:=ih (pre++[y::ys]) (by simp) (AccA.ol (H:=H++[.lst 0 2 []]) 0 (y::ys)) (by simpa using hb)
     simp only[zaf]at this;simp only[↓reduceIte,go_sem,zpi,zlx]at this;simp at hb;simp only[↓reduceIte,go_sem,zpi,zlx,zac (n:=pre.length) (by omega),show ys.length<1073741824 by omega,this,List.flatten_cons]
   |ol ver=>
    have:=ih (pre++[x]) (by simp) (AccA.ol (H:=H++[.lst 0 2 []]) (ver+1) (es++x)) (by simp at hb ⊢;omega)
    simp only[zaf]at this;simp only[↓reduceIte,go_sem]at this;simp only[↓reduceIte,go_sem,zac (n:=pre.length) (by omega),show es.length+x.length<=1073741824 by omega,<- yen,this,List.flatten_cons,List.append_assoc]
 have loop0:∀(suf pre:List (List At)),xs=pre++suf ->
   zdw H (H++[.lst 0 2 []]) (.sl (slA xs)) (.int .i64 pre.flatten.length) (.sl (slA xs)) (.int .i64 xs.length) (.int .i64 pre.length)=some (.ret (.sl (At.css xs.flatten)),H):=by
  intro suf
  induction suf with
  |nil=>
   intro pre e;subst e;simp only[List.append_nil]at *;have hg:=yhj pre.flatten.length (by omega) (by omega) (H++[.lst 0 2 []])
   rw[zdw,zab];by_cases h0:pre.flatten.length=0
   ·have h1:=loop1 pre [] rfl (AccA.ze (H:=H++[.lst 0 2 []])) (by simpa using ht)
    simp only[List.length_nil,Int.natCast_zero,List.nil_append]at h1;rw[if_pos (by omega)]at hg
    simp only[↓reduceIte,go_sem,hg,h1]
   ·have h1:=loop1 pre [] rfl (AccA.ol (H:=H++[.lst 0 2 []]) 1 []) (by simpa using ht)
    simp only[List.length_nil,Int.natCast_zero,List.nil_append]at h1;rw[if_neg (by omega)]at hg
    simp only[↓reduceIte,go_sem,zpi,zlx]at hg h1;simp only[↓reduceIte,go_sem,hg,h1]
  |cons x suf ih=>
   intro pre e;subst e;simp at hlen;have:=ih (pre++[x]) (by simp)
   have hl:((pre++[x]).flatten.length:Int)=(pre.flatten.length:Int)+(x.length:Int):=by simp
   rw[hl]at this;simp only[zaf]at this;simp only[List.flatten_append,List.flatten_cons,List.length_append]at ht;rw[zdw,zab];simp only[↓reduceIte,go_sem,zac (n:=pre.length) (by omega),zam (n:=(pre.flatten.length:Int)+(x.length:Int)) (by omega) (by omega),show ¬ (pre.flatten.length:Int)+(x.length:Int)<0 by omega]
   rw[this]
 have h0:=loop0 xs [] rfl;simp only[List.length_nil,Int.natCast_zero,List.flatten_nil]at h0;rw[zp7];simp only[↓reduceIte,go_sem,h0]
@[go_sem] theorem atcs_over2(a b:At):over a.cs 0 b.cs=b.cs:=rfl
theorem z8k(g:At->Int)(f:AV)(H:List AO)(l:List At)(hlen:l.length<=1000)(hf:∀x∈l,∀y∈l,cfl T f [.agg x.cs,.agg y.cs] H=some (.ret (.int .i64 (g x - g y)),H))(hne:l≠[]):
  ∃a∈l,g a=z1s (l.map g)/\F zds [.sl (At.css l),f] H=some (.ret (.agg a.cs),H):=by
 have loop:∀(s p:List At) (b:At),l=p++s->p≠[]->b∈l->g b=z1s (p.map g)->∃a∈l,g a=z1s (l.map g)/\zck H H (.sl (At.css l)) f (.int .i64 p.length) [.int .i64 0,.int .i64 0] b.cs=some (.ret (.agg a.cs),H):=by
  intro s
  induction s with
  |nil=>
   intro p b h hp hb hg;rw[List.append_nil]at h;subst h;refine⟨b,hb,hg,?_⟩;rw[zck,zab];simp only[↓reduceIte,go_sem]
  |cons x s ih=>
   intro p b h hp hb hg;have hx:x∈l:=by rw[h];simp
   have hga:l[p.length]?=some x:=by rw[h];simp
   have hpl:p.length<l.length:=by rw[h];simp
   have hc:=hf x hx b hb;have hms:=zu8 (g x) (p.map g) (by simpa using hp)
   by_cases hlt:g x - g b<0
   ·obtain⟨a,h1,h2,h3⟩:=ih (p++[x]) x (by rw[h];simp) (by simp) hx (by rw[List.map_append,List.map_cons,List.map_nil,hms];omega)
    refine⟨a,h1,h2,?_⟩;simp only[zaf]at h3;rw[zck,zab];simp only[↓reduceIte,go_sem,show (p.length:Int)<(l.length:Int) by omega,hga,hc,hlt,zac (n:=p.length) (by omega),h3]
   ·obtain⟨a,h1,h2,h3⟩:=ih (p++[x]) b (by rw[h];simp) (by simp) hb (by rw[List.map_append,List.map_cons,List.map_nil,hms];omega)
    refine⟨a,h1,h2,?_⟩;simp only[zaf]at h3;rw[zck,zab];simp only[↓reduceIte,go_sem,show (p.length:Int)<(l.length:Int) by omega,hga,hc,hlt,zac (n:=p.length) (by omega),h3]
 cases l with
 |nil=>exact absurd rfl hne
 |cons x l=>
  obtain⟨a,h1,h2,h3⟩:=loop l [x] x rfl (by simp) (by simp) rfl
  refine⟨a,h1,h2,?_⟩;have h0:(x::l)[0]?=some x:=rfl;rw[zo8];simp only[↓reduceIte,go_sem,h0,List.length_cons,show ¬ ((l.length+1:Nat):Int)<1 by omega]
  exact h3
theorem yie(m:List Int)(vars:Nat)(hm:okM vars m)(h16:vars=16)(H:List AO)(id b ver:Nat)(hH:H[id]?=some (.lst ver 1 (zaq m)))(hb:H[b]?=some (.box [.ov id ver 1 0 16]))(x y:At)(hx:0<=x.v/\x.v<16/\0<=x.o/\x.o<=1000)(hy:0<=y.v/\y.v<16/\0<=y.o/\y.o<=1000):
  F zi2 [.agg x.cs,.agg y.cs,.ptr b 0] H=some (.ret (.int .i64 ((gI m x.v - x.o) - (gI m y.v - y.o))),H):=by
 have hgx:=hm.get hx.1 (by omega)
 have hgy:=hm.get hy.1 (by omega)
 have hm':=hm.1;rw[zz7];simp only[↓reduceIte,go_sem,hH,hb,hm',h16,hx.1,hy.1,hgx.1,hgy.1,show x.v.toNat<16 by omega,show y.v.toNat<16 by omega,Nat.zero_add,zam (n:=gI m x.v - x.o) (by omega) (by omega),zam (n:=gI m y.v - y.o) (by omega) (by omega),zam (n:=(gI m x.v - x.o) - (gI m y.v - y.o)) (by omega) (by omega)]
theorem yi9(c:Cl)(m:List Int)(vars:Nat)(hm:okM vars m)(h16:vars=16)(hc:c.ok vars)(H:List AO)(id ver:Nat)(hH:H[id]?=some (.lst ver 1 (zaq m))):F zo2 [.agg c.cs,.ov id ver 1 0 16] H=some (.ret (.int .i64 (ztk c m)),H):=by
 have hid:=(List.getElem?_eq_some_iff.1 hH).1;have hH':(H++[.box [.ov id ver 1 0 16]])[id]?=some (.lst ver 1 (zaq m)):=by rw[List.getElem?_append_left hid,hH]
 obtain⟨a,h1,h2,h3⟩:=z8k (fun a=>gI m a.v - a.o) (.fn (.func zi2) [] [.ptr H.length 0]) (H++[.box [.ov id ver 1 0 16]]) c.f (by have:=hc.len;omega) (fun x hx y hy=>by
  simp only[zgr,List.cons_append,List.nil_append];exact yie m vars hm h16 _ id H.length ver hH' (by simp) x y (by have:=hc.at_ x hx;omega) (by have:=hc.at_ y hy;omega)) (by have:=hc.ne;intro h;rw[h]at this;simp at this)
 have ha:=hc.at_ a h1;have hga:=hm.get ha.1 ha.2.1;have hb:=yep hm hc;have ht:=hc.to;have hm':=hm.1;rw[ztk,<- h2]at hb ⊢;rw[z5n];simp only[↓reduceIte,go_sem,h3,hH',hm',h16,ha.1,hga.1,show a.v.toNat<16 by omega,Nat.zero_add,zam (n:=gI m a.v - a.o) (by omega) (by omega),zam (n:=gI m a.v - a.o+c.t.o) (by omega) (by omega)]
def zr5(l:List Cl):AV:=.fn (.func zhh) [] [.fp [.sl (Cl.css l)]]
theorem z0i(l:List Cl)(H:List AO):F zky [.sl (Cl.css l)] H=some (.ret (zr5 l),H):=by
 rw[z22];simp only[↓reduceIte,go_sem,zr5]
abbrev yh2(p:Nat×At):List AV:=[.int .i64 p.1,.agg p.2.cs]
def zqi:List Cl->Nat->List (Nat×At)
 |[],_=>[]
 |c::r,i=>((c.f++[c.t]).map fun a=>(i,a))++zqi r (i+1)
theorem z3l(l:List Cl)(hl:l.length<=1000)(hf:∀c∈l,c.f.length<=1000):yfd (zr5 l) yh2 (zqi l 0):=by
 intro S E y m W WE stp hy s X r hr;have hone:=hy.one;have hcell:y.cells=[y]:=by cases y <;> first|rfl|(simp[AV.one]at hone)
 unfold AV.cells at hcell;unfold AV.one at hone;have fin:=fun r=>zye hy s r X []
 simp only[List.append_nil]at fin;have loop0:∀(i:Nat) (L:List At) (rest:List (Nat×At)),i<1000->L.length<=1001 ->
   (∀a:S,zl0 stp rest a=some r->ze9 (W s++X) (W a++X) y (.sl (Cl.css l)) (.int .i64 l.length) (.int .i64 (i+1))=some (.ret (.tup []),hp W WE r++X)) ->
   ∀(t p:List At),L=p++t->∀(a:S),zl0 stp (t.map (fun a=>(i,a))++rest) a=some r->zg2 (W s++X) (W a++X) y (.int .i64 i) (.sl (Cl.css l)) (.int .i64 l.length) (.int .i64 i) (.sl (At.css L)) (.int .i64 L.length) (.int .i64 p.length)=some (.ret (.tup []),hp W WE r++X):=by
  intro i L rest hi hL hrest t
  induction t with
  |nil=>
   intro p h a hq;rw[List.append_nil]at h;subst h;have h1:=hrest a (by simpa using hq)
   rw[zg2,zab];simp only[↓reduceIte,go_sem,zac (n:=i) (by omega),h1]
  |cons x t ih=>
   intro p h a hq;have hga:L[p.length]?=some x:=by rw[h];simp
   have hpl:p.length<L.length:=by rw[h];simp
   rw[List.map_cons,List.cons_append,zl0]at hq
   cases hst:stp a (i,x) with
   |none=>rw[hst]at hq;cases hq
   |some q=>
   rw[hst]at hq;have hc:=hy.call a (i,x) X q hst;simp only[yh2]at hc;rw[zg2,zab]
   cases q with
   |inl b=>
    have ih:=ih (p++[x]) (by rw[h];simp) b hq
    simp only[ze3,zaf]at hc ih;simp only[↓reduceIte,go_sem,show (p.length:Int)<(L.length:Int) by omega,hga,hc,isL,zac (n:=p.length) (by omega),ih]
   |inr e=>
    cases hq;simp only[zqf]at hc
    simp only[↓reduceIte,go_sem,show (p.length:Int)<(L.length:Int) by omega,hga,hc,isL]
    exact fin (.inr e)
 have loop1:∀(t p:List Cl),l=p++t->∀(a:S),zl0 stp (zqi t p.length) a=some r->ze9 (W s++X) (W a++X) y (.sl (Cl.css l)) (.int .i64 l.length) (.int .i64 p.length)=some (.ret (.tup []),hp W WE r++X):=by
  intro t
  induction t with
  |nil=>
   intro p h a hq;rw[List.append_nil]at h;subst h;rw[zqi,zl0]at hq;cases hq;rw[ze9,zab];simp only[↓reduceIte,go_sem];exact fin (.inl a)
  |cons c t ih=>
   intro p h a hq;have hga:l[p.length]?=some c:=by rw[h];simp
   have hpl:p.length<l.length:=by rw[h];simp
   have hcf:=hf c (by rw[h];simp)
   have hco:=fun H=>z87 [c.f,[c.t]] (by simp) (by simp;omega) H
   have e:([c.f,[c.t]]:List (List At)).flatten=c.f++[c.t]:=by simp
   have e2:slA [c.f,[c.t]]=[[.sl (At.css c.f)],[.sl [c.t.cs]]]:=rfl;rw[e,e2]at hco;have h0:=loop0 p.length (c.f++[c.t]) (zqi t (p.length+1)) (by omega) (by simp;omega) (fun b hb=>by
    have:=ih (p++[c]) (by rw[h];simp) b (by simpa using hb)
    simpa only[zaf] using this) (c.f++[c.t]) [] rfl a (by rw[zqi]at hq;exact hq)
   simp only[List.length_nil,Int.natCast_zero]at h0;rw[ze9,zab];simp only[↓reduceIte,go_sem,show (p.length:Int)<(l.length:Int) by omega,hga,hco,h0]
 simp only[zr5,zgr,List.cons_append,List.nil_append];show F zhh _ _=_;rw[zwt];simp only[↓reduceIte,go_sem];exact loop1 l [] rfl s hr
theorem yil(xs:List Cl)(hlen:xs.length<=1000)(f:AV)(p:Cl->Bool)(H:List AO)(hf:∀e∈xs,cfl T f [.agg e.cs] H=some (.ret (.bool (p e)),H)):
  F zbr [.sl (Cl.css xs),f] H=some (.ret (.bool (xs.any p)),H):=by
 have loop:∀(suf pre:List Cl),xs=pre++suf->∃r:Int,zbm H H (.sl (Cl.css xs)) f (.int .i64 xs.length) (.int .i64 pre.length)=some (.ret (.int .i64 r),H)/\decide (0<=r)=suf.any p:=by
  intro suf
  induction suf with
  |nil=>
   intro pre e;subst e;refine⟨-1,?_,rfl⟩;rw[zbm,zab];simp only[↓reduceIte,go_sem]
  |cons x suf ih=>
   intro pre e;subst e;obtain⟨r,h1,h2⟩:=ih (pre++[x]) (by simp)
   simp only[zaf]at h1;have hfx:=hf x (by simp)
   simp at hlen
   cases hp:p x with
   |true=>
    refine⟨pre.length,?_,by simp[hp]⟩
    rw[zbm,zab];simp only[↓reduceIte,go_sem,hfx,hp]
   |false=>
    refine⟨r,?_,by simp[hp,h2]⟩
    rw[zbm,zab];simp only[↓reduceIte,go_sem,hfx,hp,zac (n:=pre.length) (by omega),h1]
 obtain⟨r,h1,h2⟩:=loop xs [] rfl;simp only[List.length_nil,Int.natCast_zero]at h1;have hi:F zcg [.sl (Cl.css xs),f] H=some (.ret (.int .i64 r),H):=by
  rw[zmk];simp only[↓reduceIte,go_sem,h1]
 rw[zkf];simp only[↓reduceIte,go_sem,hi,<- h2]
def zs8(vars:Int)(b:Bool):List AO:=[.box [.int .i64 vars],.box [.bool b]]
def z1i(vars:Int)(_:Unit)(x:Nat×At):Option (Unit ⊕ Unit):=if atB vars x.2 then some (.inl ()) else some (.inr ())
theorem ygi(H:List AO)(vars:Int):Ys (.yd (H.length+2+1)) (H.length+2+2) yh2 (fun _=>H++(zs8 vars false++[.dfr,.slp .ready 47 [(2,.ptr H.length 0),(4,.ptr (H.length+1) 0)] [26,27] zeb zd8])) (fun _=>H++(zs8 vars false++[.dfr,.slp (.done .ret) 47 [(2,.ptr H.length 0),(4,.ptr (H.length+1) 0)] [26,27] zeb zd8])) (z1i vars):=by
 refine z30 H 2 yh2 (fun _=>zs8 vars false) (fun _=>zs8 vars false) (fun _=>.ret) (z1i vars) 47 [(2,.ptr H.length 0),(4,.ptr (H.length+1) 0)] [26,27] zeb zd8 ztu zts (fun _=>rfl) ?_ ?_ ?_ ?_
 ·rintro (p|e) <;> rfl
 ·rintro s (p|e) i o ho <;> exact .inl ho
 ·intro p hp;simp at hp;rcases hp with rfl|rfl <;> exact .ptr (by omega)
 ·rintro ⟨⟩ ⟨i,a⟩ X r hst
  refine⟨[],?_⟩;unfold z1i at hst;rcases a with⟨v,o⟩;simp only at hst;have hA:atB vars ⟨v,o⟩=(decide (0<=v) && decide (v<vars) && decide (0<=o) && decide (o<=1000)):=rfl;by_cases h:atB vars ⟨v,o⟩=true
  ·rw[if_pos h]at hst
   cases hst;obtain⟨h1,h2,h3,h4⟩:=z5z.1 h
   simp only at h1 h2 h3 h4;simp only[↓reduceIte,go_sem,zs8,yh2,At.cs,z4t,isL,show ¬ v<0 by omega,show ¬ vars<=v by omega,show ¬ o<0 by omega,show ¬ 1000<o by omega]
  ·rw[if_neg h]at hst
   cases hst;have hn:¬ (0<=v/\v<vars/\0<=o/\o<=1000):=fun k=>h (z5z.2 k)
   simp only[↓reduceIte,go_sem,zs8,yh2,At.cs,z4t,isL];by_cases h1:v<0
   ·rw[if_neg (by simpa using h1)]
   by_cases h2:vars<=v
   ·rw[if_pos h1,if_neg (by simpa using h2)]
   by_cases h3:o<0
   ·rw[if_pos h1,if_pos h2,if_neg (by simpa using h3)]
   ·rw[if_pos h1,if_pos h2,if_pos h3,if_pos (by omega)]
theorem zw3(vars:Int):∀xs:List (Nat×At),zl0 (z1i vars) xs ()=some (if (xs.all fun x=>atB vars x.2)=true then .inl () else .inr ())
 |[]=>rfl
 |x::xs=>by
  rw[zl0,List.all_cons];unfold z1i
  cases h:atB vars x.2
  ·rfl
  ·simp only[if_true,Bool.true_and]
   exact zw3 vars xs
theorem zxx(q:At->Bool):∀(l:List Cl) (i:Nat),((zqi l i).all fun x=>q x.2)=l.all fun c=>c.f.all q && q c.t
 |[],i=>rfl
 |c::l,i=>by
  rw[zqi,List.all_append,zxx q l,List.all_cons,List.all_map,List.all_append];simp[Function.comp_def]
def z4q(c:Cl):Bool:=decide (c.f.length<1) || decide (6<c.f.length)
theorem many_ok(c:Cl)(H:List AO):F zhi [.agg c.cs] H=some (.ret (.bool (z4q c)),H):=by
 rw[zwu,z4q];simp only[↓reduceIte,go_sem];by_cases h:(c.f.length:Int)<1
 ·simp only[h,show c.f.length<1 by omega];simp
 ·simp only[h,show ¬ c.f.length<1 by omega]
  by_cases h2:6<c.f.length
  ·simp[show (6:Int)<c.f.length by omega,h2]
  ·simp[show ¬ (6:Int)<c.f.length by omega,h2]
theorem zwb(vars:Int)(l:List Cl)(hl:l.length<=1000)(hf:∀c∈l,c.f.length<=1000)(H:List AO):F zkz [.int .i64 vars,.sl (Cl.css l)] H=some (.ret (.bool (zh0 vars l)),H):=by
 have hM:=fun H=>yil l hl (.fn (.func zhi) [] []) z4q H (fun c hc=>by
  simp only[zgr,List.cons_append,List.nil_append,yef];exact many_ok c H)
 have hr:=z3l l hl hf _ _ _ _ _ _ _ (ygi H vars) () [] _ (zw3 vars _);rw[zxx]at hr;have he:=fun st=>zs9 (H:=H) (DR:=zs8 vars false) (k:=2) rfl (st:=st) (nn:=47) (t:=[(2,.ptr H.length 0),(4,.ptr (H.length+1) 0)]) (ps:=[26,27]) (asg:=zeb) (body:=zd8)
 rw[z23,zh0];simp only[zs8,zr5,zgr,List.cons_append,List.nil_append,List.append_nil,Nat.add_assoc,Nat.reduceAdd]at hr he;by_cases c1:vars<1
 ·have e:(decide (1<=vars) && decide (vars<=16) && decide (l.length<=60) && l.all (clB vars))=false:=by rw[decide_eq_false (show ¬ 1<=vars by omega)];rfl
  rw[e];simp only[↓reduceIte,go_sem,c1]
 by_cases c2:16<vars
 ·have e:(decide (1<=vars) && decide (vars<=16) && decide (l.length<=60) && l.all (clB vars))=false:=by rw[decide_eq_false (show ¬ vars<=16 by omega)];simp
  rw[e];simp only[↓reduceIte,go_sem,c1,c2]
 by_cases c3:(60:Int)<l.length
 ·have e:(decide (1<=vars) && decide (vars<=16) && decide (l.length<=60) && l.all (clB vars))=false:=by rw[decide_eq_false (show ¬ l.length<=60 by omega)];simp
  rw[e];simp only[↓reduceIte,go_sem,c1,c2,c3]
 have e:(decide (1<=vars) && decide (vars<=16) && decide (l.length<=60) && l.all (clB vars))=l.all (clB vars):=by rw[decide_eq_true (show 1<=vars by omega),decide_eq_true (show vars<=16 by omega),decide_eq_true (show l.length<=60 by omega)];simp
 rw[e]
 cases c4:l.any z4q with
 |true=>
  have e2:l.all (clB vars)=false:=by
   obtain⟨c,hc,hm⟩:=List.any_eq_true.1 c4;rw[Bool.eq_false_iff];intro k;have:=List.all_eq_true.1 k c hc;simp only[clB,Bool.and_eq_true,decide_eq_true_eq]at this;simp only[z4q,Bool.or_eq_true,decide_eq_true_eq]at hm;omega
  rw[e2];simp only[↓reduceIte,go_sem,c1,c2,c3,hM,c4]
 |false=>
  have e2:l.all (clB vars)=l.all fun c=>c.f.all (atB vars) && atB vars c.t:=by
   apply Bool.eq_iff_iff.2;simp only[List.all_eq_true];have hm:∀c∈l,z4q c=false:=by simpa using c4
   constructor
   ·intro k c hc
    have:=k c hc;simp only[clB,Bool.and_eq_true,decide_eq_true_eq]at this ⊢;exact⟨this.1.2,this.2⟩
   ·intro k c hc
    have:=k c hc;have h2:=hm c hc;simp only[z4q,Bool.or_eq_false_iff,decide_eq_false_iff_not]at h2;simp only[clB,Bool.and_eq_true,decide_eq_true_eq]at this ⊢;exact⟨⟨⟨by omega,by omega⟩,this.1⟩,this.2⟩
  rw[e2]
  cases c5:l.all fun c=>c.f.all (atB vars) && atB vars c.t with
  |true=>
   rw[c5]at hr;simp only[if_true,ze3]at hr;simp only[↓reduceIte,go_sem,c1,c2,c3,hM,c4,z0i,zr5,hr,he,List.mem_cons,List.not_mem_nil,or_false,forall_eq,List.nodup_cons,List.nodup_nil,not_false_eq_true,and_self]
  |false=>
   rw[c5]at hr;simp only[Bool.false_eq_true,if_false,zqf]at hr;simp only[↓reduceIte,go_sem,c1,c2,c3,hM,c4,z0i,zr5,hr,he,List.mem_cons,List.not_mem_nil,or_false,forall_eq,List.nodup_cons,List.nodup_nil,not_false_eq_true,and_self]
def zyo(l:List Cl)(n:Int):List AO:=[.box [.sl (Cl.css l)],.box [.int .i64 n]]
def z4p(l:List Cl)(n:Int)(x:Nat×At):Option (Int ⊕ Empty):=match l[x.1]? with
 |some c=>if 0<=n/\n<=1000/\0<=c.t.o/\c.t.o<=1000/\0<=x.2.o/\x.2.o<=1000 then some (.inl (max n (c.t.o - x.2.o))) else none
 |none=>none
theorem most_ys(H:List AO)(l:List Cl):Ys (.yd (H.length+2+1)) (H.length+2+2) yh2 (fun n=>H++(zyo l n++[.dfr,.slp .ready 28 [(3,.ptr H.length 0),(4,.ptr (H.length+1) 0)] [14,15] zew zev])) (fun e:Empty=>H++(noE e++[.dfr,.slp (.done (noE e)) 28 [(3,.ptr H.length 0),(4,.ptr (H.length+1) 0)] [14,15] zew zev])) (z4p l):=by
 refine z30 H 2 yh2 (zyo l) noE noE (z4p l) 28 [(3,.ptr H.length 0),(4,.ptr (H.length+1) 0)] [14,15] zew zev zu4 zu2 (fun _=>rfl) ?_ ?_ ?_ ?_
 ·rintro (p|e)
  ·rfl
  ·exact e.elim
 ·rintro s (p|e) i o ho
  ·match i,ho with
   |0,ho=>simp[ze3,zyo]at ho;subst ho;exact .inl (by simp[zyo])
   |1,ho=>simp[ze3,zyo]at ho;subst ho;exact .inr fun a ha=>by simp at ha;subst ha;exact .int _ _
   |j+2,ho=>simp[ze3,zyo]at ho
  ·exact e.elim
 ·intro p hp;simp at hp;rcases hp with rfl|rfl <;> exact .ptr (by omega)
 ·rintro n ⟨i,a⟩ X r hst
  refine⟨[],?_⟩;unfold z4p at hst;simp only at hst
  cases hc:l[i]? with
  |none=>rw[hc]at hst;cases hst
  |some c=>
  rw[hc]at hst;simp only at hst
  split at hst
  ·rename_i hb
   cases hst;simp only[↓reduceIte,go_sem,zyo,yh2,z4t,isL,hc,zam (n:=c.t.o - a.o) (by omega) (by omega),zqq]
  ·cases hst
theorem ybn(l:List Cl)(vars:Nat)(hl:∀c∈l,c.ok vars):∀(t p:List Cl),l=p++t->∀n,0<=n/\n<=1000->zl0 (z4p l) (zqi t p.length) n=some (.inl (t.foldl (fun n c=>zgi c n c.f) n)):=by
 have one:∀(i:Nat) (c:Cl),l[i]?=some c->c.ok vars->∀(L:List At),(∀a∈L,0<=a.o/\a.o<=1000)->∀n,0<=n/\n<=1000->zl0 (z4p l) (L.map fun a=>(i,a)) n=some (.inl (zgi c n L)):=by
  intro i c hc ho L
  induction L with
  |nil=>intro _ n hn;rfl
  |cons a L ih=>
   intro hL n hn;have ha:=hL a (by simp)
   have ht:=ho.to;rw[List.map_cons,zl0];have e:z4p l n (i,a)=some (.inl (max n (c.t.o - a.o))):=by
    unfold z4p;simp only[hc];rw[if_pos (by omega)]
   rw[e];exact ih (fun b hb=>hL b (by simp[hb])) _ (by omega)
 intro t
 induction t with
 |nil=>intro p h n hn;rfl
 |cons c t ih=>
  intro p h n hn;have hc:l[p.length]?=some c:=by rw[h];simp
  have ho:=hl c (by rw[h];simp)
  have h1:=one p.length c hc ho (c.f++[c.t]) (fun a ha=>by
   rcases List.mem_append.1 ha with ha|ha
   ·have:=ho.at_ a ha;omega
   ·simp at ha;subst ha;have:=ho.to;omega) n hn
  have hb:=zrj ho c.f (fun _ h=>h) hn
  have e:zgi c n (c.f++[c.t])=zgi c n c.f:=by
   unfold zgi at hb ⊢;rw[List.foldl_append];simp only[List.foldl_cons,List.foldl_nil];omega
  rw[e]at h1;have h2:=ih (p++[c]) (by rw[h];simp) (zgi c n c.f) hb
  rw[zf6]at h2;rw[zqi,zy2,h1];exact h2
theorem z9p(vars:Nat)(l:List Cl)(h:zh0 vars l=true)(H:List AO):F zo1 [.int .i64 vars,.sl (Cl.css l)] H=some (.ret (.tup [.int .i64 (zrl l),.int .i64 0]),H):=by
 have hR:=zgc.1 h;have hr08:=fun H=>zwb vars l (by omega) (fun c hc=>by have:=(hR.2.2.2 c hc).len;omega) H
 have hr:=z3l l (by omega) (fun c hc=>by have:=(hR.2.2.2 c hc).len;omega) _ _ _ _ _ _ _ (most_ys H l) 0 [] _ (ybn l vars hR.2.2.2 l [] rfl 0 (by omega))
 rw[<- zrk]at hr;have he:=zs9 (H:=H) (DR:=zyo l (zrl l)) (k:=2) rfl (st:=.ready) (nn:=28) (t:=[(3,.ptr H.length 0),(4,.ptr (H.length+1) 0)]) (ps:=[14,15]) (asg:=zew) (body:=zev);simp only[ze3,zyo,zr5,zgr,List.cons_append,List.nil_append,List.append_nil,Nat.add_assoc,Nat.reduceAdd]at hr he;rw[z5m];simp only[↓reduceIte,go_sem,hr08,h,z0i,zr5,hr,he,List.mem_cons,List.not_mem_nil,or_false,forall_eq,List.nodup_cons,List.nodup_nil,not_false_eq_true,and_self];exact if_pos (.tup (by intro a ha;simp at ha;rcases ha with rfl|rfl <;> exact .int _ _))
theorem ybs(vars:Nat)(l:List Cl)(h:zh0 vars l=true)(H:List AO):F zk6 [.int .i64 vars,.sl (Cl.css l)] H=some (.ret (.int .i64 (zhf vars l)),H):=by
 have hr:=zgc.1 h;have hb:=zt6 l hr.2.2.2 (n:=0) (by omega)
 rw[<- zrk]at hb;have h1:0<=((vars:Int) - 1)*zrl l:=Int.mul_nonneg (by omega) hb.1
 have h2:((vars:Int) - 1)*zrl l<=15*1000:=Int.mul_le_mul (by omega) hb.2 hb.1 (by omega)
 rw[zze,zhf];simp only[↓reduceIte,go_sem,z9p vars l h,zam (n:=(vars:Int) - 1) (by omega) (by omega),zam (n:=((vars:Int) - 1)*zrl l) (by omega) (by omega)]
end Go.Ab
end
section
set_option linter.unusedVariables false
set_option linter.unusedSimpArgs false
set_option maxRecDepth 100000
set_option maxHeartbeats 2000000
namespace Go.Ab
open Go.RowKit Go.Proofs
def zlm(m:List Int):List AV:=m.map fun n=>.int .i64 n
@[go_sem] theorem zhy(m:List Int):(zlm m).length=m.length:=by simp[zlm]
@[go_sem] theorem intA_one(m:List Int):(zlm m).all AV.one=true:=by simp[zlm,AV.one]
theorem zyy(m:List Int):(zlm m).map (fun a=>[a])=zaq m:=by simp[zlm,zaq]
theorem zvl(m:List Int):(zaq m).flatten=zlm m:=by
 induction m with
 |nil=>rfl
 |cons x m ih=>simp only[zaq,List.map_cons,List.flatten_cons,zlm]at ih ⊢;rw[ih];rfl
theorem z4w(n:Nat)(m:List Int):∀a∈zlm m,Lt n a:=by
 intro a ha;obtain⟨x,_,rfl⟩:=List.mem_map.1 ha;exact .int _ _
@[go_sem] theorem lt_intA(n:Nat)(m:List Int):(∀a∈zlm m,Lt n a)=True:=eq_true (z4w n m)
theorem zy1(n:Nat):∀(m:List Int) (h:List AO),zuc n (zlm m) h=(zlm m,h)
 |[],h=>rfl
 |x::m,h=>by
  have ih:=zy1 n m h;simp only[zlm,List.map_cons]at ih ⊢;rw[zuc];simp only[z42];rw[ih]
theorem zyn{α:Type}:∀(m z p:List α),m.length<=z.length->over (p++z) p.length m=p++(m++z.drop m.length)
 |[],z,p,_=>by simp[over]
 |x::m,[],p,h=>by simp at h
 |x::m,y::z,p,h=>by
  have ih:=zyn m z (p++[x]) (by simpa using h)
  rw[over,List.set_append_right _ _ (Nat.le_refl _),Nat.sub_self,List.set_cons_zero];simp only[List.append_assoc,List.cons_append,List.nil_append,List.length_append,List.length_cons,List.length_nil,Nat.zero_add]at ih;rw[ih];simp
def zum:List (List AV):=zaq (List.replicate 16 0)
theorem z01:[[AV.int .i64 0],[AV.int .i64 0],[AV.int .i64 0],[AV.int .i64 0],[AV.int .i64 0],[AV.int .i64 0],[AV.int .i64 0],[AV.int .i64 0],[AV.int .i64 0],[AV.int .i64 0],[AV.int .i64 0],[AV.int .i64 0],[AV.int .i64 0],[AV.int .i64 0],[AV.int .i64 0],[AV.int .i64 0]]=zum:=rfl
def zgm(m:List Int):List Int:=m++List.replicate (16 - m.length) 0
theorem zny(m:List Int)(h:m.length<=16):(zgm m).length=16:=by simp[zgm];omega
theorem over16(m:List Int)(hm:m.length<=16):over zum 0 (List.take 16 (zaq m))=zaq (zgm m):=by
 have h:=zyn (zaq m) zum [] (by simp[zaq,zum];exact hm)
 rw[List.take_of_length_le (by simp[zaq];exact hm)]
 simp only[List.nil_append,List.length_nil]at h;rw[h,show zum=List.replicate 16 [AV.int .i64 0] from rfl,List.drop_replicate]
 simp[zaq,zgm,List.map_append]
theorem of_ok(m:List Int)(hm:m.length<=16)(H:List AO):F zq6 [.sl (zaq m)] H=some (.ret (.agg (zlm (zgm m))),H):=by
 have h1:(∀x:List AV,x∈zaq m->x.length=1)=True:=eq_true (by intro x hx;obtain⟨z,_,rfl⟩:=List.mem_map.1 hx;rfl)
 have hp:=zny m hm;have hz16:zum.length=16:=rfl;have hi16:(zaq (zgm m)).length=16:=by rw[zpv];exact hp
 rw[z8v];simp only[↓reduceIte,go_sem,h1,z01,over16 m hm,hp,zvl,hz16,hi16,zyy,zy1]
theorem zrg{α:Type}(z m:List α)(h:m.length=z.length):over z 0 m=m:=by
 have:=zyn m z [] (by omega)
 simp only[List.nil_append,List.length_nil]at this;rw[this,h,List.drop_length,List.append_nil]
noncomputable def LRnd(H h:List AO)(id:Nat)(x7 x8 x9:AV)(v4:List AV):Option RH:=awL T [2,4,7,8,9] [4] zju (zao 0 (thn (aw T (A zlf 6 .ret) (zah H [.c 16 true 4])) (zah H [.c 16 true 4]))) ⟨⟨28,[(2,.op id 0 1 0 0),(4,.lp 4 0),(7,.v x7),(8,.v x8),(9,.v x9)]⟩,[(4,v4)],h,[]⟩
theorem gRnd(H h:List AO)(id:Nat)(x7 x8 x9:AV)(v4:List AV):awL T [2,4,7,8,9] [4] zju (zao 0 (thn (aw T (A zlf 6 .ret) (zah H [.c 16 true 4])) (zah H [.c 16 true 4]))) ⟨⟨28,[(2,.op id 0 1 0 0),(4,.lp 4 0),(7,.v x7),(8,.v x8),(9,.v x9)]⟩,[(4,v4)],h,[]⟩=LRnd H h id x7 x8 x9 v4:=rfl
theorem z75(l:List Cl)(hl:∀c∈l,c.ok 16)(hb:l.length<=1000)(H:List AO)(v4:List AV)(h4:v4.length=16):∀(s p:List Cl),l=p++s->∀(B:Int) (m:List Int),bdM 16 B m->0<=B->B+1000*s.length<=1000000000 ->
  LRnd H (H++[.lst 0 1 (zaq m)]) H.length (.sl (Cl.css l)) (.int .i64 l.length) (.int .i64 p.length) v4=some (.ret (.agg (zlm (za1 s m))),H):=by
 intro s
 induction s with
 |nil=>
  intro p h B m hm h0 hB;rw[List.append_nil]at h;subst h;rw[LRnd,zab];have hl16:=hm.1;have ho:over v4 0 (zlm m)=zlm m:=zrg _ _ (by rw[zhy];omega)
  have hr:rd 16 true (zlm m)=some (.v (.agg (zlm m))):=zm8 (by rw[zhy];omega)
  have hfz:∀h,zuc H.length (zlm m) h=(zlm m,h):=fun h=>zy1 _ _ _
  simp only[↓reduceIte,go_sem,hl16,h4,zvl,za1,List.foldl_nil,ho,hr,hfz]
 |cons c s ih=>
  intro p h B m hm h0 hB;simp only[List.length_cons,Int.natCast_add,Int.natCast_one]at hB;have hc:=hl c (by rw[h];simp)
  have hga:l[p.length]?=some c:=by rw[h];simp
  have hp:p.length<l.length:=by rw[h];simp
  have hA:=yi9 c m 16 (hm.ok (by omega)) rfl hc (H++[.lst 0 1 (zaq m)]) H.length 0 (by simp)
  have hgm:=(hm.ok (by omega)).get hc.to.1 hc.to.2.1
  have hgl:=(hm.ok (by omega)).lt hc.to.1 hc.to.2.1
  have hl16:=hm.1;have ht2:c.t.v<16:=hc.to.2.1;have hset:(zaq m).set c.t.v.toNat [.int .i64 (max (gI m c.t.v) (ztk c m))]=zaq (zkb m c):=by simp[zaq,List.map_set,zkb]
  have h1:=ih (p++[c]) (by rw[h];simp) (B+1000) (zkb m c) (hm.step hc h0) (by omega) (by omega)
  simp only[zaf]at h1;have hround:za1 (c::s) m=za1 s (zkb m c):=rfl;rw[LRnd,zab,hround];simp only[↓reduceIte,go_sem,hga,hp,show (p.length:Int)<(l.length:Int) by omega,hA,hc.to.1,hgm.1,hgl,hl16,ht2,zac (n:=p.length) (by omega),zqq,hset,gRnd,h1]
theorem ygh(l:List Cl)(hl:∀c∈l,c.ok 16)(hb:l.length<=1000)(m:List Int)(B:Int)(hm:bdM 16 B m)(h0:0<=B)(hB:B+1000*l.length<=1000000000)(H:List AO):F zel [.agg (zlm m),.sl (Cl.css l)] H=some (.ret (.agg (zlm (za1 l m))),H):=by
 have hl16:=hm.1;have h1:=fun v4 h4=>z75 l hl hb H v4 h4 l [] rfl B m hm h0 hB
 simp only[List.length_nil,Int.natCast_zero]at h1;rw[zqs];simp only[↓reduceIte,go_sem,hl16,zyy,gRnd];exact h1 _ rfl
theorem z7e:∀(a b:List Int),a.length=b.length->eqI (zlm a) (zlm b)=some (decide (a=b))
 |[],[],_=>rfl
 |[],_::_,h=>by simp at h
 |_::_,[],h=>by simp at h
 |x::a,y::b,h=>by
  have ih:=z7e a b (by simpa using h)
  simp only[zlm,List.map_cons]at ih ⊢;rw[eqI];by_cases e:x=y
  ·simp[e,ih]
  ·simp[e]
theorem ye5(H:List AO)(id ver:Nat)(l:List Int)(hl:l.length=16)(hH:H[id]?=some (.lst ver 1 (zaq l))):∀(s p:List Int) (n:Int),l=p++s->zcl H H (.ov id ver 1 0 16) (.int .i64 n) (.int .i64 p.length)=some (.ret (.int .i64 (zn8 s n)),H):=by
 intro s
 induction s with
 |nil=>
  intro p n h;rw[List.append_nil]at h;subst h;have htk:(List.take 16 (zaq l)).length=16:=by simp[zaq];omega
  rw[zcl,zab];simp only[↓reduceIte,go_sem,hH,hl,zn8,List.foldl_nil,htk,show ¬ (16:Int)<((16:Nat):Int) by omega]
 |cons x s ih=>
  intro p n h;have h1:=ih (p++[x]) (max n x) (by rw[h];simp)
  have hga:l[p.length]?=some x:=by rw[h];simp
  have hp:p.length<l.length:=by rw[h];simp
  have hmax:(if x > n then x else n)=max n x:=by split <;> omega
  simp only[zaf]at h1;have htk:(List.take 16 (zaq l)).length=16:=by simp[zaq];omega
  rw[zcl,zab];simp only[↓reduceIte,go_sem,hH,hl,hga,hp,show (p.length:Int)<16 by omega,show p.length<16 by omega,Nat.zero_add,hmax,htk,show (p.length:Int)<((16:Nat):Int) by omega,zac (n:=p.length) (by omega),h1]
  simp only[zn8,List.foldl_cons]
theorem MaxV_ok(H:List AO)(id ver:Nat)(x:Int)(l:List Int)(hl:(x::l).length=16)(hH:H[id]?=some (.lst ver 1 (zaq (x::l)))):F zd9 [.ov id ver 1 0 16] H=some (.ret (.int .i64 (zn8 l x)),H):=by
 have h1:=ye5 H id ver (x::l) hl hH l [x] x rfl;rw[zoa];have h0:(x::l)[0]?=some x:=rfl;have htk:(List.take 16 (zaq (x::l))).length=16:=by simp[zaq]at hl ⊢;omega
 simp only[↓reduceIte,go_sem,hH,h0,hl,htk,show ¬ ((16:Nat):Int)<1 by omega]
 exact h1
theorem zt7(B:Int):∀(l:List Int) (n:Int),B<zn8 l n ↔ B<n\/∃x∈l,B<x
 |[],n=>by simp[zn8]
 |y::l,n=>by
  have:=zt7 B l (max n y);simp only[zn8,List.foldl_cons]at this ⊢;rw[this];simp only[List.mem_cons,exists_eq_or_imp];rw[show B<max n y ↔ B<n\/B<y by omega,or_assoc]
theorem ybc(m:List Int)(v:Int)(h0:0<=v)(h1:v<m.length):gI (zgm m) v=gI m v:=by
 unfold gI zgm;simp only[List.getD];rw[List.getElem?_append_left (by omega)]
theorem pad_set(m:List Int)(i:Nat)(x:Int)(h:i<m.length):(zgm m).set i x=zgm (m.set i x):=by
 unfold zgm;rw[List.set_append_left _ _ h,List.length_set]
theorem ygv(m:List Int)(c:Cl)(vars:Nat)(hc:c.ok vars)(hm:m.length=vars):ztk c (zgm m)=ztk c m:=by
 unfold ztk
 congr 2
 apply List.map_congr_left;intro a ha;have:=hc.at_ a ha;rw[ybc m a.v this.1 (by omega)]
theorem ygu(m:List Int)(c:Cl)(vars:Nat)(hc:c.ok vars)(hm:m.length=vars):zkb (zgm m) c=zgm (zkb m c):=by
 have ht:=hc.to;unfold zkb;rw[ygv m c vars hc hm,ybc m c.t.v ht.1 (by omega),pad_set m _ _ (by omega)]
theorem zrf(vars:Nat):∀(l:List Cl) (m:List Int),(∀c∈l,c.ok vars)->m.length=vars->za1 l (zgm m)=zgm (za1 l m)
 |[],m,_,_=>rfl
 |c::l,m,hl,hm=>by
  have:=zrf vars l (zkb m c) (fun d hd=>hl d (by simp[hd])) (by rw[zq5,hm])
  have e:=ygu m c vars (hl c (by simp)) hm
  unfold za1 at this ⊢;rw[List.foldl_cons,List.foldl_cons,e,this]
theorem ybb{a b:List Int}(h:a.length=b.length):zgm a=zgm b ↔ a=b:=by
 unfold zgm;rw[h];constructor
 ·intro e;exact List.append_cancel_right e
 ·rintro rfl;rfl
theorem pad_bd{vars:Nat}{B:Int}{m:List Int}(h:bdM vars B m)(hv:vars<=16)(hB:0<=B):bdM 16 B (zgm m):=by
 refine⟨zny m (by rw[h.1];exact hv),fun x hx=>?_⟩
 unfold zgm at hx;rcases List.mem_append.1 hx with hx|hx
 ·exact h.2 x hx
 ·have:=(List.mem_replicate.1 hx).2;omega
theorem pad_max{m:List Int}{x:Int}{l:List Int}(e:zgm m=x::l)(B:Int)(hB:0<=B):B<zn8 l x ↔ ∃y∈m,B<y:=by
 rw[zt7];have:(B<x\/∃y∈l,B<y) ↔ ∃y∈zgm m,B<y:=by rw[e];simp
 rw[this];unfold zgm;constructor
 ·rintro ⟨y,hy,h⟩
  rcases List.mem_append.1 hy with hy|hy
  ·exact⟨y,hy,h⟩
  ·have:=(List.mem_replicate.1 hy).2;omega
 ·rintro ⟨y,hy,h⟩
  exact⟨y,List.mem_append_left _ hy,h⟩
theorem ok16{vars:Nat}{c:Cl}(h:c.ok vars)(hv:vars<=16):c.ok 16 :=
 ⟨h.ne,h.len,fun a ha=>by have:=h.at_ a ha;omega,by have:=h.to;omega⟩
end Go.Ab
end
