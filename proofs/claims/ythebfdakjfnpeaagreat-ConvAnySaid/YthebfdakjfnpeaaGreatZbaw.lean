/- What the law ConvAny of layer 17 comes to, part 23. Conditions: none. -/
import Derived.Test.YthebfdakjfnpeaaGreatZbau
section
set_option linter.unusedVariables false
set_option linter.unusedSimpArgs false
set_option maxRecDepth 100000
set_option maxHeartbeats 2000000
namespace Go.Ab
open Go.RowKit Go.Proofs
variable {α S E : Type}
def zlx(stp:S->α->Option (S ⊕ E)):List α->S->Option (S ⊕ E)
 |[],s=>some (.inl s)
 |x::r,s=>match stp s x with
  |some (.inl s')=>zlx stp r s'
  |some (.inr e)=>some (.inr e)
  |none=>none
theorem zzg(stp:S->α->Option (S ⊕ E)):∀(a b:List α) (s:S),zlx stp (a++b) s=match zlx stp a s with
  |some (.inl s')=>zlx stp b s'
  |some (.inr e)=>some (.inr e)
  |none=>none
 |[],b,s=>rfl
 |x::a,b,s=>by
  rw[List.cons_append,zlx,zlx]
  cases stp s x with
  |none=>rfl
  |some r=>cases r with
   |inl s'=>exact zzg stp a b s'
   |inr e=>rfl
def hp(W:S->List AO)(WE:E->List AO):S ⊕ E->List AO
 |.inl s=>W s
 |.inr e=>WE e
@[go_sem] theorem ze5(W:S->List AO)(WE:E->List AO)(s:S):hp W WE (.inl s)=W s:=rfl
@[go_sem] theorem zqi(W:S->List AO)(WE:E->List AO)(e:E):hp W WE (.inr e)=WE e:=rfl
def isL:S ⊕ E->Bool
 |.inl _=>true
 |.inr _=>false
structure Ys (y:AV) (n:Nat) (enc:α->List AV) (W:S->List AO) (WE:E->List AO) (stp:S->α->Option (S ⊕ E)):Prop where
 one:y.one=true
 lt:Lt n y
 len:∀r,(hp W WE r).length=n
 fr:∀s r (id:Nat) (o:AO),(hp W WE r)[id]?=some o->(W s)[id]?=some o\/LtO n o
 call:∀s x X r,stp s x=some r->cfl T y (enc x) (W s++X)=some (.ret (.bool (isL r)),hp W WE r++X)
def yfz(fv:AV)(enc:α->List AV)(xs:List α):Prop :=
 ∀(S E:Type) (y:AV) (n:Nat) (W:S->List AO) (WE:E->List AO) (stp:S->α->Option (S ⊕ E)),Ys y n enc W WE stp->∀s X r,zlx stp xs s=some r->cfl T fv [y] (W s++X)=some (.ret (.tup []),hp W WE r++X)
theorem Lt.mono{n m:Nat}(hm:n<=m){a:AV}(h:Lt n a):Lt m a:=by
 induction h with
 |bool b=>exact .bool b
 |int k x=>exact .int k x
 |str s=>exact .str s
 |nilp=>exact .nilp
 |ptr h=>exact .ptr (by omega)
 |nils z=>exact .nils z
 |sl h ih=>exact .sl ih
 |ol h=>exact .ol (by omega)
 |nilm=>exact .nilm
 |fmap hk hv ihk ihv=>exact .fmap ihk ihv
 |mp h=>exact .mp (by omega)
 |fn ha hb iha ihb=>exact .fn iha ihb
 |nilf=>exact .nilf
 |agg h ih=>exact .agg ih
 |tup h ih=>exact .tup ih
 |iface h ih=>exact .iface ih
 |nili=>exact .nili
 |fp h ih=>exact .fp ih
 |yd h=>exact .yd (by omega)
 |ze=>exact .ze
 |ov h=>exact .ov (by omega)
 |fk k=>exact .fk k
 |junk=>exact .junk
theorem LtO.mono{n m:Nat}(hm:n<=m){o:AO}(h:LtO n o):LtO m o:=by
 cases o with
 |dead=>trivial
 |box cs=>exact fun a ha=>(h a ha).mono hm
 |lst v s es=>exact fun a ha=>(h a ha).mono hm
 |mapo es=>exact⟨fun p hp=>(h.1 p hp).mono hm,fun p hp=>(h.2 p hp).mono hm⟩
 |dfr=>trivial
 |slp st k t ps x y=>exact fun p hp=>(h p hp).mono hm
theorem zzk{H A X J:List AO}{r:Res}(hlen:A.length=H.length)(hfr:∀(id:Nat) (o:AO),A[id]?=some o->H[id]?=some o\/LtO H.length o)(hr:LtR (H++X).length r):ze6 (H++X) r (A++X++J)=some (r,A++X):=by
 unfold ze6;have e:(A++X++J).take (H++X).length=A++X:=List.take_left' (by simp[hlen])
 have hc:∀(id:Nat) (o:AO),(A++X++J)[id]?=some o->id<(H++X).length->(H++X)[id]?=some o\/LtO (H++X).length o:=by
  intro id o ho hi;have hi2:id<(A++X).length:=by rw[List.length_append]at hi ⊢;omega
  rw[List.getElem?_append_left hi2]at ho;by_cases h1:id<A.length
  ·rw[List.getElem?_append_left h1]at ho
   rcases hfr id o ho with k|k
   ·exact .inl (by rw[List.getElem?_append_left (by omega)];exact k)
   ·exact .inr (k.mono (by simp))
  ·rw[List.getElem?_append_right (by omega)]at ho
   exact .inl (by rw[List.getElem?_append_right (by omega),<- hlen];exact ho)
 rw[if_pos ⟨hr,hc⟩,e]
@[go_sem] theorem lt_fp{n:Nat}{l:List AV}:Lt n (.fp l)=∀a∈l,Lt n a:=propext ⟨fun h=>by cases h;assumption,.fp⟩
def z49(JE:E->Jmp):S ⊕ E->LSt
 |.inl _=>.ready
 |.inr e=>.done (JE e)
theorem ygh{H D D' X J:List AO}{nn:Nat}{t:List (Nat×AV)}{ps:List Nat}{asg body:FC}{st:LSt}{b:Bool}(hl:D'.length=D.length)
  (hfr:∀(i:Nat) (o:AO),D'[i]?=some o->D[i]?=some o\/LtO (H.length+D.length+2) o) (ht:∀p∈t,Lt (H.length+D.length+2) p.2) :
  zsf (H++(D++(.dfr :: .slp .ready nn t ps asg body::X))) (H.length+D.length+1) st b (H++(D' ++ (.dfr :: .slp .busy nn t ps asg body::(X++J))))=some (.ret (.bool b),H++(D' ++ (.dfr :: .slp st nn t ps asg body::X))):=by
 have hg:(H++(D' ++ (.dfr :: .slp .busy nn t ps asg body::(X++J))))[H.length+D.length+1]?=some (.slp .busy nn t ps asg body):=by
  rw[List.getElem?_append_right (by omega),List.getElem?_append_right (by omega),show H.length+D.length+1 - H.length - D'.length=1 by omega];rfl
 rw[z6o hg];have hs:(H++(D' ++ (.dfr :: .slp .busy nn t ps asg body::(X++J)))).set (H.length+D.length+1) (.slp st nn t ps asg body)=(H++(D' ++ (.dfr :: .slp st nn t ps asg body::X)))++J:=by
  rw[List.set_append_right _ _ (by omega),List.set_append_right _ _ (by omega),show H.length+D.length+1 - H.length - D'.length=1 by omega];simp
 rw[hs];unfold ze6;have hlen:(H++(D++(.dfr :: .slp .ready nn t ps asg body::X))).length=(H++(D' ++ (.dfr :: .slp st nn t ps asg body::X))).length:=by simp[hl]
 have hle:H.length+D.length+2<=(H++(D++(AO.dfr :: .slp .ready nn t ps asg body::X))).length:=by simp;omega
 rw[List.take_left' hlen.symm,if_pos];refine⟨.bool _,fun id o ho hi=>?_⟩
 rw[hlen]at hi;rw[List.getElem?_append_left hi]at ho;by_cases h1:id<H.length
 ·rw[List.getElem?_append_left h1]at ho ⊢;exact .inl ho
 rw[List.getElem?_append_right (by omega)]at ho ⊢
 by_cases h2:id - H.length<D.length
 ·rw[List.getElem?_append_left (by omega)]at ho ⊢
  rcases hfr _ _ ho with k|k
  ·exact .inl k
  ·exact .inr (k.mono hle)
 rw[List.getElem?_append_right (by omega),hl]at ho
 rw[List.getElem?_append_right (by omega)]
 match hj:id - H.length - D.length,ho with
 |0,ho=>exact .inl ho
 |1,ho=>simp at ho;subst ho;exact .inr fun p hp=>(ht p hp).mono hle
 |j+2,ho=>exact .inl ho
theorem z4g(H:List AO)(k:Nat)(enc:α->List AV)(D:S->List AO)(DE:E->List AO)(JE:E->Jmp)(stp:S->α->Option (S ⊕ E))(nn:Nat)(t:List (Nat×AV))(ps:List Nat)(asg body:FC)(ha:asg.okd=true)(hb:body.okd=true)(hps:∀x,(enc x).length=ps.length)
  (hk:∀r,(hp D DE r).length=k) (hfr:∀s r (i:Nat) (o:AO),(hp D DE r)[i]?=some o->(D s)[i]?=some o\/LtO (H.length+k+2) o) (ht:∀p∈t,Lt (H.length+k+2) p.2)
  (call:∀s x X r,stp s x=some r->∃J,aw T asg (yK T (H++(D s++(.dfr :: .slp .ready nn t ps asg body::X))) (H.length+k+1) body) ⟨setPs ps (enc x) ⟨nn,yf8 t⟩,[],H++(D s++(.dfr :: .slp .ready nn t ps asg body::X)),[H.length+k+1]⟩ =
   zsf (H++(D s++(.dfr :: .slp .ready nn t ps asg body::X))) (H.length+k+1) (z49 JE r) (isL r) (H++(hp D DE r++(.dfr :: .slp .busy nn t ps asg body::(X++J))))) :
  Ys (.yd (H.length+k+1)) (H.length+k+2) enc (fun s=>H++(D s++[.dfr,.slp .ready nn t ps asg body])) (fun e=>H++(DE e++[.dfr,.slp (.done (JE e)) nn t ps asg body])) stp:=by
 have hhp:∀r:S ⊕ E,hp (fun s=>H++(D s++[AO.dfr,.slp .ready nn t ps asg body])) (fun e=>H++(DE e++[.dfr,.slp (.done (JE e)) nn t ps asg body])) r=H++(hp D DE r++[.dfr,.slp (z49 JE r) nn t ps asg body]):=fun r=>by cases r <;> rfl
 have hkD:∀s,(D s).length=k:=fun s=>hk (.inl s)
 refine⟨rfl,.yd (by omega),fun r=>?_,fun s r id o ho=>?_,fun s x X r hst=>?_⟩
 ·rw[hhp];have:=hk r;simp;omega
 ·rw[hhp]at ho
  by_cases h1:id<H.length
  ·rw[List.getElem?_append_left h1]at ho ⊢;exact .inl ho
  rw[List.getElem?_append_right (by omega)]at ho ⊢
  by_cases h2:id - H.length<k
  ·rw[List.getElem?_append_left (by rw[hk];omega)]at ho
   rw[List.getElem?_append_left (by rw[hkD];omega)]
   exact hfr s r _ _ ho
  rw[List.getElem?_append_right (by rw[hk];omega),hk]at ho
  rw[List.getElem?_append_right (by rw[hkD];omega),hkD]
  match hj:id - H.length - k,ho with
  |0,ho=>exact .inl ho
  |1,ho=>simp at ho;subst ho;exact .inr ht
  |j+2,ho=>simp at ho
 ·obtain⟨J,e⟩:=call s x X r hst
  rw[hhp];have hg:(H++(D s++(AO.dfr :: .slp .ready nn t ps asg body::X)))[H.length+k+1]?=some (.slp .ready nn t ps asg body):=by
   rw[List.getElem?_append_right (by omega),List.getElem?_append_right (by rw[hkD];omega),hkD,show H.length+k+1 - H.length - k=1 by omega];rfl
  simp only[List.append_assoc,List.cons_append,List.nil_append];rw[yk9 hg (hps x) ha hb,e];have:=ygh (H:=H) (D:=D s) (D':=hp D DE r) (X:=X) (J:=J) (nn:=nn) (t:=t) (ps:=ps) (asg:=asg) (body:=body) (st:=z49 JE r) (b:=isL r) (by rw[hk,hkD]) (fun i o h=>by rw[hkD];exact hfr s r i o h) (by rw[hkD];exact ht)
  rw[hkD]at this;exact this
theorem zth{H DR:List AO}{k:Nat}(hk:DR.length=k){st:LSt}{nn:Nat}{t:List (Nat×AV)}{ps:List Nat}{asg body:FC}:
  (H++(DR++[AO.dfr,.slp st nn t ps asg body]))[H.length+k+1]?=some (.slp st nn t ps asg body)/\(H++(DR++[AO.dfr,.slp st nn t ps asg body])).set (H.length+k+1) .dead=H++(DR++[.dfr,.dead]):=by
 constructor
 ·rw[List.getElem?_append_right (by omega),List.getElem?_append_right (by omega),show H.length+k+1 - H.length - DR.length=1 by omega];rfl
 ·rw[List.set_append_right _ _ (by omega),List.set_append_right _ _ (by omega),show H.length+k+1 - H.length - DR.length=1 by omega];rfl
end Go.Ab
end
section
set_option linter.unusedVariables false
set_option linter.unusedSimpArgs false
set_option maxRecDepth 100000
set_option maxHeartbeats 2000000
namespace Go.Ab
open Go.RowKit Go.Proofs
theorem yig{A A' W Z:List AO}{o o':AO}{r:Res}(hlen:A'.length=A.length)(hfr:∀(id:Nat) (x:AO),A'[id]?=some x->A[id]?=some x\/LtO A.length x)(ho:LtO (A++(W++o::Z)).length o')(hr:LtR (A++(W++o::Z)).length r):
  ze6 (A++(W++o::Z)) r (A' ++ (W++o' :: Z))=some (r,A' ++ (W++o' :: Z)):=by
 unfold ze6;have e:(A' ++ (W++o' :: Z)).take (A++(W++o::Z)).length=A' ++ (W++o' :: Z):=List.take_of_length_le (by simp[hlen])
 have hc:∀(id:Nat) (x:AO),(A' ++ (W++o' :: Z))[id]?=some x->id<(A++(W++o::Z)).length->(A++(W++o::Z))[id]?=some x\/LtO (A++(W++o::Z)).length x:=by
  intro id x hx hi;by_cases h1:id<A'.length
  ·rw[List.getElem?_append_left h1]at hx
   rcases hfr id x hx with k|k
   ·exact .inl (by rw[List.getElem?_append_left (by omega)];exact k)
   ·exact .inr (k.mono (by simp))
  ·rw[List.getElem?_append_right (by omega)]at hx
   rw[List.getElem?_append_right (by omega),<- hlen]
   by_cases h2:id - A'.length<W.length
   ·rw[List.getElem?_append_left h2]at hx ⊢;exact .inl hx
   ·rw[List.getElem?_append_right (by omega)]at hx ⊢
    cases h3:id - A'.length - W.length with
    |zero=>rw[h3]at hx;simp at hx;subst hx;exact .inr ho
    |succ j=>rw[h3]at hx;simp at hx ⊢;exact .inl hx
 rw[if_pos ⟨hr,hc⟩,e]
theorem ycb{A W Z:List AO}{o:AO}:(A++(W++o::Z))[A.length+W.length]?=some o:=by
 rw[List.getElem?_append_right (by omega),List.getElem?_append_right (by omega)];simp
theorem yca{A W Z:List AO}{o p:AO}:(A++(W++o::Z)).set (A.length+W.length) p=A++(W++p::Z):=by
 rw[List.set_append_right _ _ (by omega),List.set_append_right _ _ (by omega)];simp
end Go.Ab
end
section
set_option linter.unusedVariables false
set_option linter.unusedSimpArgs false
set_option maxRecDepth 100000
set_option maxHeartbeats 2000000
namespace Go.Ab
open Go.RowKit Go.Proofs
def jk:Nat->List AO
 |0=>[]
 |m+1=>jk m++[.dfr,.dead]
def dsl(b:Nat):Nat->List Nat
 |0=>[]
 |m+1=>(b+2*m)::dsl b m
theorem zo1:∀m,(jk m).length=2*m
 |0=>rfl
 |m+1=>by rw[jk,List.length_append,zo1 m];simp;omega
theorem jk_at(A Z:List AO)(m:Nat):(A++(jk (m+1)++Z))[A.length+2*m]?=some .dfr:=by
 rw[List.getElem?_append_right (by omega),show A.length+2*m - A.length=2*m by omega,jk,List.append_assoc,List.getElem?_append_right (by rw[zo1];omega),zo1]
 simp
theorem zv7(b:Nat):∀m,∀i∈dsl b m,b<=i/\i<b+2*m
 |0,i,h=>by simp[dsl]at h
 |m+1,i,h=>by
  simp[dsl]at h;rcases h with rfl|h
  ·omega
  ·have:=zv7 b m i h;omega
theorem z3k(b:Nat):∀m,(dsl b m).Nodup
 |0=>by simp[dsl]
 |m+1=>by
  rw[dsl,List.nodup_cons];exact⟨fun h=>by have:=zv7 b m _ h;omega,z3k b m⟩
theorem yel(A:List AO):∀(m:Nat) (Z:List AO),ygf (A++(jk m++Z)) (dsl A.length m)=true
 |0,Z=>rfl
 |m+1,Z=>by
  rw[dsl,ygf,jk_at];dsimp only;have:=yel A m ([.dfr,.dead]++Z);rw[jk,List.append_assoc];exact this
theorem inRd_jk(A:List AO):∀(m:Nat) (Z:List AO),yge (A++(jk m++Z)) (dsl A.length m)=false
 |0,Z=>rfl
 |1,Z=>by
  have:=jk_at A Z 0;simp only[dsl,yge,Nat.mul_zero,Nat.add_zero]at this ⊢;rw[this]
 |m+2,Z=>rfl
theorem set_jk(A Z:List AO)(m:Nat):∃D,D.length=2/\(A++(jk (m+1)++Z)).set (A.length+2*m) .dead=A++(jk m++(D++Z)):=by
 refine⟨[.dead,.dead],rfl,?_⟩;rw[List.set_append_right _ _ (by omega),show A.length+2*m - A.length=2*m by omega,jk,List.append_assoc,List.set_append_right _ _ (by rw[zo1];omega),zo1]
 simp
theorem z71(A:List AO):∀(m:Nat) (Z:List AO),∃D,D.length=2*m+Z.length/\zi2 (A++(jk m++Z)) (dsl A.length m)=A++D
 |0,Z=>⟨Z,by simp,rfl⟩
 |m+1,Z=>by
  obtain⟨D,hD,e⟩:=set_jk A Z m;obtain⟨D',hD',e'⟩:=z71 A m (D++Z);refine⟨D',by simp at hD';omega,?_⟩
  rw[dsl,zi2,e,e']
theorem finF_jk{A H0:List AO}(hA:A.length=H0.length)(m:Nat):∃D:List AO,∀(rs:List RS) (o:Out) (t:Ts) (ls:List (Nat×List AV)),zah H0 rs o ⟨t,ls,A++jk m,dsl A.length m⟩=zah H0 rs o ⟨t,ls,A++D,[]⟩:=by
 obtain⟨D,_,e⟩:=z71 A m [];rw[List.append_nil]at e;refine⟨D,fun rs o t ls=>?_⟩
 cases m with
 |zero=>simp only[dsl,zi2]at e;rw[dsl,e]
 |succ m=>
  have h1:∀i∈dsl A.length (m+1),H0.length<=i:=fun i hi=>by have:=zv7 _ _ i hi;omega
  have h2:=z3k A.length (m+1);rw[dsl]at h1 h2 e ⊢;rw[yeb,if_pos ⟨h1,h2⟩,e]
theorem yea{S E α:Type}{y:AV}{n:Nat}{enc:α->List AV}{W:S->List AO}{WE:E->List AO}{stp:S->α->Option (S ⊕ E)}(hy:Ys y n enc W WE stp)(s:S)(r:S ⊕ E)(X:List AO)(m:Nat){o:Out}(ho:o = .normal\/o = .ret)(t:Ts)(ls:List (Nat×List AV)):
  zah (W s++X) [] o ⟨t,ls,hp W WE r++(X++jk m),dsl (n+X.length) m⟩=some (.ret (.tup []),hp W WE r++X):=by
 have l1:(W s).length=n:=hy.len (.inl s);have l2:=hy.len r;obtain⟨D,e⟩:=finF_jk (A:=hp W WE r++X) (H0:=W s++X) (by simp[l1,l2]) m
 rw[<- List.append_assoc,show n+X.length=(hp W WE r++X).length by simp[l2],e]
 have hf:=zzk (H:=W s) (A:=hp W WE r) (X:=X) (J:=D) (r:=.ret (.tup [])) (by rw[l1,l2]) (by rw[l1];exact hy.fr s r) (show Lt _ _ from .tup (by simp))
 rcases ho with rfl|rfl
 ·rw[z5j];simp only[zjf];exact hf
 ·rw[yif];simp only[zjf];exact hf
end Go.Ab
end
section
set_option linter.unusedVariables false
set_option linter.unusedSimpArgs false
set_option maxRecDepth 100000
set_option maxHeartbeats 2000000
namespace Go.Ab
open Go.RowKit Go.Proofs
def zaq(L:List Int):List (List AV):=L.map fun b=>[.int .i64 b]
@[go_sem] theorem zpx(L:List Int):(zaq L).length=L.length:=by simp[zaq]
@[go_sem] theorem i64s_get(L:List Int)(i:Nat):(zaq L)[i]?=L[i]?.map fun b=>[.int .i64 b]:=by simp[zaq]
@[go_sem] theorem zfj:zaq []=[]:=rfl
theorem zlk(a:List Int)(n:Int):zaq a++[[.int .i64 n]]=zaq (a++[n]):=by simp[zaq]
theorem z5e(n:Nat)(L:List Int):∀a∈(zaq L).flatten,Lt n a:=by
 intro a ha;obtain⟨e,he,h2⟩:=List.mem_flatten.1 ha;obtain⟨x,hx,rfl⟩:=List.mem_map.1 he;simp at h2;subst h2;exact .int _ _
@[go_sem] theorem lt_i64s(n:Nat)(L:List Int):(∀a∈(zaq L).flatten,Lt n a)=True:=eq_true (z5e n L)
def zfl:List Int->List Int->List Int
 |out,[]=>out
 |out,n::r=>zfl (if out.contains n then out else out++[n]) r
theorem zov:∀(a b out:List Int),zfl out (a++b)=zfl (zfl out a) b
 |[],b,out=>rfl
 |n::a,b,out=>by rw[List.cons_append,zfl,zfl,zov a b]
theorem zld:∀(a out:List Int),(zfl out a).length<=out.length+a.length
 |[],out=>by simp[zfl]
 |n::a,out=>by
  rw[zfl];have:=zld a (if out.contains n then out else out++[n])
  split at this <;> simp at * <;> split <;> simp_all <;> omega
def noE{β:Type}(e:Empty):β:=e.elim
end Go.Ab
end
section
set_option linter.unusedVariables false
set_option linter.unusedSimpArgs false
set_option maxRecDepth 100000
set_option maxHeartbeats 2000000
namespace Go.Ab
open Go.RowKit Go.Proofs
theorem zum(a:List Lv)(x:Lv):Lv.css a++[x.cs]=Lv.css (a++[x]):=by rw[yep];rfl
def byL(ps ms:List Lv)(k n:Int):Option Lv:=if k=5 then ps[n.toNat]? else if k=6 then ms[n.toNat]? else none
mutual
def subL(ps ms:List Lv):Lv->Lv
 |.mk k n ks=>match byL ps ms k n with
  |some x=>x
  |none=>.mk k n (subLs ps ms ks)
def subLs(ps ms:List Lv):List Lv->List Lv
 |[]=>[]
 |x::r=>subL ps ms x::subLs ps ms r
end
theorem z6r(ps ms:List Lv):∀ks:List Lv,subLs ps ms ks=ks.map (subL ps ms)
 |[]=>rfl
 |x::r=>by rw[subLs,z6r ps ms r];rfl
theorem zxg{p m k n:Int}{ks:List Lv}{d:Int}(h:rightB p m (.mk k n ks) d=true):1<=d/\(ks.length:Int)=zgm k/\0<=n/\(k=5->n<p)/\(k=6->n<m)/\(k≠5->k≠6->n=0)/\rightsB p m ks (d - 1)=true:=by
 rw[rightB]at h
 split at h
 ·cases h
 split at h
 ·cases h
 rename_i h1 h2;have h2:(ks.length:Int)=zgm k:=by simpa using h2
 split at h
 ·rename_i h5
  subst h5;have:ks=[]:=List.eq_nil_of_length_eq_zero (by simp[zgm]at h2;simp[h2])
  subst this;simp at h;exact⟨by omega,h2,h.1,fun _=>h.2,by omega,by omega,rfl⟩
 split at h
 ·rename_i h5
  subst h5;have:ks=[]:=List.eq_nil_of_length_eq_zero (by simp[zgm]at h2;simp[h2])
  subst this;simp at h;exact⟨by omega,h2,h.1,by omega,fun _=>h.2,by omega,rfl⟩
 ·simp at h
  exact⟨by omega,h2,by omega,by omega,by omega,fun _ _=>h.2,h.1⟩
theorem zxd{p m:Int}{ks:List Lv}{d:Int}(h:rightsB p m ks d=true){x:Lv}(hx:x∈ks):rightB p m x d=true:=by
 rw[zqs,List.all_eq_true]at h;exact h x hx
theorem ztu{l:Lv}{p m:Int}(h:zax l p m=true):rightB p m l 12=true:=by
 unfold zax at h;simp only[Bool.and_eq_true]at h;exact h.2
theorem z2f(k:Int):zgm k<=2:=by unfold zgm;grind
def zso(l:List Lv):Prop:=∀x∈l,x.ok
theorem byL_ok{ps ms:List Lv}(hp:zso ps)(hm:zso ms){k n:Int}{x:Lv}(h:byL ps ms k n=some x):x.ok:=by
 unfold byL at h
 split at h
 ·exact hp x (List.mem_of_getElem? h)
 ·split at h
  ·exact hm x (List.mem_of_getElem? h)
  ·cases h
theorem z4n{ps ms:List Lv}(hp:zso ps)(hm:zso ms)(l:Lv):l.ok->(subL ps ms l).ok:=by
 induction l using Lv.ind with
 |h k n ks ih=>
 intro hl;rw[subL]
 split
 ·rename_i x h;exact byL_ok hp hm h
 ·rw[z6r]
  refine .mk (by simpa using hl.len) fun x hx=>?_
  obtain⟨y,hy,rfl⟩:=List.mem_map.1 hx;exact ih y hy (hl.all y hy)
def z4w:Lv×Int->AV
 |(l,e)=>.tup [.agg l.cs,.int .i64 e]
def zeroL:Lv:=.mk 0 0 []
def zbz(l:List Lv):Bool:=l.all fun x=>zax x 5 10
def zse(l:Lv)(ps ms:List Lv):Lv×Int :=
 if zax l 5 10=false\/5<ps.length\/10<ms.length\/zbz ps=false\/zbz ms=false then (zeroL,1)
 else if zax (subL ps ms l) 5 10 then (subL ps ms l,0) else (zeroL,2)
theorem zxi(xs:List Lv)(hlen:xs.length<=140737488355328)(hx:zso xs)(H:List AO):F zit [.sl (Lv.css xs)] H=some (.ret (.bool (zbz xs)),H):=by
 have loop:∀(suf pre:List Lv),xs=pre++suf->zic H H (.sl (Lv.css xs)) (.int .i64 pre.length)=some (.ret (.bool (zbz suf)),H):=by
  intro suf
  induction suf with
  |nil=>
   intro pre e;subst e;rw[zic,zab];simp only[↓reduceIte,go_sem,zbz,List.all_nil]
  |cons x suf ih=>
   intro pre e;subst e;simp at hlen;have:=ih (pre++[x]) (by simp)
   simp only[zaf]at this;have hr:=zd0 x (hx x (by simp)) 5 10 H
   rw[zic,zab];unfold zbz at *;rw[List.all_cons]
   cases h:zax x 5 10 <;> simp only[h]at hr <;> simp only[↓reduceIte,go_sem,hr,zac (n:=pre.length) (by omega),this,Bool.true_and,Bool.false_and]
 have:=loop xs [] rfl;simp only[List.length_nil,Int.natCast_zero]at this;rw[z0b];simp only[↓reduceIte,go_sem,this]
theorem ygq(p m:Int)(ps ms:List Lv)(l:Lv):l.ok->∀(d:Int),rightB p m l d=true->∀(H:List AO),F zm4 [.agg l.cs,.sl (Lv.css ps),.sl (Lv.css ms)] H=some (.ret (.agg (subL ps ms l).cs),H):=by
 induction l using Lv.ind with
 |h k n ks ih=>
 intro hl d hr H;obtain⟨hd,hk,hn,h5,h6,h0,hks⟩:=zxg hr;have hk3:=z2f k;have loop:∀(suf pre done:List Lv),ks=pre++suf->done.length=pre.length ->
   zki H (H++[.lst 0 3 [],.lst done.length 3 (Lv.css done),.lst 0 3 []]) (.sl (Lv.css ps)) (.sl (Lv.css ms)) (.int .i64 pre.length) [.int .i64 k,.int .i64 n,.sl (Lv.css ks)]
    [.int .i64 0,.int .i64 0,.ol H.length 0] [.int .i64 k,.int .i64 n,.ol (H.length+1) done.length]=some (.ret (.agg (Lv.mk k n (done++subLs ps ms suf)).cs),H):=by
  intro suf
  induction suf with
  |nil=>
   intro pre done e he;subst e;rw[zki,zab];simp only[↓reduceIte,go_sem,subLs,Lv.cs]
  |cons x suf ih2=>
   intro pre done e he;subst e;simp at hk;have:=ih2 (pre++[x]) (done++[subL ps ms x]) (by simp) (by simp[he])
   simp only[zaf]at this;simp only[zf5,List.append_assoc,List.cons_append,List.nil_append]at this;have hdl:done.length<=1073741823:=by omega
   rw[zki,zab,subLs];simp only[↓reduceIte,go_sem,ih x (by simp) (hl.all x (by simp)) (d - 1) (zxd hks (by simp)),zac (n:=pre.length) (by omega),hdl,zum,this]
 have l0:=loop ks [] [] rfl rfl;simp only[List.length_nil,Int.natCast_zero,List.nil_append,Lv.css,Lv.cs]at l0;rw[z5y,subL,byL];have hN:(n.toNat:Int)=n:=Int.toNat_of_nonneg hn;by_cases e5:k=5
 ·subst e5
  by_cases hlt:n<(ps.length:Int)
  ·obtain⟨x,hx⟩:∃x,ps[n.toNat]?=some x:=⟨ps[n.toNat],by simp⟩
   simp only[↓reduceIte,go_sem,Lv.cs,hlt,hn,hx]
  ·have hx:ps[n.toNat]?=none:=List.getElem?_eq_none (by omega)
   simp only[↓reduceIte,go_sem,Lv.cs,hlt,hx,l0]
 ·by_cases e6:k=6
  ·subst e6
   by_cases hlt:n<(ms.length:Int)
   ·obtain⟨x,hx⟩:∃x,ms[n.toNat]?=some x:=⟨ms[n.toNat],by simp⟩
    simp only[↓reduceIte,go_sem,Lv.cs,hlt,hn,hx]
   ·have hx:ms[n.toNat]?=none:=List.getElem?_eq_none (by omega)
    simp only[↓reduceIte,go_sem,Lv.cs,hlt,hx,l0]
  ·simp only[↓reduceIte,go_sem,Lv.cs,e5,e6,l0]
theorem yjo(l:Lv)(ps ms:List Lv)(hl:l.ok)(hp:zso ps)(hm:zso ms)(hpl:ps.length<=140737488355328)(hml:ms.length<=140737488355328)(H:List AO):
  F zot [.agg l.cs,.sl (Lv.css ps),.sl (Lv.css ms)] H=some (.ret (z4w (zse l ps ms)),H):=by
 rw[z5z,zse];have h1:=zd0 l hl 5 10 H;have h2:=zxi ps hpl hp H;have h3:=zxi ms hml hm H;by_cases hr:zax l 5 10=true
 ·by_cases a1:5<ps.length
  ·have a1':(5:Int)<ps.length:=by omega
   simp only[↓reduceIte,go_sem,h1,hr,a1,a1',z4w,zeroL,Lv.cs,Lv.css,Bool.true_eq_false,false_or,true_or]
  by_cases a2:10<ms.length
  ·have a1':¬ (5:Int)<ps.length:=by omega
   have a2':(10:Int)<ms.length:=by omega
   simp only[↓reduceIte,go_sem,h1,hr,a1,a1',a2,a2',z4w,zeroL,Lv.cs,Lv.css,Bool.true_eq_false,false_or,true_or]
  have a1':¬ (5:Int)<ps.length:=by omega
  have a2':¬ (10:Int)<ms.length:=by omega
  cases b1:zbz ps with
  |false=>simp only[↓reduceIte,go_sem,h1,h2,hr,a1,a1',a2,a2',b1,z4w,zeroL,Lv.cs,Lv.css,Bool.true_eq_false,false_or,true_or]
  |true=>
  cases b2:zbz ms with
  |false=>simp only[↓reduceIte,go_sem,h1,h2,h3,hr,a1,a1',a2,a2',b1,b2,z4w,zeroL,Lv.cs,Lv.css,Bool.true_eq_false,false_or,true_or]
  |true=>
  have h4:=ygq 5 10 ps ms l hl 12 (ztu hr) H;have h5:=zd0 (subL ps ms l) (z4n hp hm l hl) 5 10 H
  cases b3:zax (subL ps ms l) 5 10 <;> simp only[b3]at h5 <;> simp only[↓reduceIte,go_sem,h1,h2,h3,h4,h5,hr,a1,a1',a2,a2',b1,b2,b3,z4w,zeroL,Lv.cs,Lv.css,Bool.true_eq_false,Bool.false_eq_true,or_self,true_or]
 ·simp only[Bool.not_eq_true]at hr
  simp only[↓reduceIte,go_sem,h1,hr,z4w,zeroL,Lv.cs,Lv.css,true_or]
theorem yb2(l:Lv)(hl:l.ok)(H:List AO):F zl2 [.agg l.cs] H=some (.ret (.bool (!zax l 5 10)),H):=by
 rw[z9e];simp only[↓reduceIte,go_sem,zgq l hl]
theorem grow_ok(n:Int)(h0:0<=n)(hn:n<=1073741824)(H:List AO):F zen [.ze,.int .i64 n] H=if n=0 then some (.ret .ze,H) else some (.ret (.ol H.length 1),H++[.lst 1 3 []]):=by
 rw[zqw];by_cases h:n=0
 ·subst h
  have e1:IntKind.wrap .i64 0=0:=zam (by omega) (by omega)
  simp only[↓reduceIte,go_sem,Int.sub_self,e1]
 ·simp only[↓reduceIte,go_sem,h,show ¬ n<0 by omega,show 0<n by omega,Int.sub_self,Int.sub_zero,zam (n:=0) (by omega) (by omega),zam (n:=n) (by omega) (by omega),hn]
inductive AccL (H:List AO):AV->List Lv->List AO->Prop
 |ze:AccL H .ze [] H
 |ol (ver:Nat) (es:List Lv):AccL H (.ol H.length ver) es (H++[.lst ver 3 (Lv.css es)])
def sls(xs:List (List Lv)):List (List AV):=xs.map fun x=>[.sl (Lv.css x)]
@[go_sem] theorem sls_len(xs:List (List Lv)):(sls xs).length=xs.length:=by simp[sls]
@[go_sem] theorem sls_get(xs:List (List Lv))(i:Nat):(sls xs)[i]?=xs[i]?.map fun x=>[.sl (Lv.css x)]:=by simp[sls]
@[go_sem] theorem css_all3(ks:List Lv):(∀e∈Lv.css ks,e.length=3)=True:=by
 refine eq_true fun e he=>?_
 rw[Lv.css_eq]at he;obtain⟨x,_,rfl⟩:=List.mem_map.1 he;exact z3n x
theorem z3r(xs:List (List Lv))(hlen:xs.length<=1000)(ht:xs.flatten.length<=1073741824)(H:List AO):
  F zcs [.sl (sls xs)] H=some (.ret (.sl (Lv.css xs.flatten)),H):=by
 have loop1:∀(suf pre:List (List Lv)) {v:AV} {es:List Lv} {H1:List AO},xs=pre++suf->AccL (H++[.lst 0 3 []]) v es H1->es.length+suf.flatten.length<=1073741824 ->
   zdm H H1 v (.sl (sls xs)) (.int .i64 xs.length) (.int .i64 pre.length)=some (.ret (.sl (Lv.css (es++suf.flatten))),H):=by
  intro suf
  induction suf with
  |nil=>
   intro pre v es H1 e ha hb;subst e;rw[zdm,zab]
   cases ha with
   |ze=>simp only[↓reduceIte,go_sem,List.flatten_nil,Lv.css]
   |ol ver=>simp only[↓reduceIte,go_sem,List.flatten_nil]
  |cons x suf ih=>
   intro pre v es H1 e ha hb;subst e;simp at hlen;rw[List.flatten_cons,List.length_append]at hb;rw[zdm,zab]
   cases ha with
   |ze=>
    cases x with
    |nil=>
     have:=ih (pre++[[]]) (by simp) (AccL.ze (H:=H++[.lst 0 3 []])) (by simpa using hb)
     simp only[zaf]at this;simp only[↓reduceIte,go_sem,Lv.css,zac (n:=pre.length) (by omega),this,List.flatten_cons]
    |cons y ys=>
     have:=ih (pre++[y::ys]) (by simp) (AccL.ol (H:=H++[.lst 0 3 []]) 0 (y::ys)) (by simpa using hb)
     simp only[zaf]at this;simp only[↓reduceIte,go_sem,Lv.css]at this;simp at hb;simp only[↓reduceIte,go_sem,Lv.css,zac (n:=pre.length) (by omega),show ys.length<1073741824 by omega,this,List.flatten_cons]
   |ol ver=>
    have:=ih (pre++[x]) (by simp) (AccL.ol (H:=H++[.lst 0 3 []]) (ver+1) (es++x)) (by simp at hb ⊢;omega)
    simp only[zaf]at this;simp only[↓reduceIte,go_sem]at this;simp only[↓reduceIte,go_sem,zac (n:=pre.length) (by omega),show es.length+x.length<=1073741824 by omega,<- yep,this,List.flatten_cons,List.append_assoc]
 have loop0:∀(suf pre:List (List Lv)),xs=pre++suf ->
   zdn H (H++[.lst 0 3 []]) (.sl (sls xs)) (.int .i64 pre.flatten.length) (.sl (sls xs)) (.int .i64 xs.length) (.int .i64 pre.length)=some (.ret (.sl (Lv.css xs.flatten)),H):=by
  intro suf
  induction suf with
  |nil=>
   intro pre e;subst e;simp only[List.append_nil]at *;have hg:=grow_ok pre.flatten.length (by omega) (by omega) (H++[.lst 0 3 []])
   rw[zdn,zab];by_cases h0:pre.flatten.length=0
   ·have h1:=loop1 pre [] rfl (AccL.ze (H:=H++[.lst 0 3 []])) (by simpa using ht)
    simp only[List.length_nil,Int.natCast_zero,List.nil_append]at h1;rw[if_pos (by omega)]at hg
    simp only[↓reduceIte,go_sem,hg,h1]
   ·have h1:=loop1 pre [] rfl (AccL.ol (H:=H++[.lst 0 3 []]) 1 []) (by simpa using ht)
    simp only[List.length_nil,Int.natCast_zero,List.nil_append]at h1;rw[if_neg (by omega)]at hg
    simp only[↓reduceIte,go_sem,Lv.css]at hg h1;simp only[↓reduceIte,go_sem,hg,h1]
  |cons x suf ih=>
   intro pre e;subst e;simp at hlen;have:=ih (pre++[x]) (by simp)
   have hl:((pre++[x]).flatten.length:Int)=(pre.flatten.length:Int)+(x.length:Int):=by simp
   rw[hl]at this;simp only[zaf]at this;simp only[List.flatten_append,List.flatten_cons,List.length_append]at ht;rw[zdn,zab];simp only[↓reduceIte,go_sem,zac (n:=pre.length) (by omega),zam (n:=(pre.flatten.length:Int)+(x.length:Int)) (by omega) (by omega),show ¬ (pre.flatten.length:Int)+(x.length:Int)<0 by omega]
   rw[this]
 have h0:=loop0 xs [] rfl;simp only[List.length_nil,Int.natCast_zero,List.flatten_nil]at h0;rw[zpa];simp only[↓reduceIte,go_sem,h0]
def GoodL(fv:AV)(ps ms:List Lv)(H:List AO):Prop:=∀(X:List AO) (k n:Int) (ks:List Lv),0<=n->cfl T fv [.agg (Lv.mk k n ks).cs] (H++X)=some (.ret (.tup [.agg ((byL ps ms k n).getD (.mk k n ks)).cs,.bool (byL ps ms k n).isSome]),H++X)
theorem GoodL.ext{fv:AV}{ps ms:List Lv}{H:List AO}(h:GoodL fv ps ms H)(Y:List AO):GoodL fv ps ms (H++Y):=fun X k n ks hn=>by rw[List.append_assoc];exact h (Y++X) k n ks hn
theorem ygi(p m:Int)(fv:AV)(hfv:fv.one=true)(ps ms:List Lv)(l:Lv):l.ok->∀(d:Int),rightB p m l d=true->∀(H:List AO),GoodL fv ps ms H ->
  F zm8 [.agg l.cs,fv] H=some (.ret (.agg (subL ps ms l).cs),H):=by
 induction l using Lv.ind with
 |h k n ks ih=>
 intro hl d hr H hg;obtain⟨hd,hk,hn,h5,h6,h0,hks⟩:=zxg hr;have hk3:=z2f k;have loop:∀(suf pre done:List Lv),ks=pre++suf->done.length=pre.length ->
   zkj H (H++[.lst 0 3 [],.lst 0 3 [],.lst done.length 3 (Lv.css done),.lst 0 3 []]) fv (.sl (Lv.css ks)) (.int .i64 ks.length) (.int .i64 pre.length)
    [.int .i64 0,.int .i64 0,.ol H.length 0] [.int .i64 k,.int .i64 n,.ol (H.length+2) done.length]=some (.ret (.agg (Lv.mk k n (done++subLs ps ms suf)).cs),H):=by
  intro suf
  induction suf with
  |nil=>
   intro pre done e he;subst e;rw[zkj,zab];simp only[↓reduceIte,go_sem,subLs,Lv.cs]
  |cons x suf ih2=>
   intro pre done e he;subst e;simp at hk;have:=ih2 (pre++[x]) (done++[subL ps ms x]) (by simp) (by simp[he])
   simp only[zaf]at this;simp only[zf5,List.append_assoc,List.cons_append,List.nil_append]at this;have hdl:done.length<=1073741823:=by omega
   rw[zkj,zab,subLs];simp only[↓reduceIte,go_sem,ih x (by simp) (hl.all x (by simp)) (d - 1) (zxd hks (by simp)) _ (hg.ext _),zac (n:=pre.length) (by omega),hdl,zum,this]
 have l0:=loop ks [] [] rfl rfl;simp only[List.length_nil,Int.natCast_zero,List.nil_append,Lv.css,Lv.cs]at l0;have hb:=hg [.lst 0 3 []] k n ks hn;rw[z50,subL]
 cases hx:byL ps ms k n with
 |some x=>
  simp only[hx,Option.getD_some,Option.isSome_some]at hb;rw[Lv.cs]at hb ⊢;simp only[↓reduceIte,go_sem,hb]
 |none=>
  simp only[hx,Option.getD_none,Option.isSome_none]at hb;rw[Lv.cs]at hb;rw[Lv.cs];simp only[↓reduceIte,go_sem,hb,l0];rfl
theorem Sub_ok(l:Lv)(ps ms:List Lv)(hl:l.ok)(hp:zso ps)(hm:zso ms)(hpl:ps.length<=140737488355328)(hml:ms.length<=140737488355328)(H:List AO):
  F zrr [.agg l.cs,.sl (Lv.css ps),.sl (Lv.css ms)] H=some (.ret (z4w (zse l ps ms)),H):=by
 have h1:=yb2 l hl (H++[.box [.sl (Lv.css ps)],.box [.sl (Lv.css ms)]]);rw[z9f,zse];by_cases hr:zax l 5 10=true
 ·by_cases a1:5<ps.length
  ·have a1':(5:Int)<ps.length:=by omega
   simp only[↓reduceIte,go_sem,h1,hr,a1,a1',z4w,zeroL,Lv.cs,Lv.css,Bool.true_eq_false,false_or,true_or]
  by_cases a2:10<ms.length
  ·have a1':¬ (5:Int)<ps.length:=by omega
   have a2':(10:Int)<ms.length:=by omega
   simp only[↓reduceIte,go_sem,h1,hr,a1,a1',a2,a2',z4w,zeroL,Lv.cs,Lv.css,Bool.true_eq_false,false_or,true_or]
  have a1':¬ (5:Int)<ps.length:=by omega
  have a2':¬ (10:Int)<ms.length:=by omega
  have hc:=z3r [ps,ms] (by simp) (by simp;omega) (H++[.box [.sl (Lv.css ps)],.box [.sl (Lv.css ms)]])
  simp only[sls,List.map_cons,List.map_nil,List.flatten_cons,List.flatten_nil,List.append_nil]at hc;have ha:=z00 (ps++ms) (by simp;omega) (.fn (.func zl2) [] []) (fun x=>!zax x 5 10) (H++[.box [.sl (Lv.css ps)],.box [.sl (Lv.css ms)]]) (fun x hx=>by
   simp only[ye1];exact yb2 x (by rcases List.mem_append.1 hx with h|h;exact hp x h;exact hm x h) _)
  rw[<- List.not_all_eq_any_not,List.all_append]at ha;rw[show (ps.all fun x=>zax x 5 10)=zbz ps from rfl,show (ms.all fun x=>zax x 5 10)=zbz ms from rfl]at ha
  by_cases hb:(zbz ps && zbz ms)=true
  ·have hb2:=hb
   rw[Bool.and_eq_true]at hb2;have hg:GoodL (.fn (.func zm9) [] [.ptr H.length 0,.ptr (H.length+1) 0]) ps ms (H++[.box [.sl (Lv.css ps)],.box [.sl (Lv.css ms)]]):=by
    intro X k n ks hn;simp only[zgo,List.cons_append,List.nil_append,List.append_assoc,z3c];have e:((H++AO.box [.sl (Lv.css ps)]::AO.box [.sl (Lv.css ms)]::X)[H.length+1]?)=some (.box [.sl (Lv.css ms)]):=by rw[z0y];rfl
    have e0:((H++AO.box [.sl (Lv.css ps)]::AO.box [.sl (Lv.css ms)]::X)[H.length]?)=some (.box [.sl (Lv.css ps)]):=by rw[z0z];rfl
    generalize H++AO.box [.sl (Lv.css ps)]::AO.box [.sl (Lv.css ms)]::X=H' at *;unfold byL;have hN:(n.toNat:Int)=n:=Int.toNat_of_nonneg hn;by_cases e5:k=5
    ·subst e5
     by_cases hlt:n<(ps.length:Int)
     ·obtain⟨x,hx⟩:∃x,ps[n.toNat]?=some x:=⟨ps[n.toNat],by simp⟩
      simp only[↓reduceIte,go_sem,Lv.cs,e,e0,hlt,hn,hx,Option.getD_some,Option.isSome_some]
     ·have hx:ps[n.toNat]?=none:=List.getElem?_eq_none (by omega)
      simp only[↓reduceIte,go_sem,Lv.cs,e,e0,hlt,hx,Option.getD_none,Option.isSome_none]
    ·by_cases e6:k=6
     ·subst e6
      by_cases hlt:n<(ms.length:Int)
      ·obtain⟨x,hx⟩:∃x,ms[n.toNat]?=some x:=⟨ms[n.toNat],by simp⟩
       simp only[↓reduceIte,go_sem,Lv.cs,e,e0,hlt,hn,hx,Option.getD_some,Option.isSome_some]
      ·have hx:ms[n.toNat]?=none:=List.getElem?_eq_none (by omega)
       simp only[↓reduceIte,go_sem,Lv.cs,e,e0,hlt,hx,Option.getD_none,Option.isSome_none]
     ·simp only[↓reduceIte,go_sem,Lv.cs,e,e0,e5,e6,Option.getD_none,Option.isSome_none]
   have ht:=ygi 5 10 _ rfl ps ms l hl 12 (ztu hr) _ hg;have h5:=yb2 (subL ps ms l) (z4n hp hm l hl) (H++[.box [.sl (Lv.css ps)],.box [.sl (Lv.css ms)]]);simp only[hb]at ha
   cases b3:zax (subL ps ms l) 5 10 <;> simp only[b3]at h5 <;> simp only[↓reduceIte,go_sem,h1,hr,a1,a1',a2,a2',hb2.1,hb2.2,hc,ha,ht,h5,b3,z4w,zeroL,Lv.cs,Lv.css,Bool.true_eq_false,Bool.false_eq_true,or_self,true_or,false_or]
  ·have hb':zbz ps=false\/zbz ms=false:=by
    cases h1:zbz ps <;> cases h2:zbz ms <;> simp_all
   simp only[Bool.not_eq_true]at hb;simp only[hb]at ha;simp only[↓reduceIte,go_sem,h1,hr,a1,a1',a2,a2',hb',hc,ha,z4w,zeroL,Lv.cs,Lv.css,Bool.true_eq_false,or_self,true_or,or_true,false_or]
 ·simp only[Bool.not_eq_true]at hr
  simp only[↓reduceIte,go_sem,h1,hr,z4w,zeroL,Lv.cs,Lv.css,true_or]
end Go.Ab
end
section
set_option linter.unusedVariables false
set_option linter.unusedSimpArgs false
set_option maxRecDepth 100000
set_option maxHeartbeats 2000000
namespace Go.Ab
open Go.RowKit Go.Proofs
mutual
def rightT(p m:Int):Te->Int->Int->Bool
 |.mk k n ls ks,v,d=>if d<1 then false else if (ks.length:Int)≠zfs k then false else if ((ls.all fun x=>zax x p m) && zl1 k n ls v)=false then false else rightTs p m k ks 0 v (d - 1)
def rightTs(p m:Int)(k:Int):List Te->Int->Int->Int->Bool
 |[],_,_,_=>true
 |x::r,i,v,d=>rightT p m x (v+binds k i) d && rightTs p m k r (i+1) v d
end
theorem z8q(p m:Int)(t:Te):t.ok->∀(v d:Int),-1000<=d/\d<=1000->0<=v/\v+d<=1000000->∀(H:List AO),F zg3 [.agg t.cs,.int .i64 v,.int .i64 p,.int .i64 m,.int .i64 d] H=some (.ret (.bool (rightT p m t v d)),H):=by
 induction t using Te.ind with
 |h k n ls ks ih=>
 intro hl v d hd hv H;have hlen:=hl.len;have loop:¬ d<1->∀(suf pre:List Te),ks=pre++suf ->
   zh4 H H (.int .i64 v) (.int .i64 p) (.int .i64 m) (.int .i64 d) (.int .i64 pre.length) [.int .i64 k,.int .i64 n,.sl (Lv.css ls),.sl (Te.css ks)]=some (.ret (.bool (rightTs p m k suf pre.length v (d - 1))),H):=by
  intro hd1 suf
  induction suf with
  |nil=>
   intro pre e;subst e;rw[zh4,zab];simp only[↓reduceIte,go_sem,rightTs]
  |cons x suf ih2=>
   intro pre e;subst e;simp at hlen;have:=ih2 (pre++[x]) (by simp)
   simp only[zaf]at this;have hb:=zlt k pre.length;rw[zh4,zab,rightTs];simp only[↓reduceIte,go_sem,zta,zam (n:=d - 1) (by omega) (by omega),zam (n:=v+binds k pre.length) (by omega) (by omega),ih x (by simp) (hl.all x (by simp)) (v+binds k pre.length) (d - 1) (by omega) (by omega) H,zac (n:=pre.length) (by omega),this]
   cases rightT p m x (v+binds k pre.length) (d - 1) <;> simp
 have:=fun h=>loop h ks [] rfl
 simp only[List.length_nil,Int.natCast_zero]at this;rw[zzy,rightT];simp only[↓reduceIte,go_sem,Te.cs,ydq,z80 k n ls ks hl.len2 hl.all2];by_cases h1:d<1
 ·simp[h1]
 ·simp only[this h1]
  grind
def zc6(t:Te)(v p m:Int):Bool:=decide (0<=v) && decide (v<=1000) && decide (0<=p) && decide (p<=5) && decide (0<=m) && decide (m<=10) && decide (parts t 601<=600) && rightT p m t v 30
theorem zg7(t:Te)(hl:t.ok)(v p m:Int)(H:List AO):F zez [.agg t.cs,.int .i64 v,.int .i64 p,.int .i64 m] H=some (.ret (.bool (zc6 t v p m)),H):=by
 rw[zz2,zc6];have hr:0<=v->v<=1000->F zg3 [.agg t.cs,.int .i64 v,.int .i64 p,.int .i64 m,.int .i64 30] H=some (.ret (.bool (rightT p m t v 30)),H):=fun h1 h2=>z8q p m t hl v 30 (by omega) (by omega) H
 by_cases h1:0<=v <;> by_cases h2:v<=1000 <;> simp only[↓reduceIte,go_sem,h1,h2,zm7 t hl 601 (by omega),hr] <;> grind
def zcc(t:Te):Bool:=zc6 t 1000 5 10
theorem zdb(t:Te)(hl:t.ok)(H:List AO):F zec [.agg t.cs] H=some (.ret (.bool (zcc t)),H):=by
 rw[zz1,zcc];simp only[↓reduceIte,go_sem,zg7 t hl]
mutual
def teEq:Te->Te->Bool
 |.mk a b l ks,.mk c d m js=>decide (a=c) && decide (b=d) && lvsEq l m && tesEq ks js
def tesEq:List Te->List Te->Bool
 |[],[]=>true
 |x::l,y::m=>teEq x y && tesEq l m
 |_,_=>false
end
theorem zuy:∀{l m:List Te},l.length≠m.length->tesEq l m=false
 |[],[],h=>absurd rfl h
 |[],_::_,_=>by rw[tesEq];all_goals simp
 |_::_,[],_=>by rw[tesEq];all_goals simp
 |x::l,y::m,h=>by rw[tesEq,zuy (l:=l) (m:=m) (by simpa using h)];simp
theorem ybg(a:Te):a.ok->∀(b:Te) (H:List AO),F zkp [.agg a.cs,.agg b.cs] H=some (.ret (.bool (teEq a b)),H):=by
 induction a using Te.ind with
 |h k n ls ks ih=>
 intro hl b H;obtain⟨k',n',ls',ks'⟩:=b;have hlen:=hl.len;have hlen2:=hl.len2;have loop2:ks.length=ks'.length->∀(suf pre suf' pre':List Te),ks=pre++suf->ks' = pre' ++ suf' -> pre.length=pre'.length ->
   zi8 H H (.int .i64 pre.length) [.int .i64 k,.int .i64 n,.sl (Lv.css ls),.sl (Te.css ks)] [.int .i64 k',.int .i64 n',.sl (Lv.css ls'),.sl (Te.css ks')]=some (.ret (.bool (tesEq suf suf')),H):=by
  intro hll suf
  induction suf with
  |nil=>
   intro pre suf' pre' e e' he;subst e;subst e';have:suf' = []:=List.eq_nil_of_length_eq_zero (by simp at hll;omega)
   subst this;rw[zi8,zab];simp only[↓reduceIte,go_sem,tesEq]
  |cons x suf ih2=>
   intro pre suf' pre' e e' he;subst e;subst e';simp at hlen
   cases suf' with
   |nil=>simp at hll;omega
   |cons y suf'=>
   have hy:(pre' ++ y::suf')[pre.length]?=some y:=by rw[he];simp
   have:=ih2 (pre++[x]) suf' (pre' ++ [y]) (by simp) (by simp) (by simp[he])
   simp only[zaf]at this;rw[zi8,zab,tesEq];simp only[↓reduceIte,go_sem,hy,ih x (by simp) (hl.all x (by simp)) y H,zac (n:=pre.length) (by omega),this]
   cases teEq x y <;> simp
 have loop1:ks.length=ks'.length->ls.length=ls'.length->∀(suf pre suf' pre':List Lv),ls=pre++suf->ls' = pre' ++ suf' -> pre.length=pre'.length ->
   zi9 H H (.int .i64 pre.length) [.int .i64 k,.int .i64 n,.sl (Lv.css ls),.sl (Te.css ks)] [.int .i64 k',.int .i64 n',.sl (Lv.css ls'),.sl (Te.css ks')]=some (.ret (.bool (lvsEq suf suf' && tesEq ks ks')),H):=by
  intro hkk hll suf
  induction suf with
  |nil=>
   intro pre suf' pre' e e' he;subst e;subst e';have:suf' = []:=List.eq_nil_of_length_eq_zero (by simp at hll;omega)
   subst this;rw[zi9,zab];have:=loop2 hkk ks [] ks' [] rfl rfl rfl;simp only[List.length_nil,Int.natCast_zero,List.append_nil]at this;simp only[↓reduceIte,go_sem,lvsEq,this,Bool.true_and]
  |cons x suf ih2=>
   intro pre suf' pre' e e' he;subst e;subst e';simp at hlen2
   cases suf' with
   |nil=>simp at hll;omega
   |cons y suf'=>
   have hy:(pre' ++ y::suf')[pre.length]?=some y:=by rw[he];simp
   have:=ih2 (pre++[x]) suf' (pre' ++ [y]) (by simp) (by simp) (by simp[he])
   simp only[zaf]at this;rw[zi9,zab,lvsEq];simp only[↓reduceIte,go_sem,hy,zu2 x (hl.all2 x (by simp)) y H,zac (n:=pre.length) (by omega),this]
   cases lvEq x y <;> simp
 rw[z20,teEq];simp only[↓reduceIte,go_sem,Te.cs];by_cases h3:ks.length=ks'.length
 ·by_cases h4:ls.length=ls'.length
  ·have:=loop1 h3 h4 ls [] ls' [] rfl rfl rfl
   simp only[List.length_nil,Int.natCast_zero]at this;rw[this]
   grind
  ·have h4':¬ (ls.length:Int)=(ls'.length:Int):=by omega
   rw[zrq h4];simp[h4']
 ·have h3':¬ (ks.length:Int)=(ks'.length:Int):=by omega
  rw[zuy h3];simp[h3']
end Go.Ab
end
section
set_option linter.unusedVariables false
set_option linter.unusedSimpArgs false
set_option maxRecDepth 100000
set_option maxHeartbeats 2000000
namespace Go.Ab
open Go.RowKit Go.Proofs
mutual
def liftT(b:Int):Te->Int->Te
 |.mk k n ls ks,f=>.mk k (if k=1/\f<=n then n+b else n) ls (liftTs b k ks 0 f)
def liftTs(b k:Int):List Te->Int->Int->List Te
 |[],_,_=>[]
 |x::r,i,f=>liftT b x (f+binds k i)::liftTs b k r (i+1) f
end
mutual
def openT(u:Te):Te->Int->Te
 |.mk k n ls ks,f=>if k=1/\n=f then liftT f u 0 else .mk k (if k=1/\f<n then n - 1 else n) ls (openTs u k ks 0 f)
def openTs(u:Te)(k:Int):List Te->Int->Int->List Te
 |[],_,_=>[]
 |x::r,i,f=>openT u x (f+binds k i)::openTs u k r (i+1) f
end
theorem zo0(k:Int):zfs k<=3:=by unfold zfs;grind
theorem zf2{p m k n v d:Int}{ls:List Lv}{ks:List Te}(h:rightT p m (.mk k n ls ks) v d=true):
  1<=d/\(ks.length:Int)=zfs k/\(ls.all fun x=>zax x p m)=true/\zl1 k n ls v=true/\rightTs p m k ks 0 v (d - 1)=true:=by
 rw[rightT]at h
 split at h
 ·cases h
 ·split at h
  ·cases h
  ·split at h
   ·cases h
   ·rename_i h1 h2 h3
    simp at h3;exact⟨by omega,by simpa using h2,by simpa using h3.1,h3.2,h⟩
theorem zu4{p m k v d:Int}:∀{a b:List Te} {i:Int},rightTs p m k (a++b) i v d=true->rightTs p m k a i v d=true/\rightTs p m k b (i+a.length) v d=true
 |[],b,i,h=>⟨rfl,by simpa using h⟩
 |x::a,b,i,h=>by
  rw[List.cons_append,rightTs,Bool.and_eq_true]at h;obtain⟨h1,h2⟩:=zu4 h.2;refine⟨by rw[rightTs,h.1,h1];rfl,?_⟩
  have:i+((x::a).length:Int)=i+1+(a.length:Int):=by simp;omega
  rw[this];exact h2
theorem zk6{p m k v d:Int}{a b:List Te}{x:Te}(h:rightTs p m k (a++x::b) 0 v d=true):rightT p m x (v+binds k a.length) d=true:=by
 have:=(zu4 h).2;rw[rightTs,Bool.and_eq_true]at this;simpa using this.1
theorem zox{n v:Int}{ls:List Lv}(h:zl1 1 n ls v=true):0<=n/\n<v/\ls=[]:=by
 unfold zl1 at h;simp at h;exact⟨h.1.1,h.1.2,h.2⟩
theorem z19(p m b:Int)(hb:0<=b/\b<=1000000)(t:Te):t.ok->∀(v d f:Int),rightT p m t v d=true->d<=1000->0<=v/\v+d<=1000000 -> -1000000<=f/\f+d<=1000000->∀(H:List AO),
  F zir [.agg t.cs,.int .i64 f,.int .i64 b] H=some (.ret (.agg (liftT b t f).cs),H):=by
 induction t using Te.ind with
 |h k n ls ks ih=>
 intro hl v d f hr hd hv hf H;obtain⟨hd1,hk,hls,hn,hks⟩:=zf2 hr;have hk3:=zo0 k;have loop:∀(n':Int) (suf pre done:List Te),ks=pre++suf->done.length=pre.length ->
   zi7 H (H++[.lst 0 3 [],.lst 0 4 [],.lst 0 3 [],.lst done.length 4 (Te.css done),.lst 0 3 [],.lst 0 4 []]) (.int .i64 f) (.int .i64 b) (.int .i64 pre.length) [.int .i64 k,.int .i64 n,.sl (Lv.css ls),.sl (Te.css ks)]
    [.int .i64 0,.int .i64 0,.ol H.length 0,.ol (H.length+1) 0] [.int .i64 k,.int .i64 n',.sl (Lv.css ls),.ol (H.length+3) done.length]=some (.ret (.agg (Te.mk k n' ls (done++liftTs b k suf pre.length f)).cs),H):=by
  intro n' suf
  induction suf with
  |nil=>
   intro pre done e he;subst e;rw[zi7,zab];simp only[↓reduceIte,go_sem,liftTs,Te.cs]
  |cons x suf ih2=>
   intro pre done e he;subst e;simp at hk;have:=ih2 (pre++[x]) (done++[liftT b x (f+binds k pre.length)]) (by simp) (by simp[he])
   simp only[zaf]at this;simp only[zf5,List.append_assoc,List.cons_append,List.nil_append]at this;have hdl:done.length<=1073741823:=by omega
   have hbr:=zlt k pre.length;rw[zi7,zab,liftTs];simp only[↓reduceIte,go_sem,zta,zam (n:=f+binds k pre.length) (by omega) (by omega),ih x (by simp) (hl.all x (by simp)) (v+binds k pre.length) (d - 1) (f+binds k pre.length) (zk6 hks) (by omega) (by omega) (by omega),zac (n:=pre.length) (by omega),hdl,this]
 have l0:=fun n'=>loop n' ks [] [] rfl rfl
 simp only[List.length_nil,Int.natCast_zero,List.nil_append,Te.css,Te.cs]at l0;rw[z2y,liftT];by_cases h1:k=1
 ·subst h1
  obtain⟨h2,h3,h4⟩:=zox hn;simp only[↓reduceIte,go_sem,Te.cs,zam (n:=n+b) (by omega) (by omega),l0]
  split <;> simp_all
 ·simp only[↓reduceIte,go_sem,Te.cs,h1,l0,false_and]
theorem yk6{k n:Int}{ls:List Lv}{ks:List Te}(h:(Te.mk k n ls ks).ok)(n':Int){js:List Te}(hl:js.length=ks.length)(hj:∀x∈js,x.ok):(Te.mk k n' ls js).ok:=by
 cases h with
 |mk a b c d=>exact .mk (by omega) b c hj
theorem zxt(b k:Int):∀(ks:List Te) (i f:Int),(liftTs b k ks i f).length=ks.length
 |[],_,_=>rfl
 |x::r,i,f=>by rw[liftTs];simp[zxt b k r]
theorem zxp(u:Te)(k:Int):∀(ks:List Te) (i f:Int),(openTs u k ks i f).length=ks.length
 |[],_,_=>rfl
 |x::r,i,f=>by rw[openTs];simp[zxp u k r]
theorem zxs{b k:Int}{p:Te->Prop}:∀{ks:List Te} {i f:Int},(∀x∈ks,∀f,p (liftT b x f))->∀y∈liftTs b k ks i f,p y
 |[],_,_,_,y,hy=>by cases hy
 |x::r,i,f,h,y,hy=>by
  rw[liftTs]at hy;rcases List.mem_cons.1 hy with rfl|hy
  ·exact h x (by simp) _
  ·exact zxs (fun z hz=>h z (by simp[hz])) y hy
theorem zxo{u:Te}{k:Int}{p:Te->Prop}:∀{ks:List Te} {i f:Int},(∀x∈ks,∀f,p (openT u x f))->∀y∈openTs u k ks i f,p y
 |[],_,_,_,y,hy=>by cases hy
 |x::r,i,f,h,y,hy=>by
  rw[openTs]at hy;rcases List.mem_cons.1 hy with rfl|hy
  ·exact h x (by simp) _
  ·exact zxo (fun z hz=>h z (by simp[hz])) y hy
theorem zy5(b:Int)(t:Te):t.ok->∀f,(liftT b t f).ok:=by
 induction t using Te.ind with
 |h k n ls ks ih=>intro h f;rw[liftT];exact yk6 h _ (zxt _ _ _ _ _) (zxs fun x hx=>ih x hx (h.all x hx))
theorem z41(u:Te)(hu:u.ok)(t:Te):t.ok->∀f,(openT u t f).ok:=by
 induction t using Te.ind with
 |h k n ls ks ih=>
  intro h f;rw[openT]
  split
  ·exact zy5 f u hu 0
  ·exact yk6 h _ (zxp _ _ _ _ _) (zxo fun x hx=>ih x hx (h.all x hx))
theorem ybz(p m:Int)(u:Te)(huk:u.ok)(vu du:Int)(hu:rightT p m u vu du=true)(hdu:du<=1000)(hvu:0<=vu/\vu+du<=1000000)(t:Te):t.ok->∀(v d f:Int),rightT p m t v d=true->d<=1000->0<=v/\v+d<=1000000->0<=f/\f+d<=1000000->∀(H:List AO),
  F zko [.agg t.cs,.int .i64 f,.agg u.cs] H=some (.ret (.agg (openT u t f).cs),H):=by
 induction t using Te.ind with
 |h k n ls ks ih=>
 intro hl v d f hr hd hv hf H;obtain⟨hd1,hk,hls,hn,hks⟩:=zf2 hr;have hk3:=zo0 k;have loop:∀(n':Int) (suf pre done:List Te),ks=pre++suf->done.length=pre.length ->
   zi6 H (H++[.lst 0 3 [],.lst 0 4 [],.lst 0 3 [],.lst done.length 4 (Te.css done),.lst 0 3 [],.lst 0 4 []]) (.int .i64 f) (.int .i64 pre.length) [.int .i64 k,.int .i64 n,.sl (Lv.css ls),.sl (Te.css ks)] u.cs
    [.int .i64 0,.int .i64 0,.ol H.length 0,.ol (H.length+1) 0] [.int .i64 k,.int .i64 n',.sl (Lv.css ls),.ol (H.length+3) done.length]=some (.ret (.agg (Te.mk k n' ls (done++openTs u k suf pre.length f)).cs),H):=by
  intro n' suf
  induction suf with
  |nil=>
   intro pre done e he;subst e;rw[zi6,zab];simp only[↓reduceIte,go_sem,openTs,Te.cs]
  |cons x suf ih2=>
   intro pre done e he;subst e;simp at hk;have:=ih2 (pre++[x]) (done++[openT u x (f+binds k pre.length)]) (by simp) (by simp[he])
   simp only[zaf]at this;simp only[zf5,List.append_assoc,List.cons_append,List.nil_append]at this;have hdl:done.length<=1073741823:=by omega
   have hbr:=zlt k pre.length;rw[zi6,zab,openTs];simp only[↓reduceIte,go_sem,zta,zam (n:=f+binds k pre.length) (by omega) (by omega),ih x (by simp) (hl.all x (by simp)) (v+binds k pre.length) (d - 1) (f+binds k pre.length) (zk6 hks) (by omega) (by omega) (by omega),zac (n:=pre.length) (by omega),hdl,this]
 have l0:=fun n'=>loop n' ks [] [] rfl rfl
 simp only[List.length_nil,Int.natCast_zero,List.nil_append,Te.css,Te.cs]at l0;have hL:=fun h1=>z19 p m f ⟨h1,by omega⟩ u huk vu du 0 hu hdu hvu (by omega)
 rw[z2x,openT];by_cases h1:k=1
 ·subst h1
  obtain⟨h2,h3,h4⟩:=zox hn;by_cases h5:n=f
  ·simp only[↓reduceIte,go_sem,Te.cs,h5,hL hf.1,and_self]
  ·simp only[↓reduceIte,go_sem,Te.cs,zam (n:=n - 1) (by omega) (by omega),l0,h5]
   split <;> simp_all
 ·simp only[↓reduceIte,go_sem,Te.cs,h1,l0,false_and]
end Go.Ab
end
section
set_option linter.unusedVariables false
set_option linter.unusedSimpArgs false
set_option maxRecDepth 100000
set_option maxHeartbeats 2000000
namespace Go.Ab
open Go.RowKit Go.Proofs
def zeroT:Te:=.mk 0 0 [] []
theorem zfo{t:Te}(h:zcc t=true):rightT 5 10 t 1000 30=true:=by
 unfold zcc zc6 at h;simp at h;exact h.2
def zuw(t:Te):Te×Int:=if zcc t=true then (t,0) else (zeroT,2)
abbrev zjh(x:Te×Int):AV:=.tup [.agg x.1.cs,.int .i64 x.2]
def zhz(t:Te)(f b:Int):Te×Int:=if zcc t=false\/f<0\/1000<f\/b<0\/1000<b then (zeroT,1) else zuw (liftT b t f)
def zlw(t u:Te):Te×Int:=if zcc t=false\/zcc u=false then (zeroT,1) else zuw (openT u t 0)
theorem yfu(t:Te)(hl:t.ok)(f b:Int)(H:List AO):F zmz [.agg t.cs,.int .i64 f,.int .i64 b] H=some (.ret (zjh (zhz t f b)),H):=by
 rw[z22,zhz];by_cases h:zcc t=false\/f<0\/1000<f\/b<0\/1000<b
 ·simp only[h,↓reduceIte]
  by_cases h1:zcc t=true
  ·simp[h1]at h
   by_cases h2:f<0
   ·simp only[↓reduceIte,go_sem,zdb t hl,h1,h2,zjh,zeroT,Te.cs,Lv.css,Te.css]
   by_cases h3:1000<f
   ·simp only[↓reduceIte,go_sem,zdb t hl,h1,h2,h3,zjh,zeroT,Te.cs,Lv.css,Te.css]
   by_cases h4:b<0
   ·simp only[↓reduceIte,go_sem,zdb t hl,h1,h2,h3,h4,zjh,zeroT,Te.cs,Lv.css,Te.css]
   have h5:1000<b:=by omega
   simp only[↓reduceIte,go_sem,zdb t hl,h1,h2,h3,h4,h5,zjh,zeroT,Te.cs,Lv.css,Te.css]
  ·simp only[Bool.not_eq_true]at h1
   simp only[↓reduceIte,go_sem,zdb t hl,h1,zjh,zeroT,Te.cs,Lv.css,Te.css]
 ·simp only[h,↓reduceIte]
  simp at h;have hs:=zfo h.1;have h2:¬ f<0:=by omega
  have h3:¬ 1000<f:=by omega
  have h4:¬ b<0:=by omega
  have h5:¬ 1000<b:=by omega
  have hL:=z19 5 10 b (by omega) t hl 1000 30 f hs (by omega) (by omega) (by omega)
  have ho:=zdb _ (zy5 b t hl f);unfold zuw zjh;simp only[↓reduceIte,go_sem,zdb t hl,h.1,h2,h3,h4,h5,hL,ho,zjh,zeroT,Te.cs,Lv.css,Te.css]
  cases zcc (liftT b t f) <;> simp[Te.cs,Lv.css,Te.css]
theorem znr(t u:Te)(hl:t.ok)(hu:u.ok)(H:List AO):F zkq [.agg t.cs,.agg u.cs] H=some (.ret (zjh (zlw t u)),H):=by
 rw[z21,zlw];by_cases h:zcc t=false\/zcc u=false
 ·simp only[h,↓reduceIte]
  cases h1:zcc t with
  |true=>
   have h2:zcc u=false:=by simpa [h1] using h
   simp only[↓reduceIte,go_sem,zdb t hl,zdb u hu,h1,h2,zjh,zeroT,Te.cs,Lv.css,Te.css]
  |false=>simp only[↓reduceIte,go_sem,zdb t hl,h1,zjh,zeroT,Te.cs,Lv.css,Te.css]
 ·simp only[h,↓reduceIte]
  simp at h;have hO:=ybz 5 10 u hu 1000 30 (zfo h.2) (by omega) (by omega) t hl 1000 30 0 (zfo h.1) (by omega) (by omega) (by omega)
  have ho:=zdb _ (z41 u hu t hl 0);unfold zuw zjh;simp only[↓reduceIte,go_sem,zdb t hl,zdb u hu,h.1,h.2,hO,ho,zjh,zeroT,Te.cs,Lv.css,Te.css]
  cases zcc (openT u t 0) <;> simp[Te.cs,Lv.css,Te.css]
end Go.Ab
end
section
set_option linter.unusedVariables false
set_option linter.unusedSimpArgs false
set_option maxRecDepth 100000
set_option maxHeartbeats 2000000
namespace Go.Ab
open Go.RowKit Go.Proofs
def zsj:List (AV×AV):=[(.int .i64 1,.agg [.int .i64 0,.int .i64 (-1)]),(.int .i64 2,.agg [.int .i64 0,.int .i64 (-1)]),(.int .i64 3,.agg [.int .i64 0,.int .i64 (-1)]),(.int .i64 4,.agg [.int .i64 2,.int .i64 (-1)]),
 (.int .i64 5,.agg [.int .i64 2,.int .i64 1]),(.int .i64 6,.agg [.int .i64 2,.int .i64 1]),(.int .i64 7,.agg [.int .i64 3,.int .i64 2])]
theorem zoo(H:List AO):F zii [] H=some (.ret (.fmap zsj),H):=by
 rw[zzp];simp only[↓reduceIte,go_sem,zmf,zgn,zsj]
def ye7(k:Int):Int:=if k=5\/k=6 then 1 else if k=7 then 2 else -1
theorem zk5:zmf .i64 zsj=true:=rfl
theorem znu(k:Int)(h:1<=k/\k<=7):zgn k zsj=some (some (.agg [.int .i64 (zfs k),.int .i64 (ye7 k)])):=by
 have:k=1\/k=2\/k=3\/k=4\/k=5\/k=6\/k=7:=by omega
 rcases this with rfl|rfl|rfl|rfl|rfl|rfl|rfl <;> rfl
theorem z4q(k:Int)(h:¬ (1<=k/\k<=7)):zgn k zsj=some none:=by
 simp only[zgn,zsj]
 repeat' split
 all_goals first|omega|rfl
theorem z5b(k:Int)(h:¬ (1<=k/\k<=7)):zfs k = -1:=by
 unfold zfs;grind
theorem z5a{k:Int}(h:0<=zfs k):1<=k/\k<=7:=by
 unfold zfs at h;grind
theorem z3z(k i:Int)(hi:0<=i):(if ye7 k=i then (1:Int) else 0)=binds k i:=by
 unfold ye7 binds;grind
theorem yi0(k n:Int)(ls:List Lv)(ks:List Te)(i:Int)(hk:1<=k/\k<=7)(hi:0<=i)(H:List AO):F zik [.agg [.int .i64 k,.int .i64 n,.sl (Lv.css ls),.sl (Te.css ks)],.int .i64 i] H=some (.ret (.int .i64 (binds k i)),H):=by
 rw[z2u,<- z3z k i hi];simp only[↓reduceIte,go_sem,zoo,zk5,znu k hk]
 split <;> simp_all
theorem z3y(k n:Int)(ls:List Lv)(ks:List Te)(i:Int)(hk:0<=zfs k)(hi:0<=i)(H:List AO):F zik [.agg [.int .i64 k,.int .i64 n,.sl (Lv.css ls),.sl (Te.css ks)],.int .i64 i] H=some (.ret (.int .i64 (binds k i)),H) :=
 yi0 k n ls ks i (z5a hk) hi H
theorem yb6(v p m k n:Int)(ls:List Lv)(ks:List Te)(H:List AO):F zfn [.agg [.int .i64 v,.int .i64 p,.int .i64 m],.agg [.int .i64 k,.int .i64 n,.sl (Lv.css ls),.sl (Te.css ks)]] H=some (.ret (.bool (zl1 k n ls v)),H):=by
 rw[zs4];simp only[↓reduceIte,go_sem,zl1]
 repeat' split
 all_goals (simp_all;try omega)
theorem z8p(p m:Int)(t:Te):t.ok->∀(v d:Int),0<=d/\d<=1000->0<=v/\v+d<=1000000->∀(H:List AO),F zel [.agg [.int .i64 v,.int .i64 p,.int .i64 m],.agg t.cs,.int .i64 d] H=some (.ret (.bool (rightT p m t v d)),H):=by
 induction t using Te.ind with
 |h k n ls ks ih=>
 intro hl v d hd hv H;have hlen:=hl.len;have hc:F zak [.sl (Lv.css ls),.fn (.func zek) [] [.ptr H.length 0]] (H++[.box [.int .i64 v,.int .i64 p,.int .i64 m]])=some (.ret (.bool (ls.any fun x=>!zax x p m)),H++[.box [.int .i64 v,.int .i64 p,.int .i64 m]]):=by
  refine z00 ls hl.len2 _ _ _ fun x hx=>?_
  simp only[↓reduceIte,go_sem,zqu,zgq x (hl.all2 x hx)]
 rw[<- List.not_all_eq_any_not]at hc;have loop:0<=zfs k->¬ d<1->∀(suf pre:List Te),ks=pre++suf ->
   ze2 H (H++[.box [.int .i64 v,.int .i64 p,.int .i64 m]]) (.int .i64 d) (.ptr H.length 0) (.sl (Te.css ks)) (.int .i64 ks.length) (.int .i64 pre.length) [.int .i64 k,.int .i64 n,.sl (Lv.css ls),.sl (Te.css ks)]=some (.ret (.bool (rightTs p m k suf pre.length v (d - 1))),H):=by
  intro hk0 hd1 suf
  induction suf with
  |nil=>
   intro pre e;subst e;rw[ze2,zab];simp only[↓reduceIte,go_sem,rightTs]
  |cons x suf ih2=>
   intro pre e;subst e;simp at hlen;have:=ih2 (pre++[x]) (by simp)
   simp only[zaf]at this;have hb:=zlt k pre.length;rw[ze2,zab,rightTs];simp only[↓reduceIte,go_sem,z3y k n ls _ pre.length hk0 (by omega),zam (n:=d - 1) (by omega) (by omega),zam (n:=v+binds k pre.length) (by omega) (by omega),ih x (by simp) (hl.all x (by simp)) (v+binds k pre.length) (d - 1) (by omega) (by omega),zac (n:=pre.length) (by omega),this]
   cases rightT p m x (v+binds k pre.length) (d - 1) <;> simp
 have:=fun h0 h1=>loop h0 h1 ks [] rfl
 simp only[List.length_nil,Int.natCast_zero]at this;rw[zs3,rightT];by_cases hk:1<=k/\k<=7
 ·by_cases hd0:d=0
  ·subst hd0
   simp only[↓reduceIte,go_sem,Te.cs,zoo,zk5,znu k hk,show (0:Int)<1 from by decide]
  ·have hd1:¬ d<1:=by omega
   by_cases hkl:(ks.length:Int)=zfs k
   ·simp only[↓reduceIte,go_sem,Te.cs,zoo,zk5,znu k hk,hd0,hd1,hkl,yb6,hc]
    rw[<- hkl,this (by omega) hd1]
    cases zl1 k n ls v <;> cases (ls.all fun x=>zax x p m) <;> simp
   ·simp only[↓reduceIte,go_sem,Te.cs,zoo,zk5,znu k hk,hd0,hd1,hkl]
    simp[hkl]
 ·simp only[↓reduceIte,go_sem,Te.cs,zoo,zk5,z4q k hk]
  have:¬ (ks.length:Int)=zfs k:=by rw[z5b k hk];omega
  simp[this]
theorem zi0(t:Te)(hl:t.ok)(v p m:Int)(hv:0<=v/\v<=1000)(H:List AO):F zcw [.agg [.int .i64 v,.int .i64 p,.int .i64 m],.agg t.cs] H=some (.ret (.bool (decide (parts t 601<=600) && rightT p m t v 30)),H):=by
 rw[zt3];simp only[↓reduceIte,go_sem,ybw t hl 601 (by omega),z8p p m t hl v 30 (by omega) (by omega)]
 grind
theorem zqm(H:List AO):F zlz [] H=some (.ret (.agg [.int .i64 1000,.int .i64 5,.int .i64 10]),H):=by
 rw[z9c];simp only[↓reduceIte,go_sem]
theorem zfd(t:Te):(decide (parts t 601<=600) && rightT 5 10 t 1000 30)=zcc t:=by simp[zcc,zc6]
theorem zkx(t:Te)(hl:t.ok)(v p m:Int)(H:List AO):F zg8 [.agg t.cs,.int .i64 v,.int .i64 p,.int .i64 m] H=some (.ret (.bool (zc6 t v p m)),H):=by
 rw[z2v,zc6];by_cases h1:v<0
 ·simp only[↓reduceIte,go_sem,h1]
  simp;omega
 by_cases h2:1000<v
 ·simp only[↓reduceIte,go_sem,h1,h2]
  simp;omega
 simp only[↓reduceIte,go_sem,h1,h2,zi0 t hl v p m (by omega)]
 have h3:0<=v:=by omega
 have h4:v<=1000:=by omega
 simp only[h3,h4,decide_true,Bool.true_and];by_cases h5:p<0
 ·simp[h5];omega
 by_cases h6:5<p
 ·simp[h5,h6];omega
 by_cases h7:m<0
 ·simp[h5,h6,h7];omega
 by_cases h8:10<m
 ·simp[h5,h6,h7,h8];omega
 simp[h5,h6,h7,h8];simp[show 0<=p by omega,show p<=5 by omega,show 0<=m by omega,show m<=10 by omega]
mutual
def turnT(g:Int->Int->Te):Te->Int->Te
 |.mk k n ls ks,f=>if k=1 then g n f else .mk k n ls (turnTs g k ks 0 f)
def turnTs(g:Int->Int->Te)(k:Int):List Te->Int->Int->List Te
 |[],_,_=>[]
 |x::r,i,f=>turnT g x (f+binds k i)::turnTs g k r (i+1) f
end
def Good(fv:AV)(g:Int->Int->Te)(B:Int)(H:List AO):Prop:=∀(X:List AO) (n f:Int),0<=n/\n<=B->0<=f/\f<=B->cfl T fv [.int .i64 n,.int .i64 f] (H++X)=some (.ret (.agg (g n f).cs),H++X)
theorem Good.ext{fv:AV}{g:Int->Int->Te}{B:Int}{H:List AO}(h:Good fv g B H)(Y:List AO):Good fv g B (H++Y):=fun X n f hn hf=>by rw[List.append_assoc];exact h (Y++X) n f hn hf
theorem ya3(p m:Int)(fv:AV)(hfv:fv.one=true)(g:Int->Int->Te)(B:Int)(t:Te):t.ok->∀(v d f:Int),rightT p m t v d=true->d<=1000->0<=v/\v+d<=B+1->0<=f/\f+d<=B+1->B<=1000000->∀(H:List AO),Good fv g B H ->
  F zk0 [.agg t.cs,.int .i64 f,fv] H=some (.ret (.agg (turnT g t f).cs),H):=by
 induction t using Te.ind with
 |h k n ls ks ih=>
 intro hl v d f hr hd hv hf hB H hg;obtain⟨hd1,hk,hls,hn,hks⟩:=zf2 hr;have hk3:=zo0 k;have loop:∀(suf pre done:List Te),ks=pre++suf->done.length=pre.length ->
   zke H (H++[.lst 0 3 [],.lst 0 4 [],.lst 0 3 [],.lst done.length 4 (Te.css done),.lst 0 3 [],.lst 0 4 []]) (.int .i64 f) fv (.sl (Te.css ks)) (.int .i64 ks.length) (.int .i64 pre.length) [.int .i64 k,.int .i64 n,.sl (Lv.css ls),.sl (Te.css ks)]
    [.int .i64 0,.int .i64 0,.ol H.length 0,.ol (H.length+1) 0] [.int .i64 k,.int .i64 n,.sl (Lv.css ls),.ol (H.length+3) done.length]=some (.ret (.agg (Te.mk k n ls (done++turnTs g k suf pre.length f)).cs),H):=by
  intro suf
  induction suf with
  |nil=>
   intro pre done e he;subst e;rw[zke,zab];simp only[↓reduceIte,go_sem,turnTs,Te.cs]
  |cons x suf ih2=>
   intro pre done e he;subst e;simp at hk;have:=ih2 (pre++[x]) (done++[turnT g x (f+binds k pre.length)]) (by simp) (by simp[he])
   simp only[zaf]at this;simp only[zf5,List.append_assoc,List.cons_append,List.nil_append]at this;have hdl:done.length<=1073741823:=by omega
   have hbr:=zlt k pre.length;rw[zke,zab,turnTs];simp only[↓reduceIte,go_sem,z3y k n ls _ pre.length (by omega) (by omega),zam (n:=f+binds k pre.length) (by omega) (by omega),ih x (by simp) (hl.all x (by simp)) (v+binds k pre.length) (d - 1) (f+binds k pre.length) (zk6 hks) (by omega) (by omega) (by omega) hB _ (hg.ext _),zac (n:=pre.length) (by omega),hdl,this]
 have l0:=loop ks [] [] rfl rfl;simp only[List.length_nil,Int.natCast_zero,List.nil_append,Te.css,Te.cs]at l0;rw[z5n,turnT];by_cases h1:k=1
 ·subst h1
  obtain⟨h2,h3,h4⟩:=zox hn;have:=hg [.lst 0 3 [],.lst 0 4 []] n f (by omega) (by omega)
  simp only[↓reduceIte,go_sem,Te.cs,this]
 ·simp only[↓reduceIte,go_sem,Te.cs,h1,l0]
theorem zqq(n:Int)(H:List AO):F zf1 [.int .i64 n] H=some (.ret (.agg (Te.mk 1 n [] []).cs),H):=by
 rw[zvy];simp only[↓reduceIte,go_sem,Te.cs,Lv.css,Te.css]
def z84(f b:Int)(n d:Int):Te:=.mk 1 (if f+d<=n then n+b else n) [] []
mutual
theorem turn_lift(p m f b:Int):∀(t:Te) (v d δ:Int),rightT p m t v d=true->turnT (z84 f b) t δ=liftT b t (f+δ)
 |.mk k n ls ks,v,d,δ,h=>by
  obtain⟨hd1,hk,hls,hn,hks⟩:=zf2 h;rw[turnT,liftT];by_cases h1:k=1
  ·subst h1
   obtain⟨h2,h3,h4⟩:=zox hn;have:ks=[]:=List.eq_nil_of_length_eq_zero (by simp[zfs]at hk;simp[hk])
   subst this;subst h4;simp[z84,liftTs]
  ·rw[if_neg h1,turn_lifts p m f b k ks 0 v (d - 1) δ hks]
   simp[h1]
theorem turn_lifts(p m f b k:Int):∀(ks:List Te) (i v d δ:Int),rightTs p m k ks i v d=true->turnTs (z84 f b) k ks i δ=liftTs b k ks i (f+δ)
 |[],i,v,d,δ,h=>rfl
 |x::r,i,v,d,δ,h=>by
  rw[rightTs,Bool.and_eq_true]at h;rw[turnTs,liftTs,turn_lift p m f b x _ _ _ h.1,turn_lifts p m f b k r _ _ _ _ h.2,Int.add_assoc]
end
theorem z7g(p m:Int)(t:Te)(hl:t.ok)(v d f b:Int)(hr:rightT p m t v d=true)(hd:d<=1000)(hv:0<=v/\v+d<=100000)(hf:0<=f/\f<=100000)(hb:0<=b/\b<=100000)(H:List AO):
  F zmq [.agg t.cs,.int .i64 f,.int .i64 b] H=some (.ret (.agg (liftT b t f).cs),H):=by
 have hg:Good (.fn (.func zij) [] [.ptr H.length 0,.ptr (H.length+1) 0]) (z84 f b) 100000 (H++[.box [.int .i64 f],.box [.int .i64 b]]):=by
  intro X n δ hn hδ;simp only[zgo,List.cons_append,List.nil_append,zzq,List.append_assoc];have e:((H++AO.box [.int .i64 f]::AO.box [.int .i64 b]::X)[H.length+1]?)=some (.box [.int .i64 b]):=by rw[z0y];rfl
  have e0:((H++AO.box [.int .i64 f]::AO.box [.int .i64 b]::X)[H.length]?)=some (.box [.int .i64 f]):=by rw[z0z];rfl
  generalize H++AO.box [.int .i64 f]::AO.box [.int .i64 b]::X=H' at *;unfold z84;simp only[↓reduceIte,go_sem,e,e0,zqq,zam (n:=f+δ) (by omega) (by omega),zam (n:=n+b) (by omega) (by omega)]
  split <;> simp_all
 have:=ya3 p m (.fn (.func zij) [] [.ptr H.length 0,.ptr (H.length+1) 0]) rfl (z84 f b) 100000 t hl v d 0 hr hd (by omega) (by omega) (by omega) _ hg
 rw[turn_lift p m f b t v d 0 hr,Int.add_zero]at this;rw[z5p];simp only[↓reduceIte,go_sem,this]
def z8v(u:Te)(n d:Int):Te:=if n=d then liftT d u 0 else if d<n then .mk 1 (n - 1) [] [] else .mk 1 n [] []
mutual
theorem turn_open(p m:Int)(u:Te):∀(t:Te) (v d δ:Int),rightT p m t v d=true->turnT (z8v u) t δ=openT u t δ
 |.mk k n ls ks,v,d,δ,h=>by
  obtain⟨hd1,hk,hls,hn,hks⟩:=zf2 h;rw[turnT,openT];by_cases h1:k=1
  ·subst h1
   obtain⟨h2,h3,h4⟩:=zox hn;have:ks=[]:=List.eq_nil_of_length_eq_zero (by simp[zfs]at hk;simp[hk])
   subst this;subst h4;simp[z8v,openTs];by_cases h5:n=δ
   ·simp[h5]
   ·simp[h5]
    split <;> rfl
  ·rw[if_neg h1,turn_opens p m u k ks 0 v (d - 1) δ hks]
   simp[h1]
theorem turn_opens(p m:Int)(u:Te)(k:Int):∀(ks:List Te) (i v d δ:Int),rightTs p m k ks i v d=true->turnTs (z8v u) k ks i δ=openTs u k ks i δ
 |[],i,v,d,δ,h=>rfl
 |x::r,i,v,d,δ,h=>by
  rw[rightTs,Bool.and_eq_true]at h;rw[turnTs,openTs,turn_open p m u x _ _ _ h.1,turn_opens p m u k r _ _ _ _ h.2]
end
theorem ya4(t:Te)(hl:t.ok)(H:List AO):F zmp [.agg t.cs] H=some (.ret (zjh (zuw t)),H):=by
 rw[z5o,zuw];simp only[↓reduceIte,go_sem,zqm,zi0 t hl 1000 5 10 (by omega),zfd,zjh,zeroT,Te.cs,Lv.css,Te.css]
 cases zcc t <;> simp[Te.cs,Lv.css,Te.css]
theorem yju(t:Te)(hl:t.ok)(f b:Int)(H:List AO):F zok [.agg t.cs,.int .i64 f,.int .i64 b] H=some (.ret (zjh (zhz t f b)),H):=by
 rw[z5s,zhz];by_cases h:zcc t=false\/f<0\/1000<f\/b<0\/1000<b
 ·simp only[h,↓reduceIte]
  by_cases h1:zcc t=true
  ·simp[h1]at h
   by_cases h2:f<0
   ·simp only[↓reduceIte,go_sem,zqm,zi0 t hl 1000 5 10 (by omega),zfd,h1,h2,zjh,zeroT,Te.cs,Lv.css,Te.css]
   by_cases h3:1000<f
   ·simp only[↓reduceIte,go_sem,zqm,zi0 t hl 1000 5 10 (by omega),zfd,h1,h2,h3,zjh,zeroT,Te.cs,Lv.css,Te.css]
   by_cases h4:b<0
   ·simp only[↓reduceIte,go_sem,zqm,zi0 t hl 1000 5 10 (by omega),zfd,h1,h2,h3,h4,zjh,zeroT,Te.cs,Lv.css,Te.css]
   have h5:1000<b:=by omega
   simp only[↓reduceIte,go_sem,zqm,zi0 t hl 1000 5 10 (by omega),zfd,h1,h2,h3,h4,h5,zjh,zeroT,Te.cs,Lv.css,Te.css]
  ·simp only[Bool.not_eq_true]at h1
   simp only[↓reduceIte,go_sem,zqm,zi0 t hl 1000 5 10 (by omega),zfd,h1,zjh,zeroT,Te.cs,Lv.css,Te.css]
 ·simp only[h,↓reduceIte]
  simp at h;have h2:¬ f<0:=by omega
  have h3:¬ 1000<f:=by omega
  have h4:¬ b<0:=by omega
  have h5:¬ 1000<b:=by omega
  have hL:=z7g 5 10 t hl 1000 30 f b (zfo h.1) (by omega) (by omega) (by omega) (by omega)
  simp only[↓reduceIte,go_sem,zqm,zi0 t hl 1000 5 10 (by omega),zfd,h.1,h2,h3,h4,h5,hL,ya4 _ (zy5 b t hl f)]
theorem z8e(t u:Te)(hl:t.ok)(hu:u.ok)(H:List AO):F zmr [.agg t.cs,.agg u.cs] H=some (.ret (zjh (zlw t u)),H):=by
 rw[z5r,zlw];by_cases h:zcc t=false\/zcc u=false
 ·simp only[h,↓reduceIte]
  cases h1:zcc t with
  |true=>
   have h2:zcc u=false:=by simpa [h1] using h
   simp only[↓reduceIte,go_sem,zqm,zi0 t hl 1000 5 10 (by omega),zi0 u hu 1000 5 10 (by omega),zfd,h1,h2,zjh,zeroT,Te.cs,Lv.css,Te.css]
  |false=>simp only[↓reduceIte,go_sem,zqm,zi0 t hl 1000 5 10 (by omega),zfd,h1,zjh,zeroT,Te.cs,Lv.css,Te.css]
 ·simp only[h,↓reduceIte]
  simp at h;have hsu:=zfo h.2;have hg:Good (.fn (.func zil) [] [.ptr H.length 0]) (z8v u) 2000 (H++[.box u.cs]):=by
   intro X n δ hn hδ;simp only[zgo,List.cons_append,List.nil_append,zzr,List.append_assoc];have e0:((H++AO.box u.cs::X)[H.length]?)=some (.box u.cs):=by rw[z0z];rfl
   generalize H++AO.box u.cs::X=H' at *;have hL:=fun f hf=>z7g 5 10 u hu 1000 30 0 f hsu (by omega) (by omega) (by omega) hf
   unfold z8v;by_cases h5:n=δ
   ·subst h5
    simp only[↓reduceIte,go_sem,e0,hL n (by omega)]
   ·by_cases h6:δ<n
    ·simp only[↓reduceIte,go_sem,e0,h5,h6,zam (n:=n - 1) (by omega) (by omega),zqq]
    ·simp only[↓reduceIte,go_sem,e0,h5,h6,zqq]
  have hT:=ya3 5 10 (.fn (.func zil) [] [.ptr H.length 0]) rfl (z8v u) 2000 t hl 1000 30 0 (zfo h.1) (by omega) (by omega) (by omega) (by omega) _ hg
  rw[turn_open 5 10 u t 1000 30 0 (zfo h.1)]at hT;simp only[↓reduceIte,go_sem,zqm,zi0 t hl 1000 5 10 (by omega),zi0 u hu 1000 5 10 (by omega),zfd,h.1,h.2,hT,ya4 _ (z41 u hu t hl 0)]
theorem eqT_ok(a b:List Te)(hlen:a.length<=140737488355328)(f:AV)(H:List AO)(hf:∀x∈a,∀y,cfl T f [.agg x.cs,.agg y.cs] H=some (.ret (.bool (teEq x y)),H)):
  F zc2 [.sl (Te.css a),.sl (Te.css b),f] H=some (.ret (.bool (tesEq a b)),H):=by
 have loop:a.length=b.length->∀(suf pre suf' pre':List Te),a=pre++suf->b=pre' ++ suf' -> pre.length=pre'.length ->
   zc0 H H (.sl (Te.css b)) f (.sl (Te.css a)) (.int .i64 a.length) (.int .i64 pre.length)=some (.ret (.bool (tesEq suf suf')),H):=by
  intro hll suf
  induction suf with
  |nil=>
   intro pre suf' pre' e e' he;subst e;subst e';have:suf' = []:=List.eq_nil_of_length_eq_zero (by simp at hll;omega)
   subst this;rw[zc0,zab];simp only[↓reduceIte,go_sem,tesEq]
  |cons x suf ih2=>
   intro pre suf' pre' e e' he;subst e;subst e';simp at hlen
   cases suf' with
   |nil=>simp at hll;omega
   |cons y suf'=>
   have hy:(pre' ++ y::suf')[pre.length]?=some y:=by rw[he];simp
   have:=ih2 (pre++[x]) suf' (pre' ++ [y]) (by simp) (by simp) (by simp[he])
   simp only[zaf]at this;rw[zc0,zab,tesEq];simp only[↓reduceIte,go_sem,hy,hf x (by simp) y,zac (n:=pre.length) (by omega),this]
   cases teEq x y <;> simp
 rw[zn3];by_cases h3:a.length=b.length
 ·have:=loop h3 a [] b [] rfl rfl rfl
  simp only[List.length_nil,Int.natCast_zero]at this;have h3':(a.length:Int)=b.length:=by omega
  simp only[↓reduceIte,go_sem,h3',not_true_eq_false];rw[<- h3',this]
 ·have h3':¬ (a.length:Int)=(b.length:Int):=by omega
  simp only[↓reduceIte,go_sem,h3',zuy h3]
theorem ybe(a:Te):a.ok->∀(b:Te) (H:List AO),F zk1 [.agg a.cs,.agg b.cs] H=some (.ret (.bool (teEq a b)),H):=by
 induction a using Te.ind with
 |h k n ls ks ih=>
 intro hl b H;obtain⟨k',n',ls',ks'⟩:=b;have h1:=yk5 ls ls' hl.len2 (.fn (.func zhd) [] []) H (fun x hx y=>ygz x (hl.all2 x hx) y H)
 have h2:=eqT_ok ks ks' hl.len (.fn (.func zk1) [] []) H (fun x hx y=>ih x hx (hl.all x hx) y H)
 rw[z5q,teEq];simp only[↓reduceIte,go_sem,Te.cs,h1,h2]
 grind
end Go.Ab
end
section
set_option linter.unusedVariables false
set_option linter.unusedSimpArgs false
set_option maxRecDepth 100000
set_option maxHeartbeats 2000000
namespace Go.Ab
open Go.RowKit Go.Proofs
def mxE(a b:Int):Int:=if b > a then b else a
mutual
def subT(ps ms:List Lv):Te->Te
 |.mk k n ls ks=>.mk k n (ls.map fun l=>(zse l ps ms).1) (subTs ps ms ks)
def subTs(ps ms:List Lv):List Te->List Te
 |[]=>[]
 |x::r=>subT ps ms x::subTs ps ms r
end
mutual
def errT(ps ms:List Lv):Te->Int->Int
 |.mk _ _ ls ks,e=>errTs ps ms ks (errLs ps ms ls e)
def errTs(ps ms:List Lv):List Te->Int->Int
 |[],e=>e
 |x::r,e=>errTs ps ms r (errT ps ms x e)
def errLs(ps ms:List Lv):List Lv->Int->Int
 |[],e=>e
 |l::r,e=>errLs ps ms r (mxE e (zse l ps ms).2)
end
mutual
def okTm(ps ms:List Lv):Te->Bool
 |.mk _ _ ls ks=>(ls.all fun l=>decide ((zse l ps ms).2=0)) && okTms ps ms ks
def okTms(ps ms:List Lv):List Te->Bool
 |[]=>true
 |x::r=>okTm ps ms x && okTms ps ms r
end
theorem yjn(l:Lv)(ps ms:List Lv):(zse l ps ms).2=0\/(zse l ps ms).2=1\/(zse l ps ms).2=2:=by
 unfold zse;split
 ·simp
 ·split <;> simp
theorem zx6(ps ms:List Lv):∀(ls:List Lv) (e:Int),0<=e->(0<=errLs ps ms ls e/\(errLs ps ms ls e=0 ↔ e=0/\(ls.all fun l=>decide ((zse l ps ms).2=0))=true))
 |[],e,h=>by simp[errLs,h]
 |l::r,e,h=>by
  have hs:=yjn l ps ms;have hm:0<=mxE e (zse l ps ms).2:=by unfold mxE;split <;> omega
  have hz:mxE e (zse l ps ms).2=0 ↔ e=0/\(zse l ps ms).2=0:=by unfold mxE;split <;> omega
  have:=zx6 ps ms r _ hm;rw[errLs];refine⟨this.1,?_⟩;rw[this.2,hz];simp[and_assoc]
mutual
theorem errT_zero(ps ms:List Lv):∀(t:Te) (e:Int),0<=e->(0<=errT ps ms t e/\(errT ps ms t e=0 ↔ e=0/\okTm ps ms t=true))
 |.mk k n ls ks,e,h=>by
  have h1:=zx6 ps ms ls e h;have h2:=errTs_zero ps ms ks _ h1.1;rw[errT,okTm];refine⟨h2.1,?_⟩;rw[h2.2,h1.2,Bool.and_eq_true,and_assoc]
theorem errTs_zero(ps ms:List Lv):∀(ks:List Te) (e:Int),0<=e->(0<=errTs ps ms ks e/\(errTs ps ms ks e=0 ↔ e=0/\okTms ps ms ks=true))
 |[],e,h=>by simp[errTs,okTms,h]
 |x::r,e,h=>by
  have h1:=errT_zero ps ms x e h;have h2:=errTs_zero ps ms r _ h1.1;rw[errTs,okTms];refine⟨h2.1,?_⟩;rw[h2.2,h1.2,Bool.and_eq_true,and_assoc]
end
theorem yjm{l:Lv}{ps ms:List Lv}(hl:l.ok)(hp:zso ps)(hm:zso ms):(zse l ps ms).1.ok:=by
 have hz:zeroL.ok:=.mk (by simp) (by intro x hx;cases hx)
 unfold zse
 split
 ·exact hz
 ·split
  ·exact z4n hp hm l hl
  ·exact hz
theorem zt8(ps ms:List Lv):∀ks:List Te,subTs ps ms ks=ks.map (subT ps ms)
 |[]=>rfl
 |x::r=>by rw[subTs,zt8 ps ms r];rfl
theorem subT_ok{ps ms:List Lv}(hp:zso ps)(hm:zso ms)(t:Te):t.ok->(subT ps ms t).ok:=by
 induction t using Te.ind with
 |h k n ls ks ih=>
 intro hl;rw[subT,zt8];refine .mk (by simpa using hl.len) (by simpa using hl.len2) (fun x hx=>?_) (fun x hx=>?_)
 ·obtain⟨y,hy,rfl⟩:=List.mem_map.1 hx
  exact yjm (hl.all2 y hy) hp hm
 ·obtain⟨y,hy,rfl⟩:=List.mem_map.1 hx
  exact ih y hy (hl.all y hy)
def zpk(t:Te)(ps ms:List Lv):Te×Int :=
 if zcc t=false\/5<ps.length\/10<ms.length\/zbz ps=false\/zbz ms=false then (zeroT,1)
 else if okTm ps ms t=true then (subT ps ms t,0) else (zeroT,2)
theorem yjl{t:Te}{ps ms:List Lv}(ht:t.ok)(hp:zso ps)(hm:zso ms):(zpk t ps ms).1.ok:=by
 have hz:zeroT.ok:=.mk (by simp) (by simp) (by intro x hx;cases hx) (by intro x hx;cases hx)
 unfold zpk
 split
 ·exact hz
 ·split
  ·exact subT_ok hp hm t ht
  ·exact hz
open Classical in
theorem zp0{A X J:List AO}{o o':AO}{r:Res}(ho:LtO (A.length+(X.length+1)) o'):ze6 (A++(o::X)) r (A++(o' :: (X++J)))=if LtR (A++(o::X)).length r then some (r,A++(o' :: X)) else none:=by
 have e:A++(o' :: (X++J))=(A++(o::X)).set A.length o' ++ J:=by simp
 have hl:(A++(o::X)).length=A.length+(X.length+1):=by simp
 rw[e,z2o (by rw[hl];exact ho)]
 simp
open Classical in
theorem zff{A X:List AO}{o o':AO}{r:Res}(ho:LtO (A.length+(X.length+1)) o'):ze6 (A++(o::X)) r (A++(o' :: X))=if LtR (A++(o::X)).length r then some (r,A++(o' :: X)) else none:=by
 have:=zp0 (A:=A) (X:=X) (J:=[]) (o:=o) (o':=o') (r:=r) ho
 rwa [List.append_nil]at this
theorem putB_lt(n:Nat)(ps ms:List Lv)(e:Int):LtO n (.box [.sl (Lv.css ps),.sl (Lv.css ms),.int .i64 e]):=by
 intro a ha;simp at ha;rcases ha with rfl|rfl|rfl
 ·exact .sl fun a ha=>of_eq_true (z7e n ps) a ha
 ·exact .sl fun a ha=>of_eq_true (z7e n ms) a ha
 ·exact .int _ _
theorem ybu(ps ms:List Lv)(hp:zso ps)(hm:zso ms)(hpl:ps.length<=140737488355328)(hml:ms.length<=140737488355328)(p m:Int)(t:Te):t.ok->∀(v d:Int),rightT p m t v d=true->∀(A X:List AO) (e:Int),
  F zdy [.ptr A.length 0,.agg t.cs] (A++(.box [.sl (Lv.css ps),.sl (Lv.css ms),.int .i64 e]::X))=some (.ret (.agg (subT ps ms t).cs),A++(.box [.sl (Lv.css ps),.sl (Lv.css ms),.int .i64 (errT ps ms t e)]::X)):=by
 induction t using Te.ind with
 |h k n ls ks ih=>
 intro hl v d hr A X e;obtain⟨hd1,hk,hls,hn,hks⟩:=zf2 hr;have hk3:=zo0 k;have hl5:ls.length<=5:=by
  unfold zl1 at hn
  split at hn
  ·simp at hn;simp[hn.2]
  ·split at hn
   ·simp at hn;omega
   ·split at hn
    ·simp at hn;exact hn.2
    ·simp at hn;simp[hn.2]
 have hf:=fun (o o':AO) r J (ho:LtO (A.length+(X.length+1)) o')=>zp0 (A:=A) (X:=X) (J:=J) (o:=o) (o':=o') (r:=r) ho
 have loop1:∀(suf pre done:List Te) (e':Int),ks=pre++suf->done.length=pre.length ->
   zeh (A++(.box [.sl (Lv.css ps),.sl (Lv.css ms),.int .i64 e]::X)) (A++(.box [.sl (Lv.css ps),.sl (Lv.css ms),.int .i64 e']::(X++[.lst 0 3 [],.lst 0 4 [],.lst ls.length 3 (Lv.css (ls.map fun l=>(zse l ps ms).1)),.lst done.length 4 (Te.css done),.lst 0 3 [],.lst 0 4 []])))
    (.ptr A.length 0) (.sl (Te.css ks)) (.int .i64 ks.length) (.int .i64 pre.length) [.int .i64 0,.int .i64 0,.ol (A.length+(X.length+1)) 0,.ol (A.length+(X.length+2)) 0] [.int .i64 k,.int .i64 n,.ol (A.length+(X.length+3)) ls.length,.ol (A.length+(X.length+4)) done.length] =
   some (.ret (.agg (Te.mk k n (ls.map fun l=>(zse l ps ms).1) (done++subTs ps ms suf)).cs),A++(.box [.sl (Lv.css ps),.sl (Lv.css ms),.int .i64 (errTs ps ms suf e')]::X)):=by
  intro suf
  induction suf with
  |nil=>
   intro pre done e' eq he;subst eq;rw[zeh,zab];simp only[↓reduceIte,go_sem,subTs,Te.cs,errTs,hf,putB_lt,Nat.add_le_add_iff_left,Nat.reduceLeDiff]
  |cons x suf ih2=>
   intro pre done e' eq he;subst eq;simp at hk;have:=ih2 (pre++[x]) (done++[subT ps ms x]) (errT ps ms x e') (by simp) (by simp[he])
   simp only[zaf]at this;simp only[zf5,List.append_assoc,List.cons_append,List.nil_append]at this;have hdl:done.length<=1073741823:=by omega
   rw[zeh,zab,subTs,errTs];simp only[↓reduceIte,go_sem,ih x (by simp) (hl.all x (by simp)) _ _ (zk6 hks),zac (n:=pre.length) (by omega),hdl,this]
 have loop0:∀(suf pre:List Lv) (e':Int),ls=pre++suf ->
   zei (A++(.box [.sl (Lv.css ps),.sl (Lv.css ms),.int .i64 e]::X)) (A++(.box [.sl (Lv.css ps),.sl (Lv.css ms),.int .i64 e']::(X++[.lst 0 3 [],.lst 0 4 [],.lst pre.length 3 (Lv.css (pre.map fun l=>(zse l ps ms).1)),.lst 0 4 [],.lst 0 3 [],.lst 0 4 []])))
    (.ptr A.length 0) (.sl (Lv.css ls)) (.int .i64 ls.length) (.int .i64 pre.length) [.int .i64 k,.int .i64 n,.sl (Lv.css ls),.sl (Te.css ks)] [.int .i64 0,.int .i64 0,.ol (A.length+(X.length+1)) 0,.ol (A.length+(X.length+2)) 0] [.int .i64 k,.int .i64 n,.ol (A.length+(X.length+3)) pre.length,.ol (A.length+(X.length+4)) 0] =
   some (.ret (.agg (Te.mk k n (ls.map fun l=>(zse l ps ms).1) (subTs ps ms ks)).cs),A++(.box [.sl (Lv.css ps),.sl (Lv.css ms),.int .i64 (errTs ps ms ks (errLs ps ms suf e'))]::X)):=by
  intro suf
  induction suf with
  |nil=>
   intro pre e' eq;subst eq;rw[List.append_nil]at *;have h1:=loop1 ks [] [] e' rfl rfl;simp only[List.length_nil,Int.natCast_zero,List.nil_append,Te.css]at h1;rw[zei,zab];simp only[↓reduceIte,go_sem,errLs,h1]
  |cons l suf ih2=>
   intro pre e' eq;subst eq;simp at hl5;have:=ih2 (pre++[l]) (mxE e' (zse l ps ms).2) (by simp)
   simp only[zaf]at this;simp only[zf5,List.map_append,List.map_cons,List.map_nil]at this;have hs:=fun H=>Sub_ok l ps ms (hl.all2 l (by simp)) hp hm hpl hml H
   simp only[z4w]at hs;rw[zei,zab,errLs];simp only[↓reduceIte,go_sem,hs,zac (n:=pre.length) (by omega),zum,List.length_map,show pre.length+(0+1)<=1073741824 by omega]
   unfold mxE at this ⊢;rw[this];simp only[List.map_append,List.map_cons]
 have h0:=loop0 ls [] e rfl;simp only[List.length_nil,Int.natCast_zero,List.map_nil,Lv.css]at h0;rw[zrx,subT,errT];simp only[↓reduceIte,go_sem,Te.cs];exact h0
theorem ygj(l:Lv)(hl:l.ok)(H:List AO):F zpm [.agg l.cs] H=some (.ret (.bool (!zax l 5 10)),H):=by
 rw[z89];simp only[↓reduceIte,go_sem,zgq l hl]
theorem z4a(t:Te):zc6 t 1000 5 10=zcc t:=rfl
theorem TSub_ok(t:Te)(ps ms:List Lv)(ht:t.ok)(hp:zso ps)(hm:zso ms)(hpl:ps.length<=140737488355328)(hml:ms.length<=140737488355328)(H:List AO):
  F zq7 [.agg t.cs,.sl (Lv.css ps),.sl (Lv.css ms)] H=some (.ret (zjh (zpk t ps ms)),H):=by
 have h1:=fun H=>zkx t ht 1000 5 10 H
 simp only[z4a]at h1;rw[z9b,zpk];by_cases hr:zcc t=true
 ·by_cases a1:5<ps.length
  ·have a1':(5:Int)<ps.length:=by omega
   simp only[↓reduceIte,go_sem,h1,hr,a1,a1',zjh,zeroT,Te.cs,Lv.css,Te.css,Bool.true_eq_false,false_or,true_or]
  by_cases a2:10<ms.length
  ·have a1':¬ (5:Int)<ps.length:=by omega
   have a2':(10:Int)<ms.length:=by omega
   simp only[↓reduceIte,go_sem,h1,hr,a1,a1',a2,a2',zjh,zeroT,Te.cs,Lv.css,Te.css,Bool.true_eq_false,false_or,true_or]
  have a1':¬ (5:Int)<ps.length:=by omega
  have a2':¬ (10:Int)<ms.length:=by omega
  have hc:=z3r [ps,ms] (by simp) (by simp;omega) H
  simp only[sls,List.map_cons,List.map_nil,List.flatten_cons,List.flatten_nil,List.append_nil]at hc;have ha:=z00 (ps++ms) (by simp;omega) (.fn (.func zpm) [] []) (fun x=>!zax x 5 10) H (fun x hx=>by
   simp only[ye1];exact ygj x (by rcases List.mem_append.1 hx with h|h;exact hp x h;exact hm x h) _)
  rw[<- List.not_all_eq_any_not,List.all_append]at ha;rw[show (ps.all fun x=>zax x 5 10)=zbz ps from rfl,show (ms.all fun x=>zax x 5 10)=zbz ms from rfl]at ha
  by_cases hb:(zbz ps && zbz ms)=true
  ·have hb2:=hb
   rw[Bool.and_eq_true]at hb2;have hq:=ybu ps ms hp hm hpl hml 5 10 t ht 1000 30 (zfo hr) H [] 0;have hz:=errT_zero ps ms t 0 (by omega)
   simp only[hb]at ha;by_cases b3:okTm ps ms t=true
   ·have b4:errT ps ms t 0=0:=hz.2.2 ⟨rfl,b3⟩
    rw[b4]at hq;simp only[↓reduceIte,go_sem,h1,hr,a1,a1',a2,a2',hb2.1,hb2.2,hc,ha,hq,b3,zjh,zeroT,Te.cs,Lv.css,Te.css,Bool.true_eq_false,Bool.false_eq_true,or_self,true_or,false_or]
   ·have b4:¬ errT ps ms t 0=0:=fun h=>b3 (hz.2.1 h).2
    simp only[Bool.not_eq_true]at b3;simp only[↓reduceIte,go_sem,h1,hr,a1,a1',a2,a2',hb2.1,hb2.2,hc,ha,hq,b3,b4,zjh,zeroT,Te.cs,Lv.css,Te.css,Bool.true_eq_false,Bool.false_eq_true,or_self,true_or,false_or]
  ·have hb':zbz ps=false\/zbz ms=false:=by
    cases h1:zbz ps <;> cases h2:zbz ms <;> simp_all
   simp only[Bool.not_eq_true]at hb;simp only[hb]at ha;simp only[↓reduceIte,go_sem,h1,hr,a1,a1',a2,a2',hb',hc,ha,zjh,zeroT,Te.cs,Lv.css,Te.css,Bool.true_eq_false,or_self,true_or,or_true,false_or]
 ·simp only[Bool.not_eq_true]at hr
  simp only[↓reduceIte,go_sem,h1,hr,zjh,zeroT,Te.cs,Lv.css,Te.css,true_or]
theorem zxh(xs:List Lv)(hlen:xs.length<=140737488355328)(hx:zso xs)(H:List AO):F ziq [.sl (Lv.css xs)] H=some (.ret (.bool (zbz xs)),H):=by
 have loop:∀(suf pre:List Lv),xs=pre++suf->zh3 H H (.sl (Lv.css xs)) (.int .i64 pre.length)=some (.ret (.bool (zbz suf)),H):=by
  intro suf
  induction suf with
  |nil=>
   intro pre e;subst e;rw[zh3,zab];simp only[↓reduceIte,go_sem,zbz,List.all_nil]
  |cons x suf ih=>
   intro pre e;subst e;simp at hlen;have:=ih (pre++[x]) (by simp)
   simp only[zaf]at this;have hr:=zd0 x (hx x (by simp)) 5 10 H
   rw[zh3,zab];unfold zbz at *;rw[List.all_cons]
   cases h:zax x 5 10 <;> simp only[h]at hr <;> simp only[↓reduceIte,go_sem,hr,zac (n:=pre.length) (by omega),this,Bool.true_and,Bool.false_and]
 have:=loop xs [] rfl;simp only[List.length_nil,Int.natCast_zero]at this;rw[zzx];simp only[↓reduceIte,go_sem,this]
def yj7(ps ms:List Lv)(t:Te):AV:=.tup [.agg (if okTm ps ms t=true then subT ps ms t else zeroT).cs,.bool (okTm ps ms t)]
theorem ygp(ps ms:List Lv)(hp:zso ps)(hm:zso ms)(hpl:ps.length<=140737488355328)(hml:ms.length<=140737488355328)(p m:Int)(t:Te):t.ok->∀(v d:Int),rightT p m t v d=true->∀(H:List AO),
  F zmx [.agg t.cs,.sl (Lv.css ps),.sl (Lv.css ms)] H=some (.ret (yj7 ps ms t),H):=by
 induction t using Te.ind with
 |h k n ls ks ih=>
 intro hl v d hr H;obtain⟨hd1,hk,hls,hn,hks⟩:=zf2 hr;have hk3:=zo0 k;have hl5:ls.length<=5:=by
  unfold zl1 at hn
  split at hn
  ·simp at hn;simp[hn.2]
  ·split at hn
   ·simp at hn;omega
   ·split at hn
    ·simp at hn;exact hn.2
    ·simp at hn;simp[hn.2]
 have loop1:(ls.all fun l=>decide ((zse l ps ms).2=0))=true->∀(suf pre done:List Te),ks=pre++suf->done.length=pre.length->(okTms ps ms ks=true->done=subTs ps ms pre)->okTms ps ms ks=okTms ps ms suf ->
   zkf H (H++[.lst 0 3 [],.lst 0 4 [],.lst ls.length 3 (Lv.css (ls.map fun l=>(zse l ps ms).1)),.lst done.length 4 (Te.css done),.lst 0 3 [],.lst 0 4 []])
    (.sl (Lv.css ps)) (.sl (Lv.css ms)) (.int .i64 pre.length) [.int .i64 k,.int .i64 n,.sl (Lv.css ls),.sl (Te.css ks)] [.int .i64 0,.int .i64 0,.ol H.length 0,.ol (H.length+1) 0] [.int .i64 k,.int .i64 n,.ol (H.length+2) ls.length,.ol (H.length+3) done.length] =
   some (.ret (yj7 ps ms (.mk k n ls ks)),H):=by
  intro hls0 suf
  induction suf with
  |nil=>
   intro pre done eq he hdn hok;subst eq;rw[List.append_nil]at *;have h1:okTms ps ms pre=true:=hok;have h2:okTm ps ms (.mk k n ls pre)=true:=by rw[okTm,hls0,h1];rfl
   rw[zkf,zab];unfold yj7;rw[h2,if_pos rfl,subT,<- hdn h1];simp only[↓reduceIte,go_sem,Te.cs]
  |cons x suf ih2=>
   intro pre done eq he hdn hok;subst eq;simp at hk;have hx:=ih x (by simp) (hl.all x (by simp)) _ _ (zk6 hks)
   unfold yj7 at hx;have hdl:done.length<=1073741823:=by omega
   rw[zkf,zab];rw[okTms]at hok
   cases hxk:okTm ps ms x with
   |true=>
    rw[hxk,Bool.true_and]at hok;have:=ih2 (pre++[x]) (done++[subT ps ms x]) (by simp) (by simp[he]) (fun h=>by rw[hdn h];simp[zt8]) hok
    simp only[zaf]at this;simp only[zf5,List.append_assoc,List.cons_append,List.nil_append]at this;simp only[hxk]at hx;simp only[↓reduceIte,go_sem,hx,zac (n:=pre.length) (by omega),hdl,ya5,this]
   |false=>
    rw[hxk,Bool.false_and]at hok;simp only[hxk]at hx;have h2:okTm ps ms (.mk k n ls (pre++x::suf))=false:=by rw[okTm,hok];simp
    unfold yj7;rw[h2];simp only[↓reduceIte,go_sem,hx,zeroT,Te.cs,Lv.css,Te.css,Bool.false_eq_true,Nat.add_le_add_iff_left,Nat.reduceLeDiff]
 have loop0:∀(suf pre:List Lv),ls=pre++suf->(ls.all fun l=>decide ((zse l ps ms).2=0))=(suf.all fun l=>decide ((zse l ps ms).2=0)) ->
   zkg H (H++[.lst 0 3 [],.lst 0 4 [],.lst pre.length 3 (Lv.css (pre.map fun l=>(zse l ps ms).1)),.lst 0 4 [],.lst 0 3 [],.lst 0 4 []])
    (.sl (Lv.css ps)) (.sl (Lv.css ms)) (.int .i64 pre.length) [.int .i64 k,.int .i64 n,.sl (Lv.css ls),.sl (Te.css ks)] [.int .i64 0,.int .i64 0,.ol H.length 0,.ol (H.length+1) 0] [.int .i64 k,.int .i64 n,.ol (H.length+2) pre.length,.ol (H.length+3) 0] =
   some (.ret (yj7 ps ms (.mk k n ls ks)),H):=by
  intro suf
  induction suf with
  |nil=>
   intro pre eq hall;subst eq;rw[List.append_nil]at *;have h1:=loop1 (by rw[hall];rfl) ks [] [] rfl rfl (fun _=>rfl) rfl
   simp only[List.length_nil,Int.natCast_zero,Te.css]at h1;rw[zkg,zab];simp only[↓reduceIte,go_sem,h1]
  |cons l suf ih2=>
   intro pre eq hall;subst eq;simp at hl5;have hs:=fun H=>yjo l ps ms (hl.all2 l (by simp)) hp hm hpl hml H
   simp only[z4w]at hs;rw[zkg,zab];by_cases h0:(zse l ps ms).2=0
   ·have:=ih2 (pre++[l]) (by simp) (by rw[hall];simp[h0])
    simp only[zaf]at this;simp only[zf5,List.map_append,List.map_cons,List.map_nil]at this;simp only[↓reduceIte,go_sem,hs,h0,zac (n:=pre.length) (by omega),zum,List.length_map,show pre.length+(0+1)<=1073741824 by omega]
    exact this
   ·have h2:okTm ps ms (.mk k n (pre++l::suf) ks)=false:=by rw[okTm,hall];simp[h0]
    unfold yj7;rw[h2];simp only[↓reduceIte,go_sem,hs,h0,zeroT,Te.cs,Lv.css,Te.css,Bool.false_eq_true,Nat.add_le_add_iff_left,Nat.reduceLeDiff]
 have h0:=loop0 ls [] rfl rfl;simp only[List.length_nil,Int.natCast_zero,List.map_nil,Lv.css]at h0;rw[z5v];simp only[↓reduceIte,go_sem,Te.cs];exact h0
theorem zwl(t:Te)(ps ms:List Lv)(ht:t.ok)(hp:zso ps)(hm:zso ms)(hpl:ps.length<=140737488355328)(hml:ms.length<=140737488355328)(H:List AO):
  F zos [.agg t.cs,.sl (Lv.css ps),.sl (Lv.css ms)] H=some (.ret (zjh (zpk t ps ms)),H):=by
 have h1:=fun H=>zdb t ht H
 have h2:=zxh ps hpl hp H;have h3:=zxh ms hml hm H;rw[z5w,zpk];by_cases hr:zcc t=true
 ·by_cases a1:5<ps.length
  ·have a1':(5:Int)<ps.length:=by omega
   simp only[↓reduceIte,go_sem,h1,hr,a1,a1',zjh,zeroT,Te.cs,Lv.css,Te.css,Bool.true_eq_false,false_or,true_or]
  by_cases a2:10<ms.length
  ·have a1':¬ (5:Int)<ps.length:=by omega
   have a2':(10:Int)<ms.length:=by omega
   simp only[↓reduceIte,go_sem,h1,hr,a1,a1',a2,a2',zjh,zeroT,Te.cs,Lv.css,Te.css,Bool.true_eq_false,false_or,true_or]
  have a1':¬ (5:Int)<ps.length:=by omega
  have a2':¬ (10:Int)<ms.length:=by omega
  cases b1:zbz ps with
  |false=>simp only[↓reduceIte,go_sem,h1,h2,hr,a1,a1',a2,a2',b1,zjh,zeroT,Te.cs,Lv.css,Te.css,Bool.true_eq_false,false_or,true_or]
  |true=>
  cases b2:zbz ms with
  |false=>simp only[↓reduceIte,go_sem,h1,h2,h3,hr,a1,a1',a2,a2',b1,b2,zjh,zeroT,Te.cs,Lv.css,Te.css,Bool.true_eq_false,false_or,true_or]
  |true=>
  have h4:=ygp ps ms hp hm hpl hml 5 10 t ht 1000 30 (zfo hr) H;unfold yj7 at h4;by_cases b3:okTm ps ms t=true
  ·simp only[b3,if_true]at h4
   simp only[↓reduceIte,go_sem,h1,h2,h3,h4,hr,a1,a1',a2,a2',b1,b2,b3,zjh,zeroT,Te.cs,Lv.css,Te.css,Bool.true_eq_false,Bool.false_eq_true,or_self,true_or]
  ·simp only[Bool.not_eq_true]at b3
   simp only[b3,Bool.false_eq_true,if_false]at h4;simp only[↓reduceIte,go_sem,h1,h2,h3,h4,hr,a1,a1',a2,a2',b1,b2,b3,zjh,zeroT,Te.cs,Lv.css,Te.css,Bool.true_eq_false,Bool.false_eq_true,or_self,true_or]
 ·simp only[Bool.not_eq_true]at hr
  simp only[↓reduceIte,go_sem,h1,hr,zjh,zeroT,Te.cs,Lv.css,Te.css,true_or]
end Go.Ab
end
section
set_option linter.unusedVariables false
set_option linter.unusedSimpArgs false
set_option maxRecDepth 100000
set_option maxHeartbeats 2000000
namespace Go.Ab
open Go.RowKit Go.Proofs
mutual
def subs:Te->List Te
 |.mk k n ls ks=>.mk k n ls ks::subss ks
def subss:List Te->List Te
 |[]=>[]
 |x::r=>subs x++subss r
end
abbrev yiq(t:Te):List AV:=[.agg t.cs]
def yli(t:Te):AV:=.fn (.func zih) [] [.fp t.cs]
theorem z6j(t:Te)(H:List AO):F zpn [.agg t.cs] H=some (.ret (yli t),H):=by
 rw[z9a]
 cases t with
 |mk k n ls ks=>
 have h:Lt H.length (.fn (.func zih) [] [.fp [.int .i64 k,.int .i64 n,.sl (Lv.css ls),.sl (Te.css ks)]])=True:=by
  simp only[eq_iff_iff,iff_true];refine .fn (by simp) ?_
  intro x hx;simp at hx;subst hx;exact .fp (ztf H.length (.mk k n ls ks))
 simp only[↓reduceIte,go_sem,yli,Te.cs,h]
def zsi(y:AV)(st:LSt):AO:=.slp st 25 [(2,.fp [y])] [19] zea zd7
theorem all_ys{S E:Type}{y:AV}{m:Nat}{W:S->List AO}{WE:E->List AO}{stp:S->Te->Option (S ⊕ E)}(hy:Ys y m yiq W WE stp)(V:List AO):
  Ys (.yd (m+V.length)) (m+V.length+1) yiq (fun s=>W s++(V++[zsi y .ready])) (fun e=>WE e++(V++[zsi y (.done .ret)])) stp:=by
 have hhp:∀r:S ⊕ E,hp (fun s=>W s++(V++[zsi y .ready])) (fun e=>WE e++(V++[zsi y (.done .ret)])) r=hp W WE r++(V++[zsi y (if isL r=true then .ready else .done .ret)]):=fun r=>by cases r <;> rfl
 refine⟨rfl,.yd (by omega),?_,?_,?_⟩
 ·intro r
  have:=hy.len r;rw[hhp];simp;omega
 ·intro s r id o ho
  have l1:=hy.len (.inl s);have l2:=hy.len r;have l1:(W s).length=m:=l1;rw[hhp]at ho;by_cases h1:id<m
  ·rw[List.getElem?_append_left (by omega)]at ho
   rcases hy.fr s r id o ho with k|k
   ·exact .inl (by rw[List.getElem?_append_left (by omega)];exact k)
   ·exact .inr (k.mono (by omega))
  ·rw[List.getElem?_append_right (by omega)]at ho
   rw[List.getElem?_append_right (by omega),l1,<- l2]
   by_cases h2:id - (hp W WE r).length<V.length
   ·rw[List.getElem?_append_left h2]at ho ⊢;exact .inl ho
   ·rw[List.getElem?_append_right (by omega)]at ho
    cases h3:id - (hp W WE r).length - V.length with
    |zero=>
     rw[h3]at ho;simp at ho;subst ho;refine .inr fun p hp=>?_
     simp at hp;subst hp;exact .fp (by intro a ha;simp at ha;subst ha;exact hy.lt.mono (by omega))
    |succ j=>rw[h3]at ho;simp at ho
 ·intro s x Z r hst
  rw[hhp];have hl:(W s).length=m:=hy.len (.inl s);have hl2:=hy.len r;have hfr:∀(id:Nat) (o:AO),(hp W WE r)[id]?=some o->(W s)[id]?=some o\/LtO (W s).length o:=by rw[hl];exact hy.fr s r
  have hc:=hy.call s x (V++zsi y .busy::Z) r hst;have hlt:∀(st:LSt),LtO (W s++(V++zsi y .ready::Z)).length (zsi y st):=fun st p hp=>by
   simp at hp;subst hp;exact .fp (by intro a ha;simp at ha;subst ha;exact hy.lt.mono (by simp;omega))
  have g1:(W s++(V++zsi y .ready::Z))[m+V.length]?=some (zsi y .ready):=by rw[<- hl];exact ycb
  have s1:(W s++(V++zsi y .ready::Z)).set (m+V.length) (zsi y .busy)=W s++(V++zsi y .busy::Z):=by rw[<- hl];exact yca
  have g2:(hp W WE r++(V++zsi y .busy::Z))[m+V.length]?=some (zsi y .busy):=by rw[<- hl2];exact ycb
  have s2:∀st,(hp W WE r++(V++zsi y .busy::Z)).set (m+V.length) (zsi y st)=hp W WE r++(V++zsi y st::Z):=fun st=>by rw[<- hl2];exact yca
  have e1:∀st b,zsf (W s++(V++zsi y .ready::Z)) (m+V.length) st b (hp W WE r++(V++zsi y .busy::Z))=some (.ret (.bool b),hp W WE r++(V++zsi y st::Z)):=fun st b=>by
   have:=z6o (H:=W s++(V++zsi y .ready::Z)) (st:=st) (b:=b) g2;rw[this];show ze6 _ _ ((hp W WE r++(V++zsi y .busy::Z)).set (m+V.length) (zsi y st))=_;rw[s2 st];exact yig (by rw[hl2,hl]) hfr (hlt st) (.bool _)
  simp only[List.append_assoc,List.cons_append,List.nil_append];rw[yk9 g1 rfl zt1 ztz];unfold zsi at g1 s1 hc e1;unfold zsi
  cases x with
  |mk xk xn xls xks=>
  simp only[yiq,Te.cs]at hc ⊢
  cases h:isL r with
  |true=>simp only[↓reduceIte,go_sem,g1,s1,hc,h,e1]
  |false=>simp only[↓reduceIte,go_sem,g1,s1,hc,h,e1]
theorem all_seq(t:Te):t.ok->yfz (yli t) yiq (subs t):=by
 induction t using Te.ind with
 |h k n ls ks ih=>
 intro hl S E y m W WE stp hy s X r hr;rw[yli];simp only[zgo,List.cons_append,List.nil_append];have hlen:=hl.len;have hone:=hy.one;have hcell:y.cells=[y]:=by cases y <;> first|rfl|(simp[AV.one]at hone)
 unfold AV.cells at hcell;unfold AV.one at hone;have loop:∀(suf pre:List Te) (a:S),ks=pre++suf->zlx stp (subss suf) a=some r ->
   zi4 (W s++X) (W a++(X++jk pre.length)) (dsl (m+X.length) pre.length) (.fp [y]) (.sl (Te.css ks)) (.int .i64 ks.length) (.int .i64 pre.length)=some (.ret (.tup []),hp W WE r++X):=by
  intro suf
  induction suf with
  |nil=>
   intro pre a e hq2;subst e;simp only[subss,zlx]at hq2;cases hq2;rw[zi4,zab];simp only[↓reduceIte,go_sem];exact yea hy s (.inl a) X pre.length (.inl rfl) _ _
  |cons x suf ih2=>
   intro pre a e hq2;subst e;simp at hlen;have lA:(W a).length=m:=hy.len (.inl a);have hn:(W a++(X++jk pre.length)).length=m+(X.length+2*pre.length):=by simp[lA,zo1]
   have hd:ygf (W a++(X++jk pre.length)) (dsl (m+X.length) pre.length)=true:=by
    have:=yel (W a++X) pre.length [];simpa [lA] using this
   have hrd:yge (W a++(X++jk pre.length)) (dsl (m+X.length) pre.length)=false:=by
    have:=inRd_jk (W a++X) pre.length [];simpa [lA] using this
   rw[subss,zzg]at hq2;obtain⟨q,hq⟩:∃q,zlx stp (subs x) a=some q:=by
    cases h:zlx stp (subs x) a with
    |none=>rw[h]at hq2;cases hq2
    |some q=>exact⟨q,rfl⟩
   rw[hq]at hq2;have hx:=ih x (by simp) (hl.all x (by simp)) _ _ _ _ _ _ _ (all_ys hy (X++(jk pre.length++[.dfr]))) a [] q hq
   have lA':=hy.len q;simp only[yli,zgo,List.append_nil,List.append_assoc,List.cons_append,List.nil_append,List.length_append,zo1,List.length_cons,List.length_nil,zsi]at hx;have hds:(m+(X.length+2*pre.length))::dsl (m+X.length) pre.length=dsl (m+X.length) (pre.length+1):=by rw[dsl];congr 1;omega
   have hg:∀st,(hp W WE q++(X++(jk pre.length++[AO.dfr,AO.slp st 25 [(2,.fp [y])] [19] zea zd7])))[m+(X.length+(2*pre.length+1))]?=some (AO.slp st 25 [(2,.fp [y])] [19] zea zd7):=by
    intro st;rw[<- lA',List.getElem?_append_right (by omega),List.getElem?_append_right (by omega),List.getElem?_append_right (by rw[zo1];omega),zo1]
    rw[show (hp W WE q).length+(X.length+(2*pre.length+1)) - (hp W WE q).length - X.length - 2*pre.length=1 by omega]
    rfl
   have hs:∀st,(hp W WE q++(X++(jk pre.length++[AO.dfr,AO.slp st 25 [(2,.fp [y])] [19] zea zd7]))).set (m+(X.length+(2*pre.length+1))) .dead=hp W WE q++(X++jk (pre.length+1)):=by
    intro st;rw[<- lA',List.set_append_right _ _ (by omega),List.set_append_right _ _ (by omega),List.set_append_right _ _ (by rw[zo1];omega),zo1]
    rw[show (hp W WE q).length+(X.length+(2*pre.length+1)) - (hp W WE q).length - X.length - 2*pre.length=1 by omega]
    rfl
   rw[zi4,zab]
   cases q with
   |inl a'=>
    have:=ih2 (pre++[x]) a' (by simp) hq2
    simp only[zaf,zf5,Int.natCast_add,Int.natCast_one]at this;simp only[ze5]at hx hg hs;rw[<- this];simp only[↓reduceIte,go_sem,z6j,yli,hn,hd,hrd,hx,hg,hs,hds,zac (n:=pre.length) (by omega)]
   |inr e=>
    dsimp only at hq2;cases hq2;have:=fun t ls=>yea hy s (.inr e) X (pre.length+1) (o:=.ret) (.inr rfl) t ls
    simp only[zqi]at hx hg hs this ⊢;simp only[↓reduceIte,go_sem,z6j,yli,hn,hd,hrd,hx,hg,hs,hds,this]
 rw[show subs (.mk k n ls ks) = .mk k n ls ks::subss ks by rw[subs],zlx]at hr
 obtain⟨q,hq⟩:∃q,stp s (.mk k n ls ks)=some q:=by
  cases h:stp s (.mk k n ls ks) with
  |none=>rw[h]at hr;cases hr
  |some q=>exact⟨q,rfl⟩
 have hc:=hy.call s _ X q hq;rw[hq]at hr;simp only[yiq,Te.cs]at hc;show F zih _ _=_;rw[z2s]
 cases q with
 |inl a=>
  have h0:=loop ks [] a rfl hr;simp only[List.length_nil,Int.natCast_zero,jk,dsl,List.append_nil]at h0;rw[<- h0];simp only[ze5]at hc;simp only[↓reduceIte,go_sem,Te.cs,hone,hcell,hc,isL]
 |inr e=>
  dsimp only at hr;cases hr;simp only[zqi]at hc;have l1:(W s).length=m:=hy.len (.inl s);have l2:(WE e).length=m:=hy.len (.inr e);have hf:=zzk (H:=W s) (A:=WE e) (X:=X) (J:=[]) (r:=.ret (.tup [])) (by rw[l2];exact l1.symm) (by rw[l1];exact hy.fr s (.inr e)) (show Lt _ _ from .tup (by simp))
  rw[List.append_nil]at hf;simp only[↓reduceIte,go_sem,Te.cs,hone,hcell,hc,isL];exact hf
def zxx(L:List Int):List (AV×AV):=L.map fun n=>(.int .i64 n,.agg [])
@[go_sem] theorem ydx:∀L:List Int,zmf .i64 (zxx L)=true
 |[]=>rfl
 |n::r=>by show zmf .i64 ((.int .i64 n,.agg [])::zxx r)=true;simp only[zmf,if_pos,ydx r]
@[go_sem] theorem ydy(n:Int):∀L:List Int,zgn n (zxx L)=some (if L.contains n then some (.agg []) else none)
 |[]=>rfl
 |m::r=>by
  show zgn n ((.int .i64 m,.agg [])::zxx r)=_;rw[zgn,ydy n r];by_cases h:n=m
  ·subst h;simp
  ·simp[h]
@[go_sem] theorem yh6:zxx []=[]:=rfl
theorem ydv(L:List Int)(n:Int):zxx L++[(.int .i64 n,.agg [])]=zxx (L++[n]):=by simp[zxx]
theorem ydw(n:Nat)(L:List Int):LtO n (.mapo (zxx L)):=by
 constructor
 ·intro p hp;obtain⟨x,_,rfl⟩:=List.mem_map.1 hp;exact .int _ _
 ·intro p hp;obtain⟨x,_,rfl⟩:=List.mem_map.1 hp;exact .agg (by simp)
def zp7:Nat×List Int->List Int->Nat×List Int
 |p,[]=>p
 |p,n::r=>zp7 (if p.2.contains n then p else (p.1+1,p.2++[n])) r
theorem z13:∀(xs:List Int) (p:Nat×List Int),(zp7 p xs).2=zfl p.2 xs
 |[],p=>rfl
 |n::r,p=>by
  rw[zp7,zfl,z13 r];by_cases h:p.2.contains n=true
  ·rw[if_pos h,if_pos h]
  ·rw[if_neg h,if_neg h]
theorem zpz{H H':List AO}{r:Res}(hl:H'.length=H.length)(hr:LtR H.length r)(h:∀(id:Nat) (o:AO),H'[id]?=some o->H[id]?=some o\/LtO H.length o):ze6 H r H' = some (r,H'):=by
 unfold ze6;rw[if_pos ⟨hr,fun id o ho _=>h id o ho⟩,<- hl,List.take_length]
theorem z5l{H H':List AO}{r:Res}(J:List AO)(hl:H'.length=H.length)(hr:LtR H.length r)(h:∀(id:Nat) (o:AO),H'[id]?=some o->H[id]?=some o\/LtO H.length o):ze6 H r (H' ++ J)=some (r,H'):=by
 unfold ze6;rw[if_pos ⟨hr,fun id o ho hi=>h id o (by rwa [List.getElem?_append_left (by omega)]at ho)⟩,List.take_left' hl]
theorem yfh{A Z:List AO}{o1 o1' b o2 o2':AO}{n:Nat}(h1:LtO n o1')(h2:LtO n o2'):∀(id:Nat) (o:AO),(A++(o1' :: b::o2' :: Z))[id]?=some o->(A++(o1::b::o2::Z))[id]?=some o\/LtO n o:=by
 intro id o ho;by_cases hi:id<A.length
 ·rw[List.getElem?_append_left hi]at ho ⊢;exact .inl ho
 rw[List.getElem?_append_right (by omega)]at ho ⊢
 match id - A.length,ho with
 |0,ho=>simp at ho;subst ho;exact .inr h1
 |1,ho=>simp at ho;subst ho;exact .inl (by simp)
 |2,ho=>simp at ho;subst ho;exact .inr h2
 |j+3,ho=>simp at ho;exact .inl (by simpa using ho)
theorem yhl(b:AO)(xs:List Int)(hx:xs.length<=140737488355328)(A Z:List AO)(ver:Nat)(es:List Int)(hs:es.length+xs.length<=1073741824):
  F zoj [.ol A.length ver,.mp (A.length+2),.sl (zaq xs)] (A++(.lst ver 1 (zaq es)::b :: .mapo (zxx es)::Z)) =
   some (.ret (.ol A.length (zp7 (ver,es) xs).1),A++(.lst (zp7 (ver,es) xs).1 1 (zaq (zp7 (ver,es) xs).2)::b :: .mapo (zxx (zp7 (ver,es) xs).2)::Z)):=by
 have hf:∀(v v2:Nat) (es':List Int),ze6 (A++(.lst ver 1 (zaq es)::b :: .mapo (zxx es)::Z)) (.ret (.ol A.length v2)) (A++(.lst v 1 (zaq es')::b :: .mapo (zxx es')::(Z++[.lst 0 1 []])))=some (.ret (.ol A.length v2),A++(.lst v 1 (zaq es')::b :: .mapo (zxx es')::Z)):=by
  intro v v2 es';have:=z5l (H:=A++(.lst ver 1 (zaq es)::b :: .mapo (zxx es)::Z)) (H':=A++(.lst v 1 (zaq es')::b :: .mapo (zxx es')::Z)) (r:=.ret (.ol A.length v2)) [.lst 0 1 []] (by simp) (.ol (by simp)) (yfh (fun a ha=>z5e _ _ a ha) (ydw _ _))
  simpa using this
 have hn:¬ (A.length+(Z.length+3)<=A.length):=by omega
 have loop:∀(suf pre:List Int) (p:Nat×List Int),xs=pre++suf->p.2.length+suf.length<=1073741824 ->
   zkd (A++(.lst ver 1 (zaq es)::b :: .mapo (zxx es)::Z)) (A++(.lst p.1 1 (zaq p.2)::b :: .mapo (zxx p.2)::(Z++[.lst 0 1 []]))) (.ol A.length p.1) (.mp (A.length+2)) (.sl (zaq xs)) (.int .i64 xs.length) (.int .i64 pre.length) =
   some (.ret (.ol A.length (zp7 p suf).1),A++(.lst (zp7 p suf).1 1 (zaq (zp7 p suf).2)::b :: .mapo (zxx (zp7 p suf).2)::Z)):=by
  intro suf
  induction suf with
  |nil=>
   intro pre p e hp;subst e;rw[zkd,zab];simp only[↓reduceIte,go_sem,zp7,hn,hf]
  |cons n suf ih=>
   rintro pre ⟨v,l⟩ e hp
   subst e;simp at hp hx;rw[zkd,zab,zp7];by_cases h:l.contains n=true
   ·have:=ih (pre++[n]) (v,l) (by simp) (by simp;omega)
    simp only[zaf]at this;rw[if_pos h];simp only[↓reduceIte,go_sem,h,zac (n:=pre.length) (by omega),this]
   ·have:=ih (pre++[n]) (v+1,l++[n]) (by simp) (by simp;omega)
    simp only[zaf]at this;rw[if_neg h];simp only[Bool.not_eq_true]at h;simp only[↓reduceIte,go_sem,h,zac (n:=pre.length) (by omega),ydv,zlk,show l.length+(0+1)<=1073741824 by omega,this]
 have:=loop xs [] (ver,es) rfl hs;simp only[List.length_nil,Int.natCast_zero]at this;rw[z5m];simp only[↓reduceIte,go_sem,this]
def Te.kind:Te->Int
 |.mk k _ _ _=>k
def Te.n:Te->Int
 |.mk _ n _ _=>n
def znl:List Te->List Int
 |[]=>[]
 |x::r=>(if x.kind=3 then [x.n] else [])++znl r
theorem z3q:∀a b:List Te,znl (a++b)=znl a++znl b
 |[],b=>rfl
 |x::a,b=>by rw[List.cons_append,znl,znl,z3q a b,List.append_assoc]
def zob(n:Nat)(p:Nat×List Int):List AO:=[.lst p.1 1 (zaq p.2),.box [.ol n p.1],.mapo (zxx p.2),.box [.mp (n+2)]]
def z3p(p:Nat×List Int)(x:Te):Option ((Nat×List Int) ⊕ Empty):=if p.2.length<1073741824 then some (.inl (if x.kind=3 then zp7 p [x.n] else p)) else none
theorem yiv(H:List AO):Ys (.yd (H.length+4+1)) (H.length+4+2) yiq (fun p=>H++(zob H.length p++[.dfr,.slp .ready 19 [(2,.ptr (H.length+1) 0),(3,.ptr (H.length+3) 0)] [8] zc3 zc1])) (fun e:Empty=>H++(noE e++[.dfr,.slp (.done (noE e)) 19 [(2,.ptr (H.length+1) 0),(3,.ptr (H.length+3) 0)] [8] zc3 zc1])) z3p:=by
 refine z4g H 4 yiq (zob H.length) noE noE z3p 19 [(2,.ptr (H.length+1) 0),(3,.ptr (H.length+3) 0)] [8] zc3 zc1 zss zsq (fun _=>rfl) ?_ ?_ ?_ ?_
 ·rintro (p|e)
  ·rfl
  ·exact e.elim
 ·rintro s (p|e) i o ho
  ·match i,ho with
   |0,ho=>simp[ze5,zob]at ho;subst ho;exact .inr fun a ha=>z5e _ _ a ha
   |1,ho=>simp[ze5,zob]at ho;subst ho;exact .inr fun a ha=>by simp at ha;subst ha;exact .ol (by omega)
   |2,ho=>simp[ze5,zob]at ho;subst ho;exact .inr (ydw _ _)
   |3,ho=>simp[ze5,zob]at ho;subst ho;exact .inl (by simp[zob])
   |j+4,ho=>simp[ze5,zob]at ho
  ·exact e.elim
 ·intro p hp;simp at hp;rcases hp with rfl|rfl <;> exact .ptr (by omega)
 ·rintro ⟨ver,es⟩ ⟨k,n,ls,ks⟩ X r hst
  refine⟨[],?_⟩;unfold z3p at hst
  split at hst
  ·rename_i h2
   dsimp only at h2;cases hst;have hc:=yhl (.box [.ol H.length ver]) [n] (by simp) H (.box [.mp (H.length+2)] :: .dfr :: .slp .busy 19 [(2,.ptr (H.length+1) 0),(3,.ptr (H.length+3) 0)] [8] zc3 zc1::X) ver es (by simp;omega)
   simp only[zaq,List.map_cons,List.map_nil]at hc;by_cases h1:k=3
   ·simp only[↓reduceIte,go_sem,zob,zaq,yiq,Te.cs,Te.kind,Te.n,hc,h1,z49,isL]
   ·simp only[↓reduceIte,go_sem,zob,zaq,yiq,Te.cs,Te.kind,Te.n,h1,z49,isL]
  ·cases hst
theorem zs9:∀(xs:List Te) (ver:Nat) (es:List Int),es.length+xs.length<=1073741824->∃v,zlx z3p xs (ver,es)=some (.inl (v,zfl es (znl xs)))
 |[],ver,es,_=>⟨ver,rfl⟩
 |x::r,ver,es,h=>by
  simp at h;rw[zlx,znl,zov];unfold z3p;rw[if_pos (show es.length<1073741824 by omega)]
  by_cases h1:x.kind=3
  ·rw[if_pos h1,if_pos h1]
   have:=z13 [x.n] (ver,es);rw[show zp7 (ver,es) [x.n]=((zp7 (ver,es) [x.n]).1,zfl es [x.n]) from Prod.ext rfl this]
   have hl:=zld [x.n] es;simp at hl;exact zs9 r _ _ (by omega)
  ·rw[if_neg h1,if_neg h1];exact zs9 r ver es (by omega)
def zfy(t:Te):List Int:=zfl [] (znl (subs t))
theorem yf2(t:Te)(ht:t.ok)(hx:(subs t).length<=1073741824)(H:List AO):F zkz [.agg t.cs] H=some (.ret (.sl (zaq (zfy t))),H):=by
 obtain⟨v,hv⟩:=zs9 (subs t) 0 [] (by simpa using hx)
 have hr:=all_seq t ht _ _ _ _ _ _ _ (yiv H) (0,[]) [] _ hv;have he:=zth (H:=H) (DR:=zob H.length (v,zfy t)) (k:=4) rfl (st:=.ready) (nn:=19) (t:=[(2,.ptr (H.length+1) 0),(3,.ptr (H.length+3) 0)]) (ps:=[8]) (asg:=zc3) (body:=zc1);have ha:=z6j t
 cases t with
 |mk k n ls ks=>
 unfold zfy at he ⊢;simp only[yli,Te.cs]at ha hr;simp only[ze5,zob,zgo,List.cons_append,List.nil_append,List.append_nil,Nat.add_assoc,Nat.reduceAdd,zfj,yh6]at hr he;rw[zzo];simp only[↓reduceIte,go_sem,Te.cs,ha,hr,he,List.mem_cons,List.not_mem_nil,or_false,forall_eq,List.nodup_cons,List.nodup_nil,not_false_eq_true,and_self]
theorem z14:∀(xs out:List Int) (n:Int),out.contains n=true->(zfl out xs).contains n=true
 |[],out,n,h=>h
 |x::r,out,n,h=>by
  rw[zfl];refine z14 r _ n ?_
  split
  ·exact h
  ·simp at h ⊢;exact .inl h
theorem zsn:∀(xs acc out:List Int),zfl out (zfl acc xs)=zfl (zfl out acc) xs
 |[],acc,out=>rfl
 |n::r,acc,out=>by
  rw[zfl,zsn r,zfl];by_cases h:acc.contains n=true
  ·rw[if_pos h]
   have:(zfl out acc).contains n=true:=by
    clear zsn
    induction acc generalizing out with
    |nil=>simp at h
    |cons a acc ih=>
     rw[zfl];by_cases ha:n=a
     ·subst ha
      refine z14 _ _ _ ?_
      split
      ·assumption
      ·simp
     ·have:acc.contains n=true:=by simpa [ha] using h
      exact ih _ this
   rw[if_pos this]
  ·rw[if_neg h,zov,zfl,zfl]
def ztp:List Te->List Int
 |[]=>[]
 |x::r=>znl (subs x)++ztp r
theorem zq4:∀ks:List Te,znl (subss ks)=ztp ks
 |[]=>rfl
 |x::r=>by rw[subss,z3q,zq4 r];rfl
theorem zph:∀xs:List Te,(znl xs).length<=xs.length
 |[]=>Nat.le_refl _
 |x::r=>by
  have:=zph r;rw[znl];split <;> simp <;> omega
theorem z6n(t:Te):t.ok->(subs t).length<=1073741824->∀(H:List AO),F zg9 [.agg t.cs] H=some (.ret (.sl (zaq (zfy t))),H):=by
 induction t using Te.ind with
 |h k n ls ks ih=>
 intro hl hx H;have hlen:=hl.len;have loop0:∀(j:Nat) (m:List Int) (x:Int) (x4:AV),m[j]?=some x->m.length<=1073741824->∀(es:List Int) (ver:Nat),es.length<1073741824->∀(suf pre:List Int),es=pre++suf ->
   zgu H (H++[.lst 0 1 [],.lst ver 1 (zaq es)]) (.ol (H.length+1) ver) x4 (.sl (zaq m)) (.int .i64 j) (.bool (pre.contains x)) (.int .i64 pre.length) (Te.mk k n ls ks).cs =
   zfa H (H++[.lst 0 1 [],.lst (if es.contains x then ver else ver+1) 1 (zaq (if es.contains x then es else es++[x]))]) (.ol (H.length+1) (if es.contains x then ver else ver+1)) x4 (.sl (zaq m)) (.int .i64 (j+1)) (Te.mk k n ls ks).cs:=by
  intro j m x x4 hj hm es ver hs suf;have hjm:j<m.length:=by
   rcases Nat.lt_or_ge j m.length with h|h
   ·exact h
   ·rw[List.getElem?_eq_none h]at hj;cases hj
  induction suf with
  |nil=>
   intro pre e;rw[List.append_nil]at e;subst e;rw[zgu,zab];by_cases h:es.contains x=true
   ·simp only[h]
    simp only[↓reduceIte,go_sem,zac (n:=j) (by omega)]
   ·simp only[Bool.not_eq_true]at h
    simp only[h];simp only[↓reduceIte,go_sem,hj,hjm,zac (n:=j) (by omega),zlk,show es.length+(0+1)<=1073741824 by omega,show es.length<=1073741823 by omega]
  |cons y suf ih2=>
   intro pre e;have:=ih2 (pre++[y]) (by rw[e];simp)
   simp only[zaf]at this;rw[<- this,zgu,zab];have hc:(pre++[y]).contains x=(pre.contains x || decide (y=x)):=by
    rw[Bool.eq_iff_iff];simp only[List.contains_iff_mem,List.mem_append,List.mem_singleton,Bool.or_eq_true,decide_eq_true_eq];exact or_congr_right eq_comm
   have hp:(pre.length:Int)<(es.length:Int):=by rw[e];simp;omega
   have hg:es[pre.length]?=some y:=by rw[e];simp
   have hp2:pre.length<es.length:=by rw[e];simp
   rw[hc]
   cases h:pre.contains x with
   |true=>simp only[↓reduceIte,go_sem,hp,hp2,hg,zac (n:=pre.length) (by omega),Bool.true_or]
   |false=>simp only[↓reduceIte,go_sem,hp,hp2,hg,hj,hjm,zac (n:=pre.length) (by omega),Bool.false_or]
 have loop1:∀(i:Int) (suf pre out:List Int) (ver:Nat),out.length+suf.length<=1073741824->pre.length+suf.length<=1073741824->∃v,
   zfa H (H++[.lst 0 1 [],.lst ver 1 (zaq out)]) (.ol (H.length+1) ver) (.int .i64 i) (.sl (zaq (pre++suf))) (.int .i64 pre.length) (Te.mk k n ls ks).cs =
   ze9 H (H++[.lst 0 1 [],.lst v 1 (zaq (zfl out suf))]) (.ol (H.length+1) v) (.int .i64 (IntKind.i64.wrap (i+1))) (Te.mk k n ls ks).cs:=by
  intro i suf
  induction suf with
  |nil=>
   intro pre out ver h1 h2;refine⟨ver,?_⟩;rw[zfa,zab,List.append_nil,zfl];simp only[↓reduceIte,go_sem]
  |cons x suf ih2=>
   intro pre out ver h1 h2;simp at h1 h2;have h0:=loop0 pre.length (pre++x::suf) x (.int .i64 i) (by simp) (by simp;omega) out ver (by omega) out [] rfl
   simp only[List.length_nil,Int.natCast_zero,List.contains_nil]at h0;have hl:=zld [x] out;simp only[zfl]at hl;obtain⟨v,h3⟩:=ih2 (pre++[x]) (if out.contains x then out else out++[x]) (if out.contains x then ver else ver+1) (by simp only[List.length_cons,List.length_nil]at hl;omega) (by simp;omega)
   simp only[zaf,List.append_assoc,List.cons_append,List.nil_append]at h3;refine⟨v,?_⟩;rw[zfl,<- h3,<- h0,zfa,zab];simp only[↓reduceIte,go_sem]
 have loop2:∀(suf pre:List Te) (out:List Int) (ver:Nat),ks=pre++suf->out.length+(ztp suf).length<=1073741824->(∀x∈suf,(subs x).length<=1073741824) ->
   ze9 H (H++[.lst 0 1 [],.lst ver 1 (zaq out)]) (.ol (H.length+1) ver) (.int .i64 pre.length) (Te.mk k n ls ks).cs=some (.ret (.sl (zaq (zfl out (ztp suf)))),H):=by
  intro suf
  induction suf with
  |nil=>
   intro pre out ver e h1 h2;subst e;rw[ze9,zab,ztp,zfl];simp only[↓reduceIte,go_sem,Te.cs]
  |cons x suf ih2=>
   intro pre out ver e h1 h2;subst e;rw[ztp]at h1;simp at h1 hlen;have hx1:=h2 x (by simp)
   have hc:=zph (subs x);have hle:=zld (znl (subs x)) [];simp at hle;obtain⟨v,h3⟩:=loop1 pre.length (zfy x) [] out ver (by unfold zfy;omega) (by unfold zfy;simp;omega)
   simp only[List.length_nil,Int.natCast_zero,List.nil_append,zac (n:=pre.length) (by omega)]at h3
   have hr:=ih x (by simp) (hl.all x (by simp)) hx1
   have hle2:=zld (znl (subs x)) out;have h4:=ih2 (pre++[x]) (zfl out (znl (subs x))) v (by simp) (by omega) (fun y hy=>h2 y (by simp[hy]))
   simp only[zaf]at h4;rw[ztp,zov,<- h4];rw[show zfl out (zfy x)=zfl out (znl (subs x)) from zsn _ [] out]at h3
   rw[<- h3,ze9,zab];simp only[↓reduceIte,go_sem,Te.cs,hr]
 have hsub:∀x∈ks,(subs x).length<=(subss ks).length:=by
  clear loop0 loop1 loop2 hlen hl ih hx
  induction ks with
  |nil=>simp
  |cons y r ih=>
   intro x hx;rw[subss,List.length_append];rcases List.mem_cons.1 hx with rfl|hx
   ·omega
   ·have:=ih x hx;omega
 rw[subs,List.length_cons]at hx;have hcl:=zph (subss ks);rw[zq4]at hcl;have e:zfy (.mk k n ls ks)=zfl (if k=3 then [n] else []) (ztp ks):=by
  rw[zfy,subs,znl,zov,zq4];rw[show Te.kind (.mk k n ls ks)=k from rfl,show Te.n (.mk k n ls ks)=n from rfl]
  split <;> rfl
 have h0:=loop2 ks [] (if k=3 then [n] else []) (if k=3 then 1 else 0) rfl (by split <;> simp <;> omega) (fun x hx'=>by have:=hsub x hx';omega)
 rw[<- e]at h0;rw[zww,<- h0];by_cases h:k=3
 ·simp only[h]at *
  simp only[↓reduceIte,go_sem,Te.cs,zaq,List.map_cons,List.map_nil]
 ·simp only[↓reduceIte,go_sem,Te.cs,h]
end Go.Ab
end
section
set_option linter.unusedVariables false
set_option linter.unusedSimpArgs false
set_option maxRecDepth 100000
set_option maxHeartbeats 2000000
namespace Go.Ab
open Go.RowKit Go.Proofs
inductive Co|mk (a b:Lv)
def Co.a:Co->Lv|.mk a _=>a
def Co.b:Co->Lv|.mk _ b=>b
def Co.cs(c:Co):List AV:=c.a.cs++c.b.cs
def Co.css(l:List Co):List (List AV):=l.map Co.cs
def Co.ok(c:Co):Prop:=c.a.ok/\c.b.ok
inductive De|mk (p:Int) (cons:List Co) (type:Te) (has:Bool) (value:Te)
def De.p:De->Int|.mk p _ _ _ _=>p
def De.cons:De->List Co|.mk _ c _ _ _=>c
def De.type:De->Te|.mk _ _ t _ _=>t
def De.has:De->Bool|.mk _ _ _ h _=>h
def De.value:De->Te|.mk _ _ _ _ v=>v
def De.cs(d:De):List AV:=[.int .i64 d.p,.sl (Co.css d.cons)]++d.type.cs++[.bool d.has]++d.value.cs
def De.css(l:List De):List (List AV):=l.map De.cs
def De.ok(d:De):Prop:=d.cons.length<=140737488355328/\(∀c∈d.cons,c.ok)/\d.type.ok/\d.value.ok
@[go_sem] theorem zuo(c:Co):c.cs.length=6:=by rcases c with⟨⟨k,n,ks⟩,⟨k2,n2,ks2⟩⟩;rfl
@[go_sem] theorem cocs_rd(c:Co):rd 6 true c.cs=some (.v (.agg c.cs)):=zm6 (zuo c)
@[go_sem] theorem cocs_rd0(c:Co):rd 3 true c.cs=some (.v (.agg c.a.cs)):=by rcases c with⟨⟨k,n,ks⟩,⟨k2,n2,ks2⟩⟩;rfl
@[go_sem] theorem cocs_rd3(c:Co):rd 3 true (List.drop 3 c.cs)=some (.v (.agg c.b.cs)):=by rcases c with⟨⟨k,n,ks⟩,⟨k2,n2,ks2⟩⟩;rfl
@[go_sem] theorem yew(l:List Co):(Co.css l).length=l.length:=by simp[Co.css]
@[go_sem] theorem cocss_get(l:List Co)(j:Nat):(Co.css l)[j]?=l[j]?.map Co.cs:=by simp[Co.css]
@[go_sem] theorem z7w(d:De):d.cs.length=11:=by rcases d with⟨p,c,⟨k,n,ls,ks⟩,h,⟨k2,n2,ls2,ks2⟩⟩;rfl
@[go_sem] theorem decs_rd(d:De):rd 11 true d.cs=some (.v (.agg d.cs)):=zm6 (z7w d)
@[go_sem] theorem decs_rd0(d:De):rd 1 false d.cs=some (.v (.int .i64 d.p)):=by rcases d with⟨p,c,⟨k,n,ls,ks⟩,h,⟨k2,n2,ls2,ks2⟩⟩;rfl
@[go_sem] theorem decs_rd1(d:De):rd 1 false (List.drop 1 d.cs)=some (.v (.sl (Co.css d.cons))):=by rcases d with⟨p,c,⟨k,n,ls,ks⟩,h,⟨k2,n2,ls2,ks2⟩⟩;rfl
@[go_sem] theorem decs_rd2(d:De):rd 4 true (List.drop 2 d.cs)=some (.v (.agg d.type.cs)):=by rcases d with⟨p,c,⟨k,n,ls,ks⟩,h,⟨k2,n2,ls2,ks2⟩⟩;rfl
@[go_sem] theorem decs_rd6(d:De):rd 1 false (List.drop 6 d.cs)=some (.v (.bool d.has)):=by rcases d with⟨p,c,⟨k,n,ls,ks⟩,h,⟨k2,n2,ls2,ks2⟩⟩;rfl
@[go_sem] theorem decs_rd7(d:De):rd 4 true (List.drop 7 d.cs)=some (.v (.agg d.value.cs)):=by rcases d with⟨p,c,⟨k,n,ls,ks⟩,h,⟨k2,n2,ls2,ks2⟩⟩;rfl
@[go_sem] theorem over_decs(a b c d e f g h i j k:AV)(x:De):over [a,b,c,d,e,f,g,h,i,j,k] 0 x.cs=x.cs:=by rcases x with⟨p,c,⟨k,n,ls,ks⟩,h,⟨k2,n2,ls2,ks2⟩⟩;rfl
@[go_sem] theorem decss_len(l:List De):(De.css l).length=l.length:=by simp[De.css]
@[go_sem] theorem decss_get(l:List De)(j:Nat):(De.css l)[j]?=l[j]?.map De.cs:=by simp[De.css]
@[go_sem] theorem yit(d:De):d.cs.all AV.one=true:=by rcases d with⟨p,c,⟨k,n,ls,ks⟩,h,⟨k2,n2,ls2,ks2⟩⟩;rfl
@[go_sem] theorem z7z(c:Co):c.cs.all AV.one=true:=by rcases c with⟨⟨k,n,ks⟩,⟨k2,n2,ks2⟩⟩;rfl
mutual
theorem subs_parts:∀(t:Te) (m:Int),parts t m<m->((subs t).length:Int)<=parts t m
 |.mk k n ls ks,m,h=>by
  rw[parts]at h ⊢;rw[subs,List.length_cons];have:=subss_parts ks m 1 h;omega
theorem subss_parts:∀(ks:List Te) (m n:Int),partsL ks m n<m->n+((subss ks).length:Int)<=partsL ks m n
 |[],m,n,h=>by rw[partsL,subss];simp
 |x::r,m,n,h=>by
  rw[partsL]at h ⊢;have hn:n<m:=by
   rcases Int.lt_or_le n m with h1|h1
   ·exact h1
   ·rw[if_neg (by omega)]at h
    have:=zou r m n;omega
  rw[if_pos hn]at h ⊢;have h1:=zou r m (n+parts x (m - n));have h2:=subs_parts x (m - n) (by omega)
  have h3:=subss_parts r m (n+parts x (m - n)) h;rw[subss,List.length_append];omega
end
theorem zpq{t:Te}{v p m:Int}(h:zc6 t v p m=true):(subs t).length<=1073741824:=by
 have:parts t 601<=600:=by unfold zc6 at h;simp at h;exact h.1.2
 have:=subs_parts t 601 (by omega)
 omega
theorem yjb(xs:List (List AV))(hlen:xs.length<=140737488355328)(hsz:∀e∈xs,e.length=6)(f:AV)(p:List AV->Bool)(H:List AO)(hf:∀e∈xs,cfl T f [.agg e] H=some (.ret (.bool (p e)),H)):
  F zbo [.sl xs,f] H=some (.ret (.bool (xs.any p)),H):=by
 have loop:∀(suf pre:List (List AV)),xs=pre++suf->∃r:Int,zb9 H H (.sl xs) f (.int .i64 xs.length) (.int .i64 pre.length)=some (.ret (.int .i64 r),H)/\decide (0<=r)=suf.any p:=by
  intro suf
  induction suf with
  |nil=>
   intro pre e;subst e;refine⟨-1,?_,rfl⟩;rw[zb9,zab];simp only[↓reduceIte,go_sem]
  |cons x suf ih=>
   intro pre e;subst e;obtain⟨r,h1,h2⟩:=ih (pre++[x]) (by simp)
   simp only[zaf]at h1;have hx:=hsz x (by simp)
   have hfx:=hf x (by simp)
   simp at hlen
   cases hp:p x with
   |true=>
    refine⟨pre.length,?_,by simp[hp]⟩
    rw[zb9,zab];simp only[↓reduceIte,go_sem,hx,zm6 hx,hfx,hp]
   |false=>
    refine⟨r,?_,by simp[hp,h2]⟩
    rw[zb9,zab];simp only[↓reduceIte,go_sem,hx,zm6 hx,hfx,hp,zac (n:=pre.length) (by omega),h1]
 obtain⟨r,h1,h2⟩:=loop xs [] rfl;simp only[List.length_nil,Int.natCast_zero]at h1;rw[zmk];have:F zdi [.sl xs,f] H=some (.ret (.int .i64 r),H):=by
  rw[zoe];simp only[↓reduceIte,go_sem,h1]
 simp only[↓reduceIte,go_sem,this,h2]
theorem yja(xs:List Int)(hlen:xs.length<=140737488355328)(f:AV)(p:Int->Bool)(H:List AO)(hf:∀e∈xs,cfl T f [.int .i64 e] H=some (.ret (.bool (p e)),H)):
  F zch [.sl (zaq xs),f] H=some (.ret (.bool (xs.any p)),H):=by
 have loop:∀(suf pre:List Int),xs=pre++suf->∃r:Int,zb8 H H (.sl (zaq xs)) f (.int .i64 xs.length) (.int .i64 pre.length)=some (.ret (.int .i64 r),H)/\decide (0<=r)=suf.any p:=by
  intro suf
  induction suf with
  |nil=>
   intro pre e;subst e;refine⟨-1,?_,rfl⟩;rw[zb8,zab];simp only[↓reduceIte,go_sem]
  |cons x suf ih=>
   intro pre e;subst e;obtain⟨r,h1,h2⟩:=ih (pre++[x]) (by simp)
   simp only[zaf]at h1;have hfx:=hf x (by simp)
   simp at hlen
   cases hp:p x with
   |true=>
    refine⟨pre.length,?_,by simp[hp]⟩
    rw[zb8,zab];simp only[↓reduceIte,go_sem,hfx,hp]
   |false=>
    refine⟨r,?_,by simp[hp,h2]⟩
    rw[zb8,zab];simp only[↓reduceIte,go_sem,hfx,hp,zac (n:=pre.length) (by omega),h1]
 obtain⟨r,h1,h2⟩:=loop xs [] rfl;simp only[List.length_nil,Int.natCast_zero]at h1;rw[zmj];have:F zdh [.sl (zaq xs),f] H=some (.ret (.int .i64 r),H):=by
  rw[zod];simp only[↓reduceIte,go_sem,h1]
 simp only[↓reduceIte,go_sem,this,h2]
def zxf(p:Int)(c:Co):Bool:=zax c.a p 0 && zax c.b p 0
def zdt(l:List Co)(p:Int):Bool:=decide (0<=p) && decide (p<=5) && decide (l.length<=8) && l.all (zxf p)
def mayT(t:Te)(p a:Int):Bool:=zc6 t 0 p 0 && (zfy t).all fun n=>decide (n<a)
def yem(d:De)(a:Int):Bool:=zdt d.cons d.p && mayT d.type d.p a && (if d.has=true then mayT d.value d.p a else teEq d.value zeroT)
def zto:List De->Int->Bool
 |[],_=>true
 |d::r,a=>yem d a && zto r (a+1)
def zqp(env:List De):Bool:=zto env 0 && decide (env.length<=20)
theorem yku(t:Te)(ht:t.ok)(p a:Int)(H:List AO):F zkt [.agg t.cs,.int .i64 p,.int .i64 a] H=some (.ret (.bool (mayT t p a)),H):=by
 have h1:=fun H=>zkx t ht 0 p 0 H
 rw[z3b,mayT];by_cases h:zc6 t 0 p 0=true
 ·have h2:=fun H=>yf2 t ht (zpq h) H
  have hl:=zld (znl (subs t)) [];have hl2:=zph (subs t);have hl3:=zpq h;have h3:=yja (zfy t) (by unfold zfy;simp at hl;omega) (.fn (.func zhb) [] [.ptr H.length 0]) (fun n=>decide (a<=n)) (H++[.box [.int .i64 a]]) (fun n hn=>by
   simp only[zgo,List.cons_append,List.nil_append];show F zhb _ _=_;rw[zw1];simp only[↓reduceIte,go_sem])
  have e:(!(zfy t).any fun n=>decide (a<=n))=(zfy t).all fun n=>decide (n<a):=by
   rw[List.not_any_eq_all_not];congr 1;funext n;rw[Bool.eq_iff_iff];simp
  simp only[↓reduceIte,go_sem,h1,h,h2,h3,e]
 ·simp only[Bool.not_eq_true]at h
  simp only[↓reduceIte,go_sem,h1,h]
theorem zya(t:Te)(ht:t.ok)(hs:(subs t).length<=1073741824)(a:Int)(H:List AO):F zio [.agg t.cs,.int .i64 a] H=some (.ret (.bool ((zfy t).all fun n=>decide (n<a))),H):=by
 have h2:=fun H=>z6n t ht hs H
 have hl:=zld (znl (subs t)) [];have hl2:=zph (subs t);have hlen:(zfy t).length<=1073741824:=by unfold zfy;simp at hl;omega
 have loop:∀(suf pre:List Int),zfy t=pre++suf->zh1 H H (.int .i64 a) (.sl (zaq (zfy t))) (.int .i64 pre.length)=some (.ret (.bool (suf.all fun n=>decide (n<a))),H):=by
  generalize zfy t=xs at hlen;intro suf
  induction suf with
  |nil=>
   intro pre e;subst e;rw[zh1,zab];simp only[↓reduceIte,go_sem,List.all_nil]
  |cons x suf ih=>
   intro pre e;subst e;simp at hlen;have:=ih (pre++[x]) (by simp)
   simp only[zaf]at this;rw[zh1,zab,List.all_cons];by_cases h:x<a
   ·simp only[↓reduceIte,go_sem,show ¬ a<=x by omega,h,zac (n:=pre.length) (by omega),this,Bool.true_and]
   ·simp only[↓reduceIte,go_sem,show a<=x by omega,h,Bool.false_and]
 have:=loop (zfy t) [] rfl;simp only[List.length_nil,Int.natCast_zero]at this
 cases t with
 |mk k n ls ks=>
 simp only[Te.cs]at h2;rw[zzv];simp only[↓reduceIte,go_sem,Te.cs,h2,this]
theorem zr4(l:List Co)(hlen:l.length<=140737488355328)(hl:∀c∈l,c.ok)(p:Int)(H:List AO):F zg5 [.sl (Co.css l),.int .i64 p] H=some (.ret (.bool (zdt l p)),H):=by
 have loop:∀(suf pre:List Co),l=pre++suf->zh7 H H (.sl (Co.css l)) (.int .i64 p) (.int .i64 pre.length)=some (.ret (.bool (suf.all (zxf p) && (decide (0<=p) && decide (p<=5) && decide (l.length<=8)))),H):=by
  intro suf
  induction suf with
  |nil=>
   intro pre e;rw[List.append_nil]at e;subst e;rw[zh7,zab];simp only[↓reduceIte,go_sem,List.all_nil]
   repeat' split
   all_goals (simp_all <;> try omega)
  |cons x suf ih=>
   intro pre e;have:=ih (pre++[x]) (by rw[e];simp)
   simp only[zaf]at this;have hg:l[pre.length]?=some x:=by rw[e];simp
   have hp:(pre.length:Int)<(l.length:Int):=by rw[e];simp;omega
   obtain⟨ha,hb⟩:=hl x (by rw[e];simp)
   rw[zh7,zab,List.all_cons];have r1:=fun H=>zd0 x.a ha p 0 H
   have r2:=fun H=>zd0 x.b hb p 0 H
   unfold zxf at this ⊢
   cases h1:zax x.a p 0 <;> cases h2:zax x.b p 0 <;> simp only[h1,h2]at r1 r2 <;>
    simp only[↓reduceIte,go_sem,hp,hg,r1,r2,zac (n:=pre.length) (by omega),this,Bool.true_and,Bool.false_and]
 have:=loop l [] rfl;simp only[List.length_nil,Int.natCast_zero]at this;rw[zz4,zdt];simp only[↓reduceIte,go_sem,this]
 grind
theorem yjd(ks:List Co)(hlen:ks.length<=140737488355328)(f:AV)(p:Co->Bool)(H:List AO)(hf:∀x∈ks,cfl T f [.agg x.cs] H=some (.ret (.bool (p x)),H)):
  F zbo [.sl (Co.css ks),f] H=some (.ret (.bool (ks.any p)),H):=by
 let q:List AV->Bool:=fun e=>match cfl T f [.agg e] H with
  |some (.ret (.bool b),_)=>b
  |_=>false
 have hq:∀x∈ks,q x.cs=p x:=fun x hx=>by simp only[q,hf x hx]
 have:=yjb (Co.css ks) (by rw[yew];exact hlen) (fun e he=>by obtain⟨x,_,rfl⟩:=List.mem_map.1 he;exact zuo x) f q H (fun e he=>by
  obtain⟨x,hx,rfl⟩:=List.mem_map.1 he;rw[hf x hx,hq x hx])
 rw[this,Co.css,List.any_map]
 congr 4
 have:∀l:List Co,(∀x∈l,q x.cs=p x)->l.any (q ∘ Co.cs)=l.any p:=by
  intro l
  induction l with
  |nil=>intro _;rfl
  |cons a l ih=>intro h;simp[h a (by simp),ih fun x hx=>h x (by simp[hx])]
 exact this ks hq
theorem zun(l:List Co)(hlen:l.length<=140737488355328)(hl:∀c∈l,c.ok)(p:Int)(H:List AO):F zg0 [.sl (Co.css l),.int .i64 p] H=some (.ret (.bool (zdt l p)),H):=by
 have h3:=yjd l hlen (.fn (.func zf0) [] [.ptr H.length 0]) (fun c=>!zxf p c) (H++[.box [.int .i64 p]]) (fun x hx=>by
  obtain⟨ha,hb⟩:=hl x hx;have r1:=fun H=>zgq x.a ha p 0 H
  have r2:=fun H=>zgq x.b hb p 0 H
  simp only[zgo,List.cons_append,List.nil_append];show F zf0 _ _=_;rw[zvw];unfold zxf;rcases x with⟨⟨k,n,ks⟩,⟨k2,n2,ks2⟩⟩;simp only[Co.a,Co.b,Lv.cs]at r1 r2
  cases h1:zax (.mk k n ks) p 0 <;> cases h2:zax (.mk k2 n2 ks2) p 0 <;> simp only[h1,h2]at r1 r2 <;>
   simp only[↓reduceIte,go_sem,Co.cs,Co.a,Co.b,Lv.cs,r1,r2,h1,h2,Bool.and_self,Bool.and_false,Bool.false_and,Bool.and_true])
 rw[<- List.not_all_eq_any_not]at h3;rw[zzm,zdt];simp only[↓reduceIte,go_sem,h3]
 cases h:l.all (zxf p)
 all_goals (simp[h];try grind)
theorem yen(d:De)(hd:d.ok)(a:Int)(H:List AO):F zmw [.agg d.cs,.int .i64 a] H=some (.ret (.bool (yem d a)),H):=by
 rcases d with⟨p,cons,t,has,v⟩;obtain⟨h1,h2,h3,h4⟩:=hd;simp only[De.cons,De.type,De.value]at h1 h2 h3 h4;have r1:=fun H=>zr4 cons h1 h2 p H
 have r2:=fun H=>zg7 t h3 0 p 0 H
 have r3:=fun (h:zc6 t 0 p 0=true) H=>zya t h3 (zpq h) a H
 have r4:=fun H=>zg7 v h4 0 p 0 H
 have r5:=fun (h:zc6 v 0 p 0=true) H=>zya v h4 (zpq h) a H
 have r6:=fun H=>ybg v h4 zeroT H
 rw[z2w,yem];simp only[De.cons,De.type,De.value,De.p,De.has,mayT];rcases t with⟨k,n,ls,ks⟩;rcases v with⟨k2,n2,ls2,ks2⟩;simp only[Te.cs,zeroT,Lv.css,Te.css]at r6;simp only[Te.cs]at r2 r3 r4 r5
 cases e1:zdt cons p
 ·simp only[↓reduceIte,go_sem,De.cs,De.cons,De.type,De.value,De.p,De.has,Te.cs,List.cons_append,List.nil_append,r1,e1,Bool.false_and]
 cases e2:zc6 (.mk k n ls ks) 0 p 0
 ·simp only[↓reduceIte,go_sem,De.cs,De.cons,De.type,De.value,De.p,De.has,Te.cs,List.cons_append,List.nil_append,r1,r2,e1,e2,Bool.false_and,Bool.and_false]
 have r3:=r3 e2
 cases e3:(zfy (.mk k n ls ks)).all fun n=>decide (n<a)
 ·simp only[↓reduceIte,go_sem,De.cs,De.cons,De.type,De.value,De.p,De.has,Te.cs,List.cons_append,List.nil_append,r1,r2,r3,e1,e2,e3,Bool.false_and,Bool.and_false]
 cases has
 ·simp only[↓reduceIte,go_sem,De.cs,De.cons,De.type,De.value,De.p,De.has,Te.cs,List.cons_append,List.nil_append,r1,r2,r3,e1,e2,e3,r6,zeroT,Bool.false_and,Bool.and_false,Bool.true_and,Bool.and_true,Bool.false_eq_true]
 cases e4:zc6 (.mk k2 n2 ls2 ks2) 0 p 0
 ·simp only[↓reduceIte,go_sem,De.cs,De.cons,De.type,De.value,De.p,De.has,Te.cs,List.cons_append,List.nil_append,r1,r2,r3,r4,e1,e2,e3,e4,Bool.false_and,Bool.and_false,Bool.true_and,Bool.and_true]
 have r5:=r5 e4;simp only[↓reduceIte,go_sem,De.cs,De.cons,De.type,De.value,De.p,De.has,Te.cs,List.cons_append,List.nil_append,r1,r2,r3,r4,r5,e1,e2,e3,e4,Bool.false_and,Bool.and_false,Bool.true_and,Bool.and_true]
def zty(env:List De):Prop:=env.length<=140737488355328/\∀d∈env,d.ok
theorem z98(env:List De)(he:zty env)(H:List AO):F zk7 [.sl (De.css env)] H=some (.ret (.bool (zqp env)),H):=by
 obtain⟨hlen,hd⟩:=he;have loop:∀(suf pre:List De),env=pre++suf->zh2 H H (.sl (De.css env)) (.int .i64 pre.length)=some (.ret (.bool (zto suf pre.length && decide (env.length<=20))),H):=by
  intro suf
  induction suf with
  |nil=>
   intro pre e;rw[List.append_nil]at e;subst e;rw[zh2,zab,zto];simp only[↓reduceIte,go_sem,Bool.true_and]
   congr 4
   rw[Bool.eq_iff_iff];simp;omega
  |cons x suf ih=>
   intro pre e;have:=ih (pre++[x]) (by rw[e];simp)
   simp only[zaf]at this;have hg:env[pre.length]?=some x:=by rw[e];simp
   have hp:(pre.length:Int)<(env.length:Int):=by rw[e];simp;omega
   have hr:=fun H=>yen x (hd x (by rw[e];simp)) pre.length H
   rw[zh2,zab,zto]
   cases h1:yem x pre.length <;> simp only[h1]at hr <;>
    simp only[↓reduceIte,go_sem,hp,hg,hr,zac (n:=pre.length) (by omega),this,Bool.true_and,Bool.false_and]
 have:=loop env [] rfl;simp only[List.length_nil,Int.natCast_zero]at this;rw[zzw,zqp];simp only[↓reduceIte,go_sem,this]
theorem z97(env:List De)(he:zty env)(H:List AO):F zjm [.sl (De.css env)] H=some (.ret (.bool (zqp env)),H):=by
 obtain⟨hlen,hd⟩:=he;have loop:∀(suf pre:List De),env=pre++suf->zgy H H (.sl (De.css env)) (.sl (De.css env)) (.int .i64 env.length) (.int .i64 pre.length)=some (.ret (.bool (zto suf pre.length && decide (env.length<=20))),H):=by
  intro suf
  induction suf with
  |nil=>
   intro pre e;rw[List.append_nil]at e;subst e;rw[zgy,zab,zto];simp only[↓reduceIte,go_sem,Bool.true_and]
   congr 4
   rw[Bool.eq_iff_iff];simp;omega
  |cons x suf ih=>
   intro pre e;have:=ih (pre++[x]) (by rw[e];simp)
   simp only[zaf]at this;have hg:env[pre.length]?=some x:=by rw[e];simp
   have hp:(pre.length:Int)<(env.length:Int):=by rw[e];simp;omega
   obtain⟨q1,q2,q3,q4⟩:=hd x (by rw[e];simp)
   have r1:=fun H=>zun x.cons q1 q2 x.p H
   have r2:=fun H=>yku x.type q3 x.p pre.length H
   have r3:=fun H=>yku x.value q4 x.p pre.length H
   have r4:=fun H=>ybe x.value q4 zeroT H
   simp only[zeroT,Te.cs,Lv.css,Te.css]at r4;rw[zgy,zab,zto,yem]
   cases e1:zdt x.cons x.p <;> cases e2:mayT x.type x.p pre.length <;> cases e0:x.has <;> cases e3:mayT x.value x.p pre.length <;> cases e4:teEq x.value (.mk 0 0 [] []) <;> simp only[e1,e2,e3,e4]at r1 r2 r3 r4 <;>
    simp only[↓reduceIte,go_sem,hp,hg,r1,r2,r3,r4,e0,zeroT,e1,e2,e3,e4,zac (n:=pre.length) (by omega),this,Bool.true_and,Bool.false_and,Bool.and_false,Bool.and_true,Bool.false_eq_true]
 have:=loop env [] rfl;simp only[List.length_nil,Int.natCast_zero]at this;rw[zw2,zqp];simp only[↓reduceIte,go_sem,this]
end Go.Ab
end
