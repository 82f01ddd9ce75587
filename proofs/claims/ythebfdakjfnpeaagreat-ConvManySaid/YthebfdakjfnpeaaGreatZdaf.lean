/- What the law ConvMany of layer 17 comes to, part 6. Conditions: none. -/
import Derived.Test.YthebfdakjfnpeaaGreatZdae
import Derived.Attr
section
set_option linter.unusedVariables false
set_option linter.unusedSimpArgs false
namespace Go.Ab
open Go.RowKit
variable {CC : zee} {Q : Out → St → Prop} {σ : St}
@[go_sem] theorem awp_skip:awp CC .skip Q σ=Q .normal σ:=rfl
@[go_sem] theorem awp_reg(is:List AI):awp CC (.reg is) Q σ=awr CC is Q σ:=rfl
@[go_sem] theorem awp_seq(a b:AC):awp CC (.seq a b) Q σ=awp CC a (ztp (awp CC b Q) Q) σ:=rfl
@[go_sem] theorem awp_cond(x:AX)(a b:AC):awp CC (.cond x a b) Q σ=match σ.a x with
  |some (.bool p)=>if p=true then awp CC a Q σ else awp CC b Q σ
  |_=>False:=rfl
@[go_sem] theorem awp_block(id:Nat)(c:AC):awp CC (.block id c) Q σ=awp CC c (blk id Q) σ:=rfl
@[go_sem] theorem awp_exit(id:Nat):awp CC (.exit id) Q σ=Q (.exit id) σ:=rfl
@[go_sem] theorem awp_ret:awp CC .ret Q σ=Q .ret σ:=rfl
@[go_sem] theorem awr_nil:awr CC [] Q σ=Q .normal σ:=rfl
@[go_sem] theorem awr_O(d:Nat)(o:AOp)(r:List AI):awr CC (O d o::r) Q σ=match evo d o σ with
  |some (x,σ')=>awr CC r Q { σ' with t:=σ'.t.set d x }
  |none=>False:=rfl
@[go_sem] theorem awr_Og(d j:Nat)(w:Bool)(o:AOp)(r:List AI):awr CC (Og d j w o::r) Q σ=match tg j σ.t.l with
  |.v (.bool b)=>if b=w then (match evo d o { σ with t:=σ.t.set j (.v (.bool w)) } with
    |some (x,σ')=>awr CC r Q { σ' with t:=σ'.t.set d x }
    |none=>False) else awr CC r Q { σ with t:=(σ.t.set j (.v (.bool (!w)))).set d .und }
  |.und=>awr CC r Q { σ with t:=σ.t.set d .und }
  |_=>False:=rfl
@[go_sem] theorem awr_C(d:Nat)(f:AX)(l:List AX)(r:List AI):awr CC (C d f l::r) Q σ=match σ.a f,σ.as l with
  |some c,some as'=>CC c as' σ.h (yj6 (awr CC r Q) Q (some d) σ)
  |_,_=>False:=rfl
@[go_sem] theorem runI_o(d:Option Nat)(o:AOp)(g:Option (Nat×Bool))(af:List Nat)(k:St->Prop):zwi CC ⟨d,.o o,g,af⟩ k Q σ=match evo (d.getD 0) o σ with
  |some (x,σ')=>k (σ'.put d x)
  |none=>False:=rfl
@[go_sem] theorem runI_fo(d:Option Nat)(o:AOp)(g:Option (Nat×Bool))(af:List Nat)(k:St->Prop):zwi CC ⟨d,.fo o,g,af⟩ k Q σ=match evo (d.getD 0) o σ with
  |some (.v a,σ')=>match zxm 0 a σ'.h with
   |(a',h')=>k ({ σ' with h:=h' }.put d (.v a'))
  |_=>False:=rfl
@[go_sem] theorem runI_c(d:Option Nat)(f:AX)(l:List AX)(g:Option (Nat×Bool))(af:List Nat)(k:St->Prop):zwi CC ⟨d,.call f l,g,af⟩ k Q σ=match σ.a f,σ.as l with
  |some c,some as'=>CC c as' σ.h (yj6 k Q d σ)
  |_,_=>False:=rfl
@[go_sem] theorem runI_p(d:Option Nat)(x:AX)(g:Option (Nat×Bool))(af:List Nat)(k:St->Prop):zwi CC ⟨d,.pan x,g,af⟩ k Q σ=match σ.a x with
  |some (.iface t v)=>Q (.pan (.iface t v)) σ
  |_=>False:=rfl
@[go_sem] theorem x_t(i:Nat):σ.x (.t i)=tg i σ.t.l:=rfl
@[go_sem] theorem x_c(a:AV):σ.x (.c a) = .v a:=rfl
@[go_sem] theorem x_N(n:Int):σ.x (N n) = .v (.int .i64 n):=rfl
@[go_sem] theorem x_B(b:Bool):σ.x (B b) = .v (.bool b):=rfl
@[go_sem] theorem rd_one(a:AV)(r:List AV):rd 1 false (a::r)=some (.v a):=by simp[rd]
theorem zm8{n:Nat}{cs:List AV}(h:cs.length=n):rd n true cs=some (.v (.agg cs)):=by simp[rd,<- h]
@[go_sem] theorem rd_lit(n:Nat)(a:AV)(r:List AV):rd n true (a::r)=if n<=(a::r).length then some (.v (.agg ((a::r).take n))) else none:=rfl
@[go_sem] theorem elemsH_sl(h:List AO)(es:List (List AV)):zjw h (.sl es)=some es:=rfl
@[go_sem] theorem elemsH_ze(h:List AO):zjw h .ze=some []:=rfl
@[go_sem] theorem elemsH_nils(h:List AO)(n:Nat):zjw h (.nils n)=some []:=rfl
@[go_sem] theorem elemsH_ol(h:List AO)(id ver:Nat):zjw h (.ol id ver)=match h[id]? with
  |some (.lst v _ es)=>if v=ver then some es else none
  |_=>none:=rfl
@[go_sem] theorem elemsH_ov(h:List AO)(id ver sz lo n:Nat):zjw h (.ov id ver sz lo n)=match h[id]? with
  |some (.lst v sz' es)=>if v=ver/\sz' = sz/\lo+n<=es.length then some ((es.take (lo+n)).drop lo) else none
  |_=>none:=rfl
attribute [go_sem] evX bitI eqI z81 z94 zyx zua ltL zde zoh evo ztp blk St.a TV.av St.put List.map List.replicate_succ List.replicate_zero List.cons_append List.nil_append List.length_cons List.length_nil tg ini binI List.set_cons_zero List.set_cons_succ Option.getD_some Option.getD_none decide_eq_true_eq decide_eq_false_iff_not Bool.not_eq_eq_eq_not Bool.not_true Bool.not_false Bool.not_not St.as zjj yjf fin zi6 z0y zr8 zuc zxm z42 LtR zb5 put noz over AV.cellsN AV.cells AV.one zwk zwl elems Nat.reduceAdd Nat.reduceSub Nat.reduceLeDiff Nat.reduceLT Nat.reduceEqDiff Nat.reduceBEq Int.reduceEq Int.reduceLT Int.reduceLE Int.reduceAdd Int.reduceSub Bool.true_eq_false Bool.false_eq_true forall_const false_implies true_implies and_true true_and and_false false_and List.drop_zero List.drop_succ_cons List.take_succ_cons List.take_zero List.all_cons List.all_nil decide_true decide_false Bool.and_true Bool.true_and Bool.and_self Bool.and_false Bool.false_and List.not_mem_nil List.nodup_nil not_false_eq_true
@[go_sem] theorem fin2_pan{H:List AO}{Post:Res->List AO->Prop}{rs:List RS}{σ:St}{v:AV}:fin2 H Post rs (.pan v) σ=yds H Post (.pan v) σ.h:=rfl
theorem yhs{H X:List AO}{Post:Res->List AO->Prop}{r:Res}:yds H Post r (H++X)=(LtR H.length r/\Post r H):=by
 unfold yds;rw[List.take_left']
 ·apply propext
  refine⟨fun h=>⟨h.1,h.2.2⟩,fun h=>⟨h.1,fun id o ho hi=>.inl ?_,h.2⟩⟩
  rw[List.getElem?_append_left hi]at ho;exact ho
 ·rfl
@[go_sem] theorem lt_int{n:Nat}{k:IntKind}{m:Int}:Lt n (.int k m)=True:=eq_true (.int k m)
@[go_sem] theorem lt_bool{n:Nat}{b:Bool}:Lt n (.bool b)=True:=eq_true (.bool b)
@[go_sem] theorem lt_tup{n:Nat}{l:List AV}:Lt n (.tup l)=∀a∈l,Lt n a:=propext ⟨fun h=>by cases h;assumption,.tup⟩
@[go_sem] theorem lt_agg{n:Nat}{l:List AV}:Lt n (.agg l)=∀a∈l,Lt n a:=propext ⟨fun h=>by cases h;assumption,.agg⟩
@[go_sem] theorem lt_sl{n:Nat}{es:List (List AV)}:Lt n (.sl es)=∀a∈es.flatten,Lt n a:=propext ⟨fun h=>by cases h;assumption,.sl⟩
@[go_sem] theorem ball_cons{α:Type}{p:α->Prop}{a:α}{l:List α}:(∀x∈a::l,p x)=(p a/\∀x∈l,p x):=by simp
@[go_sem] theorem set_mk(n i:Nat)(l:List (Nat×TV))(x:TV):Ts.set ⟨n,l⟩ i x=if i<n then ⟨n,(i,x)::l⟩ else ⟨n,l⟩:=rfl
def WkT(l:List (Nat×TV)):List (Nat×TV)->Prop
 |[]=>True
 |(i,x)::r=>tg i l=x/\WkT l r
def LiveT(ls:List (Nat×List AV)):List (Nat×TV)->Prop
 |[]=>True
 |(_,.lp d _)::t=>zb5 d ls≠none/\LiveT ls t
 |_::t=>LiveT ls t
attribute [go_sem] WkT LiveT List.foldl_cons List.foldl_nil true_or or_true
theorem zam{n:Int}(h1:-9223372036854775808<=n)(h2:n<9223372036854775808):IntKind.wrap .i64 n=n:=by
 simp only[IntKind.wrap,IntKind.bits,IntKind.signed]
 first|omega|(split <;> omega)|(simp;omega)
attribute [go_sem] yj6
end Go.Ab
set_option linter.unusedVariables false
set_option linter.unusedSimpArgs false
namespace Go.Ab
def as2(X:AX->TV):List AX->Option (List AV)
 |[]=>some []
 |x::r=>match (X x).av with
  |some a=>match as2 X r with
   |some l=>some (a::l)
   |none=>none
  |none=>none
def zo4(X:AX->TV):List AV->List (Nat×Nat×AX)->Option (List AV)
 |z,[]=>some z
 |z,(off,sz,x)::r=>match (X x).av with
  |some a=>match a.cellsN sz with
   |some cs=>if off+sz<=z.length then zo4 X (over z off cs) r else none
   |none=>none
  |none=>none
def zo6(X:AX->TV)(sz:Nat):List (List AV)->List (Nat×AX)->Option (List (List AV))
 |z,[]=>some z
 |z,(i,x)::r=>match (X x).av with
  |some a=>match a.cellsN sz with
   |some cs=>if i<z.length then zo6 X sz (z.set i cs) r else none
   |none=>none
  |none=>none
def zvv(h:List AO):AV->Option (List (List AV))
 |.sl es=>some es
 |.nils _=>some []
 |.ol id ver=>match h[id]? with
  |some (.lst v _ es)=>if v=ver then some es else none
  |_=>none
 |.ze=>some []
 |.ov id ver sz lo n=>match h[id]? with
  |some (.lst v sz' es)=>if v=ver/\sz' = sz/\lo+n<=es.length then some ((es.take (lo+n)).drop lo) else none
  |_=>none
 |_=>none
theorem z7p(σ:St):∀l,σ.as l=as2 σ.x l
 |[]=>rfl
 |x::r=>by simp only[St.as,as2,z7p σ r];rfl
theorem z2a(σ:St):∀(l:List (Nat×Nat×AX)) (z:List AV),zwk σ z l=zo4 σ.x z l
 |[],z=>rfl
 |(off,sz,x)::r,z=>by
  simp only[zwk,zo4,St.a]
  cases (σ.x x).av with
  |none=>rfl
  |some a=>
   dsimp only
   cases a.cellsN sz with
   |none=>rfl
   |some cs=>dsimp only;rw[z2a σ r]
theorem z2c(σ:St)(sz:Nat):∀(l:List (Nat×AX)) (z:List (List AV)),zwl σ sz z l=zo6 σ.x sz z l
 |[],z=>rfl
 |(i,x)::r,z=>by
  simp only[zwl,zo6,St.a]
  cases (σ.x x).av with
  |none=>rfl
  |some a=>
   dsimp only
   cases a.cellsN sz with
   |none=>rfl
   |some cs=>dsimp only;rw[z2c σ sz r]
theorem z25(σ:St)(a:AV):elems σ a=zvv σ.h a:=by cases a <;> rfl
def zdg(d:Nat)(o:AOp)(X:AX->TV)(L:Nat->Option (List AV))(h:List AO):Option (TV×Option (Bool×Nat×List AV)×List AO) :=
 match o with
 |.mv x=>some (X x,none,h)
 |.mvO sz=>some (.v (.ol h.length 0),(none,h++[.lst 0 sz []]))
 |.pick c a b=>match (X c).av with
  |some (.bool p)=>match p with
   |true=>some (X a,none,h)
   |false=>some (X b,none,h)
  |_=>none
 |.alc z=>match L d with
  |none=>some (.lp d 0,(some (true,d,noz z),h))
  |some _=>none
 |.alcO z=>match L d with
  |none=>match ztq z h with
   |(cs,h')=>some (.lp d 0,(some (true,d,cs),h'))
  |some _=>none
 |.alcH z=>some (.v (.ptr h.length 0),(none,h++[.box (noz z)]))
 |.alcHO z=>match ztq z h with
  |(cs,h')=>some (.v (.ptr h'.length 0),(none,h' ++ [.box cs]))
 |.bx x=>match L d with
  |none=>match (X x).av with
   |some a=>match a.cellsN a.cells.length with
    |some cs=>some (.lp d 0,(some (true,d,cs),h))
    |none=>none
   |none=>none
  |some _=>none
 |.bxH x=>match (X x).av with
  |some a=>match a.cellsN a.cells.length with
   |some cs=>some (.v (.ptr h.length 0),(none,h++[.box cs]))
   |none=>none
  |none=>none
 |.bxF x=>match (X x).av with
  |some a=>match a.cellsN a.cells.length with
   |some cs=>some (.v (.fp cs),none,h)
   |none=>none
  |none=>none
 |.bld z ps=>match zo4 X (noz z) ps with
  |some cs=>some (.v (.agg cs),none,h)
  |none=>none
 |.bldO z ps=>match ztq z h with
  |(cs,h')=>match zo4 X cs ps with
   |some cs=>some (.v (.agg cs),(none,h'))
   |none=>none
 |.bsl sz n z ps=>match zo6 X sz (List.replicate n (noz z)) ps with
  |some es=>if (noz z).length=sz/\0<sz/\n<=1024/\sz<=1024 then some (.v (.sl es),none,h) else none
  |none=>none
 |.bslO sz n z ps=>match zo6 X sz (List.replicate n (noz z)) ps with
  |some es=>if (noz z).length=sz/\0<sz/\n<=1024/\sz<=1024 then some (.v (.ol h.length 0),(none,h++[.lst 0 sz es])) else none
  |none=>none
 |.ld n ag a=>match X a with
  |.lp k off=>match L k with
   |some cs=>match rd n ag (cs.drop off) with
    |some x=>some (x,none,h)
    |none=>none
   |none=>none
  |.ep cs|.v (.fp cs)=>match rd n ag cs with
   |some x=>some (x,none,h)
   |none=>none
  |.v (.ptr id off)=>match h[id]? with
   |some (.box cs)=>match rd n ag (cs.drop off) with
    |some x=>some (x,none,h)
    |none=>none
   |_=>none
  |.op id ver sz i off=>match h[id]? with
   |some (.lst v sz' es)=>if v=ver/\sz' = sz then match es[i]? with
    |some e=>match rd n ag (e.drop off) with
     |some x=>some (x,none,h)
     |none=>none
    |none=>none
    else none
   |_=>none
  |_=>none
 |.ldl n ag a=>match X a with
  |.lp k off=>match L k with
   |some cs=>match rd n ag (cs.drop off) with
    |some x=>some (x,none,h)
    |none=>none
   |none=>none
  |_=>none
 |.ldz n ag a=>match X a with
  |.lp k off=>match L k with
   |some cs=>match zuc 0 cs h with
    |(cs',h')=>match rd n ag (cs'.drop off) with
     |some x=>some (x,some (false,k,cs'),h')
     |none=>none
   |none=>none
  |_=>none
 |.st n a x=>match (X x).av with
  |some y=>match y.cellsN n with
   |some cs=>match X a with
    |.lp k off=>match L k with
     |some c0=>if off+n<=c0.length then some (.junk,(some (false,k,over c0 off cs),h)) else none
     |none=>none
    |.v (.ptr id off)=>match h[id]? with
     |some (.box c0)=>if off+n<=c0.length then some (.junk,(none,h.set id (.box (over c0 off cs)))) else none
     |_=>none
    |.op id ver sz i off=>match h[id]? with
     |some (.lst v sz' es)=>if v=ver/\sz' = sz then match es[i]? with
      |some e=>if off+n<=e.length then some (.junk,(none,h.set id (.lst v sz (es.set i (over e off cs))))) else none
      |none=>none
      else none
     |_=>none
    |_=>none
   |none=>none
  |none=>none
 |.nilc x=>match X x with
  |.v (.ptr id off)=>some (.v (.ptr id off),none,h)
  |.v (.fp cs)=>some (.v (.fp cs),none,h)
  |.lp k off=>some (.lp k off,none,h)
  |.v (.fn f a c)=>match f with
   |.method _=>none
   |f=>some (.v (.fn f a c),none,h)
  |_=>none
 |.bin op x y=>match (X x).av,(X y).av with
  |some (.int k a),some (.int k' b)=>if k=k' then match binI op k a b with
   |some r=>some (.v r,none,h)
   |none=>none
   else none
  |_,_=>none
 |.eqb neg x y=>match (X x).av,(X y).av with
  |some (.bool a),some (.bool b)=>some (.v (.bool (if neg then !(a == b) else a == b)),none,h)
  |_,_=>none
 |.not x=>match (X x).av with
  |some (.bool b)=>some (.v (.bool (!b)),none,h)
  |_=>none
 |.cv k x=>match (X x).av with
  |some (.int _ n)=>some (.v (.int k (k.wrap n)),none,h)
  |_=>none
 |.fa off x=>match X x with
  |.lp k o=>some (.lp k (o+off),none,h)
  |.ep cs=>some (.ep (cs.drop off),none,h)
  |.v (.fp cs)=>some (.v (.fp (cs.drop off)),none,h)
  |.v (.ptr id o)=>some (.v (.ptr id (o+off)),none,h)
  |.op id ver sz i o=>some (.op id ver sz i (o+off),none,h)
  |_=>none
 |.fld off n ag x=>match (X x).av with
  |some (.agg cs)=>match rd n ag (cs.drop off) with
   |some r=>some (r,none,h)
   |none=>none
  |_=>none
 |.ia sz x i=>match (X i).av with
  |some (.int _ n)=>match (X x).av with
   |some (.sl es)=>if 0<=n then match es[n.toNat]? with
    |some e=>if e.length=sz then some (.ep e,none,h) else none
    |none=>none
    else none
   |some (.ol id ver)=>match h[id]? with
    |some (.lst v sz' es)=>if v=ver/\sz' = sz/\0<=n/\n.toNat<es.length then some (.op id ver sz n.toNat 0,none,h) else none
    |_=>none
   |some (.ov id ver sz2 lo m)=>match h[id]? with
    |some (.lst v sz' es)=>if v=ver/\sz' = sz/\sz2=sz/\0<=n/\n.toNat<m/\lo+m<=es.length then some (.op id ver sz (lo+n.toNat) 0,none,h) else none
    |_=>none
   |_=>none
  |_=>none
 |.lk ok z x i=>match (X i).av with
  |some (.int k n)=>match (match (X x).av with
    |some (.fmap es)=>some es
    |some (.mp id)=>match h[id]? with
     |some (.mapo es)=>some es
     |_=>none
    |_=>none) with
   |some es=>if zmh k es then match zgq n es with
    |some (some v)=>some (.v (if ok then .tup [v,.bool true] else v),none,h)
    |some none=>some (.v (if ok then .tup [z,.bool false] else z),none,h)
    |none=>none
    else none
   |none=>none
  |_=>none
 |.ins m k v=>match (X m).av,(X k).av,(X v).av with
  |some (.mp id),some (.int k n),some y=>match h[id]? with
   |some (.mapo es)=>if zmh k es then match zgq n es with
    |some none=>some (.junk,(none,h.set id (.mapo (es++[(.int k n,y)]))))
    |_=>none
    else none
   |_=>none
  |_,_,_=>none
 |.ext x i=>match (X x).av with
  |some (.tup vs)=>match vs[i]? with
   |some a=>some (.v a,none,h)
   |none=>none
  |_=>none
 |.len x=>match (X x).av with
  |some a=>match zvv h a with
   |some es=>some (.v (.int .i64 (es.length:Int)),none,h)
   |none=>none
  |none=>none
 |.app sz x y=>match (X x).av,(X y).av with
  |some (.ol id ver),some b=>match h[id]?,zvv h b with
   |some (.lst v sz' es),some fs=>
    if v=ver/\sz' = sz/\0<sz/\sz<=1024/\es.length+fs.length<=1073741824/\(∀e∈fs,e.length=sz) then
     some (.v (.ol id (ver+1)),(none,h.set id (.lst (ver+1) sz (es++fs)))) else none
   |_,_=>none
  |some .ze,some b=>match zvv h b with
   |some fs=>match fs with
    |[]=>some (.v .ze,none,h)
    |f::fs=>if 0<sz/\sz<=1024/\fs.length<1073741824/\(∀e∈f::fs,e.length=sz) then
      some (.v (.ol h.length 0),(none,h++[.lst 0 sz (f::fs)])) else none
   |none=>none
  |_,_=>none
 |.mx x y=>match (X x).av,(X y).av with
  |some (.int k a),some (.int k' b)=>if k=k' then some (.v (.int k (if b > a then b else a)),none,h) else none
  |_,_=>none
 |.mkf f first cap=>match as2 X first,as2 X cap with
  |some a,some b=>some (.v (.fn f a b),none,h)
  |_,_=>none
 |.mkm=>some (.v (.mp h.length),(none,h++[.mapo []]))
 |.mks sz z l=>match (X l).av with
  |some (.int _ n)=>if 0<=n/\n<=1073741824/\(noz z).length=sz/\0<sz/\sz<=1024 then
    some (.v (.ol h.length 0),(none,h++[.lst 0 sz (List.replicate n.toNat (noz z))])) else none
  |_=>none
 |.mkz sz z l=>match (X l).av with
  |some (.int _ n)=>if 0<=n/\n<=1073741824/\(noz z).length=sz/\0<sz/\sz<=1024 then
    some (.v (.sl (List.replicate n.toNat (noz z))),none,h) else none
  |_=>none
 |.slc sz x lo hi=>match (X x).av with
  |some (.sl es)=>match (match lo with|none=>some (0:Int)|some y=>match (X y).av with|some (.int _ n)=>some n|_=>none),
       (match hi with|none=>some (es.length:Int)|some y=>match (X y).av with|some (.int _ n)=>some n|_=>none) with
   |some l,some u=>if 0<=l/\l<=u/\u<=es.length/\(∀e∈es,e.length=sz) then some (.v (.sl ((es.take u.toNat).drop l.toNat)),none,h) else none
   |_,_=>none
  |some (.ol id ver)=>match lo,hi with
   |none,some y=>match (X y).av,h[id]? with
    |some (.int _ n),some (.lst v sz' es)=>if v=ver/\sz' = sz/\0<sz/\0<=n/\n<=es.length then
      some (.v (.ol id (ver+1)),(none,h.set id (.lst (ver+1) sz (es.take n.toNat)))) else none
    |_,_=>none
   |_,_=>none
  |some .ze=>match lo,hi with
   |none,some y=>match (X y).av with
    |some (.int _ n)=>if n=0 then some (.v .ze,none,h) else none
    |_=>none
   |_,_=>none
  |_=>none
 |.ifc t x=>match (X x).av with
  |some a=>some (.v (.iface t a),none,h)
  |none=>none
 |.cap x=>match (X x).av with
  |some .ze=>some (.v (.int .i64 0),none,h)
  |_=>none
 |.slz x=>match (X x).av with
  |some a=>match zvv h a with
   |some _=>some (.v .ze,none,h)
   |none=>none
  |none=>none
 |.apz sz z x l=>match (X x).av,(X l).av with
  |some .ze,some (.int _ n)=>if 0<n/\n<=1073741824/\(noz z).length=sz/\0<sz/\sz<=1024 then
    some (.v (.ol h.length 0),(none,h++[.lst 0 sz (List.replicate n.toNat (noz z))])) else none
  |_,_=>none
 |.ldh n ag a=>match X a with
  |.v (.ptr id off)=>match h[id]? with
   |some (.box cs)=>match rd n ag (cs.drop off) with
    |some x=>some (x,none,h)
    |none=>none
   |_=>none
  |_=>none
 |.stl n a x=>match (X x).av with
  |some y=>match y.cellsN n with
   |some cs=>match X a with
    |.lp k off=>match L k with
     |some c0=>if off+n<=c0.length then some (.junk,(some (false,k,over c0 off cs),h)) else none
     |none=>none
    |_=>none
   |none=>none
  |none=>none
 |.sto n a x=>match (X x).av with
  |some y=>match y.cellsN n with
   |some cs=>match X a with
    |.op id ver sz i off=>match h[id]? with
     |some (.lst v sz' es)=>if v=ver/\sz' = sz then match es[i]? with
      |some e=>if off+n<=e.length then some (.junk,(none,h.set id (.lst v sz (es.set i (over e off cs))))) else none
      |none=>none
      else none
     |_=>none
    |_=>none
   |none=>none
  |none=>none
 |.stp n a x=>match (X x).av with
  |some y=>match y.cellsN n with
   |some cs=>match X a with
    |.v (.ptr id off)=>match h[id]? with
     |some (.box c0)=>if off+n<=c0.length then some (.junk,(none,h.set id (.box (over c0 off cs)))) else none
     |_=>none
    |_=>none
   |none=>none
  |none=>none
 |.iao sz x i=>match (X i).av with
  |some (.int _ n)=>match (X x).av with
   |some (.ol id ver)=>match h[id]? with
    |some (.lst v sz' es)=>if v=ver/\sz' = sz/\0<=n/\n.toNat<es.length then some (.op id ver sz n.toNat 0,none,h) else none
    |_=>none
   |_=>none
  |_=>none
 |.xo o l=>match evX o (l.map X) h with
  |some (x,h)=>some (x,none,h)
  |none=>none
def ape:Option (Bool×Nat×List AV)->List (Nat×List AV)->List (Nat×List AV)
 |none,ls=>ls
 |some (true,k,c),ls=>(k,c)::ls
 |some (false,k,c),ls=>put k c ls
def AOp.axs:AOp->List AX
 |.mv x|.bx x|.bxH x|.bxF x|.nilc x|.not x|.cv _ x|.fa _ x|.fld _ _ _ x|.ext x _|.len x|.mks _ _ x|.mkz _ _ x|.ifc _ x|.ld _ _ x|.ldl _ _ x|.ldz _ _ x|.cap x|.slz x|.ldh _ _ x=>[x]
 |.mvO _|.alc _|.alcO _|.alcH _|.alcHO _|.mkm=>[]
 |.pick a b c|.ins a b c=>[a,b,c]
 |.bld _ ps|.bldO _ ps=>ps.map (·.2.2)
 |.bsl _ _ _ ps|.bslO _ _ _ ps=>ps.map (·.2)
 |.st _ x y|.bin _ x y|.eqb _ x y|.ia _ x y|.lk _ _ x y|.app _ x y|.mx x y|.apz _ _ x y|.stl _ x y|.sto _ x y|.stp _ x y|.iao _ x y=>[x,y]
 |.mkf _ a b=>a++b
 |.slc _ x lo hi=>x::(lo.toList++hi.toList)
 |.xo _ l=>l
theorem evo_eq(d:Nat)(op:AOp)(σ:St):evo d op σ=(zdg d op σ.x (fun k=>zb5 k σ.ls) σ.h).map fun r=>(r.1,{ σ with ls:=ape r.2.1 σ.ls,h:=r.2.2 }):=by
 cases op with
 |ld n ag a=>
  simp only[evo,zdg]
  cases σ.x a with
  |lp k off=>
   dsimp only
   cases zb5 k σ.ls with
   |none=>rfl
   |some cs=>dsimp only;cases rd n ag (cs.drop off) <;> rfl
  |ep cs=>dsimp only;cases rd n ag cs <;> rfl
  |v y=>
   cases y with
   |ptr id off=>
    dsimp only
    cases σ.h[id]? with
    |none=>rfl
    |some o=>
     cases o with
     |box cs=>dsimp only;cases rd n ag (cs.drop off) <;> rfl
     |_=>rfl
   |fp cs=>dsimp only;cases rd n ag cs <;> rfl
   |_=>rfl
  |op id ver sz i off=>
   dsimp only
   cases σ.h[id]? with
   |none=>rfl
   |some o=>
    cases o with
    |lst v sz' es=>
     dsimp only
     split
     ·cases es[i]? with
      |none=>rfl
      |some e=>dsimp only;cases rd n ag (e.drop off) <;> rfl
     ·rfl
    |_=>rfl
  |junk=>rfl
  |und=>rfl
 |ldl n ag a=>
  simp only[evo,zdg]
  cases σ.x a with
  |lp k off=>
   dsimp only
   cases zb5 k σ.ls with
   |none=>rfl
   |some cs=>dsimp only;cases rd n ag (cs.drop off) <;> rfl
  |_=>rfl
 |ldz n ag a=>
  simp only[evo,zdg]
  cases σ.x a with
  |lp k off=>
   dsimp only
   cases zb5 k σ.ls with
   |none=>rfl
   |some cs=>dsimp only;cases rd n ag (List.drop off (zuc 0 cs σ.h).1) <;> rfl
  |_=>rfl
 |st n a x=>
  simp only[evo,zdg,St.a]
  cases (σ.x x).av with
  |none=>rfl
  |some y=>
   dsimp only
   cases y.cellsN n with
   |none=>rfl
   |some cs=>
    dsimp only
    cases σ.x a with
    |lp k off=>
     dsimp only
     cases zb5 k σ.ls with
     |none=>rfl
     |some c0=>dsimp only;split <;> rfl
    |v y=>
     cases y with
     |ptr id off=>
      dsimp only
      cases σ.h[id]? with
      |none=>rfl
      |some o=>
       cases o with
       |box cs=>dsimp only;split <;> rfl
       |_=>rfl
     |_=>rfl
    |op id ver sz i off=>
     dsimp only
     cases σ.h[id]? with
     |none=>rfl
     |some o=>
      cases o with
      |lst v sz' es=>
       dsimp only
       split
       ·cases es[i]? with
        |none=>rfl
        |some e=>dsimp only;split <;> rfl
       ·rfl
      |_=>rfl
    |_=>rfl
 |nilc x=>
  simp only[evo,zdg]
  cases σ.x x with
  |v y=>
   cases y with
   |fn f a c=>cases f <;> rfl
   |_=>rfl
  |_=>rfl
 |fa off x=>simp only[evo,zdg];cases σ.x x <;> first|rfl|(rename_i y;cases y <;> rfl)
 |bin o x y=>
  simp only[evo,zdg,St.a]
  cases (σ.x x).av with
  |none=>rfl
  |some a=>
   cases (σ.x y).av with
   |none=>cases a <;> rfl
   |some b=>
    cases a <;> first|rfl|skip
    cases b <;> first|rfl|skip
    rename_i k a k' b;dsimp only
    split
    ·cases binI o k a b <;> rfl
    ·rfl
 |mx x y=>
  simp only[evo,zdg,St.a]
  cases (σ.x x).av with
  |none=>rfl
  |some a=>
   cases (σ.x y).av with
   |none=>cases a <;> rfl
   |some b=>
    cases a <;> first|rfl|skip
    cases b <;> first|rfl|skip
    rename_i k a k' b;dsimp only;by_cases e:k=k'
    ·rw[if_pos e,if_pos e];rfl
    ·rw[if_neg e,if_neg e];rfl
 |mks sz z l=>
  simp only[evo,zdg,St.a]
  cases (σ.x l).av with
  |none=>rfl
  |some b=>
   cases b <;> first|rfl|skip
   dsimp only
   split <;> rfl
 |mkz sz z l=>
  simp only[evo,zdg,St.a]
  cases (σ.x l).av with
  |none=>rfl
  |some b=>
   cases b <;> first|rfl|skip
   dsimp only
   split <;> rfl
 |ia n x i=>
  simp only[evo,zdg,St.a]
  cases (σ.x i).av with
  |none=>rfl
  |some b=>
   cases b <;> first|rfl|skip
   cases (σ.x x).av with
   |none=>rfl
   |some a=>
    cases a <;> first|rfl|skip
    ·rename_i k m es
     dsimp only
     split
     ·cases es[m.toNat]? with
      |none=>rfl
      |some e=>dsimp only;split <;> rfl
     ·rfl
    ·rename_i k m id ver
     dsimp only
     cases σ.h[id]? with
     |none=>rfl
     |some o=>cases o <;> first|rfl|(dsimp only;split <;> rfl)
    ·rename_i k m id ver sz2 lo m2
     dsimp only
     cases σ.h[id]? with
     |none=>rfl
     |some o=>cases o <;> first|rfl|(dsimp only;split <;> rfl)
 |lk ok z x i=>
  simp only[evo,zdg,St.a]
  cases (σ.x i).av with
  |none=>rfl
  |some b=>
   cases b <;> first|rfl|skip
   rename_i k n
   cases (σ.x x).av with
   |none=>rfl
   |some a=>
    cases a <;> first|rfl|skip
    ·rename_i es
     dsimp only
     split
     ·cases zgq n es with
      |none=>rfl
      |some r=>cases r <;> rfl
     ·rfl
    ·rename_i id
     dsimp only
     cases σ.h[id]? with
     |none=>rfl
     |some o=>
      cases o <;> first|rfl|skip
      rename_i es;dsimp only
      split
      ·cases zgq n es with
       |none=>rfl
       |some r=>cases r <;> rfl
      ·rfl
 |ins m k v=>
  simp only[evo,zdg,St.a]
  cases (σ.x m).av with
  |none=>rfl
  |some a=>
   cases a <;> first|rfl|skip
   cases (σ.x k).av with
   |none=>rfl
   |some b=>
    cases b <;> first|rfl|skip
    cases (σ.x v).av with
    |none=>rfl
    |some c=>
     dsimp only;rename_i id k n
     cases σ.h[id]? with
     |none=>rfl
     |some o=>
      cases o <;> first|rfl|skip
      dsimp only
      split
      ·rename_i es _
       cases zgq n es with
       |none=>rfl
       |some r=>cases r <;> rfl
      ·rfl
 |app sz x y=>
  simp only[evo,zdg,St.a,z25]
  cases (σ.x x).av with
  |none=>rfl
  |some a=>
   cases a <;> first|rfl|skip
   ·cases (σ.x y).av with
    |none=>rfl
    |some b=>
    dsimp only;rename_i id ver
    cases σ.h[id]? with
    |none=>rfl
    |some o=>
     cases o <;> first|rfl|skip
     cases zvv σ.h b with
     |none=>rfl
     |some fs=>dsimp only;split <;> rfl
   ·cases (σ.x y).av with
    |none=>rfl
    |some b=>
     dsimp only
     cases zvv σ.h b with
     |none=>rfl
     |some fs=>cases fs with
      |nil=>rfl
      |cons f fs=>dsimp only;split <;> rfl
 |slc sz x lo hi=>
  simp only[evo,zdg,St.a]
  cases (σ.x x).av with
  |none=>rfl
  |some a=>
   cases a <;> first|rfl|skip
   ·rename_i es
    have key:∀(p q:Option Int),(match p,q with
      |some l,some u=>if 0<=l/\l<=u/\u<=es.length/\(∀e∈es,e.length=sz) then some (TV.v (.sl ((es.take u.toNat).drop l.toNat)),σ) else none
      |_,_=>none)=Option.map (fun r:TV×Option (Bool×Nat×List AV)×List AO=>(r.1,({ σ with ls:=ape r.2.1 σ.ls,h:=r.2.2 }:St))) (match p,q with
      |some l,some u=>if 0<=l/\l<=u/\u<=es.length/\(∀e∈es,e.length=sz) then some (TV.v (.sl ((es.take u.toNat).drop l.toNat)),none,σ.h) else none
      |_,_=>none):=by
     intro p q
     cases p with
     |none=>rfl
     |some l=>cases q with
      |none=>rfl
      |some u=>dsimp only;split <;> rfl
    exact key _ _
   ·rename_i id ver
    cases lo with
    |some _=>rfl
    |none=>cases hi with
     |none=>rfl
     |some y=>
      dsimp only
      cases (σ.x y).av with
      |none=>rfl
      |some b=>
       cases b <;> first|rfl|skip
       cases σ.h[id]? with
       |none=>rfl
       |some o=>cases o <;> first|rfl|(dsimp only;split <;> rfl)
   ·cases lo with
    |some _=>rfl
    |none=>cases hi with
     |none=>rfl
     |some y=>
      dsimp only
      cases (σ.x y).av with
      |none=>rfl
      |some b=>cases b <;> first|rfl|(dsimp only;split <;> rfl)
 |ldh n ag a=>
  simp only[evo,zdg]
  cases σ.x a with
  |v y=>
   cases y with
   |ptr id off=>
    dsimp only
    cases σ.h[id]? with
    |none=>rfl
    |some o=>
     cases o with
     |box cs=>dsimp only;cases rd n ag (cs.drop off) <;> rfl
     |_=>rfl
   |_=>rfl
  |_=>rfl
 |stl n a x=>
  simp only[evo,zdg,St.a]
  cases (σ.x x).av with
  |none=>rfl
  |some y=>
   dsimp only
   cases y.cellsN n with
   |none=>rfl
   |some cs=>
    dsimp only
    cases σ.x a with
    |lp k off=>
     dsimp only
     cases zb5 k σ.ls with
     |none=>rfl
     |some c0=>dsimp only;split <;> rfl
    |_=>rfl
 |sto n a x=>
  simp only[evo,zdg,St.a]
  cases (σ.x x).av with
  |none=>rfl
  |some y=>
   dsimp only
   cases y.cellsN n with
   |none=>rfl
   |some cs=>
    dsimp only
    cases σ.x a with
    |op id ver sz i off=>
     dsimp only
     cases σ.h[id]? with
     |none=>rfl
     |some o=>
      cases o with
      |lst v sz' es=>
       dsimp only
       split
       ·cases es[i]? with
        |none=>rfl
        |some e=>dsimp only;split <;> rfl
       ·rfl
      |_=>rfl
    |_=>rfl
 |stp n a x=>
  simp only[evo,zdg,St.a]
  cases (σ.x x).av with
  |none=>rfl
  |some y=>
   dsimp only
   cases y.cellsN n with
   |none=>rfl
   |some cs=>
    dsimp only
    cases σ.x a with
    |v y=>
     cases y with
     |ptr id off=>
      dsimp only
      cases σ.h[id]? with
      |none=>rfl
      |some o=>
       cases o with
       |box cs=>dsimp only;split <;> rfl
       |_=>rfl
     |_=>rfl
    |_=>rfl
 |iao n x i=>
  simp only[evo,zdg,St.a]
  cases (σ.x i).av with
  |none=>rfl
  |some b=>
   cases b <;> first|rfl|skip
   cases (σ.x x).av with
   |none=>rfl
   |some a=>
    cases a <;> first|rfl|skip
    rename_i k m id ver;dsimp only
    cases σ.h[id]? with
    |none=>rfl
    |some o=>cases o <;> first|rfl|(dsimp only;split <;> rfl)
 |apz sz z x l=>
  simp only[evo,zdg,St.a]
  cases (σ.x x).av with
  |none=>rfl
  |some a=>
   cases a <;> first|rfl|skip
   cases (σ.x l).av with
   |none=>rfl
   |some b=>
    cases b <;> first|rfl|skip
    dsimp only
    split <;> rfl
 |cap x=>
  simp only[evo,zdg,St.a]
  cases (σ.x x).av with
  |none=>rfl
  |some a=>cases a <;> rfl
 |_=>simp only[evo,zdg,z7p,z2a,z2c,z25,St.a] <;> (repeat' split) <;> first|rfl|(simp_all [ape];done)|skip
theorem zjy{X X':AX->TV}:∀{l:List AX},(∀x∈l,X x=X' x)->as2 X l=as2 X' l
 |[],_=>rfl
 |x::r,h=>by simp only[as2,h x (by simp),zjy (l:=r) fun y hy=>h y (by simp[hy])]
theorem zo3{X X':AX->TV}:∀{l:List (Nat×Nat×AX)} {z:List AV},(∀x∈l.map (·.2.2),X x=X' x)->zo4 X z l=zo4 X' z l
 |[],_,_=>rfl
 |(off,sz,x)::r,z,h=>by
  have hr:∀z,zo4 X z r=zo4 X' z r:=fun z=>zo3 fun y hy=>h y (by simp at hy ⊢;exact .inr hy)
  simp only[zo4,h x (by simp),hr]
theorem zo5{X X':AX->TV}{sz:Nat}:∀{l:List (Nat×AX)} {z:List (List AV)},(∀x∈l.map (·.2),X x=X' x)->zo6 X sz z l=zo6 X' sz z l
 |[],_,_=>rfl
 |(i,x)::r,z,h=>by
  have hr:∀z,zo6 X sz z r=zo6 X' sz z r:=fun z=>zo5 fun y hy=>h y (by simp at hy ⊢;exact .inr hy)
  simp only[zo6,h x (by simp),hr]
def AOp.alo:AOp->Bool
 |.alc _|.alcO _|.bx _=>true
 |_=>false
theorem znj{d:Nat}{op:AOp}{X X':AX->TV}{L L':Nat->Option (List AV)}{h:List AO}(hX:∀x∈op.axs,X x=X' x)(hd:op.alo=true->L d=L' d)(hL:∀x∈op.axs,∀k off,X x = .lp k off->L k=L' k):zdg d op X L h=zdg d op X' L' h:=by
 cases op with
 |bld z ps=>simp only[zdg,zo3 hX]
 |bldO z ps=>simp only[zdg];rw[zo3 (z:=(ztq z h).1) hX]
 |bsl a b z ps=>simp only[zdg,zo5 hX]
 |bslO a b z ps=>simp only[zdg,zo5 hX]
 |mkf f a b=>simp only[zdg,zjy (l:=a) fun x hx=>hX x (by simp[AOp.axs,hx]),zjy (l:=b) fun x hx=>hX x (by simp[AOp.axs,hx])]
 |ld n ag x=>
  have h1:=hX x (by simp[AOp.axs])
  have h2:=hL x (by simp[AOp.axs])
  simp only[zdg,<- h1]
  cases hx:X x with
  |lp k off=>dsimp only;rw[h2 k off hx]
  |v y=>cases y <;> rfl
  |_=>rfl
 |ldl n ag x=>
  have h1:=hX x (by simp[AOp.axs])
  have h2:=hL x (by simp[AOp.axs])
  simp only[zdg,<- h1]
  cases hx:X x with
  |lp k off=>dsimp only;rw[h2 k off hx]
  |_=>rfl
 |ldz n ag x=>
  have h1:=hX x (by simp[AOp.axs])
  have h2:=hL x (by simp[AOp.axs])
  simp only[zdg,<- h1]
  cases hx:X x with
  |lp k off=>dsimp only;rw[h2 k off hx]
  |_=>rfl
 |st n x y=>
  have h1:=hX x (by simp[AOp.axs])
  have h2:=hL x (by simp[AOp.axs])
  have h3:=hX y (by simp[AOp.axs])
  simp only[zdg,<- h1,<- h3]
  cases (X y).av with
  |none=>rfl
  |some z=>
   dsimp only
   cases z.cellsN n with
   |none=>rfl
   |some cs=>
    dsimp only
    cases hx:X x with
    |lp k off=>dsimp only;rw[h2 k off hx]
    |v y=>cases y <;> rfl
    |_=>rfl
 |stl n x y=>
  have h1:=hX x (by simp[AOp.axs])
  have h2:=hL x (by simp[AOp.axs])
  have h3:=hX y (by simp[AOp.axs])
  simp only[zdg,<- h1,<- h3]
  cases (X y).av with
  |none=>rfl
  |some z=>
   dsimp only
   cases z.cellsN n with
   |none=>rfl
   |some cs=>
    dsimp only
    cases hx:X x with
    |lp k off=>dsimp only;rw[h2 k off hx]
    |_=>rfl
 |slc n x lo hi=>
  have h1:=hX x (by simp[AOp.axs])
  cases lo <;> cases hi <;> simp[AOp.axs]at hX <;> simp only[zdg,hX]
 |xo o l=>simp only[zdg];rw[List.map_congr_left (l:=l) hX]
 |alc z=>simp only[zdg,hd rfl]
 |alcO z=>simp only[zdg,hd rfl]
 |bx x=>simp[AOp.axs]at hX;simp only[zdg,hX,hd rfl]
 |_=>simp[AOp.axs]at hX <;> simp only[zdg,hX]
end Go.Ab
set_option linter.unusedVariables false
set_option linter.unusedSimpArgs false
namespace Go.Ab
def XOp.cls:XOp->Nat
 |.bit _|.sh _|.eqA _ _|.mn|.mkE|.iaz _|.ldf _ _=>0
 |.iaA _|.slA _ _|.ldA _|.slv _ _ _|.ldx _ _|.ldy _ _|.lkK _ _ _=>1
 |_=>3
def AOp.cls:AOp->Nat
 |.mv _|.pick _ _ _|.bld _ _|.bsl _ _ _ _|.nilc _|.bin _ _ _|.eqb _ _ _|.not _|.cv _ _|.fa _ _|.fld _ _ _ _|.ext _ _|.mx _ _|.mkf _ _ _|.ifc _ _|.mkz _ _ _|.bxF _=>0
 |.ld _ _ _|.ia _ _ _|.lk _ _ _ _|.len _|.ldh _ _ _|.iao _ _ _=>1
 |.alc _|.bx _=>2
 |.ldl _ _ _=>5
 |.xo o _=>o.cls
 |_=>3
theorem XOp.cls_le(o:XOp):o.cls=0\/o.cls=1\/o.cls=3:=by cases o <;> simp[XOp.cls]
theorem evX0{o:XOp}(hc:o.cls=0){vs:List TV}{h:List AO}:evX o vs h=(evX o vs []).map fun r=>(r.1,h):=by
 cases o <;> simp only[XOp.cls]at hc <;> first
  |cases hc
  |skip
 all_goals
  simp only[evX]
  repeat' split
  all_goals first|rfl|simp_all
theorem evX1{o:XOp}(hc:o.cls=1){vs:List TV}{h h':List AO}{x:TV}(he:evX o vs h=some (x,h')):h' = h:=by
 cases o <;> simp only[XOp.cls]at hc <;> first
  |cases hc
  |skip
 all_goals
  simp only[evX]at he
  repeat' split at he
  all_goals first
   |(cases he;rfl)
   |cases he
theorem ygj{n:Nat}{ag:Bool}{cs:List AV}{x:TV}(h:rd n ag cs=some x){k off:Nat}(e:x = .lp k off):False:=by
 unfold rd at h
 split at h
 ·split at h
  ·cases h;cases e
  ·split at h
   ·cases h;cases e
   ·cases h
 ·cases h
theorem yh0{o:XOp}{vs:List TV}{h h':List AO}{x:TV}(he:evX o vs h=some (x,h')){k off:Nat}(e:x = .lp k off):False:=by
 cases o <;> simp only[evX]at he <;> (repeat' split at he) <;> first
  |(cases he;cases e;done)
  |(cases he;done)
  |(cases he;exact ygj (by assumption) e)
theorem cls0{op:AOp}(hc:op.cls=0){d:Nat}{X:AX->TV}{L:Nat->Option (List AV)}{h:List AO}:zdg d op X L h=(zdg 0 op X (fun _=>none) []).map fun r=>(r.1,none,h):=by
 cases op <;> simp only[AOp.cls]at hc <;> first
  |cases hc
  |skip
 case mv x=>rfl
 case pick a b c=>simp only[zdg];cases (X a).av with
  |none=>rfl
  |some v=>cases v <;> first|rfl|(rename_i p;cases p <;> rfl)
 case bld z ps=>simp only[zdg];cases zo4 X (noz z) ps <;> rfl
 case bsl a b z ps=>simp only[zdg];cases zo6 X a (List.replicate b (noz z)) ps with
  |none=>rfl
  |some es=>dsimp only;split <;> rfl
 case nilc x=>simp only[zdg];cases X x with
  |v y=>cases y <;> first|rfl|(rename_i f a c;cases f <;> rfl)
  |_=>rfl
 case bin o x y=>simp only[zdg];cases (X x).av with
  |none=>rfl
  |some a=>cases (X y).av with
   |none=>cases a <;> rfl
   |some b=>
    cases a <;> first|rfl|skip
    cases b <;> first|rfl|skip
    rename_i k a k' b;dsimp only
    split
    ·cases binI o k a b <;> rfl
    ·rfl
 case eqb n x y=>simp only[zdg];cases (X x).av with
  |none=>rfl
  |some a=>cases (X y).av with
   |none=>cases a <;> rfl
   |some b=>cases a <;> first|rfl|(cases b <;> rfl)
 case not x=>simp only[zdg];cases (X x).av with
  |none=>rfl
  |some a=>cases a <;> rfl
 case cv k x=>simp only[zdg];cases (X x).av with
  |none=>rfl
  |some a=>cases a <;> rfl
 case fa o x=>simp only[zdg];cases X x with
  |v y=>cases y <;> rfl
  |_=>rfl
 case fld o n ag x=>simp only[zdg];cases (X x).av with
  |none=>rfl
  |some a=>cases a <;> first|rfl|(rename_i cs;dsimp only;cases rd n ag (cs.drop o) <;> rfl)
 case ext x i=>simp only[zdg];cases (X x).av with
  |none=>rfl
  |some a=>cases a <;> first|rfl|(rename_i vs;dsimp only;cases vs[i]? <;> rfl)
 case mx x y=>simp only[zdg];cases (X x).av with
  |none=>rfl
  |some a=>cases (X y).av with
   |none=>cases a <;> rfl
   |some b=>
    cases a <;> first|rfl|skip
    cases b <;> first|rfl|skip
    rename_i k a k' b;dsimp only;by_cases e:k=k'
    ·rw[if_pos e,if_pos e];rfl
    ·rw[if_neg e,if_neg e];rfl
 case mkf f a b=>simp only[zdg];cases as2 X a with
  |none=>rfl
  |some u=>cases as2 X b <;> rfl
 case ifc t x=>simp only[zdg];cases (X x).av <;> rfl
 case mkz sz z x=>simp only[zdg];cases (X x).av with
  |none=>rfl
  |some a=>cases a <;> first|rfl|(dsimp only;split <;> rfl)
 case bxF x=>simp only[zdg];cases (X x).av with
  |none=>rfl
  |some a=>dsimp only;cases a.cellsN a.cells.length <;> rfl
 case xo o l=>
  simp only[zdg];rw[evX0 hc]
  cases evX o (l.map X) [] <;> rfl
theorem cls1{op:AOp}(hc:op.cls=1){d:Nat}{X:AX->TV}{L:Nat->Option (List AV)}{h:List AO}{r:TV×Option (Bool×Nat×List AV)×List AO}(he:zdg d op X L h=some r):r=(r.1,none,h):=by
 cases op <;> simp only[AOp.cls]at hc <;> first
  |cases hc
  |skip
 case xo o l=>
  simp only[zdg]at he
  split at he
  ·rename_i x h' hx;cases he;rw[evX1 hc hx]
  ·cases he
 all_goals
  simp only[zdg]at he
  repeat' split at he
  all_goals first
   |(cases he;rfl)
   |cases he
theorem cls2{op:AOp}(hc:op.cls=2){d:Nat}{X:AX->TV}{L:Nat->Option (List AV)}{h:List AO}{r:TV×Option (Bool×Nat×List AV)×List AO}(he:zdg d op X L h=some r):
  L d=none/\r.1 = .lp d 0/\(∃c,r.2.1=some (true,d,c))/\r.2.2=h/\∀(L':Nat->Option (List AV)) (h':List AO),L' d=none->zdg d op X L' h' = some (r.1,r.2.1,h'):=by
 cases op <;> simp only[AOp.cls]at hc <;> first
  |cases hc
  |skip
 case xo o l=>exact absurd hc (by rcases o.cls_le with h|h|h <;> rw[h] <;> decide)
 case alc z=>
  simp only[zdg]at he
  split at he
  ·rename_i hl;cases he;exact⟨hl,rfl,⟨_,rfl⟩,rfl,fun L' h' e=>by simp only[zdg,e]⟩
  ·cases he
 case bx x=>
  simp only[zdg]at he
  split at he
  ·rename_i hl
   split at he
   ·rename_i a ha
    split at he
    ·rename_i cs hcs;cases he;exact⟨hl,rfl,⟨_,rfl⟩,rfl,fun L' h' e=>by simp only[zdg,e,ha,hcs]⟩
    ·cases he
   ·cases he
  ·cases he
theorem cls5{op:AOp}(hc:op.cls=5){d:Nat}{X:AX->TV}{L:Nat->Option (List AV)}{h:List AO}{r:TV×Option (Bool×Nat×List AV)×List AO}(he:zdg d op X L h=some r):
  r=(r.1,none,h)/\∀h',zdg d op X L h' = some (r.1,none,h'):=by
 cases op <;> simp only[AOp.cls]at hc <;> first
  |cases hc
  |skip
 case xo o l=>exact absurd hc (by rcases o.cls_le with h|h|h <;> rw[h] <;> decide)
 case ldl n ag x=>
  simp only[zdg]at he ⊢
  split at he
  ·rename_i k off hx
   split at he
   ·rename_i cs hl
    split at he
    ·rename_i y hr;cases he;exact⟨rfl,fun h'=>by simp[hx,hl,hr]⟩
    ·cases he
   ·cases he
  ·cases he
theorem shape{op:AOp}{d:Nat}{X:AX->TV}{L:Nat->Option (List AV)}{h:List AO}{r:TV×Option (Bool×Nat×List AV)×List AO}(he:zdg d op X L h=some r):
  r.2.1=none\/(∃k c,r.2.1=some (false,k,c)/\L k≠none)\/(∃c,r.2.1=some (true,d,c)/\L d=none/\op.alo=true):=by
 cases op <;> simp only[zdg]at he <;> (repeat' split at he) <;> first
  |(cases he;exact .inl rfl)
  |(cases he;exact .inr (.inl ⟨_,_,rfl,by simp_all⟩))
  |(cases he;exact .inr (.inr ⟨_,rfl,by assumption,rfl⟩))
  |cases he
  |skip
theorem rd_nolp{n:Nat}{ag:Bool}{cs:List AV}{x:TV}(h:rd n ag cs=some x){k off:Nat}(e:x = .lp k off):False:=by
 unfold rd at h
 split at h
 ·split at h
  ·cases h;cases e
  ·split at h
   ·cases h;cases e
   ·cases h
 ·cases h
theorem ydu{op:AOp}{d:Nat}{X:AX->TV}{L:Nat->Option (List AV)}{h:List AO}{r:TV×Option (Bool×Nat×List AV)×List AO}(he:zdg d op X L h=some r){k off:Nat}(hr:r.1 = .lp k off):
  (∃x∈op.axs,∃o,X x = .lp k o)\/(k=d/\∃c,r.2.1=some (true,d,c)):=by
 cases op
 case xo o l=>
  simp only[zdg]at he
  split at he
  ·rename_i x h' hx;cases he;exact (yh0 hx hr).elim
  ·cases he
 all_goals
  simp only[zdg]at he <;> (repeat' split at he) <;> first
   |(cases he;cases hr;done)
   |(cases he;cases hr;exact .inr ⟨rfl,_,rfl⟩)
   |(cases he;exact (rd_nolp (by assumption) hr).elim)
   |(cases he;exact .inl ⟨_,List.mem_singleton.2 rfl,_,hr⟩)
   |(cases he;exact .inl ⟨_,List.mem_cons_of_mem _ (List.mem_cons_self ..),_,hr⟩)
   |(cases he;exact .inl ⟨_,List.mem_cons_of_mem _ (List.mem_cons_of_mem _ (List.mem_cons_self ..)),_,hr⟩)
   |(cases he;cases hr;exact .inl ⟨_,List.mem_singleton.2 rfl,_,by assumption⟩)
   |cases he
   |skip
end Go.Ab
set_option linter.unusedVariables false
set_option linter.unusedSimpArgs false
namespace Go.Ab
def AX.tmp:AX->List Nat
 |.t i=>[i]
 |.c _=>[]
def AK.axs:AK->List AX
 |.o op|.fo op=>op.axs
 |.call f l=>f::l
 |.callW f l bs=>f::(l++bs)
 |.pan x|.isn x=>[x]
def AI.xs(i:AI):List AX:=i.k.axs++(match i.g with
 |some (j,_)=>[.t j]
 |none=>[])
def AI.reads(i:AI):List Nat:=(i.xs.map AX.tmp).flatten
def AI.cls(i:AI):Nat:=match i.k with
 |.o op=>op.cls
 |.call _ _=>4
 |.callW _ _ _=>6
 |_=>3
def AI.alo(i:AI):Bool:=match i.k with
 |.o op=>op.alo
 |_=>false
abbrev Rr:=TV×Option (Bool×Nat×List AV)×List AO
def z3z(CC:zee)(i:AI)(X:AX->TV)(L:Nat->Option (List AV))(h:List AO)(r:Rr):Prop :=
 match i.k with
 |.o op=>zdg (i.d.getD 0) op X L h=some r
 |.call f args=>∃c vs v,(X f).av=some c/\as2 X args=some vs/\CC c vs h (fun q h'=>q = .ret v/\h' = h)/\r=(.v v,none,h)
 |.callW f args bs=>∃c vs v h1,(X f).av=some c/\as2 X args=some vs/\CC c vs h (fun q h'=>q = .ret v/\h' = h1)/\kept h h1 (bs.map X)/\r=(.v v,none,h1)
 |_=>False
def zql(CC:zee)(i:AI)(X:AX->TV)(L:Nat->Option (List AV))(h:List AO)(r:Rr):Prop :=
 match i.g with
 |none=>z3z CC i X L h r
 |some (j,w)=>(X (.t j) = .v (.bool w)/\z3z CC i X L h r)\/((X (.t j) = .v (.bool (!w))\/X (.t j) = .und)/\r=(.und,none,h))
def St.app(σ:St)(d:Option Nat)(r:Rr):St:=({ σ with ls:=ape r.2.1 σ.ls,h:=r.2.2 }:St).put d r.1
theorem zk5{CC:zee}{i:AI}{σ σ':St}:zwh CC i σ σ' ↔ ∃r,zql CC i σ.x (fun k=>zb5 k σ.ls) σ.h r/\σ' = σ.app i.d r:=by
 have key:z1c CC i σ σ' ↔ ∃r,z3z CC i σ.x (fun k=>zb5 k σ.ls) σ.h r/\σ' = σ.app i.d r:=by
  unfold z1c z3z
  cases i.k with
  |o op=>
   dsimp only;rw[evo_eq];constructor
   ·rintro ⟨x,σ1,h,rfl⟩
    cases he:zdg (i.d.getD 0) op σ.x (fun k=>zb5 k σ.ls) σ.h with
    |none=>rw[he]at h;cases h
    |some r=>rw[he]at h;cases h;exact⟨r,rfl,rfl⟩
   ·rintro ⟨r,h,rfl⟩
    exact⟨_,_,by rw[h];rfl,rfl⟩
  |fo op=>exact⟨fun h=>h.elim,fun⟨_,h,_⟩=>h.elim⟩
  |pan op=>exact⟨fun h=>h.elim,fun⟨_,h,_⟩=>h.elim⟩
  |isn op=>exact⟨fun h=>h.elim,fun⟨_,h,_⟩=>h.elim⟩
  |call f l=>
   dsimp only;simp only[z7p,St.a];exact⟨fun⟨c,vs,v,h1,h2,h3,h4⟩=>⟨_,⟨c,vs,v,h1,h2,h3,rfl⟩,h4⟩,fun⟨r,⟨c,vs,v,h1,h2,h3,h5⟩,h4⟩=>⟨c,vs,v,h1,h2,h3,by rw[h4,h5];rfl⟩⟩
  |callW f l bs=>
   dsimp only;simp only[z7p,St.a];exact⟨fun⟨c,vs,v,h,h1,h2,h3,hk,h4⟩=>⟨_,⟨c,vs,v,h,h1,h2,h3,hk,rfl⟩,h4⟩,fun⟨r,⟨c,vs,v,h,h1,h2,h3,hk,h5⟩,h4⟩=>⟨c,vs,v,h,h1,h2,h3,hk,by rw[h4,h5];rfl⟩⟩
 unfold zwh zql
 cases i.g with
 |none=>exact key
 |some jw=>
  obtain⟨j,w⟩:=jw;dsimp only;constructor
  ·rintro (⟨h2,h3⟩|⟨h2,rfl⟩)
   ·obtain⟨r,h4,h5⟩:=key.1 h3
    exact⟨r,.inl ⟨h2,h4⟩,h5⟩
   ·exact⟨(.und,none,σ.h),.inr ⟨h2,rfl⟩,rfl⟩
  ·rintro ⟨r,⟨h2,h3⟩|⟨h2,rfl⟩,h5⟩
   ·exact .inl ⟨h2,key.2 ⟨r,h3,h5⟩⟩
   ·exact .inr ⟨h2,h5⟩
theorem cls_le(op:AOp):op.cls=0\/op.cls=1\/op.cls=2\/op.cls=3\/op.cls=5:=by
 cases op
 case xo o l=>simp only[AOp.cls];rcases o.cls_le with h|h|h <;> simp[h]
 all_goals simp[AOp.cls]
theorem z3q{CC:zee}{i:AI}{X:AX->TV}{L:Nat->Option (List AV)}{h:List AO}{r:Rr}(ha:zql CC i X L h r):
  r.2.1=none\/(∃k c,r.2.1=some (false,k,c)/\L k≠none/\i.cls=3)\/(∃c,r.2.1=some (true,i.d.getD 0,c)/\L (i.d.getD 0)=none/\i.alo=true):=by
 have key:z3z CC i X L h r->_:=fun ha=>show r.2.1=none\/(∃k c,r.2.1=some (false,k,c)/\L k≠none/\i.cls=3)\/(∃c,r.2.1=some (true,i.d.getD 0,c)/\L (i.d.getD 0)=none/\i.alo=true) by
  unfold z3z at ha;unfold AI.cls AI.alo
  cases hk:i.k with
  |o op=>
   rw[hk]at ha;dsimp only at ha ⊢;rcases shape ha with e|⟨k,c,e,hl⟩|⟨c,e,hl,halo⟩
   ·exact .inl e
   ·rcases cls_le op with hc|hc|hc|hc|hc
    ·rw[cls0 hc]at ha
     cases hq:zdg 0 op X (fun _=>none) [] with
     |none=>rw[hq]at ha;cases ha
     |some q=>rw[hq]at ha;cases ha;cases e
    ·have:=cls1 hc ha;rw[this]at e;cases e
    ·obtain⟨_,_,⟨c',e'⟩,_⟩:=cls2 hc ha;rw[e']at e;cases e
    ·exact .inr (.inl ⟨k,c,e,hl,hc⟩)
    ·have:=(cls5 hc ha).1;rw[this]at e;cases e
   ·exact .inr (.inr ⟨c,e,hl,halo⟩)
  |fo op=>rw[hk]at ha;exact ha.elim
  |pan op=>rw[hk]at ha;exact ha.elim
  |isn op=>rw[hk]at ha;exact ha.elim
  |call f l=>rw[hk]at ha;obtain⟨_,_,_,_,_,_,e⟩:=ha;exact .inl (by rw[e])
  |callW f l bs=>rw[hk]at ha;obtain⟨_,_,_,_,_,_,_,_,e⟩:=ha;exact .inl (by rw[e])
 unfold zql at ha
 split at ha
 ·exact key ha
 ·obtain⟨_,h3⟩|⟨_,rfl⟩:=ha
  ·exact key h3
  ·exact .inl rfl
theorem zda{CC:zee}{i:AI}{X:AX->TV}{L:Nat->Option (List AV)}{h:List AO}{r:Rr}(ha:zql CC i X L h r)(hc:i.cls≠3/\i.cls≠6):r.2.2=h:=by
 have key:z3z CC i X L h r->r.2.2=h:=fun ha=>by
  unfold z3z at ha;unfold AI.cls at hc
  cases hk:i.k with
  |o op=>
   rw[hk]at ha hc;dsimp only at ha hc;rcases cls_le op with h1|h1|h1|h1|h1
   ·rw[cls0 h1]at ha
    cases hq:zdg 0 op X (fun _=>none) [] with
    |none=>rw[hq]at ha;cases ha
    |some q=>rw[hq]at ha;cases ha;rfl
   ·have:=cls1 h1 ha;rw[this]
   ·exact (cls2 h1 ha).2.2.2.1
   ·exact absurd h1 hc.1
   ·have:=(cls5 h1 ha).1;rw[this]
  |fo op=>rw[hk]at ha;exact ha.elim
  |pan op=>rw[hk]at ha;exact ha.elim
  |isn op=>rw[hk]at ha;exact ha.elim
  |call f l=>rw[hk]at ha;obtain⟨_,_,_,_,_,_,e⟩:=ha;rw[e]
  |callW f l bs=>rw[hk]at hc;exact absurd rfl hc.2
 unfold zql at ha
 split at ha
 ·exact key ha
 ·obtain⟨_,h3⟩|⟨_,rfl⟩:=ha
  ·exact key h3
  ·rfl
theorem yet{X X':AX->TV}{f:AX}{l:List AX}(h:∀x∈f::l,X x=X' x):X f=X' f/\as2 X l=as2 X' l :=
 ⟨h f (by simp),zjy fun x hx=>h x (by simp[hx])⟩
theorem ykr{CC:zee}{i:AI}{X X':AX->TV}{L L':Nat->Option (List AV)}{h h':List AO}{r:Rr}(ha:zql CC i X L h r)(hX:∀x∈i.xs,X x=X' x)
  (hL:i.cls=0\/(i.cls=2/\(L (i.d.getD 0)=none->L' (i.d.getD 0)=none))\/((i.alo=true->L (i.d.getD 0)=L' (i.d.getD 0))/\∀x∈i.xs,∀k off,X x = .lp k off->L k=L' k))
  (hh:h' = h\/i.cls=0\/i.cls=2\/i.cls=5):∃r',zql CC i X' L' h' r' /\ r'.1=r.1/\r'.2.1=r.2.1/\(h' = h->r'.2.2=r.2.2)/\(i.cls=0\/i.cls=2\/i.cls=5->r'.2.2=h'):=by
 have key:z3z CC i X L h r->∃r',z3z CC i X' L' h' r' /\ r'.1=r.1/\r'.2.1=r.2.1/\(h' = h->r'.2.2=r.2.2)/\(i.cls=0\/i.cls=2\/i.cls=5->r'.2.2=h'):=fun ha=>by
  have hXk:∀x∈i.k.axs,X x=X' x:=fun x hx=>hX x (by unfold AI.xs;simp[hx])
  have hLk:i.cls=0\/(i.cls=2/\(L (i.d.getD 0)=none->L' (i.d.getD 0)=none))\/((i.alo=true->L (i.d.getD 0)=L' (i.d.getD 0))/\∀x∈i.k.axs,∀k off,X x = .lp k off->L k=L' k):=by
   rcases hL with k|k|k
   ·exact .inl k
   ·exact .inr (.inl k)
   ·exact .inr (.inr ⟨k.1,fun x hx=>k.2 x (by unfold AI.xs;simp[hx])⟩)
  unfold z3z at ha ⊢;unfold AI.cls AI.alo at hLk;unfold AI.cls at hh ⊢
  cases hk:i.k with
  |o op=>
   rw[hk]at ha hh hLk hXk;simp only[AK.axs]at hXk hLk;dsimp only at ha hh hLk ⊢;have zero:op.cls=0->∃r',zdg (i.d.getD 0) op X' L' h' = some r' /\ r'.1=r.1/\r'.2.1=r.2.1/\(h' = h->r'.2.2=r.2.2)/\(op.cls=0\/op.cls=2\/op.cls=5->r'.2.2=h'):=fun h1=>by
    rw[cls0 h1]at ha ⊢;rw[<- znj (X:=X) (L:=fun _=>none) hXk (fun _=>rfl) (fun _ _ _ _ _=>rfl)]
    cases hq:zdg 0 op X (fun _=>none) [] with
    |none=>rw[hq]at ha;cases ha
    |some q=>rw[hq]at ha;cases ha;exact⟨_,rfl,rfl,rfl,fun e=>e,fun _=>rfl⟩
   have two:op.cls=2->(L (i.d.getD 0)=none->L' (i.d.getD 0)=none)->∃r',zdg (i.d.getD 0) op X' L' h' = some r' /\ r'.1=r.1/\r'.2.1=r.2.1/\(h' = h->r'.2.2=r.2.2)/\(op.cls=0\/op.cls=2\/op.cls=5->r'.2.2=h'):=fun h1 hl=>by
    obtain⟨h2,h3,h4,h5,h6⟩:=cls2 h1 ha;refine⟨(r.1,r.2.1,h'),?_,rfl,rfl,fun e=>by rw[h5];exact e,fun _=>rfl⟩
    have h7:=h6 L' h' (hl h2);rw[<- h7];refine (znj hXk (fun _=>rfl) fun x hx k off e=>?_).symm
    rfl
   rcases cls_le op with h1|h1|h1|h1|h1
   ·exact zero h1
   ·rcases hLk with k|⟨k,_⟩|⟨k1,k2⟩
    ·omega
    ·omega
    ·have eh:h' = h:=by rcases hh with e|e|e|e;exact e;omega;omega;omega
     subst eh;exact⟨r,by rw[<- znj hXk k1 k2];exact ha,rfl,rfl,fun _=>rfl,fun e=>by omega⟩
   ·rcases hLk with k|⟨_,k⟩|⟨k1,k2⟩
    ·omega
    ·exact two h1 k
    ·refine two h1 fun hl=>?_
     have halo:op.alo=true:=by
      cases op
      case xo o l=>exact absurd h1 (by simp only[AOp.cls];rcases o.cls_le with h|h|h <;> rw[h] <;> decide)
      all_goals simp[AOp.cls,AOp.alo]at h1 ⊢
     rw[<- k1 halo];exact hl
   ·rcases hLk with k|⟨k,_⟩|⟨k1,k2⟩
    ·omega
    ·omega
    ·have eh:h' = h:=by rcases hh with e|e|e|e;exact e;omega;omega;omega
     subst eh;exact⟨r,by rw[<- znj hXk k1 k2];exact ha,rfl,rfl,fun _=>rfl,fun e=>by omega⟩
   ·rcases hLk with k|⟨k,_⟩|⟨k1,k2⟩
    ·omega
    ·omega
    ·obtain⟨h2,h3⟩:=cls5 h1 ha
     refine⟨(r.1,none,h'),?_,rfl,by rw[h2],fun e=>by rw[h2];exact e,fun _=>rfl⟩
     rw[<- znj (X:=X) (L:=L) hXk k1 k2];exact h3 h'
  |fo op=>rw[hk]at ha;exact ha.elim
  |pan op=>rw[hk]at ha;exact ha.elim
  |isn op=>rw[hk]at ha;exact ha.elim
  |call f l=>
   rw[hk]at ha hh hXk;obtain⟨c,vs,v,h1,h2,h3,h4⟩:=ha;obtain⟨e1,e2⟩:=yet hXk;have eh:h' = h:=by rcases hh with e|e|e|e;exact e;cases e;cases e;cases e
   subst eh;exact⟨r,⟨c,vs,v,e1 ▸ h1,e2 ▸ h2,h3,h4⟩,rfl,rfl,fun _=>rfl,fun e=>by rcases e with e|e|e <;> cases e⟩
  |callW f l bs=>
   rw[hk]at ha hh hXk;obtain⟨c,vs,v,hw,h1,h2,h3,hkp,h4⟩:=ha;obtain⟨e1,e2⟩:=yet (f:=f) (l:=l) fun x hx=>hXk x (by
    rcases List.mem_cons.1 hx with rfl|hx
    ·exact List.mem_cons_self ..
    ·exact List.mem_cons_of_mem _ (List.mem_append.2 (.inl hx)))
   have e3:bs.map X=bs.map X':=List.map_congr_left fun x hx=>hXk x (List.mem_cons_of_mem _ (List.mem_append.2 (.inr hx)))
   have eh:h' = h:=by rcases hh with e|e|e|e;exact e;cases e;cases e;cases e
   subst eh;exact⟨r,⟨c,vs,v,hw,e1 ▸ h1,e2 ▸ h2,h3,e3 ▸ hkp,h4⟩,rfl,rfl,fun _=>rfl,fun e=>by rcases e with e|e|e <;> cases e⟩
 unfold zql at ha ⊢
 cases hg:i.g with
 |none=>rw[hg]at ha;exact key ha
 |some jw=>
  obtain⟨j,w⟩:=jw;rw[hg]at ha;dsimp only at ha ⊢;have h2:X (.t j)=X' (.t j):=hX _ (by unfold AI.xs;rw[hg];simp)
  rcases ha with⟨h3,h4⟩|⟨h3,rfl⟩
  ·obtain⟨r',k1,k2⟩:=key h4
   exact⟨r',.inl ⟨h2 ▸ h3,k1⟩,k2⟩
  ·exact⟨(.und,none,h'),.inr ⟨h2 ▸ h3,rfl⟩,rfl,rfl,fun e=>e,fun _=>rfl⟩
theorem yis{CC:zee}{i:AI}{X:AX->TV}{L:Nat->Option (List AV)}{h:List AO}{r:Rr}(ha:zql CC i X L h r){k off:Nat}(hr:r.1 = .lp k off):(∃x∈i.xs,∃o,X x = .lp k o)\/∃c,r.2.1=some (true,k,c):=by
 have key:z3z CC i X L h r->(∃x∈i.xs,∃o,X x = .lp k o)\/∃c,r.2.1=some (true,k,c):=fun ha=>by
  unfold z3z at ha
  cases hk:i.k with
  |o op=>
   rw[hk]at ha;rcases ydu ha hr with⟨x,hx,o,e⟩|⟨rfl,e⟩
   ·exact .inl ⟨x,by unfold AI.xs;rw[hk];simp[AK.axs,hx],o,e⟩
   ·exact .inr e
  |fo op=>rw[hk]at ha;exact ha.elim
  |pan op=>rw[hk]at ha;exact ha.elim
  |isn op=>rw[hk]at ha;exact ha.elim
  |call f l=>rw[hk]at ha;obtain⟨_,_,_,_,_,_,e⟩:=ha;rw[e]at hr;cases hr
  |callW f l bs=>rw[hk]at ha;obtain⟨_,_,_,_,_,_,_,_,e⟩:=ha;rw[e]at hr;cases hr
 unfold zql at ha
 split at ha
 ·exact key ha
 ·obtain⟨_,h3⟩|⟨_,rfl⟩:=ha
  ·exact key h3
  ·cases hr
end Go.Ab
set_option linter.unusedVariables false
set_option linter.unusedSimpArgs false
namespace Go.Ab
def z4x(i j:AI):Bool :=
 (match i.d with
  |some d=>!(j.reads.contains d) && j.d != some d
  |none=>true) &&
 (match j.d with
  |some d=>!(i.reads.contains d)
  |none=>true) && (!i.alo || i.d.isSome) && (!j.alo || j.d.isSome)
def yhh(i:Nat):List AX->Bool
 |[]=>false
 |.t j::r=>j == i || yhh i r
 |.c _::r=>yhh i r
theorem zpw{i:Nat}:∀{r:List AX},yhh i r=true->AX.t i∈r
 |[],h=>by cases h
 |.t j::r,h=>by
  unfold yhh at h;rw[Bool.or_eq_true]at h;rcases h with h|h
  ·rw[beq_iff_eq]at h;subst h;exact List.mem_cons_self ..
  ·exact List.mem_cons_of_mem _ (zpw h)
 |.c _::r,h=>List.mem_cons_of_mem _ (zpw (by unfold yhh at h;exact h))
theorem zvx{id:Nat}:∀{r:List TV},z81 id r=true->∀x∈r,∃j o,x = .v (.ptr j o)/\j≠id
 |[],_,x,h=>by cases h
 |y::r,h,x,hx=>by
  unfold z81 at h
  split at h
  ·rename_i e;cases e
  ·rename_i j o r' e
   cases e
   split at h
   ·cases h
   ·rename_i hne
    rcases List.mem_cons.1 hx with rfl|hx
    ·exact⟨j,o,rfl,hne⟩
    ·exact zvx h x hx
  ·cases h
def pairs:AK->AK->Bool
 |.o (.ldh _ _ _),.o (.stl _ _ _)|.o (.stl _ _ _),.o (.ldh _ _ _)|.o (.sto _ _ _),.o (.stp _ _ _)|.o (.stp _ _ _),.o (.sto _ _ _)|.o (.iao _ _ _),.o (.stp _ _ _)|.o (.stp _ _ _),.o (.iao _ _ _)|.call _ _,.o (.stl _ _ _)|.o (.stl _ _ _),.call _ _=>true
 |.o (.xo (.ldx _ _) (_::r)),.o (.stp _ (.t i) _)=>yhh i r
 |.o (.stp _ (.t i) _),.o (.xo (.ldx _ _) (_::r))=>yhh i r
 |.o (.xo (.insK _) [_,_,_]),.o (.xo (.insK _) [_,_,_])=>true
 |.callW _ _ bs,.o (.xo (.ldy _ _) [_,.t i])=>yhh i bs
 |.o (.xo (.ldy _ _) [_,.t i]),.callW _ _ bs=>yhh i bs
 |_,_=>false
def spcl(i j:AI):Bool:=i.g.isNone && j.g.isNone && pairs i.k j.k
def z5p(i j:AI):Bool :=
 i.cls == 0 || i.cls == 2 || (i.cls == 3 && (j.cls == 0 || j.cls == 2)) || ((i.cls == 1 || i.cls == 4) && j.cls != 3 && j.cls != 6) || (i.cls == 6 && (j.cls == 0 || j.cls == 2 || j.cls == 5)) || (i.cls == 5 && j.cls != 3)
def z7h(i j:AI):Bool:=z5p i j || spcl i j
theorem zsr{i j:AI}(h:z4x i j=true):(∀d,i.d=some d->d ∉ j.reads)/\(∀d,i.d=some d->j.d≠some d)/\(∀d,j.d=some d->d ∉ i.reads)/\(i.alo=true->∃d,i.d=some d)/\(j.alo=true->∃d,j.d=some d):=by
 unfold z4x at h;simp only[Bool.and_eq_true]at h;obtain⟨⟨⟨h1,h2⟩,h3⟩,h4⟩:=h;refine⟨fun d hd=>?_,fun d hd=>?_,fun d hd=>?_,fun ha=>?_,fun ha=>?_⟩
 ·rw[hd]at h1;simp at h1;exact h1.1
 ·rw[hd]at h1;simp at h1;exact h1.2
 ·rw[hd]at h2;simpa using h2
 ·rw[ha]at h3;cases hd:i.d with
  |none=>rw[hd]at h3;simp at h3
  |some d=>exact⟨d,rfl⟩
 ·rw[ha]at h4;cases hd:j.d with
  |none=>rw[hd]at h4;simp at h4
  |some d=>exact⟨d,rfl⟩
theorem zx1(σ:St)(d:Option Nat)(r:Rr)(i:Nat):tg i (σ.app d r).t.l=if d=some i/\i<σ.t.n then r.1 else tg i σ.t.l:=by
 unfold St.app St.put
 cases d with
 |none=>simp
 |some d=>
  try dsimp only
  unfold Ts.set
  try dsimp only
  by_cases hn:d<σ.t.n
  ·rw[if_pos hn]
   try dsimp only
   rw[zj1];by_cases e:d=i
   ·subst e;simp[hn]
   ·simp[e]
  ·rw[if_neg hn]
   rw[if_neg]
   rintro ⟨e,h⟩
   cases e;exact hn h
theorem z9h(σ:St)(d:Option Nat)(r:Rr):(σ.app d r).t.n=σ.t.n:=by
 unfold St.app St.put
 cases d with
 |none=>rfl
 |some d=>dsimp only;unfold Ts.set;split <;> rfl
theorem zj9(σ:St)(d:Option Nat)(r:Rr):(σ.app d r).ls=ape r.2.1 σ.ls:=by unfold St.app St.put;cases d <;> rfl
theorem zbl(σ:St)(d:Option Nat)(r:Rr):(σ.app d r).h=r.2.2:=by unfold St.app St.put;cases d <;> rfl
theorem z7r(σ:St)(d:Option Nat)(r:Rr):(σ.app d r).ds=σ.ds:=by unfold St.app St.put;cases d <;> rfl
theorem yig{σ:St}{d:Option Nat}{r:Rr}{i:AI}(h:∀k,d=some k->k ∉ i.reads):∀x∈i.xs,(σ.app d r).x x=σ.x x:=by
 intro x hx
 cases x with
 |c a=>rfl
 |t k=>
  show tg k (σ.app d r).t.l=tg k σ.t.l;rw[zx1,if_neg]
  rintro ⟨e,_⟩
  exact h k e (by unfold AI.reads;exact List.mem_flatten.2 ⟨[k],List.mem_map.2 ⟨.t k,hx,rfl⟩,by simp⟩)
theorem z60{CC:zee}{i:AI}{σ:St}(hl:z3t σ){r:Rr}(ha:zql CC i σ.x (fun k=>zb5 k σ.ls) σ.h r):z3t (σ.app i.d r):=by
 have mono:∀k,zb5 k σ.ls≠none->zb5 k (σ.app i.d r).ls≠none:=fun k hk=>by
  rw[zj9]
  cases he:r.2.1 with
  |none=>exact hk
  |some e=>
   obtain⟨b,m,c⟩:=e
   cases b with
   |true=>unfold ape zb5;split <;> simp_all
   |false=>unfold ape;rw[zfh];split <;> simp_all
 intro m k off h;rw[zx1]at h
 split at h
 ·rcases yis ha h with⟨x,hx,o,e⟩|⟨c,e⟩
  ·cases x with
   |c a=>cases e
   |t q=>exact mono k (hl q k o e)
  ·rw[zj9,e];unfold ape zb5;simp
 ·exact mono k (hl m k off h)
theorem Eqv.refl(σ:St):Eqv σ σ:=⟨rfl,fun _=>rfl,fun _=>rfl,rfl,rfl⟩
theorem Eqv.trans{a b c:St}(h:Eqv a b)(k:Eqv b c):Eqv a c:=⟨h.n.trans k.n,fun i=>(h.t i).trans (k.t i),fun i=>(h.ls i).trans (k.ls i),h.h.trans k.h,h.ds.trans k.ds⟩
theorem Eqv.symm{a b:St}(h:Eqv a b):Eqv b a:=⟨h.n.symm,fun i=>(h.t i).symm,fun i=>(h.ls i).symm,h.h.symm,h.ds.symm⟩
theorem Eqv.x{a b:St}(h:Eqv a b):a.x=b.x:=by
 funext x
 cases x with
 |t i=>exact h.t i
 |c a=>rfl
theorem yii{e:Option (Bool×Nat×List AV)}{a b:List (Nat×List AV)}(h:∀k,zb5 k a=zb5 k b)(k:Nat):zb5 k (ape e a)=zb5 k (ape e b):=by
 cases e with
 |none=>exact h k
 |some e=>
  obtain⟨t,m,c⟩:=e
  cases t with
  |true=>unfold ape zb5;split <;> first|rfl|exact h k
  |false=>unfold ape;rw[zfh,zfh,h k]
theorem Eqv.app{a b:St}(h:Eqv a b)(d:Option Nat)(r:Rr):Eqv (a.app d r) (b.app d r) :=
 ⟨by rw[z9h,z9h,h.n],fun i=>by rw[zx1,zx1,h.t,h.n],fun k=>by rw[zj9,zj9];exact yii h.ls k,by rw[zbl,zbl],by rw[z7r,z7r,h.ds]⟩
theorem zur{CC:zee}{i:AI}{σ τ σ':St}(h:zwh CC i σ σ')(e:Eqv σ τ):∃τ',zwh CC i τ τ' /\ Eqv σ' τ':=by
 obtain⟨r,h1,rfl⟩:=zk5.1 h;refine⟨τ.app i.d r,zk5.2 ⟨r,?_,rfl⟩,e.app i.d r⟩;have el:(fun k=>zb5 k σ.ls)=fun k=>zb5 k τ.ls:=funext e.ls
 rw[<- e.x,<- el,<- e.h];exact h1
theorem ygt{k d:Nat}{c:List AV}{ls:List (Nat×List AV)}(h:zb5 d ls=none):zb5 d (put k c ls)=none:=by rw[zfh];split <;> simp[h]
theorem yh3{CC:zee}{i j:AI}{σ:St}(hl:z3t σ)(hi:z4x i j=true)(hc:z5p i j=true){ri rj:Rr}(ai:zql CC i σ.x (fun k=>zb5 k σ.ls) σ.h ri)
  (aj:zql CC j (σ.app i.d ri).x (fun k=>zb5 k (σ.app i.d ri).ls) (σ.app i.d ri).h rj) :
  ∃rj' ri',zql CC j σ.x (fun k=>zb5 k σ.ls) σ.h rj' /\ zql CC i (σ.app j.d rj').x (fun k=>zb5 k (σ.app j.d rj').ls) (σ.app j.d rj').h ri' /\ Eqv ((σ.app i.d ri).app j.d rj) ((σ.app j.d rj').app i.d ri'):=by
 obtain⟨s1,s2,s3,s4,s5⟩:=zsr hi;have hcc:i.cls=0\/i.cls=2\/(i.cls=3/\(j.cls=0\/j.cls=2))\/((i.cls=1\/i.cls=4)/\j.cls≠3/\j.cls≠6)\/(i.cls=6/\(j.cls=0\/j.cls=2\/j.cls=5))\/(i.cls=5/\j.cls≠3):=by
  unfold z5p at hc;simpa [or_assoc,and_assoc] using hc
 have alo_key:∀x y:AI,x.alo=true->y.alo=true->(∃d,x.d=some d)->(∃d,y.d=some d)->(∀d,x.d=some d->y.d≠some d)->x.d.getD 0≠y.d.getD 0:=by
  rintro x y _ _ ⟨d,hd⟩ ⟨e,he⟩ hne
  rw[hd,he];intro h;exact hne d hd (by rw[he];simpa using h.symm)
 have xj:∀x∈j.xs,(σ.app i.d ri).x x=σ.x x:=yig s1;have shi:=z3q ai;have hj:∃r',zql CC j σ.x (fun k=>zb5 k σ.ls) σ.h r' /\ r'.1=rj.1/\r'.2.1=rj.2.1/\(σ.h=(σ.app i.d ri).h->r'.2.2=rj.2.2)/\(j.cls=0\/j.cls=2\/j.cls=5->r'.2.2=σ.h):=by
  refine ykr aj xj ?_ ?_
  ·by_cases hi3:i.cls=3
   ·rcases hcc with k|k|⟨_,k|k⟩|⟨k,_⟩|⟨k,_⟩|⟨k,_⟩
    ·omega
    ·omega
    ·exact .inl k
    ·refine .inr (.inl ⟨k,fun hn=>?_⟩)
     try dsimp only at hn ⊢
     rw[zj9]at hn;rcases shi with e|⟨m,c,e,_⟩|⟨c,e,e2,e3⟩
     ·rw[e]at hn;exact hn
     ·rw[e]at hn
      unfold ape at hn;rw[zfh]at hn
      split at hn
      ·cases hq:zb5 (j.d.getD 0) σ.ls with
       |none=>rfl
       |some _=>rw[hq]at hn;cases hn
      ·exact hn
     ·rw[e]at hn
      unfold ape zb5 at hn
      split at hn
      ·cases hn
      ·exact hn
    ·omega
    ·omega
    ·omega
   ·have e1:ri.2.1=none\/∃c,ri.2.1=some (true,i.d.getD 0,c)/\zb5 (i.d.getD 0) σ.ls=none/\i.alo=true:=by
     rcases shi with e|⟨m,c,e,_,k⟩|k
     ·exact .inl e
     ·exact absurd k hi3
     ·exact .inr k
    refine .inr (.inr ⟨fun ha=>?_,fun x hx k off hk=>?_⟩)
    ·try dsimp only
     rw[zj9];rcases e1 with e|⟨c,e,e2,e3⟩
     ·rw[e];rfl
     ·rw[e]
      unfold ape;rw[zb5,if_neg (alo_key i j e3 ha (s4 e3) (s5 ha) s2)]
    ·try dsimp only
     rw[zj9];rw[xj x hx]at hk;rcases e1 with e|⟨c,e,e2,e3⟩
     ·rw[e];rfl
     ·rw[e]
      unfold ape;have:zb5 k σ.ls≠none:=by
       cases x with
       |c a=>cases hk
       |t q=>exact hl q k off hk
      rw[zb5,if_neg (by rintro rfl;exact this e2)]
  ·rcases hcc with k|k|⟨_,k|k⟩|⟨k,_⟩|⟨_,k|k|k⟩|⟨k,_⟩
   ·exact .inl (by rw[zbl,zda ai (by omega)])
   ·exact .inl (by rw[zbl,zda ai (by omega)])
   ·exact .inr (.inl k)
   ·exact .inr (.inr (.inl k))
   ·exact .inl (by rw[zbl,zda ai (by omega)])
   ·exact .inr (.inl k)
   ·exact .inr (.inr (.inl k))
   ·exact .inr (.inr (.inr k))
   ·exact .inl (by rw[zbl,zda ai (by omega)])
 obtain⟨rj',bj,j1,j2,j3,j4⟩:=hj;have shj:=z3q bj;have xi:∀x∈i.xs,σ.x x=(σ.app j.d rj').x x:=fun x hx=>(yig s3 x hx).symm
 have hi':∃r',zql CC i (σ.app j.d rj').x (fun k=>zb5 k (σ.app j.d rj').ls) (σ.app j.d rj').h r' /\ r'.1=ri.1/\r'.2.1=ri.2.1/\((σ.app j.d rj').h=σ.h->r'.2.2=ri.2.2)/\(i.cls=0\/i.cls=2\/i.cls=5->r'.2.2=(σ.app j.d rj').h):=by
  refine ykr ai xi ?_ ?_
  ·by_cases hi0:i.cls=0
   ·exact .inl hi0
   by_cases hi2:i.cls=2
   ·refine .inr (.inl ⟨hi2,fun hn=>?_⟩)
    try dsimp only at hn ⊢
    rw[zj9];rcases shj with e|⟨m,c,e,_⟩|⟨c,e,e2,e3⟩
    ·rw[e];exact hn
    ·rw[e];exact ygt hn
    ·rw[e]
     unfold ape;have halo:i.alo=true:=by
      unfold AI.cls at hi2;unfold AI.alo
      cases hk:i.k with
      |o op=>
       rw[hk]at hi2;dsimp only at hi2 ⊢;cases op
       case xo o l=>exact absurd hi2 (by simp only[AOp.cls];rcases o.cls_le with h|h|h <;> rw[h] <;> decide)
       all_goals simp[AOp.cls,AOp.alo]at hi2 ⊢
      |_=>rw[hk]at hi2;cases hi2
     rw[zb5,if_neg (fun h=>alo_key i j halo e3 (s4 halo) (s5 e3) s2 h.symm)]
     exact hn
   ·have hj3:j.cls≠3:=by
     rcases hcc with k|k|⟨_,k|k⟩|⟨_,k,_⟩|⟨_,k|k|k⟩|⟨_,k⟩
     ·exact absurd k hi0
     ·exact absurd k hi2
     ·omega
     ·omega
     ·exact k
     ·omega
     ·omega
     ·omega
     ·exact k
    refine .inr (.inr ⟨fun ha=>?_,fun x hx k off hk=>?_⟩)
    ·try dsimp only
     rw[zj9];rcases shj with e|⟨m,c,e,_,k⟩|⟨c,e,e2,e3⟩
     ·rw[e];rfl
     ·exact absurd k hj3
     ·rw[e];unfold ape;rw[zb5,if_neg (fun h=>alo_key i j ha e3 (s4 ha) (s5 e3) s2 h.symm)]
    ·try dsimp only
     rw[zj9];rcases shj with e|⟨m,c,e,_,k'⟩|⟨c,e,e2,e3⟩
     ·rw[e];rfl
     ·exact absurd k' hj3
     ·rw[e]
      unfold ape;have:zb5 k σ.ls≠none:=by
       cases x with
       |c a=>cases hk
       |t q=>exact hl q k off hk
      rw[zb5,if_neg (by rintro rfl;exact this e2)]
  ·rcases hcc with k|k|⟨_,k|k⟩|⟨_,k⟩|⟨_,k|k|k⟩|⟨k,_⟩
   ·exact .inr (.inl k)
   ·exact .inr (.inr (.inl k))
   ·exact .inl (by rw[zbl,zda bj (by omega)])
   ·exact .inl (by rw[zbl,zda bj (by omega)])
   ·exact .inl (by rw[zbl,zda bj k])
   ·exact .inl (by rw[zbl,zda bj (by omega)])
   ·exact .inl (by rw[zbl,zda bj (by omega)])
   ·exact .inl (by rw[zbl,zda bj (by omega)])
   ·exact .inr (.inr (.inr k))
 obtain⟨ri',bi,i1,i2,i3,i4⟩:=hi';refine⟨rj',ri',bj,bi,?_,fun m=>?_,fun k=>?_,?_,by simp only[z7r]⟩
 ·simp only[z9h]
 ·simp only[zx1,z9h,j1,i1]
  by_cases h1:j.d=some m/\m<σ.t.n
  ·rw[if_pos h1,if_pos h1,if_neg]
   rintro ⟨h2,_⟩
   exact s2 m h2 h1.1
  ·rw[if_neg h1,if_neg h1]
 ·simp only[zj9,j2,i2]
  rcases shi with e|⟨m,c,e,e2,e3⟩|⟨c,e,e2,e3⟩
  ·rw[e];rfl
  ·rw[e]
   rcases shj with f|⟨m',c',f,f2,f3⟩|⟨c',f,f2,f3⟩
   ·rw[<- j2,f];rfl
   ·omega
   ·rw[<- j2,f]
    unfold ape;rw[zb5,zfh,zfh,zb5];by_cases h1:j.d.getD 0=k
    ·rw[if_pos h1,if_pos h1]
     rw[if_neg (by rintro rfl;rw[<- h1]at e2;exact e2 f2)]
    ·rw[if_neg h1,if_neg h1]
  ·rw[e]
   rcases shj with f|⟨m',c',f,f2,f3⟩|⟨c',f,f2,f3⟩
   ·rw[<- j2,f];rfl
   ·rw[<- j2,f]
    unfold ape;rw[zb5,zfh,zfh,zb5];by_cases h1:i.d.getD 0=k
    ·rw[if_pos h1,if_pos h1]
     rw[if_neg (by rintro rfl;rw[<- h1]at f2;exact f2 e2)]
    ·rw[if_neg h1,if_neg h1]
   ·rw[<- j2,f]
    unfold ape;have hne:=alo_key i j e3 f3 (s4 e3) (s5 f3) s2;rw[zb5,zb5,zb5,zb5];by_cases h1:i.d.getD 0=k
    ·rw[if_neg (by omega),if_pos h1,if_pos h1]
    ·rw[if_neg h1,if_neg h1]
 ·simp only[zbl]
  rcases hcc with k|k|⟨k0,k|k⟩|⟨k,k0⟩|⟨k0,k|k|k⟩|⟨k,k0⟩
  ·rw[i4 (.inl k),zbl]
   exact (j3 (by rw[zbl,zda ai (by omega)])).symm
  ·rw[i4 (.inr (.inl k)),zbl]
   exact (j3 (by rw[zbl,zda ai (by omega)])).symm
  ·rw[i3 (by rw[zbl];exact j4 (.inl k)),zda aj (by omega),zbl]
  ·rw[i3 (by rw[zbl];exact j4 (.inr (.inl k))),zda aj (by omega),zbl]
  ·rw[zda aj k0,zbl,i3 (by rw[zbl,zda bj k0])]
  ·rw[i3 (by rw[zbl];exact j4 (.inl k)),zda aj (by omega),zbl]
  ·rw[i3 (by rw[zbl];exact j4 (.inr (.inl k))),zda aj (by omega),zbl]
  ·rw[i3 (by rw[zbl];exact j4 (.inr (.inr k))),zda aj (by omega),zbl]
  ·rw[i4 (.inr (.inr k)),zbl]
   exact (j3 (by rw[zbl,zda ai (by omega)])).symm
section
variable {d : Nat} {X : AX → TV} {L : Nat → Option (List AV)} {h : List AO} {r : Rr}
theorem zyu{n:Nat}{ag:Bool}{a:AX}:zdg d (.ldh n ag a) X L h=some r ↔ ∃id off cs x,X a = .v (.ptr id off)/\h[id]?=some (.box cs)/\rd n ag (cs.drop off)=some x/\r=(x,none,h):=by
 simp only[zdg];constructor
 ·intro e
  split at e
  ·rename_i id off ea
   split at e
   ·rename_i cs hb
    split at e
    ·rename_i x hx;cases e;exact⟨id,off,cs,x,ea,hb,hx,rfl⟩
    ·cases e
   ·cases e
  ·cases e
 ·rintro ⟨id,off,cs,x,h1,h2,h3,rfl⟩
  simp only[h1,h2,h3]
theorem zol{n:Nat}{a y:AX}:zdg d (.stl n a y) X L h=some r ↔ ∃v cs k off c0,(X y).av=some v/\v.cellsN n=some cs/\X a = .lp k off/\L k=some c0/\off+n<=c0.length/\r=(.junk,some (false,k,over c0 off cs),h):=by
 simp only[zdg];constructor
 ·intro e
  split at e
  ·rename_i v hv
   split at e
   ·rename_i cs hcs
    split at e
    ·rename_i k off ea
     split at e
     ·rename_i c0 hL
      split at e
      ·rename_i hle;cases e;exact⟨v,cs,k,off,c0,hv,hcs,ea,hL,hle,rfl⟩
      ·cases e
     ·cases e
    ·cases e
   ·cases e
  ·cases e
 ·rintro ⟨v,cs,k,off,c0,h1,h2,h3,h4,h5,rfl⟩
  simp only[h1,h2,h3,h4,h5,if_true]
theorem zj2{n:Nat}{a y:AX}:zdg d (.stp n a y) X L h=some r ↔ ∃v cs id off c0,(X y).av=some v/\v.cellsN n=some cs/\X a = .v (.ptr id off)/\h[id]?=some (.box c0)/\off+n<=c0.length/\r=(.junk,none,h.set id (.box (over c0 off cs))):=by
 simp only[zdg];constructor
 ·intro e
  split at e
  ·rename_i v hv
   split at e
   ·rename_i cs hcs
    split at e
    ·rename_i id off ea
     split at e
     ·rename_i c0 hb
      split at e
      ·rename_i hle;cases e;exact⟨v,cs,id,off,c0,hv,hcs,ea,hb,hle,rfl⟩
      ·cases e
     ·cases e
    ·cases e
   ·cases e
  ·cases e
 ·rintro ⟨v,cs,k,off,c0,h1,h2,h3,h4,h5,rfl⟩
  simp only[h1,h2,h3,h4,h5,if_true]
theorem zyb{n:Nat}{a y:AX}:zdg d (.sto n a y) X L h=some r ↔ ∃v cs id ver sz i off es e,(X y).av=some v/\v.cellsN n=some cs/\X a = .op id ver sz i off/\h[id]?=some (.lst ver sz es)/\es[i]?=some e/\off+n<=e.length/\r=(.junk,none,h.set id (.lst ver sz (es.set i (over e off cs)))):=by
 simp only[zdg];constructor
 ·intro e
  split at e
  ·rename_i v hv
   split at e
   ·rename_i cs hcs
    split at e
    ·rename_i id ver sz i off ea
     split at e
     ·rename_i v0 sz' es hb
      split at e
      ·rename_i hvs
       obtain⟨rfl,rfl⟩:=hvs
       split at e
       ·rename_i e0 he
        split at e
        ·rename_i hle;cases e;exact⟨v,cs,id,_,_,i,off,es,e0,hv,hcs,ea,hb,he,hle,rfl⟩
        ·cases e
       ·cases e
      ·cases e
     ·cases e
    ·cases e
   ·cases e
  ·cases e
 ·rintro ⟨v,cs,id,ver,sz,i,off,es,e,h1,h2,h3,h4,h5,h6,rfl⟩
  simp only[h1,h2,h3,h4,h5,h6,and_self,if_true]
theorem zyt{n:Nat}{ag:Bool}{a:AX}{l:List AX}:zdg d (.xo (.ldx n ag) (a::l)) X L h=some r ↔ ∃id off cs x,X a = .v (.ptr id off)/\z81 id (l.map X)=true/\h[id]?=some (.box cs)/\rd n ag (cs.drop off)=some x/\r=(x,none,h):=by
 simp only[zdg,evX,List.map_cons];constructor
 ·intro e
  split at e
  ·rename_i y h' hx
   cases e
   split at hx
   ·rename_i id off r' hl
    simp only[List.cons.injEq]at hl;obtain⟨h1,rfl⟩:=hl
    split at hx
    ·rename_i hd
     split at hx
     ·rename_i cs hb
      split at hx
      ·rename_i z hz;cases hx;exact⟨id,off,cs,_,h1,hd,hb,hz,rfl⟩
      ·cases hx
     ·cases hx
    ·cases hx
   ·cases hx
  ·cases e
 ·rintro ⟨id,off,cs,x,h1,h2,h3,h4,rfl⟩
  simp only[h1,h2,h3,h4,if_true]
theorem zys{n:Nat}{ag:Bool}{a b:AX}:zdg d (.xo (.ldy n ag) [a,b]) X L h=some r ↔ ∃id off off2 cs x,X a = .v (.ptr id off)/\X b = .v (.ptr id off2)/\h[id]?=some (.box cs)/\rd n ag (cs.drop off)=some x/\r=(x,none,h):=by
 simp only[zdg,evX,List.map_cons,List.map_nil];constructor
 ·intro e
  split at e
  ·rename_i y h' hx
   cases e
   split at hx
   ·rename_i id off id2 off2 hl
    simp only[List.cons.injEq,and_true]at hl
    split at hx
    ·rename_i hd
     subst hd
     split at hx
     ·rename_i cs hb
      split at hx
      ·rename_i z hz;cases hx;exact⟨id,off,off2,cs,_,hl.1,hl.2,hb,hz,rfl⟩
      ·cases hx
     ·cases hx
    ·cases hx
   ·cases hx
  ·cases e
 ·rintro ⟨id,off,off2,cs,x,h1,h2,h3,h4,rfl⟩
  simp only[h1,h2,h3,h4,if_true]
theorem zpu{n:Nat}{m k v:AX}:zdg d (.xo (.insK n) [m,k,v]) X L h=some r ↔ ∃id kv y l es,X m = .v (.mp id)/\X k = .v kv/\X v = .v y/\zua n kv=some l/\h[id]?=some (.mapo es)/\zde n l es=some none/\r=(.junk,none,h.set id (.mapo (zoh n kv l y es))):=by
 simp only[zdg,evX,List.map_cons,List.map_nil];constructor
 ·intro e
  split at e
  ·rename_i y h' hx
   cases e
   split at hx
   ·rename_i id kv y hl
    simp only[List.cons.injEq,and_true]at hl
    split at hx
    ·rename_i l hk
     split at hx
     ·rename_i es hm
      split at hx
      ·rename_i hf;cases hx;exact⟨id,kv,y,l,es,hl.1,hl.2.1,hl.2.2,hk,hm,hf,rfl⟩
      ·cases hx
     ·cases hx
    ·cases hx
   ·cases hx
  ·cases e
 ·rintro ⟨id,kv,y,l,es,h1,h2,h3,h4,h5,h6,rfl⟩
  simp only[h1,h2,h3,h4,h5,h6]
theorem zyz{sz:Nat}{a y:AX}:zdg d (.iao sz a y) X L h=some r ↔ ∃k n id ver es,(X y).av=some (.int k n)/\(X a).av=some (.ol id ver)/\h[id]?=some (.lst ver sz es)/\0<=n/\n.toNat<es.length/\r=(.op id ver sz n.toNat 0,none,h):=by
 simp only[zdg];constructor
 ·intro e
  split at e
  ·rename_i k n hv
   split at e
   ·rename_i id ver ha
    split at e
    ·rename_i v0 sz' es hb
     split at e
     ·rename_i hc
      obtain⟨rfl,rfl,h0,h1⟩:=hc;cases e;exact⟨k,n,id,_,es,hv,ha,hb,h0,h1,rfl⟩
     ·cases e
    ·cases e
   ·cases e
  ·cases e
 ·rintro ⟨k,n,id,ver,es,h1,h2,h3,h4,h5,rfl⟩
  simp only[h1,h2,h3,h4,h5,and_self,if_true]
end
theorem zdx{CC:zee}{i:AI}{op:AOp}(hg:i.g=none)(hk:i.k = .o op){X:AX->TV}{L:Nat->Option (List AV)}{h:List AO}{r:Rr}:zql CC i X L h r ↔ zdg (i.d.getD 0) op X L h=some r:=by
 unfold zql;rw[hg];dsimp only;unfold z3z;rw[hk]
theorem yit{CC:zee}{i:AI}{f:AX}{l:List AX}(hg:i.g=none)(hk:i.k = .call f l){X:AX->TV}{L:Nat->Option (List AV)}{h:List AO}{r:Rr}:zql CC i X L h r ↔ ∃c vs v,(X f).av=some c/\as2 X l=some vs/\CC c vs h (fun q h'=>q = .ret v/\h' = h)/\r=(.v v,none,h):=by
 unfold zql;rw[hg];dsimp only;unfold z3z;rw[hk]
theorem yir{CC:zee}{i:AI}{f:AX}{l bs:List AX}(hg:i.g=none)(hk:i.k = .callW f l bs){X:AX->TV}{L:Nat->Option (List AV)}{h:List AO}{r:Rr}:zql CC i X L h r ↔ ∃c vs v h1,(X f).av=some c/\as2 X l=some vs/\CC c vs h (fun q h'=>q = .ret v/\h' = h1)/\kept h h1 (bs.map X)/\r=(.v v,none,h1):=by
 unfold zql;rw[hg];dsimp only;unfold z3z;rw[hk]
theorem zyw{h h':List AO}:∀{r:List TV},kept h h' r->∀x∈r,∃id o,x = .v (.ptr id o)/\h'[id]?=h[id]?
 |[],_,x,hx=>by cases hx
 |y::r,k,x,hx=>by
  unfold kept at k
  split at k
  ·rename_i e;cases e
  ·rename_i id o r' e
   cases e;rcases List.mem_cons.1 hx with rfl|hx
   ·exact⟨id,o,rfl,k.1⟩
   ·exact zyw k.2 x hx
  ·exact k.elim
theorem zyq:∀{a b:List Int},ltL a b=true->ltL b a=false
 |[],[],h=>by cases h
 |[],_::_,_=>rfl
 |_::_,[],h=>by cases h
 |x::a,y::b,h=>by
  unfold ltL at h ⊢;by_cases h1:x<y
  ·rw[if_neg (by omega),if_neg (by omega)]
  ·rw[if_neg h1]at h
   by_cases h2:x=y
   ·rw[if_pos h2]at h
    rw[if_neg (by omega),if_pos h2.symm];exact zyq h
   ·rw[if_neg h2]at h;cases h
theorem z4s:∀{a b:List Int},a≠b->ltL a b=false->ltL b a=true
 |[],[],h,_=>absurd rfl h
 |[],_::_,_,h=>by cases h
 |_::_,[],_,_=>rfl
 |x::a,y::b,hne,h=>by
  unfold ltL at h ⊢;by_cases h1:x<y
  ·rw[if_pos h1]at h;cases h
  ·rw[if_neg h1]at h
   by_cases h2:x=y
   ·rw[if_pos h2]at h
    rw[if_neg (by omega),if_pos h2.symm]
    exact z4s (fun e=>hne (by rw[h2,e])) h
   ·rw[if_pos (by omega)]
theorem zvc:∀{a b c:List Int},ltL a b=true->ltL b c=true->ltL a c=true
 |[],[],_,h,_=>by cases h
 |[],_::_,[],_,h=>by cases h
 |[],_::_,_::_,_,_=>rfl
 |_::_,[],_,h,_=>by cases h
 |_::_,_::_,[],_,h=>by cases h
 |x::a,y::b,z::c,h,k=>by
  unfold ltL at h k ⊢;by_cases h1:x<y
  ·by_cases k1:y<z
   ·rw[if_pos (by omega)]
   ·rw[if_neg k1]at k
    by_cases k2:y=z
    ·rw[if_pos (by omega)]
    ·rw[if_neg k2]at k;cases k
  ·rw[if_neg h1]at h
   by_cases h2:x=y
   ·rw[if_pos h2]at h
    by_cases k1:y<z
    ·rw[if_pos (by omega)]
    ·rw[if_neg k1]at k
     by_cases k2:y=z
     ·rw[if_pos k2]at k
      rw[if_neg (by omega),if_pos (by omega)];exact zvc h k
     ·rw[if_neg k2]at k;cases k
   ·rw[if_neg h2]at h;cases h
theorem zvk{n:Nat}{a b y z:AV}{k1 k2:List Int}(ha:zua n a=some k1)(hb:zua n b=some k2)(hne:k1≠k2):∀es:List (AV×AV),zoh n a k1 y (zoh n b k2 z es)=zoh n b k2 z (zoh n a k1 y es)
 |[]=>by
  simp only[zoh,ha,hb]
  cases h:ltL k1 k2 with
  |true=>rw[zyq h];simp
  |false=>rw[z4s hne h];simp
 |(c,v)::r=>by
  cases hc:zua n c with
  |none=>simp only[zoh,hc];rw[zvk ha hb hne r]
  |some l=>
   cases h1:ltL k1 l <;> cases h2:ltL k2 l
   ·simp only[zoh,hc,h1,h2,Bool.false_eq_true,if_false];rw[zvk ha hb hne r]
   ·have:ltL k1 k2=false:=by
     cases h:ltL k1 k2 with
     |false=>rfl
     |true=>rw[zvc h h2]at h1;cases h1
    simp only[zoh,hc,h1,h2,hb,this,Bool.false_eq_true,if_false,if_true]
   ·have:ltL k2 k1=false:=by
     cases h:ltL k2 k1 with
     |false=>rfl
     |true=>rw[zvc h h1]at h2;cases h2
    simp only[zoh,hc,h1,h2,ha,this,Bool.false_eq_true,if_false,if_true]
   ·cases h:ltL k1 k2 with
    |true=>have:=zyq h;simp only[zoh,hc,h1,h2,ha,hb,h,this,Bool.false_eq_true,if_false,if_true]
    |false=>have:=z4s hne h;simp only[zoh,hc,h1,h2,ha,hb,h,this,Bool.false_eq_true,if_false,if_true]
theorem z69{n:Nat}{a y:AV}{k1 k2:List Int}(ha:zua n a=some k1):∀{es:List (AV×AV)} {x:Option AV},zde n k2 es=some x->zde n k2 (zoh n a k1 y es)≠none
 |[],x,h=>by simp only[zoh,zde,ha];simp
 |(c,v)::r,x,h=>by
  unfold zde at h
  split at h
  ·rename_i l hl
   split at h
   ·rename_i w hw
    cases h1:ltL k1 l
    ·simp only[zoh,hl,h1,Bool.false_eq_true,if_false,zde]
     have:=z69 (y:=y) ha hw
     cases hf:zde n k2 (zoh n a k1 y r) with
     |none=>exact absurd hf this
     |some q=>simp
    ·simp only[zoh,hl,h1,if_true,zde,ha,hw];simp
   ·cases h
  ·cases h
theorem zxq{n:Nat}{a y:AV}{k1 k2:List Int}(ha:zua n a=some k1):∀{es:List (AV×AV)} {x:Option AV},zde n k2 (zoh n a k1 y es)=some x->zde n k2 es≠none
 |[],x,h=>by simp[zde]
 |(c,v)::r,x,h=>by
  cases hc:zua n c with
  |none=>simp only[zoh,hc,zde]at h;cases h
  |some l=>
   cases h1:ltL k1 l
   ·simp only[zoh,hc,h1,Bool.false_eq_true,if_false,zde]at h
    split at h
    ·rename_i q hq
     have:=zxq ha hq;simp only[zde,hc]
     cases hf:zde n k2 r with
     |none=>exact absurd hf this
     |some q=>simp
    ·cases h
   ·simp only[zoh,hc,h1,if_true,zde,ha]at h
    simp only[zde,hc]
    cases hf:zde n k2 r with
    |none=>rw[hf]at h;cases h
    |some q=>simp
theorem zvm{n:Nat}{a y:AV}{k1 k2:List Int}(ha:zua n a=some k1):∀{es:List (AV×AV)},zde n k2 (zoh n a k1 y es)=some none ↔ k1≠k2/\zde n k2 es=some none
 |[]=>by
  simp only[zoh,zde,ha];by_cases e:k1=k2 <;> simp[e]
 |(c,v)::r=>by
  cases hc:zua n c with
  |none=>simp only[zoh,hc,zde];simp
  |some l=>
   have ih:=zvm (k2:=k2) (y:=y) ha (es:=r)
   cases h1:ltL k1 l
   ·simp only[zoh,hc,h1,Bool.false_eq_true,if_false,zde]
    cases hf:zde n k2 (zoh n a k1 y r) with
    |none=>
     dsimp only;have hf2:∀x,zde n k2 r≠some x:=by
      intro x hx;exact absurd (z69 ha hx) (by rw[hf];simp)
     cases hg:zde n k2 r with
     |none=>simp
     |some x=>exact absurd hg (hf2 x)
    |some x=>
     dsimp only;rw[hf]at ih
     cases hg:zde n k2 r with
     |none=>
      dsimp only;have:=zxq ha hf;rw[hg]at this;exact absurd rfl this
     |some w=>
      dsimp only;rw[hg]at ih;by_cases e:l=k2
      ·simp[e]
      ·rw[if_neg e,if_neg e];exact ih
   ·simp only[zoh,hc,h1,if_true,zde,ha]
    cases hf:zde n k2 r with
    |none=>simp
    |some x=>
     dsimp only;by_cases e:k1=k2
     ·simp[e]
     ·by_cases e2:l=k2 <;> simp[e,e2]
theorem pair_ok{CC:zee}{i j:AI}{σ:St}(hi:z4x i j=true)(hc:spcl i j=true){ri rj:Rr}(ai:zql CC i σ.x (fun k=>zb5 k σ.ls) σ.h ri)
  (aj:zql CC j (σ.app i.d ri).x (fun k=>zb5 k (σ.app i.d ri).ls) (σ.app i.d ri).h rj) :
  ∃rj' ri',zql CC j σ.x (fun k=>zb5 k σ.ls) σ.h rj' /\ zql CC i (σ.app j.d rj').x (fun k=>zb5 k (σ.app j.d rj').ls) (σ.app j.d rj').h ri' /\ rj'.1=rj.1/\ri'.1=ri.1/\rj.2.2=ri'.2.2/\(∀k,zb5 k (ape rj.2.1 (ape ri.2.1 σ.ls))=zb5 k (ape ri'.2.1 (ape rj'.2.1 σ.ls))):=by
 obtain⟨s1,s2,s3,s4,s5⟩:=zsr hi;have xj:∀x∈j.xs,(σ.app i.d ri).x x=σ.x x:=yig s1;have xi:∀rj':Rr,∀x∈i.xs,(σ.app j.d rj').x x=σ.x x:=fun rj'=>yig s3
 unfold spcl at hc;simp only[Bool.and_eq_true,Option.isNone_iff_eq_none]at hc;obtain⟨⟨gi,gj⟩,hp⟩:=hc;have mem:∀{i:AI} {op:AOp} {x:AX},i.k = .o op->x∈op.axs->x∈i.xs:=fun hk hx=>by unfold AI.xs;rw[hk];simp[AK.axs,hx]
 unfold pairs at hp
 split at hp
 ·rename_i n ag a m b y ki kj
  rw[zdx gi ki]at ai;rw[zdx gj kj]at aj;obtain⟨id,off,cs,x,h1,h2,h3,rfl⟩:=zyu.1 ai;rw[zj9,zbl]at aj;obtain⟨v,ds,k,of2,c0,k1,k2,k3,k4,k5,rfl⟩:=zol.1 aj;rw[xj y (mem kj (by simp[AOp.axs]))]at k1
  rw[xj b (mem kj (by simp[AOp.axs]))]at k3
  refine⟨_,_,(zdx gj kj).2 (zol.2 ⟨v,ds,k,of2,c0,k1,k2,k3,k4,k5,rfl⟩),(zdx gi ki).2 (zyu.2 ⟨id,off,cs,x,?_,?_,h3,rfl⟩),rfl,rfl,?_,fun _=>rfl⟩
  ·rw[xi _ a (mem ki (by simp[AOp.axs]))];exact h1
  ·rw[zbl];exact h2
  ·rw[zbl]
 ·rename_i m b y n ag a ki kj
  rw[zdx gi ki]at ai;rw[zdx gj kj]at aj;obtain⟨v,ds,k,of2,c0,k1,k2,k3,k4,k5,rfl⟩:=zol.1 ai;rw[zbl]at aj;obtain⟨id,off,cs,x,h1,h2,h3,rfl⟩:=zyu.1 aj;rw[xj a (mem kj (by simp[AOp.axs]))]at h1
  refine⟨_,_,(zdx gj kj).2 (zyu.2 ⟨id,off,cs,x,h1,h2,h3,rfl⟩),(zdx gi ki).2 (zol.2 ⟨v,ds,k,of2,c0,?_,k2,?_,?_,k5,rfl⟩),rfl,rfl,?_,fun _=>rfl⟩
  ·rw[xi _ y (mem ki (by simp[AOp.axs]))];exact k1
  ·rw[xi _ b (mem ki (by simp[AOp.axs]))];exact k3
  ·rw[zj9];exact k4
  ·rw[zbl]
 ·rename_i n a y m b z ki kj
  rw[zdx gi ki]at ai;rw[zdx gj kj]at aj;obtain⟨v,cs,id,ver,sz,q,off,es,e,h1,h2,h3,h4,h5,h6,rfl⟩:=zyb.1 ai;rw[zbl]at aj;obtain⟨w,ds,id2,of2,c0,k1,k2,k3,k4,k5,rfl⟩:=zj2.1 aj;have hne:id≠id2:=by
   rintro rfl
   rw[List.getElem?_set_self (List.getElem?_eq_some_iff.1 h4).1]at k4;cases k4
  rw[List.getElem?_set_ne hne]at k4;rw[xj z (mem kj (by simp[AOp.axs]))]at k1
  rw[xj b (mem kj (by simp[AOp.axs]))]at k3
  refine⟨_,_,(zdx gj kj).2 (zj2.2 ⟨w,ds,id2,of2,c0,k1,k2,k3,k4,k5,rfl⟩),(zdx gi ki).2 (zyb.2 ⟨v,cs,id,ver,sz,q,off,es,e,?_,h2,?_,?_,h5,h6,rfl⟩),rfl,rfl,?_,fun _=>rfl⟩
  ·rw[xi _ y (mem ki (by simp[AOp.axs]))];exact h1
  ·rw[xi _ a (mem ki (by simp[AOp.axs]))];exact h3
  ·rw[zbl,List.getElem?_set_ne hne.symm];exact h4
  ·rw[zbl];exact List.set_comm _ _ hne
 ·rename_i m b z n a y ki kj
  rw[zdx gi ki]at ai;rw[zdx gj kj]at aj;obtain⟨w,ds,id2,of2,c0,k1,k2,k3,k4,k5,rfl⟩:=zj2.1 ai;rw[zbl]at aj;obtain⟨v,cs,id,ver,sz,q,off,es,e,h1,h2,h3,h4,h5,h6,rfl⟩:=zyb.1 aj;have hne:id≠id2:=by
   rintro rfl
   rw[List.getElem?_set_self (List.getElem?_eq_some_iff.1 k4).1]at h4;cases h4
  rw[List.getElem?_set_ne hne.symm]at h4;rw[xj y (mem kj (by simp[AOp.axs]))]at h1
  rw[xj a (mem kj (by simp[AOp.axs]))]at h3
  refine⟨_,_,(zdx gj kj).2 (zyb.2 ⟨v,cs,id,ver,sz,q,off,es,e,h1,h2,h3,h4,h5,h6,rfl⟩),(zdx gi ki).2 (zj2.2 ⟨w,ds,id2,of2,c0,?_,k2,?_,?_,k5,rfl⟩),rfl,rfl,?_,fun _=>rfl⟩
  ·rw[xi _ z (mem ki (by simp[AOp.axs]))];exact k1
  ·rw[xi _ b (mem ki (by simp[AOp.axs]))];exact k3
  ·rw[zbl,List.getElem?_set_ne hne];exact k4
  ·rw[zbl];exact List.set_comm _ _ hne.symm
 ·rename_i n a y m b z ki kj
  rw[zdx gi ki]at ai;rw[zdx gj kj]at aj;obtain⟨kk,q,id,ver,es,h1,h2,h3,h4,h5,rfl⟩:=zyz.1 ai;rw[zbl]at aj;obtain⟨w,ds,id2,of2,c0,k1,k2,k3,k4,k5,rfl⟩:=zj2.1 aj;have hne:id≠id2:=by
   rintro rfl
   rw[h3]at k4;cases k4
  rw[xj z (mem kj (by simp[AOp.axs]))]at k1
  rw[xj b (mem kj (by simp[AOp.axs]))]at k3
  refine⟨_,_,(zdx gj kj).2 (zj2.2 ⟨w,ds,id2,of2,c0,k1,k2,k3,k4,k5,rfl⟩),(zdx gi ki).2 (zyz.2 ⟨kk,q,id,ver,es,?_,?_,?_,h4,h5,rfl⟩),rfl,rfl,?_,fun _=>rfl⟩
  ·rw[xi _ y (mem ki (by simp[AOp.axs]))];exact h1
  ·rw[xi _ a (mem ki (by simp[AOp.axs]))];exact h2
  ·rw[zbl,List.getElem?_set_ne hne.symm];exact h3
  ·rw[zbl]
 ·rename_i m b z n a y ki kj
  rw[zdx gi ki]at ai;rw[zdx gj kj]at aj;obtain⟨w,ds,id2,of2,c0,k1,k2,k3,k4,k5,rfl⟩:=zj2.1 ai;rw[zbl]at aj;obtain⟨kk,q,id,ver,es,h1,h2,h3,h4,h5,rfl⟩:=zyz.1 aj;have hne:id≠id2:=by
   rintro rfl
   rw[List.getElem?_set_self (List.getElem?_eq_some_iff.1 k4).1]at h3;cases h3
  rw[List.getElem?_set_ne hne.symm]at h3;rw[xj y (mem kj (by simp[AOp.axs]))]at h1
  rw[xj a (mem kj (by simp[AOp.axs]))]at h2
  refine⟨_,_,(zdx gj kj).2 (zyz.2 ⟨kk,q,id,ver,es,h1,h2,h3,h4,h5,rfl⟩),(zdx gi ki).2 (zj2.2 ⟨w,ds,id2,of2,c0,?_,k2,?_,?_,k5,rfl⟩),rfl,rfl,?_,fun _=>rfl⟩
  ·rw[xi _ z (mem ki (by simp[AOp.axs]))];exact k1
  ·rw[xi _ b (mem ki (by simp[AOp.axs]))];exact k3
  ·rw[zbl];exact k4
  ·rw[zbl]
 ·rename_i f l m b y ki kj
  have memc:∀x∈f::l,x∈i.xs:=fun x hx=>by unfold AI.xs;rw[ki];exact List.mem_append.2 (.inl hx)
  rw[yit gi ki]at ai;rw[zdx gj kj]at aj;obtain⟨c,vs,v,h1,h2,h3,rfl⟩:=ai;rw[zj9,zbl]at aj;obtain⟨w,ds,k,of2,c0,k1,k2,k3,k4,k5,rfl⟩:=zol.1 aj;rw[xj y (mem kj (by simp[AOp.axs]))]at k1
  rw[xj b (mem kj (by simp[AOp.axs]))]at k3
  refine⟨_,_,(zdx gj kj).2 (zol.2 ⟨w,ds,k,of2,c0,k1,k2,k3,k4,k5,rfl⟩),(yit gi ki).2 ⟨c,vs,v,?_,?_,?_,rfl⟩,rfl,rfl,?_,fun _=>rfl⟩
  ·rw[xi _ f (memc f (by simp))];exact h1
  ·rw[zjy fun x hx=>xi _ x (memc x (by simp[hx]))];exact h2
  ·rw[zbl];exact h3
  ·rw[zbl]
 ·rename_i m b y f l ki kj
  have memc:∀x∈f::l,x∈j.xs:=fun x hx=>by unfold AI.xs;rw[kj];exact List.mem_append.2 (.inl hx)
  rw[zdx gi ki]at ai;rw[yit gj kj]at aj;obtain⟨w,ds,k,of2,c0,k1,k2,k3,k4,k5,rfl⟩:=zol.1 ai;rw[zbl]at aj;obtain⟨c,vs,v,h1,h2,h3,rfl⟩:=aj;rw[xj f (memc f (by simp))]at h1
  rw[zjy fun x hx=>xj x (memc x (by simp[hx]))]at h2
  refine⟨_,_,(yit gj kj).2 ⟨c,vs,v,h1,h2,h3,rfl⟩,(zdx gi ki).2 (zol.2 ⟨w,ds,k,of2,c0,?_,k2,?_,?_,k5,rfl⟩),rfl,rfl,?_,fun _=>rfl⟩
  ·rw[xi _ y (mem ki (by simp[AOp.axs]))];exact k1
  ·rw[xi _ b (mem ki (by simp[AOp.axs]))];exact k3
  ·rw[zj9];exact k4
  ·rw[zbl]
 ·rename_i n ag a l m i2 z ki kj
  rw[zdx gi ki]at ai;rw[zdx gj kj]at aj;obtain⟨id,off,cs,x,h1,h2,h3,h4,rfl⟩:=zyt.1 ai;rw[zbl]at aj;obtain⟨w,ds,id2,of2,c0,k1,k2,k3,k4,k5,rfl⟩:=zj2.1 aj;rw[xj z (mem kj (by simp[AOp.axs]))]at k1
  rw[xj (.t i2) (mem kj (by simp[AOp.axs]))]at k3
  have hne:id≠id2:=by
   obtain⟨j,o,e,hj⟩:=zvx h2 (σ.x (.t i2)) (List.mem_map_of_mem (zpw hp));rw[k3]at e;cases e;exact hj.symm
  refine⟨_,_,(zdx gj kj).2 (zj2.2 ⟨w,ds,id2,of2,c0,k1,k2,k3,k4,k5,rfl⟩),(zdx gi ki).2 (zyt.2 ⟨id,off,cs,x,?_,?_,?_,h4,rfl⟩),rfl,rfl,?_,fun _=>rfl⟩
  ·rw[xi _ a (mem ki (by simp[AOp.axs]))];exact h1
  ·rw[List.map_congr_left fun x hx=>xi _ x (mem ki (by simp[AOp.axs,hx]))];exact h2
  ·rw[zbl,List.getElem?_set_ne hne.symm];exact h3
  ·rw[zbl]
 ·rename_i m i2 z n ag a l ki kj
  rw[zdx gi ki]at ai;rw[zdx gj kj]at aj;obtain⟨w,ds,id2,of2,c0,k1,k2,k3,k4,k5,rfl⟩:=zj2.1 ai;rw[zbl]at aj;obtain⟨id,off,cs,x,h1,h2,h3,h4,rfl⟩:=zyt.1 aj;rw[xj a (mem kj (by simp[AOp.axs]))]at h1
  rw[List.map_congr_left fun x hx=>xj x (mem kj (by simp[AOp.axs,hx]))]at h2
  have hne:id≠id2:=by
   obtain⟨j,o,e,hj⟩:=zvx h2 (σ.x (.t i2)) (List.mem_map_of_mem (zpw hp));rw[k3]at e;cases e;exact hj.symm
  rw[List.getElem?_set_ne hne.symm]at h3;refine⟨_,_,(zdx gj kj).2 (zyt.2 ⟨id,off,cs,x,h1,h2,h3,h4,rfl⟩),(zdx gi ki).2 (zj2.2 ⟨w,ds,id2,of2,c0,?_,k2,?_,?_,k5,rfl⟩),rfl,rfl,?_,fun _=>rfl⟩
  ·rw[xi _ z (mem ki (by simp[AOp.axs]))];exact k1
  ·rw[xi _ (.t i2) (mem ki (by simp[AOp.axs]))];exact k3
  ·rw[zbl];exact k4
  ·rw[zbl]
 ·rename_i n m k v n2 m2 k2 v2 ki kj
  rw[zdx gi ki]at ai;rw[zdx gj kj]at aj;obtain⟨id,kv,y,l,es,h1,h2,h3,h4,h5,h6,rfl⟩:=zpu.1 ai;rw[zbl]at aj;obtain⟨id2,kv2,y2,l2,es2,g1,g2,g3,g4,g5,g6,rfl⟩:=zpu.1 aj;rw[xj m2 (mem kj (by simp[AOp.axs]))]at g1
  rw[xj k2 (mem kj (by simp[AOp.axs]))]at g2
  rw[xj v2 (mem kj (by simp[AOp.axs]))]at g3
  by_cases hid:id=id2
  ·subst hid
   have hlt:=(List.getElem?_eq_some_iff.1 h5).1;rw[List.getElem?_set_self hlt]at g5;cases g5;have hnn:n2=n:=by
    obtain⟨q,hq,hsp⟩:=zsq (n:=n) (a:=kv) (y:=y) (k:=l) es;have hat:(zoh n kv l y es)[q]?=some (kv,y):=by
     rw[hsp,List.getElem?_append_right (by rw[List.length_take];omega),List.length_take,Nat.min_eq_left hq,Nat.sub_self];rfl
    obtain⟨l3,hl3⟩:=zud g6 hat;obtain⟨e1,e2⟩:=zmi h4;obtain⟨e3,e4⟩:=zmi hl3;have e3:kv=_:=e3;rw[e3]at e1;injection e1 with e1;have:=congrArg List.length e1;rw[List.length_map,List.length_map]at this;omega
   subst hnn;obtain⟨hne,hf⟩:=(zvm h4).1 g6;refine⟨_,_,(zdx gj kj).2 (zpu.2 ⟨id,kv2,y2,l2,es,g1,g2,g3,g4,h5,hf,rfl⟩),(zdx gi ki).2 (zpu.2 ⟨id,kv,y,l,zoh n2 kv2 l2 y2 es,?_,?_,?_,h4,?_,(zvm g4).2 ⟨hne.symm,h6⟩,rfl⟩),rfl,rfl,?_,fun _=>rfl⟩
   ·rw[xi _ m (mem ki (by simp[AOp.axs]))];exact h1
   ·rw[xi _ k (mem ki (by simp[AOp.axs]))];exact h2
   ·rw[xi _ v (mem ki (by simp[AOp.axs]))];exact h3
   ·rw[zbl,List.getElem?_set_self hlt]
   ·rw[zbl,List.set_set,List.set_set,zvk g4 h4 hne.symm]
  ·rw[List.getElem?_set_ne hid]at g5
   refine⟨_,_,(zdx gj kj).2 (zpu.2 ⟨id2,kv2,y2,l2,es2,g1,g2,g3,g4,g5,g6,rfl⟩),(zdx gi ki).2 (zpu.2 ⟨id,kv,y,l,es,?_,?_,?_,h4,?_,h6,rfl⟩),rfl,rfl,?_,fun _=>rfl⟩
   ·rw[xi _ m (mem ki (by simp[AOp.axs]))];exact h1
   ·rw[xi _ k (mem ki (by simp[AOp.axs]))];exact h2
   ·rw[xi _ v (mem ki (by simp[AOp.axs]))];exact h3
   ·rw[zbl,List.getElem?_set_ne (Ne.symm hid)];exact h5
   ·rw[zbl];exact List.set_comm _ _ hid
 ·rename_i f l bs n ag a i2 ki kj
  have memc:∀x∈f::(l++bs),x∈i.xs:=fun x hx=>by unfold AI.xs;rw[ki];exact List.mem_append.2 (.inl hx)
  rw[yir gi ki]at ai;rw[zdx gj kj]at aj;obtain⟨c,vs,v,h1,k1,k2,k3,k4,rfl⟩:=ai;rw[zbl]at aj;obtain⟨id,off,off2,cs,x,g1,g2,g3,g4,rfl⟩:=zys.1 aj;rw[xj a (mem kj (by simp[AOp.axs]))]at g1
  rw[xj (.t i2) (mem kj (by simp[AOp.axs]))]at g2
  obtain⟨id3,o,e1,e2⟩:=zyw k4 (σ.x (.t i2)) (List.mem_map_of_mem (zpw hp));rw[g2]at e1;cases e1;have g3:h1[id]?=some (.box cs):=g3;refine⟨_,_,(zdx gj kj).2 (zys.2 ⟨id,off,off2,cs,x,g1,g2,by rw[<- e2];exact g3,g4,rfl⟩),(yir gi ki).2 ⟨c,vs,v,h1,?_,?_,?_,?_,rfl⟩,rfl,rfl,rfl,fun _=>rfl⟩
  ·rw[xi _ f (memc f (by simp))];exact k1
  ·rw[zjy fun x hx=>xi _ x (memc x (by simp[hx]))];exact k2
  ·rw[zbl];exact k3
  ·rw[zbl,List.map_congr_left fun x hx=>xi _ x (memc x (by simp[hx]))];exact k4
 ·rename_i n ag a i2 f l bs ki kj
  have memc:∀x∈f::(l++bs),x∈j.xs:=fun x hx=>by unfold AI.xs;rw[kj];exact List.mem_append.2 (.inl hx)
  rw[zdx gi ki]at ai;rw[yir gj kj]at aj;obtain⟨id,off,off2,cs,x,g1,g2,g3,g4,rfl⟩:=zys.1 ai;rw[zbl]at aj;obtain⟨c,vs,v,h1,k1,k2,k3,k4,rfl⟩:=aj;rw[xj f (memc f (by simp))]at k1
  rw[zjy fun x hx=>xj x (memc x (by simp[hx]))]at k2
  rw[List.map_congr_left fun x hx=>xj x (memc x (by simp[hx]))]at k4
  obtain⟨id3,o,e1,e2⟩:=zyw k4 (σ.x (.t i2)) (List.mem_map_of_mem (zpw hp));rw[g2]at e1;cases e1;refine⟨_,_,(yir gj kj).2 ⟨c,vs,v,h1,k1,k2,k3,k4,rfl⟩,(zdx gi ki).2 (zys.2 ⟨id,off,off2,cs,x,?_,?_,?_,g4,rfl⟩),rfl,rfl,by rw[zbl],fun _=>rfl⟩
  ·rw[xi _ a (mem ki (by simp[AOp.axs]))];exact g1
  ·rw[xi _ (.t i2) (mem ki (by simp[AOp.axs]))];exact g2
  ·rw[zbl];show h1[id]?=_;rw[e2];exact g3
 ·cases hp
theorem diamond{CC:zee}{i j:AI}{σ:St}(hl:z3t σ)(hi:z4x i j=true)(hc:z7h i j=true){ri rj:Rr}(ai:zql CC i σ.x (fun k=>zb5 k σ.ls) σ.h ri)
  (aj:zql CC j (σ.app i.d ri).x (fun k=>zb5 k (σ.app i.d ri).ls) (σ.app i.d ri).h rj) :
  ∃rj' ri',zql CC j σ.x (fun k=>zb5 k σ.ls) σ.h rj' /\ zql CC i (σ.app j.d rj').x (fun k=>zb5 k (σ.app j.d rj').ls) (σ.app j.d rj').h ri' /\ Eqv ((σ.app i.d ri).app j.d rj) ((σ.app j.d rj').app i.d ri'):=by
 unfold z7h at hc;rw[Bool.or_eq_true]at hc;rcases hc with hc|hc
 ·exact yh3 hl hi hc ai aj
 ·obtain⟨rj',ri',bj,bi,e1,e2,e3,e4⟩:=pair_ok hi hc ai aj
  obtain⟨s1,s2,s3,s4,s5⟩:=zsr hi;refine⟨rj',ri',bj,bi,?_,fun m=>?_,fun k=>?_,?_,by simp only[z7r]⟩
  ·simp only[z9h]
  ·simp only[zx1,z9h,e1,e2]
   by_cases h1:j.d=some m/\m<σ.t.n
   ·rw[if_pos h1,if_pos h1,if_neg]
    rintro ⟨h2,_⟩
    exact s2 m h2 h1.1
   ·rw[if_neg h1,if_neg h1]
  ·simp only[zj9];exact e4 k
  ·simp only[zbl];exact e3
end Go.Ab
set_option linter.unusedVariables false
set_option linter.unusedSimpArgs false
namespace Go.Ab
theorem z3k{CC:zee}{is:List AI}{Q:St->Prop}:∀{n:Nat} {l:Array Bool} {σ τ:St},Eqv σ τ->zv8 CC is Q n l σ->zv8 CC is Q n l τ
 |0,l,σ,τ,e,h=>by obtain⟨h1,ρ,h2,h3⟩:=h;exact⟨h1,ρ,e.symm.trans h2,h3⟩
 |n+1,l,σ,τ,e,h=>by
  refine⟨fun hr=>?_,fun i hi o ho=>?_⟩
  ·obtain⟨ρ,h2,h3⟩:=h.1 hr;exact⟨ρ,e.symm.trans h2,h3⟩
  ·obtain⟨σ',h1,h2⟩:=h.2 i hi o ho
   obtain⟨τ',h3,h4⟩:=zur h1 e;exact⟨τ',h3,z3k h4 h2⟩
theorem zu9{is:List AI}{j:Nat}{l:Array Bool}:j∈rdy is l ↔ l.getD j true=false/\∃o,is[j]?=some o/\∀m∈o.af,l.getD m false=true:=by
 unfold rdy;rw[List.mem_filter,List.mem_range]
 cases ho:is[j]? with
 |none=>simp
 |some o=>
  have hlt:j<is.length:=(List.getElem?_eq_some_iff.1 ho).1;simp[hlt]
theorem zyk{is:List AI}{i j:Nat}{l:Array Bool}(hj:j∈rdy is l)(hne:j≠i):j∈rdy is (l.setIfInBounds i true):=by
 rw[zu9]at *;obtain⟨h0,o,ho,hall⟩:=hj;exact⟨by rw[getD_set_ne true (Ne.symm hne)];exact h0,o,ho,fun m hm=>getD_set_true (hall m hm)⟩
theorem zv7{CC:zee}{is:List AI}{Q:St->Prop}{i:Nat}{oi:AI}(hi:is[i]?=some oi){late:Nat->Bool}(hlate:∀j,late j=true->∃oj,is[j]?=some oj/\∃m∈oj.af,m=i\/late m=true):
  ∀(n:Nat) (l:Array Bool) (σ σ1:St),z3t σ->i∈rdy is l->zwh CC oi σ σ1->(∀(j:Nat) (oj:AI),is[j]?=some oj->j≠i->l.getD j true=false->late j=false->z4x oi oj=true/\z7h oi oj=true) ->
   (∀j,late j=true->l.getD j false=false)->zv8 CC is Q n (l.setIfInBounds i true) σ1->zv8 CC is Q (n+1) l σ
 |0,l,σ,σ1,hl,hr,hs,hf,hu,H=>by
  refine⟨fun h=>(by rw[h]at hr;cases hr),fun j hj o ho=>?_⟩
  by_cases hji:j=i
  ·subst hji;rw[hi]at ho;cases ho;exact⟨σ1,hs,H⟩
  ·have:=zyk hj hji
   rw[H.1]at this;cases this
 |n+1,l,σ,σ1,hl,hr,hs,hf,hu,H=>by
  refine⟨fun h=>(by rw[h]at hr;cases hr),fun j hj o ho=>?_⟩
  by_cases hji:j=i
  ·subst hji;rw[hi]at ho;cases ho;exact⟨σ1,hs,H⟩
  ·obtain⟨σ2,h1,h2⟩:=H.2 j (zyk hj hji) o ho
   obtain⟨hjun,o',ho',hall⟩:=zu9.1 hj;rw[ho]at ho'
   cases ho'
   have hiun:l.getD i false=false:=by
    have h0:=(zu9.1 hr).1;rcases Nat.lt_or_ge i l.size with h' | h'
    ·simp[h']at h0 ⊢;exact h0
    ·simp[Array.getElem?_eq_none h']at h0
   have hnl:late j=false:=by
    cases hq:late j with
    |false=>rfl
    |true=>
     obtain⟨oj,ho',m,hm,hk⟩:=hlate j hq;rw[ho]at ho'
     cases ho'
     have:=hall m hm;rcases hk with rfl|hk
     ·rw[hiun]at this;cases this
     ·rw[hu m hk]at this;cases this
   obtain⟨hin,hco⟩:=hf j o ho hji hjun hnl;obtain⟨ri,ai,rfl⟩:=zk5.1 hs;obtain⟨rj,aj,rfl⟩:=zk5.1 h1;obtain⟨rj',ri',b1,b2,b3⟩:=diamond hl hin hco ai aj;refine⟨_,zk5.2 ⟨rj',b1,rfl⟩,?_⟩;refine zv7 hi hlate n _ _ _ (z60 hl b1) (zyk hr (Ne.symm hji)) (zk5.2 ⟨ri',b2,rfl⟩) (fun k ok hk hki hun hkl=>?_) (fun k hk=>?_) ?_
   ·refine hf k ok hk hki ?_ hkl
    by_cases hjk:j=k
    ·subst hjk;exact hjun
    ·rw[getD_set_ne true hjk]at hun;exact hun
   ·have:j≠k:=by rintro rfl;rw[hk]at hnl;cases hnl
    rw[getD_set_ne false this];exact hu k hk
   ·rw[Array.setIfInBounds_comm _ _ hji]
    exact z3k b3 h2
def awl(CC:zee):List AI->(St->Prop)->St->Prop
 |[],Q,σ=>Q σ
 |i::r,Q,σ=>∃σ',zwh CC i σ σ' /\ awl CC r Q σ'
def zvg(is:List AI)(k:Nat):List Nat :=
 (List.range is.length).foldl (fun acc j=>match is[j]? with
  |some o=>if o.af.any (fun m=>m == k || acc.contains m) then j::acc else acc
  |none=>acc) []
def yka(is:List AI)(k:Nat):Bool :=
 match is[k]? with
 |none=>false
 |some o=>o.af.all (fun m=>decide (m<k)) &&
  (zvg is k).all (fun j=>decide (k<j) && match is[j]? with
   |some oj=>oj.af.any fun m=>m == k || (zvg is k).contains m
   |none=>false) &&
  (List.range is.length).all fun j=>decide (j<=k) || (zvg is k).contains j || (match is[j]? with
   |some oj=>z4x o oj && z7h o oj
   |none=>true)
def lexB(is:List AI):Bool:=(List.range is.length).all (yka is)
def znk(n k:Nat):Array Bool:=((List.range n).map fun i=>decide (i<k)).toArray
theorem zlu(n k i:Nat)(d:Bool):(znk n k).getD i d=if i<n then decide (i<k) else d:=by
 unfold znk;rw[Array.getD_eq_getD_getElem?];by_cases h:i<n
 ·simp[h,List.getElem?_range]
 ·simp[h]
theorem z80(n k:Nat):(znk n k).setIfInBounds k true=znk n (k+1):=by
 apply Array.ext
 ·simp[znk]
 ·intro i h1 h2
  simp[znk]at h1 h2;rw[Array.getElem_setIfInBounds (by simpa [znk] using h1)]
  split
  ·rename_i e;subst e;simp[znk]
  ·rename_i e
   simp[znk];omega
theorem yj2{CC:zee}{is:List AI}(hB:lexB is=true){Q:St->Prop}:∀(r:List AI) (k:Nat) (σ:St),is.drop k=r->k+r.length=is.length->z3t σ->awl CC r Q σ->zv8 CC is Q r.length (znk is.length k) σ
 |[],k,σ,hd,hk,hl,h=>by
  refine⟨?_,σ,.refl σ,h⟩;apply List.eq_nil_iff_forall_not_mem.2;intro j hj;obtain⟨h1,o,ho,_⟩:=zu9.1 hj;have hlt:=(List.getElem?_eq_some_iff.1 ho).1;rw[zlu,if_pos hlt]at h1;simp at h1 hk;omega
 |o::r,k,σ,hd,hk,hl,⟨σ1,h1,h2⟩=>by
  have hi:is[k]?=some o:=by have:=congrArg (·[0]?) hd;simpa using this
  have hkl:k<is.length:=(List.getElem?_eq_some_iff.1 hi).1;have hb:=List.all_eq_true.1 hB k (List.mem_range.2 hkl);unfold yka at hb;rw[hi]at hb;simp only[Bool.and_eq_true,List.all_eq_true,decide_eq_true_eq]at hb;obtain⟨⟨b1,b2⟩,b3⟩:=hb;refine zv7 hi (late:=fun j=>(zvg is k).contains j) (fun j hj=>?_) r.length _ σ σ1 hl ?_ h1 (fun j oj hoj hne hun hlt=>?_) (fun j hj=>?_) ?_
  ·have hm:j∈zvg is k:=by simpa using hj
   obtain⟨_,b⟩:=b2 j hm
   cases hoj:is[j]? with
   |none=>rw[hoj]at b;cases b
   |some oj=>
    rw[hoj]at b;obtain⟨m,hm,hq⟩:=List.any_eq_true.1 b;refine⟨oj,rfl,m,hm,?_⟩;simpa using hq
  ·refine zu9.2 ⟨by rw[zlu,if_pos hkl];simp,o,hi,fun m hm=>?_⟩
   have:=b1 m hm;rw[zlu,if_pos (by omega)]
   simpa using this
  ·have hjl:=(List.getElem?_eq_some_iff.1 hoj).1
   rw[zlu,if_pos hjl]at hun;have hjk:¬ j<=k:=by simp at hun;omega
   have b:=b3 j (List.mem_range.2 hjl);rw[hoj]at b;have hlt':(zvg is k).contains j=false:=hlt;rw[hlt']at b;simp[hjk]at b;exact b
  ·have hm:j∈zvg is k:=by simpa using hj
   obtain⟨b,_⟩:=b2 j hm;rw[zlu]
   split
   ·simp;omega
   ·rfl
  ·rw[z80]
   refine yj2 hB r (k+1) σ1 ?_ (by simp at hk;omega) ?_ h2
   ·have:is.drop (k+1)=(is.drop k).drop 1:=by rw[List.drop_drop]
    rw[this,hd];rfl
   ·obtain⟨ri,ai,rfl⟩:=zk5.1 h1
    exact z60 hl ai
 termination_by r=>r.length
theorem yid{CC:zee}{is:List AI}(hB:lexB is=true){Q:Out->St->Prop}{σ:St}(h:awl CC is (Q .normal) σ):awp CC (.dreg is) Q σ:=fun hl=>by
 have:=yj2 hB is 0 σ rfl (by simp) hl h
 have e:znk is.length 0=Array.replicate is.length false:=by
  apply Array.ext
  ·simp[znk]
  ·intro i h1 h2;simp[znk]
 rwa [e]at this
section
variable {CC : zee} {Q : St → Prop} {σ : St} (r : List AI) (d : Nat) (op : AOp) (f : AX) (l : List AX) (j : Nat) (w : Bool) (af : List Nat) (od : Option Nat)
end
end Go.Ab
end
