/- What the law ConvGather of layer 17 comes to, part 26. Conditions: none. -/
import Derived.Test.YthebfdakjfnpeaaGreatZfay
import Derived.Test.YthebfdakjfnpeaaGreatZfaw
section
set_option linter.unusedVariables false
set_option linter.unusedSimpArgs false
set_option maxRecDepth 100000
set_option maxHeartbeats 2000000
namespace Go.Ab
open Go.RowKit Go.Proofs
def yk0(n:Nat)(p:Nat×List Cl):List AO:=[.lst p.1 3 (Cl.css p.2),.box [.ol n p.1]]
def appJ(p:Nat×List Cl)(x:Cl):Option ((Nat×List Cl) ⊕ Empty):=if p.2.length<1073741823 then some (.inl (p.1+1,p.2++[x])) else none
theorem app_ys(H:List AO):Ys (.yd (H.length+2+1)) (H.length+2+2) encC (fun p=>H++(yk0 H.length p++[.dfr,.slp .ready 13 [(2,.ptr (H.length+1) 0)] [7] zau zat])) (fun e:Empty=>H++(noE e++[.dfr,.slp (.done (noE e)) 13 [(2,.ptr (H.length+1) 0)] [7] zau zat])) appJ:=by
 refine z3u H 2 encC (yk0 H.length) noE noE appJ 13 [(2,.ptr (H.length+1) 0)] [7] zau zat zjh zjg (fun _=>rfl) ?_ ?_ ?_ ?_
 ·rintro (p|e)
  ·rfl
  ·exact e.elim
 ·rintro s (p|e) i o ho
  ·match i,ho with
   |0,ho=>simp[ze7,yk0]at ho;subst ho;exact .inr fun a ha=>zz9 _ _ a ha
   |1,ho=>simp[ze7,yk0]at ho;subst ho;exact .inr fun a ha=>by simp at ha;subst ha;exact .ol (by omega)
   |j+2,ho=>simp[ze7,yk0]at ho
  ·exact e.elim
 ·intro p hp;simp at hp;subst hp;exact .ptr (by omega)
 ·rintro ⟨ver,es⟩ x X r hst
  refine⟨[],?_⟩;unfold appJ at hst;dsimp only at hst
  split at hst
  ·rename_i h2
   cases hst;simp only[↓reduceIte,go_sem,yk0,encC,z4j,isL,show es.length<=1073741823 by omega,zm3]
  ·cases hst
theorem z7l:∀(xs:List Cl) (ver:Nat) (es:List Cl),es.length+xs.length<=1073741823->∃v,zlh appJ xs (ver,es)=some (.inl (v,es++xs))
 |[],ver,es,_=>⟨ver,by simp[zlh]⟩
 |x::r,ver,es,h=>by
  simp at h;obtain⟨v,hv⟩:=z7l r (ver+1) (es++[x]) (by simp;omega)
  refine⟨v,?_⟩;rw[zlh];unfold appJ;dsimp only;rw[if_pos (by omega)]
  rw[List.append_assoc]at hv;exact hv
theorem zvr(k:FuncId)(c:AV)(cap:List AV)(xs:List Cl)(hs:yff (.fn (.func k) [] (c::cap)) encC xs)(hx:xs.length<=1073741823)(H:List AO):
  ∃v J,FK zbq [.fn (.func k) [] (c::cap)] H=some (.ret (.ol H.length v),H++(.lst v 3 (Cl.css xs)::J)):=by
 obtain⟨v,hv⟩:=z7l xs 0 [] (by simpa using hx)
 have hr:=hs _ _ _ _ _ _ _ (app_ys H) (0,[]) [] _ hv;have he:=zsq (H:=H) (DR:=yk0 H.length (v,xs)) (k:=2) rfl (st:=.ready) (nn:=13) (t:=[(2,.ptr (H.length+1) 0)]) (ps:=[7]) (asg:=zau) (body:=zat);have e0:Cl.css []=[]:=rfl;simp only[ze7,yk0,zgg,List.cons_append,List.nil_append,List.append_nil,Nat.add_assoc,Nat.reduceAdd,e0]at hr he;have hA:∃J,FK za2 [.nils 3,.fn (.func k) [] (c::cap)] H=some (.ret (.ol H.length v),H++(.lst v 3 (Cl.css xs)::J)):=by
  rw[zli];simp only[↓reduceIte,go_sem,hr,he,List.mem_cons,List.not_mem_nil,or_false,forall_eq,List.nodup_cons,List.nodup_nil,not_false_eq_true,and_self];exact⟨_,rfl⟩
 obtain⟨J,hA⟩:=hA;refine⟨v,J,?_⟩;rw[zmx];simp only[↓reduceIte,go_sem,hA]
theorem z0z(z:List Bool)(hz:z.length<=5)(m:List Int)(hm:m.length=z.length+1)(hb:okM (z.length+1) m):∀(s p:List Bool),z=p++s->∀(o:List Int),o.length=z.length->∃vs,∀(H K:List AO),
  zbz H (H++(K++[.lst 0 1 (zay o)])) (.sl (zay m)) (.ol (H.length+K.length) 0) (.sl (bls z)) (.int .i64 z.length) (.int .i64 p.length)=some (.ret (.tup [.sl (zay vs),.bool true]),H):=by
 have g0:=hb.get (v:=0) (by omega) (by omega)
 have e0:m[0]?=some (gI m 0):=g0.1;have lX:∀(H K:List AO) o,(H++(K++[o]))[H.length+K.length]?=some o:=fun H K o=>by
  rw[List.getElem?_append_right (by omega),List.getElem?_append_right (by omega)];simp
 have lS:∀(H K:List AO) o o',(H++(K++[o])).set (H.length+K.length) o' = H++(K++[o']):=fun H K o o'=>by
  rw[List.set_append_right _ _ (by omega),List.set_append_right _ _ (by omega)];simp
 intro s
 induction s with
 |nil=>
  intro p h o ho;rw[List.append_nil]at h;subst h;refine⟨o,fun H K=>?_⟩
  rw[zbz,zab];simp only[↓reduceIte,go_sem,lX,lS]
 |cons x s ih=>
  intro p h o ho;have hga:z[p.length]?=some x:=by rw[h];simp
  have hp:p.length<z.length:=by rw[h];simp
  have g1:=hb.get (v:=(p.length:Int)+1) (by omega) (by omega)
  have hnn:(0:Int)<=(p.length:Int)+1:=by omega
  have hpo:p.length<o.length:=by omega
  cases x
  ·obtain⟨vs,h1⟩:=ih (p++[false]) (by rw[h];simp) (o.set p.length (gI m 0 - gI m ((p.length:Int)+1))) (by simpa using ho)
   refine⟨vs,fun H K=>?_⟩
   have h1:=h1 H K;have hset:(zay o).set p.length [.int .i64 (gI m 0 - gI m ((p.length:Int)+1))]=zay (o.set p.length (gI m 0 - gI m ((p.length:Int)+1))):=by simp[zay,List.map_set]
   obtain⟨w,hw⟩:∃w,o[p.length]?=some w:=⟨o[p.length],by simp[hpo]⟩
   simp only[zaf]at h1;rw[zbz,zab];simp only[↓reduceIte,go_sem,lX,lS,show (p.length:Int)<(z.length:Int) by omega,hga,e0,hnn,g1.1,hpo,hw,zac (n:=p.length) (by omega),zal (n:=gI m 0 - gI m ((p.length:Int)+1)) (by omega) (by omega),hset,h1]
  ·obtain⟨vs,h1⟩:=ih (p++[true]) (by rw[h];simp) o ho
   refine⟨vs,fun H K=>?_⟩
   have h1:=h1 H K;simp only[zaf]at h1;rw[zbz,zab];simp only[↓reduceIte,go_sem,show (p.length:Int)<(z.length:Int) by omega,hga,zac (n:=p.length) (by omega),h1]
theorem z7u(cons:List Co)(hcons:∀c∈cons,c.ok)(hcl:cons.length<=8)(z:List Bool)(hz:z.length<=5)(more:List Cl)(hm:more.length<=1000)(hR:zhp ((z.length+1:Nat):Int) (zch cons z++more)=true){r:Option (List Int)}{k:Nat}(hr:RunS (zch cons z++more) (zg1 ((z.length+1:Nat):Int) (zch cons z++more)) (List.replicate (z.length+1) 0) r k):
  ∃vs,∀(H:List AO),F zcy [.agg (zpl cons z),.sl (Cl.css more)] H=some (.ret (.tup [.sl (zay vs),.bool r.isSome]),H):=by
 have hlen:=zow cons z
 cases r with
 |none=>
  refine⟨[],fun H=>?_⟩
  obtain⟨v,J,hC⟩:=zvr zav (.fp (zpl cons z)) [] (zch cons z) (yks cons hcons (by omega) z hz) (by omega) (H++[.lst 0 1 []])
  simp only[List.append_assoc,List.cons_append,List.nil_append,List.length_append,List.length_cons,List.length_nil,Nat.zero_add]at hC;have hcl:=fun H=>zvt cons z H
  have hS:=fun H=>z3o (z.length+1) (zch cons z++more) hR hr H
  simp only[Int.natCast_add,Int.natCast_one]at hS;rw[zg8];unfold clV at hcl;unfold zpl at hC hcl ⊢;have hap:Cl.css (zch cons z)++Cl.css more=Cl.css (zch cons z++more):=by simp[Cl.css]
  have h3:(∀x:List AV,x∈Cl.css more->x.length=3)=True:=eq_true (by intro x hx;obtain⟨z,_,rfl⟩:=List.mem_map.1 hx;rfl)
  simp only[↓reduceIte,go_sem,hcl,hC,hap,h3,show (zch cons z).length+more.length<=1073741824 by omega,zac (n:=z.length) (by omega),hS,Option.isSome,z1k,zfl]
 |some m=>
  have hmo:=yaw hR hr;obtain⟨vs,hL⟩:=z0z z hz m hmo.1 hmo z [] rfl (List.replicate z.length 0) (by simp)
  have hrep:List.replicate z.length [AV.int .i64 0]=zay (List.replicate z.length 0):=by simp[zay]
  refine⟨vs,fun H=>?_⟩
  obtain⟨v,J,hC⟩:=zvr zav (.fp (zpl cons z)) [] (zch cons z) (yks cons hcons (by omega) z hz) (by omega) (H++[.lst 0 1 []])
  simp only[List.append_assoc,List.cons_append,List.nil_append,List.length_append,List.length_cons,List.length_nil,Nat.zero_add]at hC;have hcl:=fun H=>zvt cons z H
  have hS:=fun H=>z3o (z.length+1) (zch cons z++more) hR hr H
  simp only[Int.natCast_add,Int.natCast_one]at hS;rw[zg8];unfold clV at hcl;unfold zpl at hC hcl ⊢;have hap:Cl.css (zch cons z)++Cl.css more=Cl.css (zch cons z++more):=by simp[Cl.css]
  have h3:(∀x:List AV,x∈Cl.css more->x.length=3)=True:=eq_true (by intro x hx;obtain⟨z,_,rfl⟩:=List.mem_map.1 hx;rfl)
  have hL:=hL H (AO.lst 0 1 [] :: .dead::J);simp only[List.append_assoc,List.cons_append,List.nil_append,List.length_append,List.length_cons,List.length_nil,Nat.zero_add,Nat.add_assoc,Nat.reduceAdd,Int.natCast_zero]at hL;simp only[↓reduceIte,go_sem,hcl,hC,hap,h3,show (zch cons z).length+more.length<=1073741824 by omega,zac (n:=z.length) (by omega),hS,Option.isSome,z1k,show (z.length:Int)<=1073741824 by omega,hrep]
  exact hL
theorem leq1_in(cons:List Co)(hcons:∀c∈cons,c.ok)(hcl:cons.length<=8)(z:List Bool)(hz:z.length<=5)(a b:Lv)(x:At)(hx:x∈zap (za5 a z)):
  ∃vs is,(is=true ↔ zjy (z.length+1) (zp7 cons z b x))/\∀(G:List AO) (B:AV) (q:Nat) (hq:q<1000) (J:List AO) (t p:List At),zap (za5 b z)=p++t->∀ver,
   zhq G (G++(J++[.lst ver 3 (Cl.css (zj0 x p))])) B (.ol (G.length+J.length) ver) (.sl (At.css (zap (za5 a z)))) (.int .i64 (zap (za5 a z)).length) (.int .i64 q) (.sl (At.css (zap (za5 b z)))) (.int .i64 (zap (za5 b z)).length) (.int .i64 p.length) (zpl cons z) x.cs =
   if is=true then some (.ret (.tup [.sl (zay vs),.bool true]),G) else zd0 G (G++(J++[.dead])) B (.sl (At.css (zap (za5 a z)))) (.int .i64 (zap (za5 a z)).length) (.int .i64 (q+1)) (zpl cons z):=by
 have hright:=zut cons hcl z hz a b x hx;obtain⟨r,k,hr,_⟩:=run0 (z.length+1) _ hright;have hbl:=zf3 b z;obtain⟨vs,hV⟩:=z7u cons hcons hcl z hz (zj0 x (zap (za5 b z))) (by simp only[zj0,List.length_map];omega) hright hr
 refine⟨vs,r.isSome,?_,?_⟩
 ·constructor
  ·intro h
   cases r with
   |none=>cases h
   |some m=>exact⟨m,k,hr⟩
  ·rintro ⟨m,k',h2⟩
   rw[(hr.det h2).1];rfl
 intro G B q hq J t;have hV:=hV (G++(J++[.dead]))
 induction t with
 |nil=>
  intro p h ver;rw[List.append_nil]at h;rw[h]at hV ⊢;have lX:∀o,(G++(J++[o]))[G.length+J.length]?=some o:=fun o=>by
   rw[List.getElem?_append_right (by omega),List.getElem?_append_right (by omega)];simp
  have lS:∀o o',(G++(J++[o])).set (G.length+J.length) o' = G++(J++[o']):=fun o o'=>by
   rw[List.set_append_right _ _ (by omega),List.set_append_right _ _ (by omega)];simp
  unfold zpl at hV ⊢;rw[zhq,zab];simp only[↓reduceIte,go_sem,lX,lS,hV,zac (n:=q) (by omega)]
 |cons y t ih=>
  intro p h ver;have hga:(zap (za5 b z))[p.length]?=some y:=by rw[h];simp
  have hpl:p.length<(zap (za5 b z)).length:=by rw[h];simp
  have hy:=zm6 b z y (by rw[h];simp)
  have ih:=ih (p++[y]) (by rw[h];simp) (ver+1)
  have lX:∀o,(G++(J++[o]))[G.length+J.length]?=some o:=fun o=>by
   rw[List.getElem?_append_right (by omega),List.getElem?_append_right (by omega)];simp
  have lS:∀o o',(G++(J++[o])).set (G.length+J.length) o' = G++(J++[o']):=fun o o'=>by
   rw[List.set_append_right _ _ (by omega),List.set_append_right _ _ (by omega)];simp
  have hml:(zj0 x p).length<=1073741823:=by simp only[zj0,List.length_map];omega
  rw[zw5,<- zm3]at ih;simp only[zaf]at ih;rw[zhq,zab];simp only[↓reduceIte,go_sem,At.cs,lX,lS,show (p.length:Int)<((zap (za5 b z)).length:Int) by omega,hga,zac (n:=p.length) (by omega),hml,zal (n:=y.o+1) (by omega) (by omega)]
  exact ih
theorem leq1_ok(cons:List Co)(hcons:∀c∈cons,c.ok)(hcl:cons.length<=8)(z:List Bool)(hz:z.length<=5)(a b:Lv)(ha:a.ok)(hb:b.ok):
  ∃vs is,(is=true ↔ zlr cons a b z)/\∀(G:List AO) (A B:Nat) (hA:G[A]?=some (.box a.cs)) (hB:G[B]?=some (.box b.cs)),F zgs [.agg (zpl cons z),.ptr A 0,.ptr B 0] G=some (.ret (.tup [.sl (zay vs),.bool is]),G):=by
 have hat:=fun H=>zrh cons z a ha H
 have hbt:=fun H=>zrh cons z b hb H
 have hla:=zf3 a z;have loop:∀(s q:List At),zap (za5 a z)=q++s->∃vs is,(is=true ↔ ∃x∈s,zjy (z.length+1) (zp7 cons z b x))/\∀(G:List AO) (B:Nat) (hB:G[B]?=some (.box b.cs)) (J:List AO),
   zd0 G (G++J) (.ptr B 0) (.sl (At.css (zap (za5 a z)))) (.int .i64 (zap (za5 a z)).length) (.int .i64 q.length) (zpl cons z)=some (.ret (.tup [.sl (zay vs),.bool is]),G):=by
  intro s
  induction s with
  |nil=>
   intro q h;rw[List.append_nil]at h;refine⟨[],false,by simp,fun G B hB J=>?_⟩
   unfold zpl;rw[zd0,zab,h];simp only[↓reduceIte,go_sem,zfl]
  |cons x s ih=>
   intro q h;have hga:(zap (za5 a z))[q.length]?=some x:=by rw[h];simp
   have hql:q.length<(zap (za5 a z)).length:=by rw[h];simp
   obtain⟨vs,is,h1,h2⟩:=leq1_in cons hcons hcl z hz a b x (by rw[h];simp)
   obtain⟨vs',is',h4,h5⟩:=ih (q++[x]) (by rw[h];simp)
   simp only[zaf]at h5;have key:∀(G:List AO) (B:Nat) (hB:G[B]?=some (.box b.cs)) (J:List AO),zd0 G (G++J) (.ptr B 0) (.sl (At.css (zap (za5 a z)))) (.int .i64 (zap (za5 a z)).length) (.int .i64 q.length) (zpl cons z)=if is=true then some (.ret (.tup [.sl (zay vs),.bool true]),G) else zd0 G (G++(J++[.dead])) (.ptr B 0) (.sl (At.css (zap (za5 a z)))) (.int .i64 (zap (za5 a z)).length) (.int .i64 (q.length+1)) (zpl cons z):=by
    intro G B hB J;have hBl:=(List.getElem?_eq_some_iff.1 hB).1;have h3:=h2 G (.ptr B 0) q.length (by omega) J (zap (za5 b z)) [] rfl 0
    have em:Cl.css (zj0 x [])=[]:=rfl;simp only[em,List.length_nil,Int.natCast_zero]at h3;have hBJ:(G++J)[B]?=some (.box b.cs):=by rw[List.getElem?_append_left hBl];exact hB
    have hBK:∀o,(G++(J++[o]))[B]?=some (.box b.cs):=fun o=>by rw[List.getElem?_append_left hBl];exact hB
    rw[<- h3];unfold zpl at hbt ⊢;rw[zd0,zab];simp only[↓reduceIte,go_sem,show (q.length:Int)<((zap (za5 a z)).length:Int) by omega,hga,hbt,hBJ,hBK]
   cases is with
   |true=>exact⟨vs,true,by simp[h1.1 rfl],fun G B hB J=>by rw[key G B hB J];simp⟩
   |false=>
    refine⟨vs',is',?_,fun G B hB J=>by rw[key G B hB J];simpa using h5 G B hB (J++[.dead])⟩
    rw[h4];have hn:¬ zjy (z.length+1) (zp7 cons z b x):=fun k=>by have:=h1.2 k;cases this
    simp[hn]
 obtain⟨vs,is,h1,h2⟩:=loop (zap (za5 a z)) [] rfl;refine⟨vs,is,h1,fun G A B hA hB=>?_⟩
 have h2:=h2 G B hB [];simp only[List.append_nil,List.length_nil,Int.natCast_zero]at h2;unfold zpl at hat h2 ⊢;rw[zy6];simp only[↓reduceIte,go_sem,hA,hat];exact h2
end Go.Ab
end
section
set_option linter.unusedVariables false
set_option linter.unusedSimpArgs false
set_option maxRecDepth 100000
set_option maxHeartbeats 2000000
namespace Go.Ab
open Go.RowKit Go.Proofs
def zlo(cons:List Co)(out:List Int)(is:Bool):List AO:=[.box [.sl (Co.css cons)],.box [.sl (zay out)],.box [.bool is]]
def zns(tf:AV)(n:Nat):List (Nat×AV):=[(3,.ptr n 0),(5,.fp [tf]),(6,.ptr (n+1) 0),(7,.ptr (n+2) 0)]
def zxg(p:Nat)(bf:List Bool->Bool)(_:Unit)(z:List Bool):Option (Unit ⊕ List Bool):=if z.length=p then (if bf z=true then some (.inr z) else some (.inl ())) else none
theorem ydk(n:Nat)(cons:List Co)(out:List Int)(is:Bool):∀o∈zlo cons out is,LtO n o:=by
 intro o ho;simp[zlo]at ho;rcases ho with rfl|rfl|rfl
 ·intro a ha;simp at ha;subst ha;exact .sl (zpc n cons)
 ·intro a ha;simp at ha;subst ha;exact .sl (zq1 n out)
 ·intro a ha;simp at ha;subst ha;exact .bool _
theorem yhr(cons:List Co)(k:FuncId)(c:AV)(cap:List AV)(p:Nat)(vf:List Bool->List Int)(bf:List Bool->Bool)(H:List AO)(hlt:Lt H.length (.fn (.func k) [] (c::cap)))
  (ht:∀z:List Bool,z.length=p->∀X,cfl T (.fn (.func k) [] (c::cap)) [.agg (zpl cons z)] (H++X)=some (.ret (.tup [.sl (zay (vf z)),.bool (bf z)]),H++X)) :
  Ys (.yd (H.length+3+1)) (H.length+3+2) encZ (fun _=>H++(zlo cons [] false++[.dfr,.slp .ready 24 (zns (.fn (.func k) [] (c::cap)) H.length) [13] zcq zcj])) (fun z=>H++(zlo cons (vf z) true++[.dfr,.slp (.done .ret) 24 (zns (.fn (.func k) [] (c::cap)) H.length) [13] zcq zcj])) (zxg p bf):=by
 refine z3u H 3 encZ (fun _=>zlo cons [] false) (fun z=>zlo cons (vf z) true) (fun _=>.ret) (zxg p bf) 24 (zns (.fn (.func k) [] (c::cap)) H.length) [13] zcq zcj zrt zrr (fun _=>rfl) ?_ ?_ ?_ ?_
 ·rintro (q|e) <;> rfl
 ·rintro s (q|e) i o ho
  ·exact .inl ho
  ·exact .inr (ydk _ cons (vf e) true o (List.mem_of_getElem? ho))
 ·intro q hq
  simp[zns]at hq;rcases hq with rfl|rfl|rfl|rfl
  ·exact .ptr (by omega)
  ·exact .fp (by intro a ha;simp at ha;subst ha;exact hlt.mono (by omega))
  ·exact .ptr (by omega)
  ·exact .ptr (by omega)
 ·rintro ⟨⟩ z X r hst
  refine⟨[],?_⟩;unfold zxg at hst
  split at hst
  ·rename_i hz
   have h2:=ht z hz (zlo cons [] false++(.dfr :: .slp .busy 24 (zns (.fn (.func k) [] (c::cap)) H.length) [13] zcq zcj::X));unfold zpl at h2;simp only[zlo,zns,zfl,List.cons_append,List.nil_append,zgg]at h2
   cases hb:bf z
   ·rw[hb]at hst h2
    cases hst;simp only[↓reduceIte,go_sem,zlo,zns,h2,zfl,encZ,z4j,isL]
   ·rw[hb]at hst h2
    cases hst;simp only[↓reduceIte,go_sem,zlo,zns,h2,zfl,encZ,z4j,isL]
  ·cases hst
theorem z8t(p:Nat)(bf:List Bool->Bool):∀(j n:Nat),∃r,zlh (zxg p bf) (zm5 p n j) ()=some r/\((∃z,r = .inr z/\z∈zm5 p n j/\bf z=true)\/(r = .inl ()/\∀z∈zm5 p n j,bf z=false)):=by
 intro j
 induction j with
 |zero=>intro n;exact⟨_,rfl,.inr ⟨rfl,by simp[zm5]⟩⟩
 |succ j ih=>
  intro n;obtain⟨r,h1,h2⟩:=ih (n+1);rw[zm5,zlh];have e:zxg p bf () (zc0 n p)=if bf (zc0 n p)=true then some (.inr (zc0 n p)) else some (.inl ()):=by
   unfold zxg;rw[if_pos (zfw n p)]
  rw[e]
  cases hb:bf (zc0 n p)
  ·refine⟨r,by simpa using h1,?_⟩
   rcases h2 with⟨z,rfl,h3,h4⟩|⟨rfl,h3⟩
   ·exact .inl ⟨z,rfl,by simp[h3],h4⟩
   ·exact .inr ⟨rfl,by intro z hz;rcases List.mem_cons.1 hz with rfl|hz;exact hb;exact h3 z hz⟩
  ·exact⟨.inr (zc0 n p),by simp,.inl ⟨_,rfl,by simp,hb⟩⟩
theorem zxp(p:Nat)(z:List Bool):∀(j n:Nat),z∈zm5 p n j ↔ ∃k,n<=k/\k<n+j/\z=zc0 k p:=by
 intro j
 induction j with
 |zero=>intro n;simp only[zm5,List.not_mem_nil,false_iff];rintro ⟨k,h1,h2,_⟩;omega
 |succ j ih=>
  intro n;rw[zm5,List.mem_cons,ih];constructor
  ·rintro (rfl|⟨k,h1,h2,h3⟩)
   ·exact⟨n,by omega,by omega,rfl⟩
   ·exact⟨k,by omega,by omega,h3⟩
  ·rintro ⟨k,h1,h2,h3⟩
   by_cases h:k=n
   ·subst h;exact .inl h3
   ·exact .inr ⟨k,by omega,by omega,h3⟩
theorem ydj(cons:List Co)(k:FuncId)(c:AV)(cap:List AV)(p:Nat)(h5:p<=5)(vf:List Bool->List Int)(bf:List Bool->Bool)(H:List AO)(hlt:Lt H.length (.fn (.func k) [] (c::cap)))
  (ht:∀z:List Bool,z.length=p->∀X,cfl T (.fn (.func k) [] (c::cap)) [.agg (zpl cons z)] (H++X)=some (.ret (.tup [.sl (zay (vf z)),.bool (bf z)]),H++X)) :
  ∃vs is,(is=true ↔ ∃n<2 ^ p,bf (zc0 n p)=true)/\F zkj [.sl (Co.css cons),.int .i64 p,.fn (.func k) [] (c::cap)] H=some (.ret (.tup [.sl (zay vs),.bool is]),H):=by
 obtain⟨r,h1,h2⟩:=z8t p bf (2 ^ p) 0;have hr:=yi2 p h5 _ _ _ _ _ _ _ (yhr cons k c cap p vf bf H hlt ht) () [] r h1;have hAl:=fun H=>AllP_ok p H
 rcases h2 with⟨z,rfl,h3,h4⟩|⟨rfl,h3⟩
 ·refine⟨vf z,true,?_,?_⟩
  ·obtain⟨n,_,h6,h7⟩:=(zxp p z _ _).1 h3
   simp only[true_iff];exact⟨n,by omega,by rw[<- h7];exact h4⟩
  have he:=zsq (H:=H) (DR:=zlo cons (vf z) true) (k:=3) rfl (st:=.done .ret) (nn:=24) (t:=zns (.fn (.func k) [] (c::cap)) H.length) (ps:=[13]) (asg:=zcq) (body:=zcj);simp only[zpt,zlo,zns,yk1,zgg,zfl,List.cons_append,List.nil_append,List.append_nil,Nat.add_assoc,Nat.reduceAdd]at hr he;rw[zq4];simp only[↓reduceIte,go_sem,hAl,yk1,hr,he,List.nodup_cons,List.nodup_nil,List.not_mem_nil,not_false_eq_true,and_self]
 ·refine⟨[],false,?_,?_⟩
  ·simp only[Bool.false_eq_true,false_iff]
   rintro ⟨n,hn,hb⟩
   have:=h3 (zc0 n p) ((zxp p _ _ _).2 ⟨n,by omega,by omega,rfl⟩)
   rw[hb]at this;cases this
  have he:=zsq (H:=H) (DR:=zlo cons [] false) (k:=3) rfl (st:=.ready) (nn:=24) (t:=zns (.fn (.func k) [] (c::cap)) H.length) (ps:=[13]) (asg:=zcq) (body:=zcj);simp only[ze7,zlo,zns,yk1,zgg,zfl,List.cons_append,List.nil_append,List.append_nil,Nat.add_assoc,Nat.reduceAdd]at hr he;rw[zq4];simp only[↓reduceIte,go_sem,hAl,yk1,hr,he,zfl,List.nodup_cons,List.nodup_nil,List.not_mem_nil,not_false_eq_true,and_self]
open Classical in
theorem LeqP_ok(cons:List Co)(hcons:∀c∈cons,c.ok)(p:Nat)(a b:Lv)(ha:a.ok)(hb:b.ok)(hC:zdz cons p=true)(hA:zam a p 0=true)(hB:zam b p 0=true)(H:List AO):
  ∃vs,F zl7 [.sl (Co.css cons),.int .i64 p,.agg a.cs,.agg b.cs] H=some (.ret (.tup [.bool (z0s cons p a b),.sl (zay vs),.int .i64 0]),H):=by
 have hc:=hC;simp only[zdz,Bool.and_eq_true,decide_eq_true_eq]at hc;have h5:p<=5:=by omega
 have hr:=fun H=>zty cons (by omega) hcons p H
 have hra:=fun H=>zgh a ha p 0 H
 have hrb:=fun H=>zgh b hb p 0 H
 have hall:∀z:List Bool,∃vb:List Int×Bool,z.length=p->(vb.2=true ↔ zlr cons a b z)/\∀(G:List AO) (A B:Nat) (hA:G[A]?=some (.box a.cs)) (hB:G[B]?=some (.box b.cs)),F zgs [.agg (zpl cons z),.ptr A 0,.ptr B 0] G=some (.ret (.tup [.sl (zay vb.1),.bool vb.2]),G):=by
  intro z;by_cases hz:z.length=p
  ·obtain⟨vs,is,h1,h2⟩:=leq1_ok cons hcons hc.1.2 z (by omega) a b ha hb
   exact⟨(vs,is),fun _=>⟨h1,h2⟩⟩
  ·exact⟨([],false),fun h=>absurd h hz⟩
 let vb:List Bool->List Int×Bool:=fun z=>Classical.choose (hall z)
 have hvb:∀z,_:=fun z=>Classical.choose_spec (hall z)
 obtain⟨vs,is,h1,h2⟩:=ydj cons zgs (.ptr H.length 0) [.ptr (H.length+1) 0] p h5 (fun z=>(vb z).1) (fun z=>(vb z).2) (H++[.box a.cs,.box b.cs]) (.fn (by simp) (by intro x hx;simp at hx;rcases hx with rfl|rfl <;> exact .ptr (by simp))) (fun z hz X=>by
  have:=(hvb z hz).2 (H++[.box a.cs,.box b.cs]++X) H.length (H.length+1) (by simp) (by simp)
  simp only[zgg,List.cons_append,List.nil_append];exact this)
 refine⟨vs,?_⟩;have hl:z0s cons p a b = !is:=by
  rcases his:is with _|_
  ·show _=true
   refine znj.2 fun n hn hbr=>?_
   have:=h1.2 ⟨n,hn,(hvb _ (zfw n p)).1.2 hbr⟩;rw[his]at this;cases this
  ·show _=false
   obtain⟨n,hn,hb2⟩:=h1.1 his;rcases hq:z0s cons p a b with _|_
   ·rfl
   ·exact absurd ((hvb _ (zfw n p)).1.1 hb2) (znj.1 hq n hn)
 rw[zva,hl];simp only[↓reduceIte,go_sem,hr,hra,hrb,hC,hA,hB,h2]
theorem LeqP_er(cons:List Co)(hcons:∀c∈cons,c.ok)(hl:cons.length<=140737488355328)(p:Int)(a b:Lv)(ha:a.ok)(hb:b.ok)(hC:(zdz cons p && zam a p 0 && zam b p 0)=false)(H:List AO):
  F zl7 [.sl (Co.css cons),.int .i64 p,.agg a.cs,.agg b.cs] H=some (.ret (.tup [.bool false,.sl [],.int .i64 1]),H):=by
 have hr:=fun H=>zty cons hl hcons p H
 have hra:=fun H=>zgh a ha p 0 H
 have hrb:=fun H=>zgh b hb p 0 H
 rw[zva]
 cases h1:zdz cons p
 ·simp only[↓reduceIte,go_sem,hr,hra,hrb,h1]
 cases h2:zam a p 0
 ·simp only[↓reduceIte,go_sem,hr,hra,hrb,h1,h2]
 cases h3:zam b p 0
 ·simp only[↓reduceIte,go_sem,hr,hra,hrb,h1,h2,h3]
 ·simp[h1,h2,h3]at hC
end Go.Ab
end
section
set_option linter.unusedVariables false
set_option linter.unusedSimpArgs false
set_option maxRecDepth 100000
set_option maxHeartbeats 2000000
namespace Go.Ab
open Go.RowKit Go.Proofs
theorem zum(k n:Int)(ks:List Lv):(Lv.mk k n ks).ok=(ks.length<=140737488355328/\∀x∈ks,x.ok):=propext ⟨fun h=>⟨h.len,h.all⟩,fun h=>.mk h.1 h.2⟩
theorem zjf(k n:Int)(ls:List Lv)(ks:List Te):(Te.mk k n ls ks).ok=(ks.length<=140737488355328/\ls.length<=140737488355328/\(∀x∈ls,x.ok)/\∀x∈ks,x.ok):=propext ⟨fun h=>⟨h.len,h.len2,h.all2,h.all⟩,fun h=>.mk h.1 h.2.1 h.2.2.1 h.2.2.2⟩
theorem zso(x y:Te):AV.sl [x.cs,y.cs]=AV.sl (Te.css [x,y]):=rfl
theorem zsn(x y z:Te):AV.sl [x.cs,y.cs,z.cs]=AV.sl (Te.css [x,y,z]):=rfl
theorem z50{t:Te}(h:t.ok):(zs5 t).1.ok:=by
 unfold zs5
 split
 ·exact h
 ·simp[zeroT,zjf]
theorem z7t{t:Te}(h:t.ok)(f b:Int):(zgw t f b).1.ok:=by
 unfold zgw
 split
 ·simp[zeroT,zjf]
 ·exact z50 (zyn b t h f)
theorem yjc{t u:Te}(h:t.ok)(hu:u.ok):(zlg t u).1.ok:=by
 unfold zlg
 split
 ·simp[zeroT,zjf]
 ·exact z50 (ybc u hu t h 0)
theorem zeb(n:Int)(H:List AO):F zk3 [.int .i64 n] H=some (.ret (.agg (Te.mk 1 n [] []).cs),H):=by
 rw[z5c];simp only[↓reduceIte,go_sem,Te.cs,Lv.css,Te.css]
theorem zcd(l:Lv)(H:List AO):F zfe [.agg l.cs] H=some (.ret (.agg (Te.mk 2 0 [l] []).cs),H):=by
 rw[z2r];simp only[↓reduceIte,go_sem,Te.cs,Lv.css,Te.css]
theorem zd1(k:Int)(ks:List Te)(H:List AO):F zff [.int .i64 k,.sl (Te.css ks)] H=some (.ret (.agg (Te.mk k 0 [] ks).cs),H):=by
 rw[z2s];simp only[↓reduceIte,go_sem,Te.cs,Lv.css]
end Go.Ab
end
section
set_option linter.unusedVariables false
set_option linter.unusedSimpArgs false
set_option maxRecDepth 100000
set_option maxHeartbeats 2000000
namespace Go.Ab
open Go.RowKit Go.Proofs
def zwo(env:List De)(n:Int)(ls:List Lv):Option De:=match env[n.toNat]? with
 |some d=>if d.has=true/\(ls.length:Int)=d.p then some d else none
 |none=>none
inductive Hd (env:List De):Nat->Te->Te->Nat->Prop
 |stuck {n:Nat} {k N:Int} {ls:List Lv} {ks:List Te}:k≠4->k≠7->(k=3->0<=N/\zwo env N ls=none)->Hd env n (.mk k N ls ks) (.mk k N ls ks) n
 |lett {n:Nat} {N:Int} {ls:List Lv} {s v b r t':Te} {n':Nat}:zlg b v=(r,0)->Hd env n r t' n' -> Hd env (n+1) (.mk 7 N ls [s,v,b]) t' n'
 |const {n:Nat} {N:Int} {ls:List Lv} {ks:List Te} {d:De} {r t':Te} {n':Nat}:0<=N->zwo env N ls=some d->zoy d.value ls []=(r,0)->Hd env n r t' n' -> Hd env (n+1) (.mk 3 N ls ks) t' n'
 |app {n:Nat} {N:Int} {ls:List Lv} {f a f':Te} {n':Nat}:Hd env n f f' n' -> f'.kind≠5->Hd env n (.mk 4 N ls [f,a]) (.mk 4 0 [] [f',a]) n'
 |beta {n:Nat} {N:Int} {ls:List Lv} {f a:Te} {N2:Int} {ls2:List Lv} {s b:Te} {m:Nat} {r t':Te} {n':Nat}:Hd env n f (.mk 5 N2 ls2 [s,b]) (m+1)->zlg b a=(r,0)->Hd env m r t' n' -> Hd env n (.mk 4 N ls [f,a]) t' n'
inductive He (env:List De):Nat->Te->Nat->Int->Prop
 |let0 {N:Int} {ls:List Lv} {s v b:Te}:He env 0 (.mk 7 N ls [s,v,b]) 0 40
 |let2 {n:Nat} {N:Int} {ls:List Lv} {s v b r:Te} {e:Int}:zlg b v=(r,e)->e≠0->He env (n+1) (.mk 7 N ls [s,v,b]) n e
 |letr {n:Nat} {N:Int} {ls:List Lv} {s v b r:Te} {n':Nat} {e:Int}:zlg b v=(r,0)->He env n r n' e->He env (n+1) (.mk 7 N ls [s,v,b]) n' e
 |const0 {N:Int} {ls:List Lv} {ks:List Te} {d:De}:0<=N->zwo env N ls=some d->He env 0 (.mk 3 N ls ks) 0 40
 |const2 {n:Nat} {N:Int} {ls:List Lv} {ks:List Te} {d:De} {r:Te} {e:Int}:0<=N->zwo env N ls=some d->zoy d.value ls []=(r,e)->e≠0->He env (n+1) (.mk 3 N ls ks) n e
 |constr {n:Nat} {N:Int} {ls:List Lv} {ks:List Te} {d:De} {r:Te} {n':Nat} {e:Int}:0<=N->zwo env N ls=some d->zoy d.value ls []=(r,0)->He env n r n' e->He env (n+1) (.mk 3 N ls ks) n' e
 |appf {n:Nat} {N:Int} {ls:List Lv} {f a:Te} {n':Nat} {e:Int}:He env n f n' e->He env n (.mk 4 N ls [f,a]) n' e
 |beta0 {n:Nat} {N:Int} {ls:List Lv} {f a:Te} {N2:Int} {ls2:List Lv} {s b:Te}:Hd env n f (.mk 5 N2 ls2 [s,b]) 0->He env n (.mk 4 N ls [f,a]) 0 40
 |beta2 {n:Nat} {N:Int} {ls:List Lv} {f a:Te} {N2:Int} {ls2:List Lv} {s b:Te} {m:Nat} {r:Te} {e:Int}:Hd env n f (.mk 5 N2 ls2 [s,b]) (m+1)->zlg b a=(r,e)->e≠0->He env n (.mk 4 N ls [f,a]) m e
 |betar {n:Nat} {N:Int} {ls:List Lv} {f a:Te} {N2:Int} {ls2:List Lv} {s b:Te} {m:Nat} {r:Te} {n':Nat} {e:Int}:Hd env n f (.mk 5 N2 ls2 [s,b]) (m+1)->zlg b a=(r,0)->He env m r n' e->He env n (.mk 4 N ls [f,a]) n' e
theorem He.ne{env:List De}{n:Nat}{t:Te}{n':Nat}{e:Int}(h:He env n t n' e):e≠0:=by
 induction h <;> first|decide|assumption
theorem Hd.le{env:List De}{n:Nat}{t t':Te}{n':Nat}(h:Hd env n t t' n'):n' <= n:=by
 induction h <;> omega
theorem zqf{env:List De}{n:Int}{ls:List Lv}{d:De}(h:zwo env n ls=some d):env[n.toNat]?=some d/\d.has=true/\(ls.length:Int)=d.p:=by
 unfold zwo at h
 cases hg:env[n.toNat]? with
 |none=>rw[hg]at h;cases h
 |some x=>
  rw[hg]at h;dsimp only at h
  split at h
  ·cases h;rename_i h;exact⟨rfl,h⟩
  ·cases h
theorem zm9{b v r:Te}{e:Int}(h:zlg b v=(r,e))(hb:b.ok)(hv:v.ok):r.ok:=by
 have:=yjc hb hv;rw[h]at this;exact this
theorem z6o:zyj []:=by intro x hx;cases hx
theorem zz6{env:List De}(he:z1j env){n:Int}{ls:List Lv}{ks:List Te}{d:De}{r:Te}{e:Int}(ht:(Te.mk 3 n ls ks).ok)(hu:zwo env n ls=some d)(hs:zoy d.value ls []=(r,e)):r.ok:=by
 have hd:=he.2 d (List.mem_of_getElem? (zqf hu).1);have:=yi8 hd.2.2.2 (ps:=ls) (ms:=[]) ht.all2 z6o;rw[hs]at this;exact this
theorem Hd.ok{env:List De}(he:z1j env){n:Nat}{t t':Te}{n':Nat}(h:Hd env n t t' n'):t.ok->t'.ok:=by
 induction h with
 |stuck=>exact id
 |lett ho _ ih=>
  intro ht;exact ih (zm9 ho (ht.all _ (by simp)) (ht.all _ (by simp)))
 |const _ hu hs _ ih=>exact fun ht=>ih (zz6 he ht hu hs)
 |app _ _ ih=>
  intro ht;have hf:=ih (ht.all _ (by simp))
  have ha:=ht.all _ (show _∈[_,_] from List.mem_cons_of_mem _ (List.mem_singleton.2 rfl))
  exact .mk (by simp) (by simp) (by intro x hx;cases hx) (by intro x hx;simp at hx;rcases hx with rfl|rfl <;> assumption)
 |beta _ ho _ ih1 ih2=>
  intro ht;have hf:=ih1 (ht.all _ (by simp))
  exact ih2 (zm9 ho (hf.all _ (by simp)) (ht.all _ (by simp)))
theorem decs_lt(n:Nat)(d:De):∀a∈d.cs,Lt n a:=by
 rcases d with⟨p,cons,t,h,v⟩;intro a ha;simp only[De.cs,De.p,De.cons,De.type,De.has,De.value,List.mem_append,List.mem_cons,List.not_mem_nil,or_false]at ha;rcases ha with (((rfl|rfl)|ha)|rfl)|ha
 ·exact .int _ _
 ·refine .sl fun x hx=>?_
  obtain⟨l,hl,hx⟩:=List.mem_flatten.1 hx;obtain⟨c,_,rfl⟩:=List.mem_map.1 hl;rcases List.mem_append.1 hx with hx|hx
  ·exact z88 n c.a x hx
  ·exact z88 n c.b x hx
 ·exact zua n t a ha
 ·exact .bool _
 ·exact zua n v a ha
theorem zz5(n:Nat)(env:List De):∀a∈(De.css env).flatten,Lt n a:=by
 intro a ha;obtain⟨l,hl,hx⟩:=List.mem_flatten.1 ha;obtain⟨d,_,rfl⟩:=List.mem_map.1 hl;exact decs_lt n d a hx
@[go_sem] theorem lt_decss(n:Nat)(env:List De):(∀a∈(De.css env).flatten,Lt n a)=True:=eq_true (zz5 n env)
theorem mB_lt(n:Nat)(env:List De)(f e:Int)(R:List AV)(hR:∀a∈R,Lt n a):LtO n (.box (.sl (De.css env) :: .int .i64 f :: .int .i64 e::R)):=by
 intro a ha;simp at ha;rcases ha with rfl|rfl|rfl|ha
 ·exact .sl (zz5 n env)
 ·exact .int _ _
 ·exact .int _ _
 ·exact hR a ha
theorem zod(n:Nat)(env:List De)(f e:Int):LtO n (.box [.sl (De.css env),.int .i64 f,.int .i64 e]):=mB_lt n env f e [] (fun a ha=>by cases ha)
@[go_sem] theorem toNat_two:Int.toNat 2=2:=rfl
end Go.Ab
end
section
set_option linter.unusedVariables false
set_option linter.unusedSimpArgs false
set_option maxRecDepth 100000
set_option maxHeartbeats 2000000
namespace Go.Ab
open Go.RowKit Go.Proofs
theorem z0l(env:List De)(n e:Int)(A X:List AO):F zbr [.ptr A.length 0,.int .i64 e] (A++(.box [.sl (De.css env),.int .i64 n,.int .i64 0]::X)) =
  some (.ret (.bool false),A++(.box [.sl (De.css env),.int .i64 n,.int .i64 e]::X)):=by
 have hf0:=fun (o o':AO) r (ho:LtO (A.length+(X.length+1)) o')=>zr8 (A:=A) (X:=X) (o:=o) (o':=o') (r:=r) ho
 rw[zos];simp only[↓reduceIte,go_sem,hf0,zod]
theorem zlt(env:List De)(n:Int)(hn:0<=n/\n<=1000000)(A X:List AO):F zai [.ptr A.length 0] (A++(.box [.sl (De.css env),.int .i64 n,.int .i64 0]::X)) =
  if n=0 then some (.ret (.bool false),A++(.box [.sl (De.css env),.int .i64 0,.int .i64 40]::X)) else some (.ret (.bool true),A++(.box [.sl (De.css env),.int .i64 (n - 1),.int .i64 0]::X)):=by
 have hf0:=fun (o o':AO) r (ho:LtO (A.length+(X.length+1)) o')=>zr8 (A:=A) (X:=X) (o:=o) (o':=o') (r:=r) ho
 rw[zot];by_cases h:n=0
 ·subst h
  simp only[↓reduceIte,go_sem,hf0,zod,z0l]
 ·simp only[↓reduceIte,go_sem,hf0,zod,h,zal (n:=n - 1) (by omega) (by omega)]
theorem z0j(env:List De)(t:Te)(n e:Int)(A X:List AO):F zb2 [.ptr A.length 0,.agg t.cs,.int .i64 e] (A++(.box [.sl (De.css env),.int .i64 n,.int .i64 0]::X)) =
  some (.ret (.agg t.cs),A++(.box [.sl (De.css env),.int .i64 n,.int .i64 e]::X)):=by
 have hf0:=fun (o o':AO) r (ho:LtO (A.length+(X.length+1)) o')=>zr8 (A:=A) (X:=X) (o:=o) (o':=o') (r:=r) ho
 rw[zpp];by_cases h:e=0
 ·subst h
  simp only[↓reduceIte,go_sem,hf0,zod]
 ·simp only[↓reduceIte,go_sem,hf0,zod,h,z0l]
theorem yeu{A Y Z:List AO}{o1 o1' o2 o2' o3 o3':AO}{n:Nat}(h1:LtO n o1')(h2:LtO n o2')(h3:LtO n o3'):∀(id:Nat) (o:AO),(A++(o1' :: (Y++(o2' :: o3' :: Z))))[id]?=some o->(A++(o1::(Y++(o2::o3::Z))))[id]?=some o\/LtO n o:=by
 intro id o ho;by_cases hi:id<A.length
 ·rw[List.getElem?_append_left hi]at ho ⊢;exact .inl ho
 rw[List.getElem?_append_right (by omega)]at ho ⊢
 cases hj:id - A.length with
 |zero=>rw[hj]at ho;simp at ho;subst ho;exact .inr h1
 |succ j=>
  rw[hj]at ho;simp only[List.getElem?_cons_succ]at ho ⊢;by_cases hy:j<Y.length
  ·rw[List.getElem?_append_left hy]at ho ⊢;exact .inl ho
  rw[List.getElem?_append_right (by omega)]at ho ⊢
  match j - Y.length,ho with
  |0,ho=>simp at ho;subst ho;exact .inr h2
  |1,ho=>simp at ho;subst ho;exact .inr h3
  |i+2,ho=>simp at ho;exact .inl (by simpa using ho)
theorem zuc{A Y Z:List AO}{env:List De}{n e n' e':Int}{ver ver':Nat}{es es':List Te}{k N k' N':Int}{ls ls':List Lv}{ks ks':List Te}{b:Bool}:
  zet (A++(.box [.sl (De.css env),.int .i64 n,.int .i64 e]::(Y++(.lst ver 4 (Te.css es) :: .box [.ptr A.length 0,.int .i64 k,.int .i64 N,.sl (Lv.css ls),.sl (Te.css ks),.ol (A.length+(Y.length+1)) ver]::Z)))) (.ret (.bool b))
   (A++(.box [.sl (De.css env),.int .i64 n',.int .i64 e']::(Y++(.lst ver' 4 (Te.css es') :: .box [.ptr A.length 0,.int .i64 k',.int .i64 N',.sl (Lv.css ls'),.sl (Te.css ks'),.ol (A.length+(Y.length+1)) ver']::Z)))) =
  some (.ret (.bool b),A++(.box [.sl (De.css env),.int .i64 n',.int .i64 e']::(Y++(.lst ver' 4 (Te.css es') :: .box [.ptr A.length 0,.int .i64 k',.int .i64 N',.sl (Lv.css ls'),.sl (Te.css ks'),.ol (A.length+(Y.length+1)) ver']::Z)))):=by
 refine zr6 (by simp) (.bool _) (yeu (zod _ _ _ _) (fun a ha=>of_eq_true (z4h _ es') a ha) ?_)
 intro a ha;simp at ha;rcases ha with rfl|rfl|rfl|rfl|rfl|rfl
 ·exact .ptr (by simp)
 ·exact .int _ _
 ·exact .int _ _
 ·exact .sl fun a ha=>of_eq_true (z6t _ ls') a ha
 ·exact .sl fun a ha=>of_eq_true (z4h _ ks') a ha
 ·exact .ol (by simp)
theorem let_ok(env:List De)(n:Nat)(hn:n+1<=1000000)(A Y Z:List AO)(ver:Nat)(es:List Te)(N:Int)(ls:List Lv)(s v b k2:Te)(hb:b.ok)(hv:v.ok)(r:Te)(e:Int)(ho:zlg b v=(r,e)):
  F zct [.ptr (A.length+(Y.length+2)) 0] (A++(.box [.sl (De.css env),.int .i64 (n+1:Nat),.int .i64 0]::(Y++(.lst ver 4 (Te.css es) :: .box [.ptr A.length 0,.int .i64 7,.int .i64 N,.sl (Lv.css ls),.sl (Te.css [s,v,b]),.ol (A.length+(Y.length+1)) ver]::Z)))) =
  some (.ret (.bool true),A++(.box [.sl (De.css env),.int .i64 n,.int .i64 e]::(Y++(.lst ver 4 (Te.css es) :: .box (.ptr A.length 0::(r.cs++[.ol (A.length+(Y.length+1)) ver]))::Z)))):=by
 have hO:=fun H=>z7s b v hb hv H
 simp only[ho,zp5]at hO;have hB:∀X,F zai [.ptr A.length 0] (A++(.box [.sl (De.css env),.int .i64 (n+1:Nat),.int .i64 0]::X))=some (.ret (.bool true),A++(.box [.sl (De.css env),.int .i64 n,.int .i64 0]::X)):=by
  intro X;have hB:=zlt env ((n+1:Nat):Int) (by omega) A X
  rwa [if_neg (by omega),show (((n+1:Nat):Int) - 1)=n by omega]at hB
 cases r with
 |mk k' n' ls' ks'=>
 have hP:=fun e X=>z0j env (.mk k' n' ls' ks') n e A X
 simp only[Te.cs]at hP hO;rw[zlp];simp only[↓reduceIte,go_sem,Te.cs,hB,hO,hP,zuc]
theorem let0_ok(env:List De)(A Y Z:List AO)(ver:Nat)(es:List Te)(N:Int)(ls:List Lv)(ks:List Te):
  F zct [.ptr (A.length+(Y.length+2)) 0] (A++(.box [.sl (De.css env),.int .i64 0,.int .i64 0]::(Y++(.lst ver 4 (Te.css es) :: .box [.ptr A.length 0,.int .i64 7,.int .i64 N,.sl (Lv.css ls),.sl (Te.css ks),.ol (A.length+(Y.length+1)) ver]::Z)))) =
  some (.ret (.bool true),A++(.box [.sl (De.css env),.int .i64 0,.int .i64 40]::(Y++(.lst ver 4 (Te.css es) :: .box [.ptr A.length 0,.int .i64 7,.int .i64 N,.sl (Lv.css ls),.sl (Te.css ks),.ol (A.length+(Y.length+1)) ver]::Z)))):=by
 have hB:∀X,F zai [.ptr A.length 0] (A++(.box [.sl (De.css env),.int .i64 0,.int .i64 0]::X))=some (.ret (.bool false),A++(.box [.sl (De.css env),.int .i64 0,.int .i64 40]::X)):=by
  intro X;have hB:=zlt env 0 (by omega) A X
  rwa [if_pos rfl]at hB
 rw[zlp];simp only[↓reduceIte,go_sem,hB,zuc]
theorem yah{env:List De}{j:Nat}{ls:List Lv}(h:zwo env (j:Int) ls=none):(env.length<=j)\/∃d,env[j]?=some d/\j<env.length/\(d.has=false\/d.has=true/\¬ (ls.length:Int)=d.p):=by
 unfold zwo at h;simp only[Int.toNat_natCast]at h
 cases hg:env[j]? with
 |none=>exact .inl (List.getElem?_eq_none_iff.1 hg)
 |some d=>
  have hl:j<env.length:=by
   rcases Nat.lt_or_ge j env.length with h|h
   ·exact h
   ·rw[List.getElem?_eq_none h]at hg;cases hg
  rw[hg]at h;dsimp only at h;refine .inr ⟨d,rfl,hl,?_⟩
  split at h
  ·cases h
  ·rename_i hn
   cases hh:d.has
   ·exact .inl rfl
   ·exact .inr ⟨rfl,fun hp=>hn ⟨hh,hp⟩⟩
theorem yd4(env:List De)(n e:Int)(A Y Z:List AO)(ver:Nat)(es:List Te)(N:Int)(hN:0<=N)(ls:List Lv)(ks:List Te)(hu:zwo env N ls=none):
  F za4 [.ptr (A.length+(Y.length+2)) 0] (A++(.box [.sl (De.css env),.int .i64 n,.int .i64 e]::(Y++(.lst ver 4 (Te.css es) :: .box [.ptr A.length 0,.int .i64 3,.int .i64 N,.sl (Lv.css ls),.sl (Te.css ks),.ol (A.length+(Y.length+1)) ver]::Z)))) =
  some (.ret (.bool false),A++(.box [.sl (De.css env),.int .i64 n,.int .i64 e]::(Y++(.lst ver 4 (Te.css es) :: .box [.ptr A.length 0,.int .i64 3,.int .i64 N,.sl (Lv.css ls),.sl (Te.css ks),.ol (A.length+(Y.length+1)) ver]::Z)))):=by
 obtain⟨j,rfl⟩:=Int.eq_ofNat_of_zero_le hN;rw[ze1];rcases yah hu with h|⟨d,hg,hl,hh|⟨hh,hp⟩⟩
 ·simp only[↓reduceIte,go_sem,show (env.length:Int)<=(j:Int) by omega,zuc]
 ·simp only[↓reduceIte,go_sem,show ¬ (env.length:Int)<=(j:Int) by omega,hg,hh,zuc]
 ·simp only[↓reduceIte,go_sem,show ¬ (env.length:Int)<=(j:Int) by omega,hg,hh,hp,zuc]
theorem yd3(env:List De)(hE:z1j env)(n:Nat)(hn:n+1<=1000000)(A Y Z:List AO)(ver:Nat)(es:List Te)(N:Int)(hN:0<=N)(ls:List Lv)(hls:zyj ls)(hll:ls.length<=140737488355328)(ks:List Te)(d:De)(hu:zwo env N ls=some d)(r:Te)(e:Int)(hs:zoy d.value ls []=(r,e)):
  F za4 [.ptr (A.length+(Y.length+2)) 0] (A++(.box [.sl (De.css env),.int .i64 (n+1:Nat),.int .i64 0]::(Y++(.lst ver 4 (Te.css es) :: .box [.ptr A.length 0,.int .i64 3,.int .i64 N,.sl (Lv.css ls),.sl (Te.css ks),.ol (A.length+(Y.length+1)) ver]::Z)))) =
  some (.ret (.bool true),A++(.box [.sl (De.css env),.int .i64 n,.int .i64 e]::(Y++(.lst ver 4 (Te.css es) :: .box (.ptr A.length 0::(r.cs++[.ol (A.length+(Y.length+1)) ver]))::Z)))):=by
 have hm:=zqf hu;obtain⟨j,rfl⟩:=Int.eq_ofNat_of_zero_le hN;simp only[Int.toNat_natCast]at hm;have hS:=fun H=>TSub_ok d.value ls [] (hE.2 d (List.mem_of_getElem? hm.1)).2.2.2 hls z6o hll (by simp) H
 simp only[hs,zp5,Lv.css]at hS;have hl:(j:Int)<(env.length:Int):=by
  have:=(List.getElem?_eq_some_iff.1 hm.1).1;omega
 have hB:∀X,F zai [.ptr A.length 0] (A++(.box [.sl (De.css env),.int .i64 (n+1:Nat),.int .i64 0]::X))=some (.ret (.bool true),A++(.box [.sl (De.css env),.int .i64 n,.int .i64 0]::X)):=by
  intro X;have hB:=zlt env ((n+1:Nat):Int) (by omega) A X
  rwa [if_neg (by omega),show (((n+1:Nat):Int) - 1)=n by omega]at hB
 cases r with
 |mk k' n' ls' ks'=>
 have hP:=fun e X=>z0j env (.mk k' n' ls' ks') n e A X
 simp only[Te.cs]at hP hS;rw[ze1];simp only[↓reduceIte,go_sem,Te.cs,show ¬ (env.length:Int)<=(j:Int) by omega,hl,hm.1,hm.2.1,hm.2.2,hB,hS,hP,zuc]
theorem yd5(env:List De)(A Y Z:List AO)(ver:Nat)(es:List Te)(N:Int)(hN:0<=N)(ls:List Lv)(ks:List Te)(d:De)(hu:zwo env N ls=some d):
  F za4 [.ptr (A.length+(Y.length+2)) 0] (A++(.box [.sl (De.css env),.int .i64 0,.int .i64 0]::(Y++(.lst ver 4 (Te.css es) :: .box [.ptr A.length 0,.int .i64 3,.int .i64 N,.sl (Lv.css ls),.sl (Te.css ks),.ol (A.length+(Y.length+1)) ver]::Z)))) =
  some (.ret (.bool true),A++(.box [.sl (De.css env),.int .i64 0,.int .i64 40]::(Y++(.lst ver 4 (Te.css es) :: .box [.ptr A.length 0,.int .i64 3,.int .i64 N,.sl (Lv.css ls),.sl (Te.css ks),.ol (A.length+(Y.length+1)) ver]::Z)))):=by
 have hm:=zqf hu;obtain⟨j,rfl⟩:=Int.eq_ofNat_of_zero_le hN;simp only[Int.toNat_natCast]at hm;have hl:(j:Int)<(env.length:Int):=by
  have:=(List.getElem?_eq_some_iff.1 hm.1).1;omega
 have hB:∀X,F zai [.ptr A.length 0] (A++(.box [.sl (De.css env),.int .i64 0,.int .i64 0]::X))=some (.ret (.bool false),A++(.box [.sl (De.css env),.int .i64 0,.int .i64 40]::X)):=by
  intro X;have hB:=zlt env 0 (by omega) A X
  rwa [if_pos rfl]at hB
 rw[ze1];simp only[↓reduceIte,go_sem,show ¬ (env.length:Int)<=(j:Int) by omega,hl,hm.1,hm.2.1,hm.2.2,hB,zuc]
theorem lamN_ok(env:List De)(n e:Int)(A Y Z:List AO)(ver:Nat)(k N:Int)(ls:List Lv)(ks:List Te):
  F zbb [.ptr (A.length+(Y.length+2)) 0] (A++(.box [.sl (De.css env),.int .i64 n,.int .i64 e]::(Y++(.lst ver 4 (Te.css []) :: .box [.ptr A.length 0,.int .i64 k,.int .i64 N,.sl (Lv.css ls),.sl (Te.css ks),.ol (A.length+(Y.length+1)) ver]::Z)))) =
  some (.ret (.bool false),A++(.box [.sl (De.css env),.int .i64 n,.int .i64 e]::(Y++(.lst ver 4 (Te.css []) :: .box [.ptr A.length 0,.int .i64 k,.int .i64 N,.sl (Lv.css ls),.sl (Te.css ks),.ol (A.length+(Y.length+1)) ver]::Z)))):=by
 rw[zfv];simp only[↓reduceIte,go_sem,List.length_nil,Int.natCast_zero,show IntKind.i64.wrap (-1) = -1 from by decide,show ((-1:Int)<0) from by decide,zuc]
theorem lam_ok(env:List De)(n:Nat)(hn:n+1<=1000000)(A Y Z:List AO)(ver:Nat)(es:List Te)(hes:es.length<=1073741824)(a:Te)(ha:a.ok)(k N:Int)(ls:List Lv)(s b:Te)(hb:b.ok)(r:Te)(e:Int)(ho:zlg b a=(r,e)):
  F zbb [.ptr (A.length+(Y.length+2)) 0] (A++(.box [.sl (De.css env),.int .i64 (n+1:Nat),.int .i64 0]::(Y++(.lst ver 4 (Te.css (es++[a])) :: .box [.ptr A.length 0,.int .i64 k,.int .i64 N,.sl (Lv.css ls),.sl (Te.css [s,b]),.ol (A.length+(Y.length+1)) ver]::Z)))) =
  some (.ret (.bool true),A++(.box [.sl (De.css env),.int .i64 n,.int .i64 e]::(Y++(.lst (ver+1) 4 (Te.css es) :: .box (.ptr A.length 0::(r.cs++[.ol (A.length+(Y.length+1)) (ver+1)]))::Z)))):=by
 have hO:=fun H=>z7s b a hb ha H
 simp only[ho,zp5]at hO;have hB:∀X,F zai [.ptr A.length 0] (A++(.box [.sl (De.css env),.int .i64 (n+1:Nat),.int .i64 0]::X))=some (.ret (.bool true),A++(.box [.sl (De.css env),.int .i64 n,.int .i64 0]::X)):=by
  intro X;have hB:=zlt env ((n+1:Nat):Int) (by omega) A X
  rwa [if_neg (by omega),show (((n+1:Nat):Int) - 1)=n by omega]at hB
 simp only[Int.natCast_add,Int.natCast_one]at hB;have htk:(Te.css (es++[a])).take es.length=Te.css es:=by simp[Te.css_eq]
 cases r with
 |mk k' n' ls' ks'=>
 have hP:=fun e X=>z0j env (.mk k' n' ls' ks') n e A X
 simp only[Te.cs]at hP hO;rw[zfv];simp only[↓reduceIte,go_sem,Te.cs,zfk,Int.natCast_add,Int.natCast_one,zal (n:=(es.length:Int)) (by omega) (by omega),show ¬ (es.length:Int)<0 by omega,show es.length<es.length+1 by omega,show (es.length:Int)<=(es.length:Int)+1 by omega,Int.add_sub_cancel,hB,hO,hP,htk,zuc]
theorem lam0_ok(env:List De)(A Y Z:List AO)(ver:Nat)(es:List Te)(hes:es.length<=1073741824)(a:Te)(k N:Int)(ls:List Lv)(ks:List Te):
  F zbb [.ptr (A.length+(Y.length+2)) 0] (A++(.box [.sl (De.css env),.int .i64 0,.int .i64 0]::(Y++(.lst ver 4 (Te.css (es++[a])) :: .box [.ptr A.length 0,.int .i64 k,.int .i64 N,.sl (Lv.css ls),.sl (Te.css ks),.ol (A.length+(Y.length+1)) ver]::Z)))) =
  some (.ret (.bool true),A++(.box [.sl (De.css env),.int .i64 0,.int .i64 40]::(Y++(.lst (ver+1) 4 (Te.css es) :: .box [.ptr A.length 0,.int .i64 k,.int .i64 N,.sl (Lv.css ls),.sl (Te.css ks),.ol (A.length+(Y.length+1)) (ver+1)]::Z)))):=by
 have hB:∀X,F zai [.ptr A.length 0] (A++(.box [.sl (De.css env),.int .i64 0,.int .i64 0]::X))=some (.ret (.bool false),A++(.box [.sl (De.css env),.int .i64 0,.int .i64 40]::X)):=by
  intro X;have hB:=zlt env 0 (by omega) A X
  rwa [if_pos rfl]at hB
 have htk:(Te.css (es++[a])).take es.length=Te.css es:=by simp[Te.css_eq]
 rw[zfv];simp only[↓reduceIte,go_sem,Te.cs,zfk,Int.natCast_add,Int.natCast_one,zal (n:=(es.length:Int)) (by omega) (by omega),show ¬ (es.length:Int)<0 by omega,show es.length<es.length+1 by omega,show (es.length:Int)<=(es.length:Int)+1 by omega,Int.add_sub_cancel,hB,htk,zuc]
theorem yge(es:List Te)(z:List AV)(x:Te):(Te.css es++[z]).set es.length x.cs=Te.css (es++[x]):=by
 rw[List.set_append_right _ _ (by rw[zqh];exact Nat.le_refl _),zqh,Nat.sub_self]
 simp[Te.css_eq]
theorem z20(es:List Te)(z:List AV):(Te.css es++[z]).length=es.length+1:=by rw[List.length_append,zqh];rfl
theorem z21(es:List Te)(z:List AV):(Te.css es++[z])[es.length]?=some z:=by rw[List.getElem?_append_right (by rw[zqh];exact Nat.le_refl _),zqh,Nat.sub_self];rfl
theorem yga(env:List De)(n e:Int)(A Y Z:List AO)(ver:Nat)(es:List Te)(hes:es.length<1073741824)(k N:Int)(ls:List Lv)(f a:Te):
  F zdh [.ptr (A.length+(Y.length+2)) 0] (A++(.box [.sl (De.css env),.int .i64 n,.int .i64 e]::(Y++(.lst ver 4 (Te.css es) :: .box [.ptr A.length 0,.int .i64 k,.int .i64 N,.sl (Lv.css ls),.sl (Te.css [f,a]),.ol (A.length+(Y.length+1)) ver]::Z)))) =
  some (.ret (.bool true),A++(.box [.sl (De.css env),.int .i64 n,.int .i64 e]::(Y++(.lst (ver+1) 4 (Te.css (es++[a])) :: .box (.ptr A.length 0::(f.cs++[.ol (A.length+(Y.length+1)) (ver+1)]))::Z)))):=by
 cases f with
 |mk k' n' ls' ks'=>
 rw[zq8];simp only[↓reduceIte,go_sem,Te.cs,z20,z21,yge,show es.length<es.length+1 by omega,show es.length+(0+1)<=1073741824 by omega,zuc]
def zps:List (AV×AV):=[(.int .i64 7,.fn (.func zct) [] []),(.int .i64 3,.fn (.func za4) [] []),(.int .i64 5,.fn (.func zbb) [] []),(.int .i64 4,.fn (.func zdh) [] [])]
theorem yf7(H:List AO):F zjd [] H=some (.ret (.fmap zps),H):=by
 rw[zwc];simp only[↓reduceIte,go_sem,zlx,zgf,zps]
theorem zfb:zlx .i64 zps=true:=rfl
theorem z7y(k:Int)(h:k≠7/\k≠3/\k≠5/\k≠4):zgf k zps=some none:=by
 simp only[zgf,zps,if_neg h.1,if_neg h.2.1,if_neg h.2.2.1,if_neg h.2.2.2]
theorem yan:zgf 7 zps=some (some (.fn (.func zct) [] [])):=rfl
theorem z32:zgf 3 zps=some (some (.fn (.func za4) [] [])):=rfl
theorem z31:zgf 5 zps=some (some (.fn (.func zbb) [] [])):=rfl
theorem steps_4:zgf 4 zps=some (some (.fn (.func zdh) [] [])):=rfl
abbrev encP(p:Int×Te):List AV:=[.int .i64 p.1,.agg p.2.cs]
def bkr:List Te->List (Int×Te)
 |[]=>[]
 |x::r=>(r.length,x)::bkr r
def z9j(id ver:Nat):AV:=.fn (.func zbk) [] [.fp [.ol id ver]]
theorem back_ok(id ver:Nat)(H:List AO)(hi:id<H.length):F zdo [.ol id ver] H=some (.ret (z9j id ver),H):=by
 rw[znz];have h:Lt H.length (.fn (.func zbk) [] [.fp [.ol id ver]])=True:=by
  simp only[eq_iff_iff,iff_true];refine .fn (by simp) ?_
  intro x hx;simp at hx;subst hx;exact .fp (by intro a ha;simp at ha;subst ha;exact .ol hi)
 simp only[↓reduceIte,go_sem,z9j,h]
theorem yin{S E:Type}{y:AV}{m:Nat}{W:S->List AO}{WE:E->List AO}{stp:S->Int×Te->Option (S ⊕ E)}(hy:Ys y m encP W WE stp)(id ver:Nat)(es:List Te)(hes:es.length<=1073741824)(hW:∀s,(W s)[id]?=some (.lst ver 4 (Te.css es)))
  (s:S) (X:List AO) (r:S ⊕ E) (hr:zlh stp (bkr es.reverse) s=some r):F zbk [y,.fp [.ol id ver]] (W s++X)=some (.ret (.tup []),hp W WE r++X):=by
 have hone:=hy.one;have hcell:y.cells=[y]:=by cases y <;> first|rfl|(simp[AV.one]at hone)
 unfold AV.cells at hcell;unfold AV.one at hone;have l1:∀s,(W s).length=m:=fun s=>hy.len (.inl s)
 have hid:id<m:=by
  have:=hW s;have:=(List.getElem?_eq_some_iff.1 this).1;rw[l1 s]at this;exact this
 have hWX:∀s,(W s++X)[id]?=some (.lst ver 4 (Te.css es)):=fun s=>by rw[List.getElem?_append_left (by rw[l1];exact hid),hW s]
 have hfin:∀r:S ⊕ E,zet (W s++X) (.ret (.tup [])) (hp W WE r++X)=some (.ret (.tup []),hp W WE r++X):=fun r=>by
  have hf:=zy3 (H:=W s) (A:=hp W WE r) (X:=X) (J:=[]) (r:=.ret (.tup [])) (by rw[hy.len r];exact (l1 s).symm) (by rw[l1 s];exact hy.fr s r) (show Lt _ _ from .tup (by simp))
  rwa [List.append_nil]at hf
 have loop:∀(rev post:List Te) (a:S),es=rev.reverse++post->zlh stp (bkr rev) a=some r ->
   zcx (W s++X) (W a++X) y (.fp [.ol id ver]) (.int .i64 ((rev.length:Int) - 1))=some (.ret (.tup []),hp W WE r++X):=by
  intro rev
  induction rev with
  |nil=>
   intro post a e hq;simp only[bkr,zlh]at hq;cases hq;have:=hfin (.inl a);simp only[ze7]at this;rw[zcx,zab];simp only[↓reduceIte,go_sem,List.length_nil,Int.natCast_zero,show ¬ (0:Int) <= -1 by decide,this]
  |cons x rev ih=>
   intro post a e hq;have hl:rev.length<es.length:=by rw[e];simp
   have hg:es[rev.length]?=some x:=by
    rw[e];simp
   rw[bkr,zlh]at hq;obtain⟨q,hst⟩:∃q,stp a (rev.length,x)=some q:=by
    cases h:stp a (rev.length,x) with
    |none=>rw[h]at hq;cases hq
    |some q=>exact⟨q,rfl⟩
   rw[hst]at hq;have hc:=hy.call a (rev.length,x) X q hst;simp only[encP]at hc;rw[zcx,zab]
   cases q with
   |inl a'=>
    have:=ih (x::post) a' (by rw[e];simp) hq
    simp only[ze7]at hc;simp only[↓reduceIte,go_sem,List.length_cons,Int.natCast_add,Int.natCast_one,Int.add_sub_cancel,show (0:Int)<=(rev.length:Int) by omega,hWX,hg,hl,hc,isL,hone,hcell,zal (n:=(rev.length:Int) - 1) (by omega) (by omega),this]
   |inr e=>
    dsimp only at hq;cases hq;simp only[zpt]at hc;have:=hfin (.inr e);simp only[zpt]at this;simp only[↓reduceIte,go_sem,List.length_cons,Int.natCast_add,Int.natCast_one,Int.add_sub_cancel,show (0:Int)<=(rev.length:Int) by omega,hWX,hg,hl,hc,isL,hone,hcell,this]
 have:=loop es.reverse [] s (by simp) hr
 simp only[List.length_reverse]at this;rw[zmy];simp only[↓reduceIte,go_sem,hWX,zal (n:=(es.length:Int) - 1) (by omega) (by omega),this]
def z4t(p:AV)(n ver:Nat)(es:List Te)(s:Te):List AO:=[.lst 0 3 [],.lst 0 4 [],.lst ver 4 (Te.css es),.box (p::(s.cs++[.ol (n+2) ver])),.box [.ptr (n+3) 0]]
def yhi(s:Te)(x:Int×Te):Option (Te ⊕ Empty):=some (.inl (.mk 4 0 [] [s,x.2]))
theorem yhj(p:AV)(n ver:Nat)(es:List Te)(N:Nat)(hp:Lt N p)(hn:n+3<N)(s:Te):∀o∈z4t p n ver es s,LtO N o:=by
 intro o ho;simp only[z4t,List.mem_cons,List.not_mem_nil,or_false]at ho;rcases ho with rfl|rfl|rfl|rfl|rfl
 ·intro a ha;simp at ha
 ·intro a ha;simp at ha
 ·exact fun a ha=>of_eq_true (z4h _ es) a ha
 ·intro a ha
  rcases List.mem_cons.1 ha with rfl|ha
  ·exact hp
  ·rcases List.mem_append.1 ha with ha|ha
   ·exact zua _ s a ha
   ·simp at ha;subst ha;exact .ol (by omega)
 ·intro a ha
  simp at ha;subst ha;exact .ptr (by omega)
theorem head_ys(H:List AO)(p:AV)(hp:Lt H.length p)(ver:Nat)(es:List Te):Ys (.yd (H.length+5+1)) (H.length+5+2) encP (fun s=>H++(z4t p H.length ver es s++[.dfr,.slp .ready 60 [(5,.ptr (H.length+4) 0)] [44,45] za3 za1])) (fun e:Empty=>H++(noE e++[.dfr,.slp (.done (noE e)) 60 [(5,.ptr (H.length+4) 0)] [44,45] za3 za1])) yhi:=by
 refine z3u H 5 encP (z4t p H.length ver es) noE noE yhi 60 [(5,.ptr (H.length+4) 0)] [44,45] za3 za1 zlv zlu (fun _=>rfl) ?_ ?_ ?_ ?_
 ·rintro (s|e)
  ·rfl
  ·exact e.elim
 ·rintro s (s' | e) i o ho
  ·exact .inr (yhj p H.length ver es _ (hp.mono (by omega)) (by omega) s' o (List.mem_of_getElem? ho))
  ·exact e.elim
 ·intro q hq;simp at hq;subst hq;exact .ptr (by omega)
 ·rintro ⟨k,n,ls,ks⟩ ⟨i,a⟩ X r hst
  refine⟨[],?_⟩;unfold yhi at hst;cases hst;rcases a with⟨k2,n2,ls2,ks2⟩;simp only[↓reduceIte,go_sem,z4t,encP,Te.cs,Te.css,Lv.css,z4j,isL]
def reb:Te->List (Int×Te)->Te
 |t,[]=>t
 |t,x::r=>reb (.mk 4 0 [] [t,x.2]) r
theorem z1y:∀(xs:List (Int×Te)) (t:Te),zlh yhi xs t=some (.inl (reb t xs))
 |[],t=>rfl
 |x::r,t=>by rw[zlh,reb];exact z1y r _
def znf(t:Te)(es:List Te):Te:=reb t (bkr es.reverse)
theorem z38(t:Te):znf t []=t:=rfl
theorem z1e(t a:Te)(es:List Te):znf t (es++[a])=znf (.mk 4 0 [] [t,a]) es:=by
 rw[znf,List.reverse_append,List.reverse_cons,List.reverse_nil,List.nil_append,List.cons_append,List.nil_append,bkr,reb];rfl
end Go.Ab
end
section
set_option linter.unusedVariables false
set_option linter.unusedSimpArgs false
set_option maxRecDepth 100000
set_option maxHeartbeats 2000000
namespace Go.Ab
open Go.RowKit Go.Proofs
def hdH(A X:List AO)(env:List De)(n e:Int)(ver:Nat)(es:List Te)(t:Te):List AO :=
 A++(.box [.sl (De.css env),.int .i64 n,.int .i64 e]::(X++[.lst 0 3 [],.lst 0 4 [],.lst ver 4 (Te.css es),.box (.ptr A.length 0::(t.cs++[.ol (A.length+(X.length+3)) ver])),.box [.ptr (A.length+(X.length+4)) 0]]))
noncomputable def Lh(A X:List AO)(env:List De)(n0 e0 n e:Int)(ver:Nat)(es:List Te)(t:Te):Option RH :=
 zao (A++(.box [.sl (De.css env),.int .i64 n0,.int .i64 e0]::X)) (hdH A X env n e ver es t) [] (.ptr A.length 0) (.ptr (A.length+(X.length+5)) 0) (.fmap zps) [.int .i64 0,.int .i64 0,.sl [],.sl []]
theorem z5x(env:List De)(t:Te)(n e:Int)(A X:List AO):F zax [.ptr A.length 0,.agg t.cs] (A++(.box [.sl (De.css env),.int .i64 n,.int .i64 e]::X))=Lh A X env n e n e 0 [] t:=by
 rw[zor,Lh,hdH];rcases t with⟨k,N,ls,ks⟩;simp only[↓reduceIte,go_sem,yf7,Te.cs,Te.css]
theorem yfd(A X:List AO)(env:List De)(n0 e0 n e:Int)(ver:Nat)(es:List Te)(hes:es.length<=1073741824)(k N:Int)(ls:List Lv)(ks:List Te)
  (hst:e≠0\/e=0/\(k≠7/\k≠3/\k≠5/\k≠4\/k=3/\0<=N/\zwo env N ls=none\/k=5/\es=[])) :
  Lh A X env n0 e0 n e ver es (.mk k N ls ks)=some (.ret (.agg (znf (.mk k N ls ks) es).cs),A++(.box [.sl (De.css env),.int .i64 n,.int .i64 e]::X)):=by
 have hl:(A++(.box [.sl (De.css env),.int .i64 n,.int .i64 e]::X)).length=A.length+(X.length+1):=by simp
 have hr:=yin (head_ys (A++(.box [.sl (De.css env),.int .i64 n,.int .i64 e]::X)) (.ptr A.length 0) (.ptr (by simp)) ver es) (A.length+(X.length+3)) ver es hes (fun s=>by
  rw[show A.length+(X.length+3)=(A++(AO.box [.sl (De.css env),.int .i64 n,.int .i64 e]::X)).length+2 by rw[hl];omega,ztz];rfl) (.mk k N ls ks) [] _ (z1y _ _)
 have he:=zsq (H:=A++(.box [.sl (De.css env),.int .i64 n,.int .i64 e]::X)) (DR:=z4t (.ptr A.length 0) (A++(.box [.sl (De.css env),.int .i64 n,.int .i64 e]::X)).length ver es (znf (.mk k N ls ks) es)) (k:=5) rfl (st:=.ready) (nn:=60) (t:=[(5,.ptr (A.length+(X.length+5)) 0)]) (ps:=[44,45]) (asg:=za3) (body:=za1);rw[show reb (.mk k N ls ks) (bkr es.reverse)=znf (.mk k N ls ks) es from rfl]at hr
 simp only[hl]at hr he;have hf:=fun (o o':AO) r J (ho:LtO (A.length+(X.length+1)) o')=>zr7 (A:=A) (X:=X) (J:=J) (o:=o) (o':=o') (r:=r) ho
 have hb:=fun c1 c2 c3 c4=>back_ok (A.length+(X.length+3)) ver (A++(.box [.sl (De.css env),.int .i64 n,.int .i64 e]::(X++[.lst 0 3 [],.lst 0 4 [],.lst ver 4 (Te.css es),.box [.ptr A.length 0,c1,c2,c3,c4,.ol (A.length+(X.length+3)) ver],.box [.ptr (A.length+(X.length+4)) 0]]))) (by simp)
 rcases hq:znf (.mk k N ls ks) es with⟨k2,N2,ls2,ks2⟩;simp only[hq,ze7,z4t,Te.cs,zgg,List.cons_append,List.nil_append,List.append_nil,List.append_assoc,Nat.add_assoc,Nat.reduceAdd]at hr he;rw[Lh,zao,zab,hdH];have hc:=fun (h:0<=N) (hu:zwo env N ls=none)=>yd4 env n 0 A (X++[.lst 0 3 [],.lst 0 4 []]) [.box [.ptr (A.length+(X.length+4)) 0]] ver es N h ls ks hu
 have hm:=lamN_ok env n 0 A (X++[.lst 0 3 [],.lst 0 4 []]) [.box [.ptr (A.length+(X.length+4)) 0]] ver 5 N ls ks;simp only[List.append_assoc,List.cons_append,List.nil_append,List.length_append,List.length_cons,List.length_nil,Nat.add_assoc,Nat.reduceAdd]at hc hm;rcases hst with h|⟨rfl,h|⟨rfl,h2,h3⟩|⟨rfl,rfl⟩⟩
 ·simp only[↓reduceIte,go_sem,Te.cs,h,hb,z9j,hr,he,hf,zod,Nat.add_le_add_iff_left,Nat.reduceLeDiff,List.nodup_cons,List.not_mem_nil,not_false_eq_true,List.nodup_nil,and_self]
 ·simp only[↓reduceIte,go_sem,Te.cs,zfb,z7y k h,hb,z9j,hr,he,hf,zod,Nat.add_le_add_iff_left,Nat.reduceLeDiff,List.nodup_cons,List.not_mem_nil,not_false_eq_true,List.nodup_nil,and_self]
 ·have hc:=hc h2 h3
  simp only[↓reduceIte,go_sem,Te.cs,zfb,z32,hc,hb,z9j,hr,he,hf,zod,Nat.add_le_add_iff_left,Nat.reduceLeDiff,List.nodup_cons,List.not_mem_nil,not_false_eq_true,List.nodup_nil,and_self]
 ·simp only[↓reduceIte,go_sem,Te.cs,zfb,z31,hm,hb,z9j,hr,he,hf,zod,Nat.add_le_add_iff_left,Nat.reduceLeDiff,List.nodup_cons,List.not_mem_nil,not_false_eq_true,List.nodup_nil,and_self]
variable (A X : List AO) (env : List De) (n0 e0 : Int)
theorem yfb(n:Nat)(hn:n+1<=1000000)(ver:Nat)(es:List Te)(N:Int)(ls:List Lv)(s v b:Te)(hb:b.ok)(hv:v.ok)(r:Te)(e:Int)(ho:zlg b v=(r,e)):
  Lh A X env n0 e0 (n+1:Nat) 0 ver es (.mk 7 N ls [s,v,b])=Lh A X env n0 e0 n e ver es r:=by
 have h:=let_ok env n hn A (X++[.lst 0 3 [],.lst 0 4 []]) [.box [.ptr (A.length+(X.length+4)) 0]] ver es N ls s v b s hb hv r e ho;simp only[List.append_assoc,List.cons_append,List.nil_append,List.length_append,List.length_cons,List.length_nil,Nat.add_assoc,Nat.reduceAdd]at h;rcases r with⟨k',n',ls',ks'⟩;simp only[Te.cs,List.cons_append,List.nil_append]at h
 conv=>lhs;rw[Lh,zao,zab,hdH]
 simp only[↓reduceIte,go_sem,Te.cs,zfb,yan,h,Lh,hdH]
theorem Lh_let0(ver:Nat)(es:List Te)(N:Int)(ls:List Lv)(ks:List Te):
  Lh A X env n0 e0 0 0 ver es (.mk 7 N ls ks)=Lh A X env n0 e0 0 40 ver es (.mk 7 N ls ks):=by
 have h:=let0_ok env A (X++[.lst 0 3 [],.lst 0 4 []]) [.box [.ptr (A.length+(X.length+4)) 0]] ver es N ls ks;simp only[List.append_assoc,List.cons_append,List.nil_append,List.length_append,List.length_cons,List.length_nil,Nat.add_assoc,Nat.reduceAdd]at h
 conv=>lhs;rw[Lh,zao,zab,hdH]
 simp only[↓reduceIte,go_sem,Te.cs,zfb,yan,h,Lh,hdH]
theorem z0k(hE:z1j env)(n:Nat)(hn:n+1<=1000000)(ver:Nat)(es:List Te)(N:Int)(hN:0<=N)(ls:List Lv)(hls:zyj ls)(hll:ls.length<=140737488355328)(ks:List Te)(d:De)(hu:zwo env N ls=some d)(r:Te)(e:Int)(hs:zoy d.value ls []=(r,e)):
  Lh A X env n0 e0 (n+1:Nat) 0 ver es (.mk 3 N ls ks)=Lh A X env n0 e0 n e ver es r:=by
 have h:=yd3 env hE n hn A (X++[.lst 0 3 [],.lst 0 4 []]) [.box [.ptr (A.length+(X.length+4)) 0]] ver es N hN ls hls hll ks d hu r e hs;simp only[List.append_assoc,List.cons_append,List.nil_append,List.length_append,List.length_cons,List.length_nil,Nat.add_assoc,Nat.reduceAdd]at h;rcases r with⟨k',n',ls',ks'⟩;simp only[Te.cs,List.cons_append,List.nil_append]at h
 conv=>lhs;rw[Lh,zao,zab,hdH]
 simp only[↓reduceIte,go_sem,Te.cs,zfb,z32,h,Lh,hdH]
theorem yfe(ver:Nat)(es:List Te)(N:Int)(hN:0<=N)(ls:List Lv)(ks:List Te)(d:De)(hu:zwo env N ls=some d):
  Lh A X env n0 e0 0 0 ver es (.mk 3 N ls ks)=Lh A X env n0 e0 0 40 ver es (.mk 3 N ls ks):=by
 have h:=yd5 env A (X++[.lst 0 3 [],.lst 0 4 []]) [.box [.ptr (A.length+(X.length+4)) 0]] ver es N hN ls ks d hu;simp only[List.append_assoc,List.cons_append,List.nil_append,List.length_append,List.length_cons,List.length_nil,Nat.add_assoc,Nat.reduceAdd]at h
 conv=>lhs;rw[Lh,zao,zab,hdH]
 simp only[↓reduceIte,go_sem,Te.cs,zfb,z32,h,Lh,hdH]
theorem yfc(n:Nat)(hn:n+1<=1000000)(ver:Nat)(es:List Te)(hes:es.length<=1073741824)(a:Te)(ha:a.ok)(N:Int)(ls:List Lv)(s b:Te)(hb:b.ok)(r:Te)(e:Int)(ho:zlg b a=(r,e)):
  Lh A X env n0 e0 (n+1:Nat) 0 ver (es++[a]) (.mk 5 N ls [s,b])=Lh A X env n0 e0 n e (ver+1) es r:=by
 have h:=lam_ok env n hn A (X++[.lst 0 3 [],.lst 0 4 []]) [.box [.ptr (A.length+(X.length+4)) 0]] ver es hes a ha 5 N ls s b hb r e ho;simp only[List.append_assoc,List.cons_append,List.nil_append,List.length_append,List.length_cons,List.length_nil,Nat.add_assoc,Nat.reduceAdd]at h;rcases r with⟨k',n',ls',ks'⟩;simp only[Te.cs,List.cons_append,List.nil_append]at h
 conv=>lhs;rw[Lh,zao,zab,hdH]
 simp only[↓reduceIte,go_sem,Te.cs,zfb,z31,h,Lh,hdH]
theorem Lh_lam0(ver:Nat)(es:List Te)(hes:es.length<=1073741824)(a:Te)(N:Int)(ls:List Lv)(ks:List Te):
  Lh A X env n0 e0 0 0 ver (es++[a]) (.mk 5 N ls ks)=Lh A X env n0 e0 0 40 (ver+1) es (.mk 5 N ls ks):=by
 have h:=lam0_ok env A (X++[.lst 0 3 [],.lst 0 4 []]) [.box [.ptr (A.length+(X.length+4)) 0]] ver es hes a 5 N ls ks;simp only[List.append_assoc,List.cons_append,List.nil_append,List.length_append,List.length_cons,List.length_nil,Nat.add_assoc,Nat.reduceAdd]at h
 conv=>lhs;rw[Lh,zao,zab,hdH]
 simp only[↓reduceIte,go_sem,Te.cs,zfb,z31,h,Lh,hdH]
theorem zs4(n:Int)(ver:Nat)(es:List Te)(hes:es.length<1073741824)(N:Int)(ls:List Lv)(f a:Te):
  Lh A X env n0 e0 n 0 ver es (.mk 4 N ls [f,a])=Lh A X env n0 e0 n 0 (ver+1) (es++[a]) f:=by
 have h:=yga env n 0 A (X++[.lst 0 3 [],.lst 0 4 []]) [.box [.ptr (A.length+(X.length+4)) 0]] ver es hes 4 N ls f a;simp only[List.append_assoc,List.cons_append,List.nil_append,List.length_append,List.length_cons,List.length_nil,Nat.add_assoc,Nat.reduceAdd]at h;rcases f with⟨k',n',ls',ks'⟩;simp only[Te.cs,List.cons_append,List.nil_append]at h
 conv=>lhs;rw[Lh,zao,zab,hdH]
 simp only[↓reduceIte,go_sem,Te.cs,zfb,steps_4,h,Lh,hdH]
end Go.Ab
end
section
set_option linter.unusedVariables false
set_option linter.unusedSimpArgs false
set_option maxRecDepth 100000
set_option maxHeartbeats 2000000
namespace Go.Ab
open Go.RowKit Go.Proofs
def sz(t:Te):Nat:=(subs t).length
theorem ztj{t:Te}(h:zcv t=true):sz t<=600:=by
 have:parts t 601<=600:=by unfold zcv zdv at h;simp at h;exact h.1
 have:=subs_parts t 601 (by omega)
 unfold sz;omega
theorem zpj{b v r:Te}(h:zlg b v=(r,0)):zcv b=true/\zcv v=true/\r=openT v b 0/\zcv r=true:=by
 unfold zlg at h
 split at h
 ·simp at h
 ·rename_i hh
  simp only[not_or,Bool.not_eq_false]at hh;unfold zs5 at h
  split at h
  ·rename_i hs
   simp only[Prod.mk.injEq,and_true]at h;subst h;exact⟨hh.1,hh.2,rfl,hs⟩
  ·simp at h
mutual
theorem subs_subT(ps ms:List Lv):∀t:Te,(subs (subT ps ms t)).length=(subs t).length
 |.mk k n ls ks=>by rw[subT,subs,subs,List.length_cons,List.length_cons,subss_subT ps ms ks]
theorem subss_subT(ps ms:List Lv):∀ks:List Te,(subss (subTs ps ms ks)).length=(subss ks).length
 |[]=>rfl
 |x::r=>by rw[subTs,subss,subss,List.length_append,List.length_append,subs_subT ps ms x,subss_subT ps ms r]
end
theorem zt2{t r:Te}{ps ms:List Lv}(h:zoy t ps ms=(r,0)):zcv t=true/\r=subT ps ms t/\okTm ps ms t=true:=by
 unfold zoy at h
 split at h
 ·simp at h
 ·rename_i hh
  simp only[not_or,Bool.not_eq_false]at hh
  split at h
  ·rename_i hs
   simp only[Prod.mk.injEq,and_true]at h;exact⟨hh.1,h.symm,hs⟩
  ·simp at h
theorem zpi{b v r:Te}(h:zlg b v=(r,0)):sz r<=600:=ztj (zpj h).2.2.2
theorem z0i{t r:Te}{ps ms:List Lv}(h:zoy t ps ms=(r,0)):sz r<=600:=by
 obtain⟨h1,rfl,_⟩:=zt2 h;have:=ztj h1;unfold sz at *;rw[subs_subT];exact this
theorem zpr(N:Int)(ls:List Lv)(f a:Te):sz (.mk 4 N ls [f,a])=sz f+sz a+1:=by
 simp[sz,subs,subss]
theorem Hd.sz{env:List De}{n:Nat}{t t':Te}{n':Nat}(h:Hd env n t t' n'):sz t' + 600*n' <= sz t+600*n:=by
 induction h with
 |stuck=>exact Nat.le_refl _
 |lett ho _ ih=>have:=zpi ho;omega
 |const _ _ hs _ ih=>have:=z0i hs;omega
 |app _ _ ih=>rw[zpr,zpr];omega
 |beta h1 ho _ ih1 ih2=>have:=zpi ho;have:=h1.le;rw[zpr];omega
variable (A X : List AO) (env : List De) (n0 e0 : Int)
theorem z61(hE:z1j env){n:Nat}{t t':Te}{n':Nat}(h:Hd env n t t' n'):t.ok->n<=1000000->∀(ver:Nat) (es:List Te),es.length+sz t+600*n<=1073741823->∃ver',ver<=ver' /\ Lh A X env n0 e0 n 0 ver es t=Lh A X env n0 e0 n' 0 ver' es t':=by
 induction h with
 |stuck=>exact fun _ _ ver es _=>⟨ver,Nat.le_refl _,rfl⟩
 |@lett n N ls s v b r t' n' ho hd ih=>
  intro ht hn ver es hs;have hb:=ht.all b (by simp)
  have hv:=ht.all v (by simp)
  have hz:=zpi ho;obtain⟨w,h1,h2⟩:=ih (zm9 ho hb hv) (by omega) ver es (by omega)
  exact⟨w,h1,by rw[yfb A X env n0 e0 n hn ver es N ls s v b hb hv r 0 ho,h2]⟩
 |@const n N ls ks d r t' n' hN hu hs hd ih=>
  intro ht hn ver es hz;have hz:=z0i hs;obtain⟨w,h1,h2⟩:=ih (zz6 hE ht hu hs) (by omega) ver es (by omega)
  exact⟨w,h1,by rw[z0k A X env n0 e0 hE n hn ver es N hN ls ht.all2 ht.len2 ks d hu r 0 hs,h2]⟩
 |@app n N ls f a f' n' hd hk ih=>
  intro ht hn ver es hs;rw[zpr]at hs;obtain⟨w,h1,h2⟩:=ih (ht.all f (by simp)) hn (ver+1) (es++[a]) (by simp;omega)
  obtain⟨w,rfl⟩:∃u,w=u+1:=⟨w - 1,by omega⟩
  exact⟨w,by omega,by rw[zs4 A X env n0 e0 n ver es (by omega) N ls f a,h2,zs4 A X env n0 e0 n' w es (by omega) 0 [] f' a]⟩
 |@beta n N ls f a N2 ls2 s b m r t' n' hd ho hd2 ih1 ih2=>
  intro ht hn ver es hs;rw[zpr]at hs;have hf:=ht.all f (by simp)
  have ha:=ht.all a (by simp)
  have hl:=hd.ok hE hf;have hle:=hd.le;have hb:=hl.all b (by simp)
  have hz:=zpi ho;obtain⟨w,h1,h2⟩:=ih1 hf hn (ver+1) (es++[a]) (by simp;omega)
  obtain⟨u,h3,h4⟩:=ih2 (zm9 ho hb ha) (by omega) (w+1) es (by omega)
  exact⟨u,by omega,by rw[zs4 A X env n0 e0 n ver es (by omega) N ls f a,h2,yfc A X env n0 e0 m (by omega) w es (by omega) a ha N2 ls2 s b hb r 0 ho,h4]⟩
theorem nfP_ok{n:Nat}{t t':Te}{n':Nat}(h:Hd env n t t' n'):∀(m:Nat) (ver:Nat) (es:List Te),(t'.kind=5->es=[])->es.length+sz t' <= 1073741823->Lh A X env n0 e0 m 0 ver es t' = some (.ret (.agg (znf t' es).cs),A++(.box [.sl (De.css env),.int .i64 m,.int .i64 0]::X)):=by
 induction h with
 |@stuck n k N ls ks h4 h7 h3=>
  intro m ver es h5 hs;refine yfd A X env n0 e0 m 0 ver es (by omega) k N ls ks (.inr ⟨rfl,?_⟩)
  by_cases k3:k=3
  ·exact .inr (.inl ⟨k3,h3 k3⟩)
  ·by_cases k5:k=5
   ·exact .inr (.inr ⟨k5,h5 k5⟩)
   ·exact .inl ⟨h7,k3,k5,h4⟩
 |lett _ _ ih=>exact ih
 |const _ _ _ _ ih=>exact ih
 |@app n N ls f a f' n' hd hk ih=>
  intro m ver es _ hs;rw[zpr]at hs;rw[zs4 A X env n0 e0 m ver es (by omega) 0 [] f' a,ih m (ver+1) (es++[a]) (fun h=>absurd h hk) (by simp;omega),z1e]
 |beta _ _ _ _ ih=>exact ih
theorem heP_ok(hE:z1j env){n:Nat}{t:Te}{n':Nat}{e:Int}(h:He env n t n' e):t.ok->n<=1000000->∀(ver:Nat) (es:List Te),es.length+sz t+600*n<=1073741823 ->
  ∃x:Te,Lh A X env n0 e0 n 0 ver es t=some (.ret (.agg x.cs),A++(.box [.sl (De.css env),.int .i64 n',.int .i64 e]::X)):=by
 have fin:∀(m e:Int) (ver:Nat) (es:List Te) (x:Te),e≠0->es.length<=1073741824->∃y:Te,Lh A X env n0 e0 m e ver es x=some (.ret (.agg y.cs),A++(.box [.sl (De.css env),.int .i64 m,.int .i64 e]::X)):=by
  intro m e ver es x he hes;rcases x with⟨k,N,ls,ks⟩;exact⟨_,yfd A X env n0 e0 m e ver es hes k N ls ks (.inl he)⟩
 induction h with
 |@let0 N ls s v b=>
  intro ht hn ver es hs;have:=Lh_let0 A X env n0 e0 ver es N ls [s,v,b];rw[Int.natCast_zero,this];exact fin 0 40 ver es _ (by decide) (by omega)
 |@let2 n N ls s v b r e ho he=>
  intro ht hn ver es hs;rw[yfb A X env n0 e0 n hn ver es N ls s v b (ht.all b (by simp)) (ht.all v (by simp)) r e ho]
  exact fin n e ver es r he (by omega)
 |@letr n N ls s v b r n' e ho hd ih=>
  intro ht hn ver es hs;have hb:=ht.all b (by simp)
  have hv:=ht.all v (by simp)
  have hz:=zpi ho;rw[yfb A X env n0 e0 n hn ver es N ls s v b hb hv r 0 ho];exact ih (zm9 ho hb hv) (by omega) ver es (by omega)
 |@const0 N ls ks d hN hu=>
  intro ht hn ver es hs;have:=yfe A X env n0 e0 ver es N hN ls ks d hu;rw[Int.natCast_zero,this];exact fin 0 40 ver es _ (by decide) (by omega)
 |@const2 n N ls ks d r e hN hu hs he=>
  intro ht hn ver es hz;rw[z0k A X env n0 e0 hE n hn ver es N hN ls ht.all2 ht.len2 ks d hu r e hs];exact fin n e ver es r he (by omega)
 |@constr n N ls ks d r n' e hN hu hs hd ih=>
  intro ht hn ver es hz;have hz:=z0i hs;rw[z0k A X env n0 e0 hE n hn ver es N hN ls ht.all2 ht.len2 ks d hu r 0 hs];exact ih (zz6 hE ht hu hs) (by omega) ver es (by omega)
 |@appf n N ls f a n' e hd ih=>
  intro ht hn ver es hs;rw[zpr]at hs;rw[zs4 A X env n0 e0 n ver es (by omega) N ls f a]
  exact ih (ht.all f (by simp)) hn (ver+1) (es++[a]) (by simp;omega)
 |@beta0 n N ls f a N2 ls2 s b hd=>
  intro ht hn ver es hs;rw[zpr]at hs;obtain⟨w,h1,h2⟩:=z61 A X env n0 e0 hE hd (ht.all f (by simp)) hn (ver+1) (es++[a]) (by simp;omega)
  rw[zs4 A X env n0 e0 n ver es (by omega) N ls f a,h2,Int.natCast_zero,Lh_lam0 A X env n0 e0 w es (by omega) a N2 ls2 [s,b]]
  exact fin 0 40 _ es _ (by decide) (by omega)
 |@beta2 n N ls f a N2 ls2 s b m r e hd ho he=>
  intro ht hn ver es hs;rw[zpr]at hs;have hf:=ht.all f (by simp)
  have ha:=ht.all a (by simp)
  have hl:=hd.ok hE hf;have hle:=hd.le;have hb:=hl.all b (by simp)
  obtain⟨w,h1,h2⟩:=z61 A X env n0 e0 hE hd hf hn (ver+1) (es++[a]) (by simp;omega)
  rw[zs4 A X env n0 e0 n ver es (by omega) N ls f a,h2,yfc A X env n0 e0 m (by omega) w es (by omega) a ha N2 ls2 s b hb r e ho]
  exact fin m e _ es r he (by omega)
 |@betar n N ls f a N2 ls2 s b m r n' e hd ho hd2 ih2=>
  intro ht hn ver es hs;rw[zpr]at hs;have hf:=ht.all f (by simp)
  have ha:=ht.all a (by simp)
  have hl:=hd.ok hE hf;have hle:=hd.le;have hb:=hl.all b (by simp)
  have hz:=zpi ho;obtain⟨w,h1,h2⟩:=z61 A X env n0 e0 hE hd hf hn (ver+1) (es++[a]) (by simp;omega)
  rw[zs4 A X env n0 e0 n ver es (by omega) N ls f a,h2,yfc A X env n0 e0 m (by omega) w es (by omega) a ha N2 ls2 s b hb r 0 ho]
  exact ih2 (zm9 ho hb ha) (by omega) (w+1) es (by omega)
theorem yjg(hE:z1j env){n:Nat}{t t':Te}{n':Nat}(h:Hd env n t t' n')(ht:t.ok)(hs:sz t+600*n<=500000000):
  F zax [.ptr A.length 0,.agg t.cs] (A++(.box [.sl (De.css env),.int .i64 n,.int .i64 0]::X))=some (.ret (.agg t'.cs),A++(.box [.sl (De.css env),.int .i64 n',.int .i64 0]::X)):=by
 obtain⟨w,_,h2⟩:=z61 A X env n 0 hE h ht (by omega) 0 [] (by simp;omega)
 have:=h.sz;rw[z5x,h2,nfP_ok A X env n 0 h n' w [] (fun _=>rfl) (by simp;omega),z38]
theorem yjh(hE:z1j env){n:Nat}{t:Te}{n':Nat}{e:Int}(h:He env n t n' e)(ht:t.ok)(hs:sz t+600*n<=500000000):
  ∃x:Te,F zax [.ptr A.length 0,.agg t.cs] (A++(.box [.sl (De.css env),.int .i64 n,.int .i64 0]::X))=some (.ret (.agg x.cs),A++(.box [.sl (De.css env),.int .i64 n',.int .i64 e]::X)):=by
 rw[z5x];exact heP_ok A X env n 0 hE h ht (by omega) 0 [] (by simp;omega)
mutual
def wfT:Te->Bool
 |.mk k n ls ks=>decide ((ks.length:Int)=zdr k) && (decide (k≠3) || decide (0<=n)) && wfTs ks
def wfTs:List Te->Bool
 |[]=>true
 |x::r=>wfT x && wfTs r
end
mutual
theorem right_wf{p m:Int}:∀{t:Te} {v d:Int},rightT p m t v d=true->wfT t=true
 |.mk k n ls ks,v,d,h=>by
  have hi:=zca h;obtain⟨h1,h2,h3,h4,h5⟩:=hi;rw[wfT];have:=right_wfs h5;simp only[this,Bool.and_true,Bool.and_eq_true,decide_eq_true_eq,Bool.or_eq_true];refine⟨h2,?_⟩;by_cases k3:k=3
  ·right
   subst k3;unfold zdc at h4;simp at h4;exact h4.1.1
  ·exact .inl k3
theorem right_wfs{p m k:Int}:∀{ks:List Te} {i v d:Int},rightTs p m k ks i v d=true->wfTs ks=true
 |[],_,_,_,_=>rfl
 |x::r,i,v,d,h=>by
  rw[rightTs]at h;simp at h;rw[wfTs,right_wf h.1,right_wfs h.2];rfl
end
theorem zx7{t:Te}(h:zcv t=true):wfT t=true:=right_wf (zhb h)
mutual
theorem sub_wf(ps ms:List Lv):∀t:Te,wfT (subT ps ms t)=wfT t
 |.mk k n ls ks=>by
  rw[subT,wfT,wfT,subs_wf ps ms ks,zth,List.length_map]
theorem subs_wf(ps ms:List Lv):∀ks:List Te,wfTs (subTs ps ms ks)=wfTs ks
 |[]=>rfl
 |x::r=>by rw[subTs,wfTs,wfTs,sub_wf ps ms x,subs_wf ps ms r]
end
theorem z7r{t r:Te}{ps ms:List Lv}(h:zoy t ps ms=(r,0)):wfT r=true:=by
 obtain⟨h1,rfl,_⟩:=zt2 h;rw[sub_wf];exact zx7 h1
theorem zt3{b v r:Te}(h:zlg b v=(r,0)):wfT r=true:=zx7 (zpj h).2.2.2
theorem zx2{ks:List Te}(h:(ks.length:Int)=2):∃a b,ks=[a,b]:=by
 match ks,h with
 |[a,b],_=>exact⟨a,b,rfl⟩
 |[],h=>simp at h
 |[_],h=>simp at h
 |_::_::_::_,h=>simp at h;omega
theorem z7w{ks:List Te}(h:(ks.length:Int)=3):∃a b c,ks=[a,b,c]:=by
 match ks,h with
 |[a,b,c],_=>exact⟨a,b,c,rfl⟩
 |[],h=>simp at h
 |[_],h=>simp at h
 |[_,_],h=>simp at h
 |_::_::_::_::_,h=>simp at h;omega
theorem zxc(env:List De):∀(n:Nat) (t:Te),wfT t=true->(∃t' n',Hd env n t t' n' /\ wfT t' = true)\/∃n' e,He env n t n' e:=by
 intro n
 induction n using Nat.strongRecOn with
 |ind n ihn=>
 intro t
 induction t using Te.ind with
 |h k N ls ks iht=>
 intro hw;have hw0:=hw;rw[wfT]at hw;simp only[Bool.and_eq_true,decide_eq_true_eq,Bool.or_eq_true]at hw;obtain⟨⟨hk,hN⟩,hks⟩:=hw;by_cases k7:k=7
 ·subst k7
  obtain⟨s,v,b,rfl⟩:=z7w hk;rcases n with _|n
  ·exact .inr ⟨0,40,.let0⟩
  rcases ho:zlg b v with⟨r,e⟩;by_cases he:e=0
  ·subst he
   rcases ihn n (by omega) r (zt3 ho) with⟨t',n',h1,h2⟩|⟨n',e,h1⟩
   ·exact .inl ⟨t',n',.lett ho h1,h2⟩
   ·exact .inr ⟨n',e,.letr ho h1⟩
  ·exact .inr ⟨n,e,.let2 ho he⟩
 by_cases k4:k=4
 ·subst k4
  obtain⟨f,a,rfl⟩:=zx2 hk;simp only[wfTs,Bool.and_eq_true]at hks;rcases iht f (by simp) hks.1 with⟨f',m,h1,h2⟩|⟨n',e,h1⟩
  ·rcases f' with⟨k2,N2,ls2,ks2⟩
   by_cases k5:k2=5
   ·subst k5
    have h3:=h2;rw[wfT]at h3;simp only[Bool.and_eq_true,decide_eq_true_eq]at h3;obtain⟨s,b,rfl⟩:=zx2 h3.1.1;rcases m with _|m
    ·exact .inr ⟨0,40,.beta0 h1⟩
    have hle:=h1.le;rcases ho:zlg b a with⟨r,e⟩;by_cases he:e=0
    ·subst he
     rcases ihn m (by omega) r (zt3 ho) with⟨t',n',h4,h5⟩|⟨n',e,h4⟩
     ·exact .inl ⟨t',n',.beta h1 ho h4,h5⟩
     ·exact .inr ⟨n',e,.betar h1 ho h4⟩
    ·exact .inr ⟨m,e,.beta2 h1 ho he⟩
   ·refine .inl ⟨_,m,.app h1 k5,?_⟩
    rw[wfT];simp[wfTs,hks.2.1,h2,zdr]
  ·exact .inr ⟨n',e,.appf h1⟩
 by_cases k3:k=3
 ·subst k3
  have hN:0<=N:=by simpa using hN
  cases hu:zwo env N ls with
  |none=>exact .inl ⟨_,n,.stuck (by decide) (by decide) (fun _=>⟨hN,hu⟩),hw0⟩
  |some d=>
   rcases n with _|n
   ·exact .inr ⟨0,40,.const0 hN hu⟩
   rcases hs:zoy d.value ls [] with⟨r,e⟩;by_cases he:e=0
   ·subst he
    rcases ihn n (by omega) r (z7r hs) with⟨t',n',h1,h2⟩|⟨n',e,h1⟩
    ·exact .inl ⟨t',n',.const hN hu hs h1,h2⟩
    ·exact .inr ⟨n',e,.constr hN hu hs h1⟩
   ·exact .inr ⟨n,e,.const2 hN hu hs he⟩
 ·exact .inl ⟨_,n,.stuck k4 k7 (fun h=>absurd h k3),hw0⟩
end Go.Ab
end
section
set_option linter.unusedVariables false
set_option linter.unusedSimpArgs false
set_option maxRecDepth 100000
set_option maxHeartbeats 2000000
namespace Go.Ab
open Go.RowKit Go.Proofs
structure Gr where
 env:List De
 params:Int
 metas:Int
 cons:List Co
 mode:Int
def Gr.cs(g:Gr):List AV:=[.sl (De.css g.env),.int .i64 g.params,.int .i64 g.metas,.sl (Co.css g.cons),.int .i64 g.mode]
noncomputable def zha(g:Gr)(s:Int×List Co)(a b:Lv):Bool×Int×List Co :=
 if s.1≠0 then (false,s)
 else if g.mode=2 then (if 100<=s.2.length then (false,2,s.2) else (true,0,s.2++[.mk a b]))
 else if (zdz g.cons g.params && zam a g.params 0 && zam b g.params 0)=true then (z0s g.cons g.params.toNat a b,s)
 else (false,1,s.2)
def zg9(A:List AO)(g:Gr)(n e:Int)(ver:Nat)(out:List Co)(X:List AO):List AO :=
 A++(.box [.sl (De.css g.env),.int .i64 n,.int .i64 e] :: .lst 0 11 [] :: .lst 0 6 [] :: .lst ver 6 (Co.css out) :: .box (.ptr A.length 0::(g.cs++[.ol (A.length+3) ver]))::X)
theorem NewP_ok(g:Gr)(f:Int)(H:List AO):F zrc [.agg g.cs,.int .i64 f] H=some (.ret (.ptr (H.length+4) 0),zg9 H g f 0 0 [] []):=by
 have e:Co.css []=[]:=rfl;rw[z83];simp only[↓reduceIte,go_sem,Gr.cs,zg9,e,List.append_assoc,List.cons_append,List.nil_append,List.length_append,List.length_cons,List.length_nil]
theorem gr_lt(N:Nat)(g:Gr):∀a∈g.cs,Lt N a:=by
 intro a ha;simp[Gr.cs]at ha;rcases ha with rfl|rfl|rfl|rfl|rfl
 ·exact .sl (zz5 N g.env)
 ·exact .int _ _
 ·exact .int _ _
 ·exact .sl (zpc N g.cons)
 ·exact .int _ _
theorem yie(n ver:Nat)(out:List Co):LtO n (.lst ver 6 (Co.css out)):=zpc n out
theorem yiw{A Z:List AO}{o1 o1' o4 o4' o5 o5' b2 b3:AO}{n:Nat}(h1:LtO n o1')(h4:LtO n o4')(h5:LtO n o5'):∀(id:Nat) (o:AO),(A++(o1' :: b2::b3::o4' :: o5' :: Z))[id]?=some o->(A++(o1::b2::b3::o4::o5::Z))[id]?=some o\/LtO n o:=by
 intro id o ho;by_cases hi:id<A.length
 ·rw[List.getElem?_append_left hi]at ho ⊢;exact .inl ho
 rw[List.getElem?_append_right (by omega)]at ho ⊢
 match hj:id - A.length,ho with
 |0,ho=>simp at ho;subst ho;exact .inr h1
 |1,ho=>exact .inl ho
 |2,ho=>exact .inl ho
 |3,ho=>simp at ho;subst ho;exact .inr h4
 |4,ho=>simp at ho;subst ho;exact .inr h5
 |j+5,ho=>exact .inl ho
theorem z6g(A X:List AO)(g:Gr)(n e:Int)(ver:Nat)(out:List Co)(n' e':Int)(ver':Nat)(out':List Co)(r:Res)(hr:LtR (zg9 A g n e ver out X).length r):zet (zg9 A g n e ver out X) r (zg9 A g n' e' ver' out' X)=some (r,zg9 A g n' e' ver' out' X):=by
 refine zr6 (by simp[zg9]) hr ?_
 unfold zg9;refine yiw (zod _ _ _ _) (yie _ _ _) fun a ha=>?_
 rcases List.mem_cons.1 ha with rfl|h
 ·exact .ptr (by simp)
 ·rcases List.mem_append.1 h with h|h
  ·exact gr_lt _ g a h
  ·simp at h;subst h;exact .ol (by simp)
theorem zdb(A X:List AO)(g:Gr)(n e:Int)(ver:Nat)(out:List Co)(n' e':Int)(ver':Nat)(out':List Co)(b:Bool):zet (zg9 A g n e ver out X) (.ret (.bool b)) (zg9 A g n' e' ver' out' X)=some (.ret (.bool b),zg9 A g n' e' ver' out' X) :=
 z6g A X g n e ver out n' e' ver' out' _ (.bool b)
theorem zv1(g:Gr)(hcons:∀c∈g.cons,c.ok)(hl:g.cons.length<=1000)(hmode:g.mode=1\/g.mode=2)(a b:Lv)(ha:a.ok)(hb:b.ok)(A X:List AO)(n e:Int)(ver:Nat)(out:List Co)(ho:out.length<=100):
  ∃ver',F zdk [.ptr (A.length+4) 0,.agg a.cs,.agg b.cs] (zg9 A g n e ver out X)=some (.ret (.bool (zha g (e,out) a b).1),zg9 A g n (zha g (e,out) a b).2.1 ver' (zha g (e,out) a b).2.2 X):=by
 have hF:=fun e=>z0l g.env n e A (.lst 0 11 [] :: .lst 0 6 [] :: .lst ver 6 (Co.css out) :: .box (.ptr A.length 0::(g.cs++[.ol (A.length+3) ver]))::X)
 rw[zrb];by_cases h1:e=0
 ·subst h1
  rcases hmode with h2|h2
  ·have hm:¬ g.mode=2:=by omega
   by_cases h3:(zdz g.cons g.params && zam a g.params 0 && zam b g.params 0)=true
   ·have e1:zha g (0,out) a b=(z0s g.cons g.params.toNat a b,0,out):=by
     unfold zha;rw[if_neg (by simp),if_neg hm,if_pos h3]
    simp only[Bool.and_eq_true]at h3;have hp:g.params=(g.params.toNat:Int):=by
     have:=h3.1.1;simp only[zdz,Bool.and_eq_true,decide_eq_true_eq]at this;omega
    obtain⟨vs,hL⟩:=LeqP_ok g.cons hcons g.params.toNat a b ha hb (by rw[<- hp];exact h3.1.1) (by rw[<- hp];exact h3.1.2) (by rw[<- hp];exact h3.2) (zg9 A g n 0 ver out X)
    rw[<- hp]at hL;rw[e1];refine⟨ver,?_⟩;have hfin:=fun b=>zdb A X g n 0 ver out n 0 ver out b
    simp only[zg9,Gr.cs,List.cons_append,List.nil_append,h2]at hL hfin;simp only[↓reduceIte,go_sem,zg9,Gr.cs,h2,hL,hfin,show ¬ (1:Int)=2 by omega]
   ·have e1:zha g (0,out) a b=(false,1,out):=by
     unfold zha;rw[if_neg (by simp),if_neg hm,if_neg h3]
    have hL:=LeqP_er g.cons hcons (by omega) g.params a b ha hb (by simpa using h3) (zg9 A g n 0 ver out X)
    have hfin:=zdb A X g n 0 ver out n 1 ver out false;rw[e1];refine⟨ver,?_⟩;simp only[zg9,Gr.cs,List.cons_append,List.nil_append,h2]at hL hfin hF;simp only[↓reduceIte,go_sem,zg9,Gr.cs,h2,hL,hF,hfin,show ¬ (1:Int)=2 by omega]
  ·have e1:zha g (0,out) a b=if 100<=out.length then (false,2,out) else (true,0,out++[.mk a b]):=by
    unfold zha;rw[if_neg (by simp),if_pos h2]
   rw[e1];by_cases h3:100<=out.length
   ·have h4:out.length=100:=by omega
    simp only[if_pos h3];have hfin:=zdb A X g n 0 ver out n 2 ver out false;simp only[zg9,Gr.cs,List.cons_append,List.nil_append,h2]at hF hfin;refine⟨ver,?_⟩;simp only[↓reduceIte,go_sem,zg9,Gr.cs,h2,h4,hF,hfin,show ¬ (2:Int)=1 by omega]
   ·simp only[if_neg h3]
    rcases a with⟨k1,n1,ks1⟩;rcases b with⟨k2,n2,ks2⟩;have hcs:Co.css out++[[.int .i64 k1,.int .i64 n1,.sl (Lv.css ks1),.int .i64 k2,.int .i64 n2,.sl (Lv.css ks2)]]=Co.css (out++[.mk (.mk k1 n1 ks1) (.mk k2 n2 ks2)]):=by simp[Co.css,Co.cs,Co.a,Co.b,Lv.cs]
    have hfin:=zdb A X g n 0 ver out n 0 (ver+1) (out++[.mk (.mk k1 n1 ks1) (.mk k2 n2 ks2)]) true;simp only[zg9,Gr.cs,List.cons_append,List.nil_append,h2]at hfin;refine⟨ver+1,?_⟩;simp only[↓reduceIte,go_sem,zg9,Gr.cs,Lv.cs,h2,show ¬ (out.length:Int)=100 by omega,show out.length<=1073741823 by omega,hcs,hfin,show ¬ (2:Int)=1 by omega]
 ·have e1:zha g (e,out) a b=(false,e,out):=by unfold zha;rw[if_pos h1]
  rw[e1];refine⟨ver,?_⟩;simp only[↓reduceIte,go_sem,zg9,Gr.cs,h1]
end Go.Ab
end
section
set_option linter.unusedVariables false
set_option linter.unusedSimpArgs false
set_option maxRecDepth 100000
set_option maxHeartbeats 2000000
namespace Go.Ab
open Go.RowKit Go.Proofs
theorem zo7(g:Gr)(s:Int×List Co)(a b:Lv)(h:s.2.length<=100):(zha g s a b).2.2.length<=100:=by
 unfold zha
 split
 ·exact h
 split
 ·split
  ·exact h
  ·simp;omega
 split <;> exact h
noncomputable def zj2(g:Gr)(s:Int×List Co)(a b:Lv):Bool×Int×List Co :=
 if (zha g s a b).1=true then zha g (zha g s a b).2 b a else (false,(zha g s a b).2)
noncomputable def zh7(g:Gr):Int×List Co->List Lv->List Lv->Bool×Int×List Co
 |s,a::xs,b::ys=>if (zj2 g s a b).1=true then zh7 g (zj2 g s a b).2 xs ys else (false,(zj2 g s a b).2)
 |s,_,_=>(true,s)
theorem yeg(g:Gr)(s:Int×List Co)(a b:Lv)(h:s.2.length<=100):(zj2 g s a b).2.2.length<=100:=by
 have h1:=zo7 g s a b h;unfold zj2
 split
 ·exact zo7 g _ b a h1
 ·exact h1
theorem zu0(g:Gr)(hcons:∀c∈g.cons,c.ok)(hl:g.cons.length<=1000)(hmode:g.mode=1\/g.mode=2)(P Q:List Lv)(hP:∀x∈P,x.ok)(hQ:∀x∈Q,x.ok)(hlen:P.length=Q.length)(hb:P.length<=140737488355328)(k1 n1 k2 n2:Int)(ks1 ks2:List Te)(m:AV)(A X:List AO)(n e:Int)(ver:Nat)(out:List Co)(ho:out.length<=100):
  ∃ver',F zbs [.ptr (A.length+4) 0,.agg (Te.mk k1 n1 P ks1).cs,.agg (Te.mk k2 n2 Q ks2).cs,m] (zg9 A g n e ver out X)=some (.ret (.bool (zh7 g (e,out) P Q).1),zg9 A g n (zh7 g (e,out) P Q).2.1 ver' (zh7 g (e,out) P Q).2.2 X):=by
 have hfin:=fun n' e' ver' out' b=>zdb A X g n e ver out n' e' ver' out' b
 have loop:∀(p q ps qs:List Lv),P=ps++p->Q=qs++q->ps.length=qs.length->∀(v1:Nat) (s:Int×List Co),s.2.length<=100->∃ver',
   zbx (zg9 A g n e ver out X) (zg9 A g n s.1 v1 s.2 X) (.ptr (A.length+4) 0) (.sl (Lv.css P)) (.int .i64 P.length) (.int .i64 ps.length) (Te.mk k2 n2 Q ks2).cs=some (.ret (.bool (zh7 g s p q).1),zg9 A g n (zh7 g s p q).2.1 ver' (zh7 g s p q).2.2 X):=by
  intro p
  induction p with
  |nil=>
   intro q ps qs h1 h2 h3 v1 s hs;rw[List.append_nil]at h1;subst h1;refine⟨v1,?_⟩;rw[zbx,zab];simp only[↓reduceIte,go_sem,Te.cs,hfin,zh7]
  |cons a p ih=>
   intro q ps qs h1 h2 h3 v1 s hs
   cases q with
   |nil=>rw[h1,h2]at hlen;simp at hlen;omega
   |cons b q=>
   have ha:=hP a (by rw[h1];simp)
   have hbb:=hQ b (by rw[h2];simp)
   have hga:P[ps.length]?=some a:=by rw[h1];simp
   have hgb:Q[ps.length]?=some b:=by rw[h2,h3];simp
   have hpl:ps.length<P.length:=by rw[h1];simp
   obtain⟨v2,hB⟩:=zv1 g hcons hl hmode a b ha hbb A X n s.1 v1 s.2 hs;obtain⟨v3,hC⟩:=zv1 g hcons hl hmode b a hbb ha A X n (zha g s a b).2.1 v2 (zha g s a b).2.2 (zo7 g s a b hs);obtain⟨v4,h4⟩:=ih q (ps++[a]) (qs++[b]) (by rw[h1];simp) (by rw[h2];simp) (by simp[h3]) v3 (zha g (zha g s a b).2 b a).2 (zo7 g _ b a (zo7 g s a b hs))
   simp only[zaf,Te.cs]at h4;rw[show ((s.1,s.2):Int×List Co)=s from rfl]at hB
   rw[show (((zha g s a b).2.1,(zha g s a b).2.2):Int×List Co)=(zha g s a b).2 from rfl]at hC
   rw[zh7,zj2]
   cases hc:(zha g s a b).1
   ·rw[hc]at hB
    refine⟨v2,?_⟩;rw[zbx,zab];simp only[↓reduceIte,go_sem,Te.cs,show (ps.length:Int)<(P.length:Int) by omega,hga,hgb,hB,hfin]
   ·rw[hc]at hB
    cases hd:(zha g (zha g s a b).2 b a).1
    ·rw[hd]at hC
     refine⟨v3,?_⟩;rw[zbx,zab];simp only[↓reduceIte,go_sem,Te.cs,show (ps.length:Int)<(P.length:Int) by omega,hga,hgb,hB,hC,hd,hfin]
    ·rw[hd]at hC
     refine⟨v4,?_⟩;rw[zbx,zab];simp only[↓reduceIte,go_sem,Te.cs,show (ps.length:Int)<(P.length:Int) by omega,hga,hgb,hB,hC,hd,hfin,zac (n:=ps.length) (by omega),h4]
 obtain⟨v,h⟩:=loop P Q [] [] rfl rfl rfl ver (e,out) ho;refine⟨v,?_⟩;simp only[Te.cs,List.length_nil,Int.natCast_zero]at h;rw[zou];simp only[↓reduceIte,go_sem,Te.cs];exact h
end Go.Ab
end
section
set_option linter.unusedVariables false
set_option linter.unusedSimpArgs false
set_option maxRecDepth 100000
set_option maxHeartbeats 2000000
namespace Go.Ab
open Go.RowKit Go.Proofs
def zxm(t:Te):Te:=.mk 4 0 [] [(zgw t 0 1).1,.mk 1 0 [] []]
theorem zrf(g:Gr)(t:Te)(ht:t.ok)(hk:t.kind≠5)(A X:List AO)(n:Int)(ver:Nat)(out:List Co):F zc3 [.ptr (A.length+4) 0,.agg t.cs] (zg9 A g n 0 ver out X)=some (.ret (.agg (zxm t).cs),zg9 A g n (zgw t 0 1).2 ver out X):=by
 have hL:=fun H=>yje t ht 0 1 H
 rcases hq:zgw t 0 1 with⟨u,e⟩;rw[hq]at hL;have hP:=z0j g.env u n e A (.lst 0 11 [] :: .lst 0 6 [] :: .lst ver 6 (Co.css out) :: .box (.ptr A.length 0::(g.cs++[.ol (A.length+3) ver]))::X);have hfin:=fun r hr=>z6g A X g n 0 ver out n e ver out r hr
 rcases t with⟨k,N,ls,ks⟩;rcases u with⟨k2,N2,ls2,ks2⟩;have hk:¬ k=5:=hk;rw[zla,zxm,hq];simp only[Te.cs,Gr.cs,List.cons_append,List.nil_append]at hP;simp only[zp5,Te.cs]at hL;simp only[↓reduceIte,go_sem,zg9,Gr.cs,hk,hL,hP,Te.cs,Te.css];have h:=hfin (.ret (.agg (Te.mk 4 0 [] [.mk k2 N2 ls2 ks2,.mk 1 0 [] []]).cs)) (Lt.agg (zua _ (.mk 4 0 [] [.mk k2 N2 ls2 ks2,.mk 1 0 [] []])));simp only[zg9,Gr.cs,Te.cs,Te.css,List.cons_append,List.nil_append]at h;exact h
theorem zpf(g:Gr)(N:Int)(ls:List Lv)(s b:Te)(A X:List AO)(n e:Int)(ver:Nat)(out:List Co):F zc3 [.ptr (A.length+4) 0,.agg (Te.mk 5 N ls [s,b]).cs] (zg9 A g n e ver out X)=some (.ret (.agg b.cs),zg9 A g n e ver out X):=by
 rw[zla];simp only[↓reduceIte,go_sem,Te.cs,Te.css]
end Go.Ab
end
section
set_option linter.unusedVariables false
set_option linter.unusedSimpArgs false
set_option maxRecDepth 100000
set_option maxHeartbeats 2000000
namespace Go.Ab
open Go.RowKit Go.Proofs
inductive Al (g:Gr):Nat->List Co->Te->Te->Bool->Bool->Nat->Int->List Co->Prop
 |burn0 {out:List Co} {a b:Te} {most:Bool}:Al g 0 out a b most false 0 40 out
 |headA {n:Nat} {out:List Co} {a b:Te} {most:Bool} {n':Nat} {e:Int}:He g.env n a n' e->Al g (n+1) out a b most false n' e out
 |headB {n:Nat} {out:List Co} {a b a':Te} {most:Bool} {n1 n':Nat} {e:Int}:Hd g.env n a a' n1->He g.env n1 b n' e->Al g (n+1) out a b most false n' e out
 |lam2 {n:Nat} {out:List Co} {a b s x s' y:Te} {N N':Int} {ls ls':List Lv} {most r:Bool} {n1 n2 n':Nat} {e:Int} {out':List Co}:Hd g.env n a (.mk 5 N ls [s,x]) n1->Hd g.env n1 b (.mk 5 N' ls' [s',y]) n2->Al g n2 out x y false r n' e out' -> Al g (n+1) out a b most r n' e out'
 |lamL {n:Nat} {out:List Co} {a b b' s x:Te} {N:Int} {ls:List Lv} {most r:Bool} {n1 n2 n':Nat} {e:Int} {out':List Co}:Hd g.env n a (.mk 5 N ls [s,x]) n1->Hd g.env n1 b b' n2->b'.kind≠5->(zgw b' 0 1).2=0->Al g n2 out x (zxm b') false r n' e out' -> Al g (n+1) out a b most r n' e out'
 |lamLe {n:Nat} {out:List Co} {a b b' s x:Te} {N:Int} {ls:List Lv} {most:Bool} {n1 n2:Nat}:Hd g.env n a (.mk 5 N ls [s,x]) n1->Hd g.env n1 b b' n2->b'.kind≠5->(zgw b' 0 1).2≠0->Al g (n+1) out a b most false n2 (zgw b' 0 1).2 out
 |lamR {n:Nat} {out:List Co} {a b a' s y:Te} {N:Int} {ls:List Lv} {most r:Bool} {n1 n2 n':Nat} {e:Int} {out':List Co}:Hd g.env n a a' n1->a'.kind≠5->Hd g.env n1 b (.mk 5 N ls [s,y]) n2->(zgw a' 0 1).2=0->Al g n2 out (zxm a') y false r n' e out' -> Al g (n+1) out a b most r n' e out'
 |lamRe {n:Nat} {out:List Co} {a b a' s y:Te} {N:Int} {ls:List Lv} {most:Bool} {n1 n2:Nat}:Hd g.env n a a' n1->a'.kind≠5->Hd g.env n1 b (.mk 5 N ls [s,y]) n2->(zgw a' 0 1).2≠0->Al g (n+1) out a b most false n2 (zgw a' 0 1).2 out
 |other {n:Nat} {out:List Co} {a b:Te} {k N k' N':Int} {ls ls':List Lv} {ks ks':List Te} {most:Bool} {n1 n2:Nat}:Hd g.env n a (.mk k N ls ks) n1->k≠5->Hd g.env n1 b (.mk k' N' ls' ks') n2->k' ≠ 5->(k≠k' \/ N≠N' \/ ls.length≠ls'.length)->Al g (n+1) out a b most false n2 0 out
 |var {n:Nat} {out:List Co} {a b:Te} {N:Int} {ls ls':List Lv} {ks ks':List Te} {most:Bool} {n1 n2:Nat}:Hd g.env n a (.mk 1 N ls ks) n1->Hd g.env n1 b (.mk 1 N ls' ks') n2->ls.length=ls'.length->Al g (n+1) out a b most true n2 0 out
 |sortM {n:Nat} {out:List Co} {a b:Te} {N:Int} {x y:Lv} {ks ks':List Te} {n1 n2:Nat}:Hd g.env n a (.mk 2 N [x] ks) n1->Hd g.env n1 b (.mk 2 N [y] ks') n2->Al g (n+1) out a b true (zha g (0,out) x y).1 n2 (zha g (0,out) x y).2.1 (zha g (0,out) x y).2.2
 |lvls {n:Nat} {out:List Co} {a b:Te} {k N:Int} {ls ls':List Lv} {ks ks':List Te} {most:Bool} {n1 n2:Nat}:(k=2/\most=false\/k=3)->Hd g.env n a (.mk k N ls ks) n1->Hd g.env n1 b (.mk k N ls' ks') n2->ls.length=ls'.length->Al g (n+1) out a b most (zh7 g (0,out) ls ls').1 n2 (zh7 g (0,out) ls ls').2.1 (zh7 g (0,out) ls ls').2.2
 |two1 {n:Nat} {out:List Co} {a b f x f' x':Te} {k N:Int} {ls ls':List Lv} {most:Bool} {n1 n2 n':Nat} {e:Int} {out':List Co}:(k=4\/k=6)->Hd g.env n a (.mk k N ls [f,x]) n1->Hd g.env n1 b (.mk k N ls' [f',x']) n2->ls.length=ls'.length->Al g n2 out f f' false false n' e out' -> Al g (n+1) out a b most false n' e out'
 |two2 {n:Nat} {out:List Co} {a b f x f' x':Te} {k N:Int} {ls ls':List Lv} {most r:Bool} {n1 n2 n3 n':Nat} {e:Int} {out1 out':List Co}:(k=4\/k=6)->Hd g.env n a (.mk k N ls [f,x]) n1->Hd g.env n1 b (.mk k N ls' [f',x']) n2->ls.length=ls'.length->Al g n2 out f f' false true n3 0 out1->Al g n3 out1 x x' (decide (k=6) && most) r n' e out' -> Al g (n+1) out a b most r n' e out'
end Go.Ab
end
section
set_option linter.unusedVariables false
set_option linter.unusedSimpArgs false
set_option maxRecDepth 100000
set_option maxHeartbeats 2000000
namespace Go.Ab
open Go.RowKit Go.Proofs
mutual
def w2:Te->Bool
 |.mk k n ls ks=>(decide (k≠2) || decide (ls.length=1)) && w2s ks
def w2s:List Te->Bool
 |[]=>true
 |x::r=>w2 x && w2s r
end
mutual
theorem right_w2{p m:Int}:∀{t:Te} {v d:Int},rightT p m t v d=true->w2 t=true
 |.mk k n ls ks,v,d,h=>by
  obtain⟨h1,h2,h3,h4,h5⟩:=zca h;rw[w2,right_w2s h5,Bool.and_true];by_cases k2:k=2
  ·subst k2;unfold zdc at h4;simp at h4;simp[h4]
  ·simp[k2]
theorem right_w2s{p m k:Int}:∀{ks:List Te} {i v d:Int},rightTs p m k ks i v d=true->w2s ks=true
 |[],_,_,_,_=>rfl
 |x::r,i,v,d,h=>by
  rw[rightTs]at h;simp at h;rw[w2s,right_w2 h.1,right_w2s h.2];rfl
end
theorem zti{t:Te}(h:zcv t=true):w2 t=true:=right_w2 (zhb h)
mutual
theorem sub_w2(ps ms:List Lv):∀t:Te,w2 (subT ps ms t)=w2 t
 |.mk k n ls ks=>by
  rw[subT,w2,w2,subs_w2 ps ms ks,List.length_map]
theorem subs_w2(ps ms:List Lv):∀ks:List Te,w2s (subTs ps ms ks)=w2s ks
 |[]=>rfl
 |x::r=>by rw[subTs,w2s,w2s,sub_w2 ps ms x,subs_w2 ps ms r]
end
theorem Hd.w2{env:List De}{n:Nat}{t t':Te}{n':Nat}(h:Hd env n t t' n'):w2 t=true->Go.Ab.w2 t' = true:=by
 induction h with
 |stuck=>exact id
 |lett ho _ ih=>exact fun _=>ih (zti (zpj ho).2.2.2)
 |const _ _ hs _ ih=>exact fun _=>ih (by obtain⟨h1,rfl,_⟩:=zt2 hs;rw[sub_w2];exact zti h1)
 |app _ _ ih=>
  intro h;simp only[Go.Ab.w2,w2s,Bool.and_eq_true,Bool.and_true]at h ⊢;exact⟨by simp,ih h.2.1,h.2.2⟩
 |beta _ ho _ _ ih=>exact fun _=>ih (zti (zpj ho).2.2.2)
theorem Hd.wf{env:List De}{n:Nat}{t t':Te}{n':Nat}(h:Hd env n t t' n'):wfT t=true->wfT t' = true:=by
 induction h with
 |stuck=>exact id
 |lett ho _ ih=>exact fun _=>ih (zt3 ho)
 |const _ _ hs _ ih=>exact fun _=>ih (z7r hs)
 |app _ _ ih=>
  intro h;simp only[wfT,wfTs,Bool.and_eq_true,Bool.and_true]at h ⊢;exact⟨by simp[zdr],ih h.2.1,h.2.2⟩
 |beta _ ho _ _ ih=>exact fun _=>ih (zt3 ho)
theorem Hd.k7{env:List De}{n:Nat}{t t':Te}{n':Nat}(h:Hd env n t t' n'):t'.kind≠7:=by
 induction h with
 |stuck _ h _=>exact h
 |lett _ _ ih=>exact ih
 |const _ _ _ _ ih=>exact ih
 |app=>exact (show ¬ (4:Int)=7 by decide)
 |beta _ _ _ _ ih=>exact ih
def wg(t:Te):Bool:=wfT t && w2 t
theorem ygd{t:Te}(h:zcv t=true):wg t=true:=by simp[wg,zx7 h,zti h]
theorem Hd.wg{env:List De}{n:Nat}{t t':Te}{n':Nat}(h:Hd env n t t' n')(hw:wg t=true):Go.Ab.wg t' = true:=by
 simp only[Go.Ab.wg,Bool.and_eq_true]at hw ⊢;exact⟨h.wf hw.1,h.w2 hw.2⟩
theorem zh8{k N:Int}{ls:List Lv}{ks:List Te}(h:wg (.mk k N ls ks)=true):(ks.length:Int)=zdr k/\(k=2->ls.length=1)/\∀x∈ks,wg x=true:=by
 simp only[wg,wfT,w2,Bool.and_eq_true,decide_eq_true_eq,Bool.or_eq_true]at h;obtain⟨⟨⟨h1,h2⟩,h3⟩,h4,h5⟩:=h;refine⟨h1,fun hk=>by simpa [hk] using h4,?_⟩
 clear h1 h2 h4
 induction ks with
 |nil=>intro x hx;cases hx
 |cons y r ih=>
  simp only[wfTs,w2s,Bool.and_eq_true]at h3 h5;intro x hx;rcases List.mem_cons.1 hx with rfl|hx
  ·simp[wg,h3.1,h5.1]
  ·exact ih h3.2 h5.2 x hx
theorem z0y{k N:Int}{ls:List Lv}{ks:List Te}(h:wg (.mk k N ls ks)=true)(hk:k=4\/k=5\/k=6):∃a b,ks=[a,b]/\wg a=true/\wg b=true:=by
 obtain⟨h1,_,h2⟩:=zh8 h;obtain⟨a,b,rfl⟩:=zx2 (ks:=ks) (by rw[h1];rcases hk with rfl|rfl|rfl <;> rfl)
 exact⟨a,b,rfl,h2 a (by simp),h2 b (by simp)⟩
theorem wg_kind{k N:Int}{ls:List Lv}{ks:List Te}(h:wg (.mk k N ls ks)=true)(h7:k≠7):k=1\/k=2\/k=3\/k=4\/k=5\/k=6:=by
 have h1:=(zh8 h).1;unfold zdr at h1;omega
theorem zz2{t:Te}(h:(zgw t 0 1).2=0):wg (zxm t)=true:=by
 have:zcv (zgw t 0 1).1=true:=by
  revert h;unfold zgw zs5
  split
  ·intro h;cases h
  ·split
   ·intro _;assumption
   ·intro h;cases h
 have hw:=ygd this;simp only[wg,Bool.and_eq_true]at hw;simp[wg,zxm,wfT,wfTs,w2,w2s,hw.1,hw.2,zdr]
theorem zz3{t:Te}(h:t.ok):(zxm t).ok:=by
 have:=z7t h 0 1;simp[zxm,zjf,this]
theorem Al.le{g:Gr}{n:Nat}{out:List Co}{a b:Te}{most r:Bool}{n':Nat}{e:Int}{out':List Co}(h:Al g n out a b most r n' e out'):n' <= n:=by
 have hE:∀{n:Nat} {t:Te} {n':Nat} {e:Int},He g.env n t n' e->n' <= n:=by
  intro n t n' e h
  induction h with
  |let0=>omega
  |let2=>omega
  |letr _ _ ih=>omega
  |const0=>omega
  |const2=>omega
  |constr _ _ _ _ ih=>omega
  |appf _ ih=>exact ih
  |beta0 h1=>omega
  |beta2 h1=>have:=h1.le;omega
  |betar h1 _ _ ih=>have:=h1.le;omega
 induction h with
 |burn0=>omega
 |headA h=>have:=hE h;omega
 |headB h1 h2=>have:=h1.le;have:=hE h2;omega
 |lam2 h1 h2 _ ih=>have:=h1.le;have:=h2.le;omega
 |lamL h1 h2 _ _ _ ih=>have:=h1.le;have:=h2.le;omega
 |lamLe h1 h2=>have:=h1.le;have:=h2.le;omega
 |lamR h1 _ h2 _ _ ih=>have:=h1.le;have:=h2.le;omega
 |lamRe h1 _ h2=>have:=h1.le;have:=h2.le;omega
 |other h1 _ h2=>have:=h1.le;have:=h2.le;omega
 |var h1 h2=>have:=h1.le;have:=h2.le;omega
 |sortM h1 h2=>have:=h1.le;have:=h2.le;omega
 |lvls _ h1 h2=>have:=h1.le;have:=h2.le;omega
 |two1 _ h1 h2 _ _ ih=>have:=h1.le;have:=h2.le;omega
 |two2 _ h1 h2 _ _ _ ih1 ih2=>have:=h1.le;have:=h2.le;omega
theorem z7o(g:Gr):∀(s:Int×List Co) (p q:List Lv),s.2.length<=100->(zh7 g s p q).2.2.length<=100
 |s,a::xs,b::ys,h=>by
  rw[zh7];have h1:=yeg g s a b h
  split
  ·exact z7o g _ xs ys h1
  ·exact h1
 |s,[],_,h=>by simpa [zh7] using h
 |s,_::_,[],h=>by simpa [zh7] using h
theorem Al.len{g:Gr}{n:Nat}{out:List Co}{a b:Te}{most r:Bool}{n':Nat}{e:Int}{out':List Co}(h:Al g n out a b most r n' e out'):out.length<=100->out'.length<=100:=by
 induction h with
 |lam2 _ _ _ ih=>exact ih
 |lamL _ _ _ _ _ ih=>exact ih
 |lamR _ _ _ _ _ ih=>exact ih
 |sortM=>exact fun h=>zo7 g _ _ _ h
 |lvls=>exact fun h=>z7o g _ _ _ h
 |two1 _ _ _ _ _ ih=>exact ih
 |two2 _ _ _ _ _ _ ih1 ih2=>exact fun h=>ih2 (ih1 h)
 |_=>exact id
theorem zoe{g:Gr}{s:Int×List Co}{a b:Lv}(h:(zha g s a b).1=true):s.1=0/\(zha g s a b).2.1=0:=by
 unfold zha at h ⊢
 split at h
 ·cases h
 rename_i h1;have h1:s.1=0:=by simpa using h1
 rw[if_neg (by simp[h1])]
 split at h
 ·rename_i h2
  rw[if_pos h2]
  split at h
  ·cases h
  ·rename_i h3
   rw[if_neg h3];exact⟨h1,rfl⟩
 ·rename_i h2
  rw[if_neg h2]
  split at h
  ·rename_i h3
   rw[if_pos h3];exact⟨h1,h1⟩
  ·cases h
theorem zsg{g:Gr}{s:Int×List Co}{a b:Lv}(h:(zj2 g s a b).1=true):s.1=0/\(zj2 g s a b).2.1=0:=by
 unfold zj2 at h ⊢
 split at h
 ·rename_i h1
  rw[if_pos h1];exact⟨(zoe h1).1,(zoe h).2⟩
 ·cases h
theorem z3i{g:Gr}:∀{s:Int×List Co} {p q:List Lv},s.1=0->(zh7 g s p q).1=true->(zh7 g s p q).2.1=0
 |s,a::xs,b::ys,hs,h=>by
  rw[zh7]at h ⊢
  split at h
  ·rename_i h1
   rw[if_pos h1];exact z3i (zsg h1).2 h
  ·cases h
 |s,[],_,hs,h=>by simpa [zh7] using hs
 |s,_::_,[],hs,h=>by simpa [zh7] using hs
theorem Al.yes{g:Gr}{n:Nat}{out:List Co}{a b:Te}{most r:Bool}{n':Nat}{e:Int}{out':List Co}(h:Al g n out a b most r n' e out'):r=true->e=0:=by
 induction h with
 |lam2 _ _ _ ih=>exact ih
 |lamL _ _ _ _ _ ih=>exact ih
 |lamR _ _ _ _ _ ih=>exact ih
 |var=>exact fun _=>rfl
 |sortM=>exact fun h=>(zoe h).2
 |lvls=>exact fun h=>z3i rfl h
 |two2 _ _ _ _ _ _ ih1 ih2=>exact ih2
 |_=>exact fun h=>by cases h
theorem yi3(g:Gr):∀(n:Nat) (out:List Co) (a b:Te) (most:Bool),wg a=true->wg b=true->∃r n' e out',Al g n out a b most r n' e out':=by
 intro n
 induction n using Nat.strongRecOn with
 |ind n ihn=>
 intro out a b most ha hb;rcases n with _|n
 ·exact⟨_,_,_,_,.burn0⟩
 have hwf:∀{t:Te},wg t=true->wfT t=true:=by
  intro t h;simp only[wg,Bool.and_eq_true]at h;exact h.1
 rcases zxc g.env n a (hwf ha) with⟨a',n1,hda,_⟩|⟨n',e,hea⟩
 case inr=>exact⟨_,_,_,_,.headA hea⟩
 rcases zxc g.env n1 b (hwf hb) with⟨b',n2,hdb,_⟩|⟨n',e,heb⟩
 case inr=>exact⟨_,_,_,_,.headB hda heb⟩
 have hle:n2<=n:=Nat.le_trans hdb.le hda.le;have hwa:=hda.wg ha;have hwb:=hdb.wg hb;have h7a:=hda.k7;have h7b:=hdb.k7;rcases a' with⟨k,N,ls,ks⟩;rcases b' with⟨k',N',ls',ks'⟩;by_cases k5:k=5
 ·subst k5
  obtain⟨s,x,rfl,hs,hx⟩:=z0y hwa (by omega)
  by_cases k5':k' = 5
  ·subst k5'
   obtain⟨s',y,rfl,hs',hy⟩:=z0y hwb (by omega)
   obtain⟨r,n',e,out',h⟩:=ihn n2 (by omega) out x y false hx hy
   exact⟨_,_,_,_,.lam2 hda hdb h⟩
  ·by_cases hL:(zgw (.mk k' N' ls' ks') 0 1).2=0
   ·obtain⟨r,n',e,out',h⟩:=ihn n2 (by omega) out x (zxm (.mk k' N' ls' ks')) false hx (zz2 hL)
    exact⟨_,_,_,_,.lamL hda hdb k5' hL h⟩
   ·exact⟨_,_,_,_,.lamLe hda hdb k5' hL⟩
 by_cases k5':k' = 5
 ·subst k5'
  obtain⟨s',y,rfl,hs',hy⟩:=z0y hwb (by omega)
  by_cases hL:(zgw (.mk k N ls ks) 0 1).2=0
  ·obtain⟨r,n',e,out',h⟩:=ihn n2 (by omega) out (zxm (.mk k N ls ks)) y false (zz2 hL) hy
   exact⟨_,_,_,_,.lamR hda k5 hdb hL h⟩
  ·exact⟨_,_,_,_,.lamRe hda k5 hdb hL⟩
 by_cases ho:k≠k' \/ N≠N' \/ ls.length≠ls'.length
 ·exact⟨_,_,_,_,.other hda k5 hdb k5' ho⟩
 simp only[not_or,ne_eq,Decidable.not_not]at ho;obtain⟨rfl,rfl,hl⟩:=ho;rcases wg_kind hwa h7a with rfl|rfl|rfl|h46
 ·exact⟨_,_,_,_,.var hda hdb hl⟩
 ·cases most
  ·exact⟨_,_,_,_,.lvls (.inl ⟨rfl,rfl⟩) hda hdb hl⟩
  ·have l1:=(zh8 hwa).2.1 rfl
   obtain⟨x,rfl⟩:=List.length_eq_one_iff.1 l1;obtain⟨y,rfl⟩:=List.length_eq_one_iff.1 (hl.symm.trans l1);exact⟨_,_,_,_,.sortM hda hdb⟩
 ·exact⟨_,_,_,_,.lvls (.inr rfl) hda hdb hl⟩
 ·have h46:k=4\/k=6:=by omega
  obtain⟨f,x,rfl,hf,hx⟩:=z0y hwa (by omega)
  obtain⟨f',x',rfl,hf',hx'⟩:=z0y hwb (by omega)
  obtain⟨r,n3,e,out1,h⟩:=ihn n2 (by omega) out f f' false hf hf'
  cases r
  ·exact⟨_,_,_,_,.two1 h46 hda hdb hl h⟩
  ·have he:=h.yes rfl
   subst he;have:=h.le;obtain⟨r,n',e,out',h2⟩:=ihn n3 (by omega) out1 x x' (decide (k=6) && most) hx hx'
   exact⟨_,_,_,_,.two2 h46 hda hdb hl h h2⟩
end Go.Ab
end
section
set_option linter.unusedVariables false
set_option linter.unusedSimpArgs false
set_option maxRecDepth 100000
set_option maxHeartbeats 4000000
namespace Go.Ab
open Go.RowKit Go.Proofs
theorem Hd.oks{g:Gr}(hE:z1j g.env){n:Nat}{t:Te}{k N:Int}{ls:List Lv}{ks:List Te}{n':Nat}(h:Hd g.env n t (.mk k N ls ks) n')(ht:t.ok):(Te.mk k N ls ks).ok:=h.ok hE ht
end Go.Ab
end
section
set_option linter.unusedVariables false
set_option linter.unusedSimpArgs false
set_option maxRecDepth 100000
set_option maxHeartbeats 4000000
namespace Go.Ab
open Go.RowKit Go.Proofs
def zvx:List (AV×AV):=[(.agg [.int .i64 1,.int .i64 1],.fn (.func zbn) [] []),(.agg [.int .i64 2,.int .i64 2],.fn (.func zb3) [] []),(.agg [.int .i64 3,.int .i64 3],.fn (.func zbs) [] []),(.agg [.int .i64 4,.int .i64 4],.fn (.func zcc) [] []),(.agg [.int .i64 6,.int .i64 6],.fn (.func zcu) [] [])]
theorem ze2(H:List AO):F zov [] H=some (.ret (.fmap zvx),H):=by
 rw[z5f];simp only[↓reduceIte,go_sem,zts,zyt,zdj,zn0,ltL,zvx,List.length_cons,List.length_nil,List.cons.injEq,and_false,false_and]
theorem z0e(k k':Int):∃o,zdj 2 [k,k'] zvx=some o:=by
 simp only[zvx,zdj,zts,zyt,List.length_cons,List.length_nil,↓reduceIte];exact⟨_,rfl⟩
theorem yem{k k':Int}(h:k≠k'):zdj 2 [k,k'] zvx=some none:=by
 simp only[zvx,zdj,zts,zyt,List.length_cons,List.length_nil,↓reduceIte];have:∀c:Int,¬ ([c,c]=[k,k']):=by intro c hc;simp at hc;omega
 simp only[this,↓reduceIte]
theorem asks_1:zdj 2 [1,1] zvx=some (some (.fn (.func zbn) [] [])):=rfl
theorem ykz:zdj 2 [2,2] zvx=some (some (.fn (.func zb3) [] [])):=rfl
theorem asks_3:zdj 2 [3,3] zvx=some (some (.fn (.func zbs) [] [])):=rfl
theorem yky:zdj 2 [4,4] zvx=some (some (.fn (.func zcc) [] [])):=rfl
theorem ykx:zdj 2 [6,6] zvx=some (some (.fn (.func zcu) [] [])):=rfl
theorem zds(k k':Int):zts 2 (.agg [.int .i64 k,.int .i64 k'])=some [k,k']:=rfl
theorem zfg(A:List AO)(g:Gr)(n e:Int)(ver:Nat)(out:List Co)(X:List AO):zg9 A g n e ver out X=A++(.box [.sl (De.css g.env),.int .i64 n,.int .i64 e] :: .lst 0 11 [] :: .lst 0 6 [] :: .lst ver 6 (Co.css out) :: .box [.ptr A.length 0,.sl (De.css g.env),.int .i64 g.params,.int .i64 g.metas,.sl (Co.css g.cons),.int .i64 g.mode,.ol (A.length+3) ver]::X):=rfl
theorem zdx(g:Gr)(A X:List AO)(n:Nat)(hn:n+1<=1000000)(ver:Nat)(out:List Co):F zai [.ptr A.length 0] (zg9 A g (n+1:Nat) 0 ver out X)=some (.ret (.bool true),zg9 A g n 0 ver out X):=by
 have h:=zlt g.env (n+1:Nat) (by omega) A (.lst 0 11 [] :: .lst 0 6 [] :: .lst ver 6 (Co.css out) :: .box (.ptr A.length 0::(g.cs++[.ol (A.length+3) ver]))::X)
 rw[if_neg (by omega),show ((n+1:Nat):Int) - 1=(n:Int) by omega]at h
 exact h
theorem yfi(g:Gr)(A X:List AO)(ver:Nat)(out:List Co):F zai [.ptr A.length 0] (zg9 A g 0 0 ver out X)=some (.ret (.bool false),zg9 A g 0 40 ver out X):=by
 have h:=zlt g.env 0 (by omega) A (.lst 0 11 [] :: .lst 0 6 [] :: .lst ver 6 (Co.css out) :: .box (.ptr A.length 0::(g.cs++[.ol (A.length+3) ver]))::X)
 rw[if_pos rfl]at h;exact h
theorem za7(g:Gr)(hE:z1j g.env){n:Nat}{t t':Te}{n':Nat}(h:Hd g.env n t t' n')(ht:t.ok)(hs:sz t+600*n<=500000000)(A X:List AO)(ver:Nat)(out:List Co):
  F zax [.ptr A.length 0,.agg t.cs] (zg9 A g n 0 ver out X)=some (.ret (.agg t'.cs),zg9 A g n' 0 ver out X) :=
 yjg A (.lst 0 11 [] :: .lst 0 6 [] :: .lst ver 6 (Co.css out) :: .box (.ptr A.length 0::(g.cs++[AV.ol (A.length+3) ver]))::X) g.env hE h ht hs
theorem zxx(g:Gr)(hE:z1j g.env){n:Nat}{t:Te}{n':Nat}{e:Int}(h:He g.env n t n' e)(ht:t.ok)(hs:sz t+600*n<=500000000)(A X:List AO)(ver:Nat)(out:List Co):
  ∃x:Te,F zax [.ptr A.length 0,.agg t.cs] (zg9 A g n 0 ver out X)=some (.ret (.agg x.cs),zg9 A g n' e ver out X) :=
 yjh A (.lst 0 11 [] :: .lst 0 6 [] :: .lst ver 6 (Co.css out) :: .box (.ptr A.length 0::(g.cs++[AV.ol (A.length+3) ver]))::X) g.env hE h ht hs
theorem z9u(g:Gr)(x:Te)(n e:Int)(he:e≠0)(A X:List AO)(ver:Nat)(out:List Co):
  F zax [.ptr A.length 0,.agg x.cs] (zg9 A g n e ver out X)=some (.ret (.agg x.cs),zg9 A g n e ver out X):=by
 rcases x with⟨k,N,ls,ks⟩;have h:=yfd A (.lst 0 11 [] :: .lst 0 6 [] :: .lst ver 6 (Co.css out) :: .box (.ptr A.length 0::(g.cs++[AV.ol (A.length+3) ver]))::X) g.env n e n e 0 [] (by simp) k N ls ks (.inl he)
 rw[<- z5x]at h;exact h
theorem zx0(p m:AV)(k N:Int)(ls:List Lv)(ks:List Te)(k' N':Int)(ls':List Lv)(ks':List Te)(H:List AO):F zbn [p,.agg [.int .i64 k,.int .i64 N,.sl (Lv.css ls),.sl (Te.css ks)],.agg [.int .i64 k',.int .i64 N',.sl (Lv.css ls'),.sl (Te.css ks')],m] H=some (.ret (.bool true),H):=by
 rw[zmz];simp only[↓reduceIte,go_sem]
theorem zrm{k N:Int}{ls:List Lv}{x y:Te}:sz (.mk k N ls [x,y])=sz x+sz y+1:=by simp[sz,subs,subss]
theorem yko{t:Te}(h:(zgw t 0 1).2=0):sz (zxm t)<=602:=by
 have:zcv (zgw t 0 1).1=true:=by
  revert h;unfold zgw zs5
  split
  ·intro h;cases h
  ·split
   ·intro _;assumption
   ·intro h;cases h
 have:=ztj this;rw[zxm,zrm];have:sz (.mk 1 0 [] [])=1:=rfl;omega
section
variable (g : Gr) (hcons : ∀ c ∈ g.cons, c.ok) (hcl : g.cons.length ≤ 1000) (hmode : g.mode = 1 ∨ g.mode = 2)
include hcons hcl hmode
theorem yap(x y:Lv)(hx:x.ok)(hy:y.ok)(k N k' N':Int)(ks ks':List Te)(A X:List AO)(n:Int)(ver:Nat)(out:List Co)(ho:out.length<=100):∃ver',
  F zb3 [.ptr (A.length+4) 0,.agg [.int .i64 k,.int .i64 N,.sl (Lv.css [x]),.sl (Te.css ks)],.agg [.int .i64 k',.int .i64 N',.sl (Lv.css [y]),.sl (Te.css ks')],.bool true] (zg9 A g n 0 ver out X)=some (.ret (.bool (zha g (0,out) x y).1),zg9 A g n (zha g (0,out) x y).2.1 ver' (zha g (0,out) x y).2.2 X):=by
 obtain⟨v1,hI⟩:=zv1 g hcons hcl hmode x y hx hy A X n 0 ver out ho;have hfin:=zdb A X g n 0 ver out n (zha g (0,out) x y).2.1 v1 (zha g (0,out) x y).2.2 (zha g (0,out) x y).1;refine⟨v1,?_⟩;rw[zjw];simp only[↓reduceIte,go_sem,Lv.css,hI,hfin]
theorem yaq(P Q:List Lv)(hP:∀x∈P,x.ok)(hQ:∀x∈Q,x.ok)(hlen:P.length=Q.length)(hb:P.length<=140737488355328)(k N k' N':Int)(ks ks':List Te)(A X:List AO)(n:Int)(ver:Nat)(out:List Co)(ho:out.length<=100):∃ver',
  F zb3 [.ptr (A.length+4) 0,.agg [.int .i64 k,.int .i64 N,.sl (Lv.css P),.sl (Te.css ks)],.agg [.int .i64 k',.int .i64 N',.sl (Lv.css Q),.sl (Te.css ks')],.bool false] (zg9 A g n 0 ver out X)=some (.ret (.bool (zh7 g (0,out) P Q).1),zg9 A g n (zh7 g (0,out) P Q).2.1 ver' (zh7 g (0,out) P Q).2.2 X):=by
 obtain⟨v1,hI⟩:=zu0 g hcons hcl hmode P Q hP hQ hlen hb k N k' N' ks ks' (.bool false) A X n 0 ver out ho;have hfin:=zdb A X g n 0 ver out n (zh7 g (0,out) P Q).2.1 v1 (zh7 g (0,out) P Q).2.2 (zh7 g (0,out) P Q).1;refine⟨v1,?_⟩;simp only[Te.cs]at hI;rw[zjw];simp only[↓reduceIte,go_sem,hI,hfin]
end
theorem yfk(g:Gr)(hE:z1j g.env)(hcons:∀c∈g.cons,c.ok)(hcl:g.cons.length<=1000)(hmode:g.mode=1\/g.mode=2){n:Nat}{out:List Co}{a b:Te}{most r:Bool}{n':Nat}{e:Int}{out':List Co}(h:Al g n out a b most r n' e out'):
  a.ok->b.ok->wg a=true->wg b=true->sz a+600*n<=400000000->sz b+600*n<=400000000->n<=500000->out.length<=100->∀(A X:List AO) (ver:Nat),∃ver',F za8 [.ptr (A.length+4) 0,.agg a.cs,.agg b.cs,.bool most] (zg9 A g n 0 ver out X)=some (.ret (.bool r),zg9 A g n' e ver' out' X):=by
 induction h with
 |@burn0 out a b most=>
  intro ha hb hwa hwb hsa hsb hn ho A X ver;have hB:=yfi g A X ver out;have hfin:=zdb A X g 0 0 ver out 0 40 ver out false;refine⟨ver,?_⟩;rcases a with⟨ka,Na,lsa,ksa⟩;rcases b with⟨kb,Nb,lsb,ksb⟩;rw[zaj];simp only[zfg]at hB hfin;simp only[↓reduceIte,go_sem,zfg,ze2,zds,Int.natCast_zero,Te.cs,hB,hfin]
 |@headA n out a b most n' e hda=>
  intro ha hb hwa hwb hsa hsb hn ho A X ver;have hB:=zdx g A X n (by omega) ver out
  obtain⟨⟨kx,Nx,lx,kx2⟩,hH1⟩:=zxx g hE hda ha (by omega) A X ver out
  have hne:=hda.ne;have hH2:=z9u g b n' e hne A X ver out;have hfin:=zdb A X g (n+1:Nat) 0 ver out n' e ver out false;refine⟨ver,?_⟩;rcases a with⟨ka,Na,lsa,ksa⟩;rcases b with⟨kb,Nb,lsb,ksb⟩;rw[zaj];simp only[zfg,Te.cs]at hB hfin hH1 hH2;obtain⟨o,hany⟩:=z0e kx kb
  cases o <;>
  ·simp only[↓reduceIte,go_sem,zfg,ze2,zds,Te.cs,hB,hH1,hH2,hne,hany,hfin]
 |@headB n out a b a' most n1 n' e hda heb=>
  intro ha hb hwa hwb hsa hsb hn ho A X ver;have hB:=zdx g A X n (by omega) ver out
  have hH1:=za7 g hE hda ha (by omega) A X ver out
  obtain⟨⟨kx,Nx,lx,kx2⟩,hH2⟩:=zxx g hE heb hb (by have:=hda.le;omega) A X ver out
  have hne:=heb.ne;have hfin:=zdb A X g (n+1:Nat) 0 ver out n' e ver out false;refine⟨ver,?_⟩;rcases a with⟨ka,Na,lsa,ksa⟩;rcases b with⟨kb,Nb,lsb,ksb⟩;rw[zaj];rcases a' with⟨k3,N3,ls3,ks3⟩;simp only[zfg,Te.cs]at hB hfin hH1 hH2;obtain⟨o,hany⟩:=z0e k3 kx
  cases o <;>
  ·simp only[↓reduceIte,go_sem,zfg,ze2,zds,Te.cs,hB,hH1,hH2,hne,hany,hfin]
 |@lam2 n out a b s x s' y N N' ls ls' most r n1 n2 n' e out' hda hdb hal ih=>
  intro ha hb hwa hwb hsa hsb hn ho A X ver;have hB:=zdx g A X n (by omega) ver out
  have hH1:=za7 g hE hda ha (by omega) A X ver out
  have hH2:=za7 g hE hdb hb (by have:=hda.le;omega) A X ver out
  have hoa:=hda.ok hE ha;have hob:=hdb.ok hE hb;have hwa':=hda.wg hwa;have hwb':=hdb.wg hwb;have hle1:=hda.le;have hle2:=hdb.le;have hz1:=hda.sz;have hz2:=hdb.sz;rw[zrm]at hz1 hz2;obtain⟨v1,hI⟩:=ih (hoa.all x (by simp)) (hob.all y (by simp)) ((zh8 hwa').2.2 x (by simp)) ((zh8 hwb').2.2 y (by simp)) (by omega) (by omega) (by omega) ho A X ver
  have hT1:=zpf g N ls s x A X n2 0 ver out;have hT2:=zpf g N' ls' s' y A X n2 0 ver out;rcases x with⟨k3,N3,ls3,ks3⟩;rcases y with⟨k4,N4,ls4,ks4⟩;have hfin:=zdb A X g (n+1:Nat) 0 ver out n' e v1 out' r;refine⟨v1,?_⟩;rcases a with⟨ka,Na,lsa,ksa⟩;rcases b with⟨kb,Nb,lsb,ksb⟩;rw[zaj];simp only[zfg,Te.cs,Te.css,Lv.css]at hB hfin hH1 hH2 hI hT1 hT2;simp only[↓reduceIte,go_sem,zfg,ze2,zds,Te.cs,Te.css,Lv.css,hB,hH1,hH2,hI,hT1,hT2,hfin]
 |@lamL n out a b b' s x N ls most r n1 n2 n' e out' hda hdb hk hL hal ih=>
  intro ha hb hwa hwb hsa hsb hn ho A X ver;have hB:=zdx g A X n (by omega) ver out
  have hH1:=za7 g hE hda ha (by omega) A X ver out
  have hH2:=za7 g hE hdb hb (by have:=hda.le;omega) A X ver out
  have hoa:=hda.ok hE ha;have hob:=hdb.ok hE hb;have hwa':=hda.wg hwa;have hwb':=hdb.wg hwb;have hle1:=hda.le;have hle2:=hdb.le;have hz1:=hda.sz;have hz2:=hdb.sz;rw[zrm]at hz1;have hz3:=yko hL;obtain⟨v1,hI⟩:=ih (hoa.all x (by simp)) (zz3 hob) ((zh8 hwa').2.2 x (by simp)) (zz2 hL) (by omega) (by omega) (by omega) ho A X ver
  have hT1:=zpf g N ls s x A X n2 0 ver out;have hT2:=zrf g b' hob hk A X n2 ver out;rw[hL]at hT2;rcases b' with⟨k',N',ls',ks'⟩;rcases x with⟨k4,N4,ls4,ks4⟩;rcases hq:zxm (.mk k' N' ls' ks') with⟨k3,N3,ls3,ks3⟩;rw[hq]at hI hT2;have hfin:=zdb A X g (n+1:Nat) 0 ver out n' e v1 out' r;refine⟨v1,?_⟩;rcases a with⟨ka,Na,lsa,ksa⟩;rcases b with⟨kb,Nb,lsb,ksb⟩;rw[zaj];simp only[zfg,Te.cs,Te.css,Lv.css]at hB hfin hH1 hH2 hI hT1 hT2;simp only[↓reduceIte,go_sem,zfg,ze2,zds,Te.cs,Te.css,Lv.css,hB,hH1,hH2,hI,hT1,hT2,hfin]
 |@lamLe n out a b b' s x N ls most n1 n2 hda hdb hk hL=>
  intro ha hb hwa hwb hsa hsb hn ho A X ver;have hB:=zdx g A X n (by omega) ver out
  have hH1:=za7 g hE hda ha (by omega) A X ver out
  have hH2:=za7 g hE hdb hb (by have:=hda.le;omega) A X ver out
  have hoa:=hda.ok hE ha;have hob:=hdb.ok hE hb;have hwa':=hda.wg hwa;have hwb':=hdb.wg hwb;have hle1:=hda.le;have hle2:=hdb.le;have hz1:=hda.sz;have hz2:=hdb.sz;have hT1:=zpf g N ls s x A X n2 0 ver out;have hT2:=zrf g b' hob hk A X n2 ver out;generalize (zgw b' 0 1).2=e at *;rcases b' with⟨k',N',ls',ks'⟩;rcases x with⟨k4,N4,ls4,ks4⟩;rcases hq:zxm (.mk k' N' ls' ks') with⟨k3,N3,ls3,ks3⟩;rw[hq]at hT2;have hfin:=zdb A X g (n+1:Nat) 0 ver out n2 e ver out false;refine⟨ver,?_⟩;rcases a with⟨ka,Na,lsa,ksa⟩;rcases b with⟨kb,Nb,lsb,ksb⟩;rw[zaj];simp only[zfg,Te.cs,Te.css,Lv.css]at hB hfin hH1 hH2 hT1 hT2;simp only[↓reduceIte,go_sem,zfg,ze2,zds,Te.cs,Te.css,Lv.css,hB,hH1,hH2,hT1,hT2,hL,hfin]
 |@lamR n out a b a' s y N ls most r n1 n2 n' e out' hda hk hdb hL hal ih=>
  intro ha hb hwa hwb hsa hsb hn ho A X ver;have hB:=zdx g A X n (by omega) ver out
  have hH1:=za7 g hE hda ha (by omega) A X ver out
  have hH2:=za7 g hE hdb hb (by have:=hda.le;omega) A X ver out
  have hoa:=hda.ok hE ha;have hob:=hdb.ok hE hb;have hwa':=hda.wg hwa;have hwb':=hdb.wg hwb;have hle1:=hda.le;have hle2:=hdb.le;have hz1:=hda.sz;have hz2:=hdb.sz;rw[zrm]at hz2;have hz3:=yko hL;obtain⟨v1,hI⟩:=ih (zz3 hoa) (hob.all y (by simp)) (zz2 hL) ((zh8 hwb').2.2 y (by simp)) (by omega) (by omega) (by omega) ho A X ver
  have hT1:=zrf g a' hoa hk A X n2 ver out;have hT2:=zpf g N ls s y A X n2 0 ver out;rw[hL]at hT1;rcases a' with⟨k',N',ls',ks'⟩;rcases y with⟨k4,N4,ls4,ks4⟩;have hk:¬ k' = 5:=hk;rcases hq:zxm (.mk k' N' ls' ks') with⟨k3,N3,ls3,ks3⟩;rw[hq]at hI hT1;have hfin:=zdb A X g (n+1:Nat) 0 ver out n' e v1 out' r;refine⟨v1,?_⟩;rcases a with⟨ka,Na,lsa,ksa⟩;rcases b with⟨kb,Nb,lsb,ksb⟩;rw[zaj];simp only[zfg,Te.cs,Te.css,Lv.css]at hB hfin hH1 hH2 hI hT1 hT2;simp only[↓reduceIte,go_sem,zfg,ze2,zds,Te.cs,Te.css,Lv.css,hB,hH1,hH2,hI,hT1,hT2,hk,hfin]
 |@lamRe n out a b a' s y N ls most n1 n2 hda hk hdb hL=>
  intro ha hb hwa hwb hsa hsb hn ho A X ver;have hB:=zdx g A X n (by omega) ver out
  have hH1:=za7 g hE hda ha (by omega) A X ver out
  have hH2:=za7 g hE hdb hb (by have:=hda.le;omega) A X ver out
  have hoa:=hda.ok hE ha;have hob:=hdb.ok hE hb;have hwa':=hda.wg hwa;have hwb':=hdb.wg hwb;have hle1:=hda.le;have hle2:=hdb.le;have hz1:=hda.sz;have hz2:=hdb.sz;have hT1:=zrf g a' hoa hk A X n2 ver out;generalize (zgw a' 0 1).2=e at *;have hT2:=zpf g N ls s y A X n2 e ver out;rcases a' with⟨k',N',ls',ks'⟩;rcases y with⟨k4,N4,ls4,ks4⟩;have hk:¬ k' = 5:=hk;rcases hq:zxm (.mk k' N' ls' ks') with⟨k3,N3,ls3,ks3⟩;rw[hq]at hT1;have hfin:=zdb A X g (n+1:Nat) 0 ver out n2 e ver out false;refine⟨ver,?_⟩;rcases a with⟨ka,Na,lsa,ksa⟩;rcases b with⟨kb,Nb,lsb,ksb⟩;rw[zaj];simp only[zfg,Te.cs,Te.css,Lv.css]at hB hfin hH1 hH2 hT1 hT2;simp only[↓reduceIte,go_sem,zfg,ze2,zds,Te.cs,Te.css,Lv.css,hB,hH1,hH2,hT1,hT2,hk,hL,hfin]
 |@other n out a b k N k' N' ls ls' ks ks' most n1 n2 hda hk5 hdb hk5' hne=>
  intro ha hb hwa hwb hsa hsb hn ho A X ver;have hB:=zdx g A X n (by omega) ver out
  have hH1:=za7 g hE hda ha (by omega) A X ver out
  have hH2:=za7 g hE hdb hb (by have:=hda.le;omega) A X ver out
  have hoa:=hda.ok hE ha;have hob:=hdb.ok hE hb;have hwa':=hda.wg hwa;have hwb':=hdb.wg hwb;have hle1:=hda.le;have hle2:=hdb.le;have hz1:=hda.sz;have hz2:=hdb.sz;have hfin:=zdb A X g (n+1:Nat) 0 ver out n2 0 ver out false;refine⟨ver,?_⟩;rcases a with⟨ka,Na,lsa,ksa⟩;rcases b with⟨kb,Nb,lsb,ksb⟩;rw[zaj];simp only[zfg,Te.cs]at hB hfin hH1 hH2;by_cases c1:k=k'
  ·obtain⟨o,hany⟩:=z0e k k'
   subst c1;by_cases c2:N=N'
   ·have c3:¬ (ls.length:Int)=(ls'.length:Int):=by rcases hne with h|h|h <;> omega
    cases o <;>
    ·simp only[↓reduceIte,go_sem,zfg,ze2,zds,Te.cs,hB,hH1,hH2,hk5,hany,c2,c3,hfin]
   ·cases o <;>
    ·simp only[↓reduceIte,go_sem,zfg,ze2,zds,Te.cs,hB,hH1,hH2,hk5,hany,c2,hfin]
  ·simp only[↓reduceIte,go_sem,zfg,ze2,zds,Te.cs,hB,hH1,hH2,hk5,hk5',yem c1,hfin]
 |@var n out a b N ls ls' ks ks' most n1 n2 hda hdb hl=>
  intro ha hb hwa hwb hsa hsb hn ho A X ver;have hB:=zdx g A X n (by omega) ver out
  have hH1:=za7 g hE hda ha (by omega) A X ver out
  have hH2:=za7 g hE hdb hb (by have:=hda.le;omega) A X ver out
  have hoa:=hda.ok hE ha;have hob:=hdb.ok hE hb;have hwa':=hda.wg hwa;have hwb':=hdb.wg hwb;have hle1:=hda.le;have hle2:=hdb.le;have hz1:=hda.sz;have hz2:=hdb.sz;have hlI:(ls.length:Int)=(ls'.length:Int):=by omega
  have hfin:=zdb A X g (n+1:Nat) 0 ver out n2 0 ver out true;refine⟨ver,?_⟩;rcases a with⟨ka,Na,lsa,ksa⟩;rcases b with⟨kb,Nb,lsb,ksb⟩;rw[zaj];simp only[zfg,Te.cs]at hB hfin hH1 hH2;simp only[↓reduceIte,go_sem,zfg,ze2,zds,asks_1,zx0,Te.cs,hB,hH1,hH2,hlI,hfin]
 |@sortM n out a b N x y ks ks' n1 n2 hda hdb=>
  intro ha hb hwa hwb hsa hsb hn ho A X ver;have hB:=zdx g A X n (by omega) ver out
  have hH1:=za7 g hE hda ha (by omega) A X ver out
  have hH2:=za7 g hE hdb hb (by have:=hda.le;omega) A X ver out
  have hoa:=hda.ok hE ha;have hob:=hdb.ok hE hb;have hwa':=hda.wg hwa;have hwb':=hdb.wg hwb;have hle1:=hda.le;have hle2:=hdb.le;have hz1:=hda.sz;have hz2:=hdb.sz;obtain⟨v1,hI⟩:=yap g hcons hcl hmode x y (hoa.all2 x (by simp)) (hob.all2 y (by simp)) 2 N 2 N ks ks' A X n2 ver out ho
  have hfin:=zdb A X g (n+1:Nat) 0 ver out n2 (zha g (0,out) x y).2.1 v1 (zha g (0,out) x y).2.2 (zha g (0,out) x y).1;refine⟨v1,?_⟩;rcases a with⟨ka,Na,lsa,ksa⟩;rcases b with⟨kb,Nb,lsb,ksb⟩;rw[zaj];simp only[zfg,Te.cs,Lv.css]at hB hfin hH1 hH2 hI;simp only[↓reduceIte,go_sem,zfg,ze2,zds,ykz,Te.cs,Lv.css,List.length_cons,List.length_nil,hB,hH1,hH2,hI,hfin]
 |@lvls n out a b k N ls ls' ks ks' most n1 n2 hk hda hdb hl=>
  intro ha hb hwa hwb hsa hsb hn ho A X ver;have hB:=zdx g A X n (by omega) ver out
  have hH1:=za7 g hE hda ha (by omega) A X ver out
  have hH2:=za7 g hE hdb hb (by have:=hda.le;omega) A X ver out
  have hoa:=hda.ok hE ha;have hob:=hdb.ok hE hb;have hwa':=hda.wg hwa;have hwb':=hdb.wg hwb;have hle1:=hda.le;have hle2:=hdb.le;have hz1:=hda.sz;have hz2:=hdb.sz;have hlI:(ls.length:Int)=(ls'.length:Int):=by omega
  rcases hk with⟨rfl,rfl⟩|rfl
  ·obtain⟨v1,hI⟩:=yaq g hcons hcl hmode ls ls' hoa.all2 hob.all2 hl hoa.len2 2 N 2 N ks ks' A X n2 ver out ho
   have hfin:=zdb A X g (n+1:Nat) 0 ver out n2 (zh7 g (0,out) ls ls').2.1 v1 (zh7 g (0,out) ls ls').2.2 (zh7 g (0,out) ls ls').1;refine⟨v1,?_⟩;rcases a with⟨ka,Na,lsa,ksa⟩;rcases b with⟨kb,Nb,lsb,ksb⟩;rw[zaj];simp only[zfg,Te.cs]at hB hfin hH1 hH2 hI;simp only[↓reduceIte,go_sem,zfg,ze2,zds,ykz,Te.cs,hB,hH1,hH2,hI,hlI,hfin]
  ·obtain⟨v1,hI⟩:=zu0 g hcons hcl hmode ls ls' hoa.all2 hob.all2 hl hoa.len2 3 N 3 N ks ks' (.bool most) A X n2 0 ver out ho
   have hfin:=zdb A X g (n+1:Nat) 0 ver out n2 (zh7 g (0,out) ls ls').2.1 v1 (zh7 g (0,out) ls ls').2.2 (zh7 g (0,out) ls ls').1;refine⟨v1,?_⟩;rcases a with⟨ka,Na,lsa,ksa⟩;rcases b with⟨kb,Nb,lsb,ksb⟩;rw[zaj];simp only[zfg,Te.cs]at hB hfin hH1 hH2 hI;simp only[↓reduceIte,go_sem,zfg,ze2,zds,asks_3,Te.cs,hB,hH1,hH2,hI,hlI,hfin]
 |@two1 n out a b f x f' x' k N ls ls' most n1 n2 n' e out' hk hda hdb hl hal ih=>
  intro ha hb hwa hwb hsa hsb hn ho A X ver;have hB:=zdx g A X n (by omega) ver out
  have hH1:=za7 g hE hda ha (by omega) A X ver out
  have hH2:=za7 g hE hdb hb (by have:=hda.le;omega) A X ver out
  have hoa:=hda.ok hE ha;have hob:=hdb.ok hE hb;have hwa':=hda.wg hwa;have hwb':=hdb.wg hwb;have hle1:=hda.le;have hle2:=hdb.le;have hz1:=hda.sz;have hz2:=hdb.sz;have hlI:(ls.length:Int)=(ls'.length:Int):=by omega
  rw[zrm]at hz1 hz2;obtain⟨v1,hI⟩:=ih (hoa.all f (by simp)) (hob.all f' (by simp)) ((zh8 hwa').2.2 f (by simp)) ((zh8 hwb').2.2 f' (by simp)) (by omega) (by omega) (by omega) ho A X ver
  have hfin:=zdb A X g (n+1:Nat) 0 ver out n' e v1 out' false;refine⟨v1,?_⟩;rcases a with⟨ka,Na,lsa,ksa⟩;rcases b with⟨kb,Nb,lsb,ksb⟩;rw[zaj];simp only[Te.cs,Te.css]at hH1 hH2;rcases hk with rfl|rfl
  ·have hQ:F zcc [.ptr (A.length+4) 0,.agg [.int .i64 4,.int .i64 N,.sl (Lv.css ls),.sl [f.cs,x.cs]],.agg [.int .i64 4,.int .i64 N,.sl (Lv.css ls'),.sl [f'.cs,x'.cs]],.bool most] (zg9 A g n2 0 ver out X)=some (.ret (.bool false),zg9 A g n' e v1 out' X):=by
    have hfin:=zdb A X g n2 0 ver out n' e v1 out' false;rcases f with⟨k3,N3,ls3,ks3⟩;rcases x with⟨k4,N4,ls4,ks4⟩;rcases f' with⟨k5,N5,ls5,ks5⟩;rcases x' with⟨k6,N6,ls6,ks6⟩;rw[zlb];simp only[Te.cs]at hI;simp only[↓reduceIte,go_sem,Te.cs,hI,hfin]
   simp only[zfg]at hB hfin hH1 hH2 hQ;simp only[↓reduceIte,go_sem,zfg,ze2,zds,yky,Te.cs,Te.css,hB,hH1,hH2,hQ,hlI,hfin]
  ·have hQ:F zcu [.ptr (A.length+4) 0,.agg [.int .i64 6,.int .i64 N,.sl (Lv.css ls),.sl [f.cs,x.cs]],.agg [.int .i64 6,.int .i64 N,.sl (Lv.css ls'),.sl [f'.cs,x'.cs]],.bool most] (zg9 A g n2 0 ver out X)=some (.ret (.bool false),zg9 A g n' e v1 out' X):=by
    have hfin:=zdb A X g n2 0 ver out n' e v1 out' false;rcases f with⟨k3,N3,ls3,ks3⟩;rcases x with⟨k4,N4,ls4,ks4⟩;rcases f' with⟨k5,N5,ls5,ks5⟩;rcases x' with⟨k6,N6,ls6,ks6⟩;rw[zlq];simp only[Te.cs]at hI;simp only[↓reduceIte,go_sem,Te.cs,hI,hfin]
   simp only[zfg]at hB hfin hH1 hH2 hQ;simp only[↓reduceIte,go_sem,zfg,ze2,zds,ykx,Te.cs,Te.css,hB,hH1,hH2,hQ,hlI,hfin]
 |@two2 n out a b f x f' x' k N ls ls' most r n1 n2 n3 n' e out1 out' hk hda hdb hl hal hal2 ih1 ih2=>
  intro ha hb hwa hwb hsa hsb hn ho A X ver;have hB:=zdx g A X n (by omega) ver out
  have hH1:=za7 g hE hda ha (by omega) A X ver out
  have hH2:=za7 g hE hdb hb (by have:=hda.le;omega) A X ver out
  have hoa:=hda.ok hE ha;have hob:=hdb.ok hE hb;have hwa':=hda.wg hwa;have hwb':=hdb.wg hwb;have hle1:=hda.le;have hle2:=hdb.le;have hz1:=hda.sz;have hz2:=hdb.sz;have hlI:(ls.length:Int)=(ls'.length:Int):=by omega
  rw[zrm]at hz1 hz2;have hle3:=hal.le;obtain⟨v1,hI⟩:=ih1 (hoa.all f (by simp)) (hob.all f' (by simp)) ((zh8 hwa').2.2 f (by simp)) ((zh8 hwb').2.2 f' (by simp)) (by omega) (by omega) (by omega) ho A X ver
  obtain⟨v2,hJ⟩:=ih2 (hoa.all x (by simp)) (hob.all x' (by simp)) ((zh8 hwa').2.2 x (by simp)) ((zh8 hwb').2.2 x' (by simp)) (by omega) (by omega) (by omega) (hal.len ho) A X v1
  have hfin:=zdb A X g (n+1:Nat) 0 ver out n' e v2 out' r;refine⟨v2,?_⟩;rcases a with⟨ka,Na,lsa,ksa⟩;rcases b with⟨kb,Nb,lsb,ksb⟩;rw[zaj];simp only[Te.cs,Te.css]at hH1 hH2;rcases hk with rfl|rfl
  ·simp only[show decide ((4:Int)=6)=false from rfl,Bool.false_and]at hJ
   have hQ:F zcc [.ptr (A.length+4) 0,.agg [.int .i64 4,.int .i64 N,.sl (Lv.css ls),.sl [f.cs,x.cs]],.agg [.int .i64 4,.int .i64 N,.sl (Lv.css ls'),.sl [f'.cs,x'.cs]],.bool most] (zg9 A g n2 0 ver out X)=some (.ret (.bool r),zg9 A g n' e v2 out' X):=by
    have hfin:=zdb A X g n2 0 ver out n' e v2 out' r;rcases f with⟨k3,N3,ls3,ks3⟩;rcases x with⟨k4,N4,ls4,ks4⟩;rcases f' with⟨k5,N5,ls5,ks5⟩;rcases x' with⟨k6,N6,ls6,ks6⟩;rw[zlb];simp only[Te.cs]at hI hJ;simp only[↓reduceIte,go_sem,Te.cs,hI,hJ,hfin]
   simp only[zfg]at hB hfin hH1 hH2 hQ;simp only[↓reduceIte,go_sem,zfg,ze2,zds,yky,Te.cs,Te.css,hB,hH1,hH2,hQ,hlI,hfin]
  ·simp only[decide_true,Bool.true_and]at hJ
   have hQ:F zcu [.ptr (A.length+4) 0,.agg [.int .i64 6,.int .i64 N,.sl (Lv.css ls),.sl [f.cs,x.cs]],.agg [.int .i64 6,.int .i64 N,.sl (Lv.css ls'),.sl [f'.cs,x'.cs]],.bool most] (zg9 A g n2 0 ver out X)=some (.ret (.bool r),zg9 A g n' e v2 out' X):=by
    have hfin:=zdb A X g n2 0 ver out n' e v2 out' r;rcases f with⟨k3,N3,ls3,ks3⟩;rcases x with⟨k4,N4,ls4,ks4⟩;rcases f' with⟨k5,N5,ls5,ks5⟩;rcases x' with⟨k6,N6,ls6,ks6⟩;rw[zlq];simp only[Te.cs]at hI hJ;simp only[↓reduceIte,go_sem,Te.cs,hI,hJ,hfin]
   simp only[zfg]at hB hfin hH1 hH2 hQ;simp only[↓reduceIte,go_sem,zfg,ze2,zds,ykx,Te.cs,Te.css,hB,hH1,hH2,hQ,hlI,hfin]
end Go.Ab
end
section
set_option linter.unusedVariables false
set_option linter.unusedSimpArgs false
set_option maxRecDepth 100000
set_option maxHeartbeats 2000000
namespace Go.Ab
open Go.RowKit Go.Proofs
theorem yfv:zeroT.ok:=.mk (by simp) (by simp) (by intro x hx;cases hx) (by intro x hx;cases hx)
def sort0:Te:=.mk 2 0 [.mk 1 0 []] []
theorem ygb:sort0.ok:=by simp[sort0,zjf,zum]
theorem yg4:z1j []:=⟨by simp,by intro d hd;cases hd⟩
end Go.Ab
end
section
set_option linter.unusedVariables false
set_option linter.unusedSimpArgs false
set_option maxRecDepth 100000
set_option maxHeartbeats 4000000
namespace Go.Ab
open Go.RowKit Go.Proofs
def okCs(l:List Co):Prop:=l.length<=140737488355328/\∀c∈l,c.ok
def okG(g:Gr):Prop:=z1j g.env/\okCs g.cons
def modeB(g:Gr):Bool:=(decide (g.mode=1) && decide (g.metas=0)) || (decide (g.mode=2) && decide (0<=g.metas) && decide (g.metas<=10))
def znv(g:Gr):Bool:=modeB g && (zm7 g.env && zdz g.cons g.params)
theorem zno(g:Gr)(hg:okG g)(H:List AO):F zit [.agg g.cs] H=some (.ret (.bool (znv g)),H):=by
 have h1:=fun H=>z9s g.env hg.1 H
 have h2:=fun H=>zty g.cons hg.2.1 hg.2.2 g.params H
 rw[z2w,znv,modeB];rcases g with⟨env,p,m,cons,mode⟩;dsimp only[Gr.cs]at h1 h2 ⊢;by_cases c1:mode=1
 ·subst c1
  by_cases c2:m=0
  ·subst c2
   cases c3:zm7 env <;> rw[c3]at h1 <;> simp only[↓reduceIte,go_sem,h1,h2] <;> simp
  ·simp only[↓reduceIte,go_sem,c2]
   simp[c2]
 ·by_cases c4:mode=2
  ·subst c4
   by_cases c5:m<0
   ·simp only[↓reduceIte,go_sem,c5,show ¬ (2:Int)=1 by decide]
    simp;omega
   ·by_cases c6:10<m
    ·simp only[↓reduceIte,go_sem,c5,c6,show ¬ (2:Int)=1 by decide]
     simp;omega
    ·have e1:(decide (0<=m))=true:=by simp;omega
     have e2:(decide (m<=10))=true:=by simp;omega
     cases c3:zm7 env <;> rw[c3]at h1 <;> simp only[↓reduceIte,go_sem,h1,h2,c5,c6,show ¬ (2:Int)=1 by decide,e1,e2] <;> simp
  ·simp only[↓reduceIte,go_sem,c1,c4]
   simp
theorem zxv{g:Gr}(h:znv g=true):(g.mode=1\/g.mode=2)/\zm7 g.env=true/\zdz g.cons g.params=true/\g.cons.length<=8:=by
 unfold znv modeB at h;simp only[Bool.and_eq_true,Bool.or_eq_true,decide_eq_true_eq]at h;obtain⟨h1,h2,h3⟩:=h;refine⟨by omega,h2,h3,?_⟩
 unfold zdz at h3;simp only[Bool.and_eq_true,decide_eq_true_eq]at h3;exact h3.1.2
theorem ztp{g:Gr}{s:Int×List Co}{a b:Lv}(ha:a.ok)(hb:b.ok)(h:∀c∈s.2,c.ok):∀c∈(zha g s a b).2.2,c.ok:=by
 unfold zha
 split
 ·exact h
 split
 ·split
  ·exact h
  ·intro c hc
   simp only[List.mem_append,List.mem_singleton]at hc;rcases hc with hc|rfl
   ·exact h c hc
   ·exact⟨ha,hb⟩
 split <;> exact h
theorem yef{g:Gr}{s:Int×List Co}{a b:Lv}(ha:a.ok)(hb:b.ok)(h:∀c∈s.2,c.ok):∀c∈(zj2 g s a b).2.2,c.ok:=by
 unfold zj2
 split
 ·exact ztp hb ha (ztp ha hb h)
 ·exact ztp ha hb h
theorem z7n{g:Gr}:∀{s:Int×List Co} {p q:List Lv},(∀x∈p,x.ok)->(∀x∈q,x.ok)->(∀c∈s.2,c.ok)->∀c∈(zh7 g s p q).2.2,c.ok
 |s,a::xs,b::ys,hp,hq,h=>by
  rw[zh7];have h1:=yef (g:=g) (hp a (by simp)) (hq b (by simp)) h
  split
  ·exact z7n (fun x hx=>hp x (by simp[hx])) (fun x hx=>hq x (by simp[hx])) h1
  ·exact h1
 |s,[],_,_,_,h=>by simpa [zh7] using h
 |s,_::_,[],_,_,h=>by simpa [zh7] using h
theorem Al.oks{g:Gr}(hE:z1j g.env){n:Nat}{out:List Co}{a b:Te}{most r:Bool}{n':Nat}{e:Int}{out':List Co}(h:Al g n out a b most r n' e out'):a.ok->b.ok->(∀c∈out,c.ok)->∀c∈out',c.ok:=by
 induction h with
 |lam2 h1 h2 _ ih=>exact fun ha hb=>ih ((h1.ok hE ha).all _ (by simp)) ((h2.ok hE hb).all _ (by simp))
 |lamL h1 h2 _ _ _ ih=>exact fun ha hb=>ih ((h1.ok hE ha).all _ (by simp)) (zz3 (h2.ok hE hb))
 |lamR h1 _ h2 _ _ ih=>exact fun ha hb=>ih (zz3 (h1.ok hE ha)) ((h2.ok hE hb).all _ (by simp))
 |sortM h1 h2=>exact fun ha hb h=>ztp ((h1.ok hE ha).all2 _ (by simp)) ((h2.ok hE hb).all2 _ (by simp)) h
 |lvls _ h1 h2=>exact fun ha hb h=>z7n (h1.ok hE ha).all2 (h2.ok hE hb).all2 h
 |two1 _ h1 h2 _ _ ih=>exact fun ha hb=>ih ((h1.ok hE ha).all _ (by simp)) ((h2.ok hE hb).all _ (by simp))
 |two2 _ h1 h2 _ _ _ ih1 ih2=>exact fun ha hb h=>ih2 ((h1.ok hE ha).all _ (by simp)) ((h2.ok hE hb).all _ (by simp)) (ih1 ((h1.ok hE ha).all _ (by simp)) ((h2.ok hE hb).all _ (by simp)) h)
 |_=>exact fun _ _ h=>h
inductive ConvS (g:Gr) (a b:Te) (most:Bool) (f:Int):Bool×List Co×Int×Int->Prop
 |arg:(znv g=false\/zdv a 1000 g.params g.metas=false\/zdv b 1000 g.params g.metas=false\/f<0\/5000<f)->ConvS g a b most f (false,[],0,1)
 |er {n n':Nat} {r:Bool} {e:Int} {out:List Co}:znv g=true->zdv a 1000 g.params g.metas=true->zdv b 1000 g.params g.metas=true->f=n->n<=5000->Al g n [] a b most r n' e out->e≠0->ConvS g a b most f (false,[],0,e)
 |ok {n n':Nat} {r:Bool} {out:List Co}:znv g=true->zdv a 1000 g.params g.metas=true->zdv b 1000 g.params g.metas=true->f=n->n<=5000->Al g n [] a b most r n' 0 out->ConvS g a b most f (r,out,n',0)
theorem zgz{t:Te}{v p m:Int}(h:zdv t v p m=true):wg t=true/\sz t<=600:=by
 unfold zdv at h;simp only[Bool.and_eq_true,decide_eq_true_eq]at h;refine⟨by simp[wg,right_wf h.2,right_w2 h.2],?_⟩
 have h1:=subs_parts t 601 (by omega)
 have:=h.1.2;unfold sz;omega
theorem zxo(g:Gr)(a b:Te)(most:Bool)(f:Int):∃r,ConvS g a b most f r:=by
 cases h1:znv g
 ·exact⟨_,.arg (.inl h1)⟩
 cases h2:zdv a 1000 g.params g.metas
 ·exact⟨_,.arg (.inr (.inl h2))⟩
 cases h3:zdv b 1000 g.params g.metas
 ·exact⟨_,.arg (.inr (.inr (.inl h3)))⟩
 by_cases h4:f<0
 ·exact⟨_,.arg (.inr (.inr (.inr (.inl h4))))⟩
 by_cases h5:5000<f
 ·exact⟨_,.arg (.inr (.inr (.inr (.inr h5))))⟩
 obtain⟨n,rfl⟩:=Int.eq_ofNat_of_zero_le (show 0<=f by omega)
 obtain⟨r,n',e,out,h⟩:=yi3 g n [] a b most (zgz h2).1 (zgz h3).1;by_cases he:e=0
 ·subst he;exact⟨_,.ok h1 h2 h3 rfl (by omega) h⟩
 ·exact⟨_,.er h1 h2 h3 rfl (by omega) h he⟩
abbrev yfn(x:Bool×List Co×Int×Int):AV:=.tup [.bool x.1,.sl (Co.css x.2.1),.int .i64 x.2.2.1,.int .i64 x.2.2.2]
theorem resC_lt(n:Nat)(x:Bool×List Co×Int×Int):Lt n (yfn x):=by
 refine .tup ?_;intro a ha;simp at ha;rcases ha with rfl|rfl|rfl|rfl
 ·exact .bool _
 ·exact .sl (zpc _ _)
 ·exact .int _ _
 ·exact .int _ _
theorem zv2(g:Gr)(hg:okG g)(a b:Te)(ha:a.ok)(hb:b.ok)(most:Bool)(n n':Nat)(hn:n<=5000)(r:Bool)(e:Int)(out:List Co)(h1:znv g=true)(h2:zdv a 1000 g.params g.metas=true)(h3:zdv b 1000 g.params g.metas=true)(h:Al g n [] a b most r n' e out)(H:List AO):
  F ze8 [.agg g.cs,.agg a.cs,.agg b.cs,.bool most,.int .i64 n] H=some (.ret (yfn (if e≠0 then (false,[],0,e) else (r,out,(n':Int),0))),H):=by
 obtain⟨hm,_,_,hl⟩:=zxv h1;have k1:=fun H=>zno g hg H
 have k2:=fun H=>zkh a ha 1000 g.params g.metas H
 have k3:=fun H=>zkh b hb 1000 g.params g.metas H
 have k4:=fun H=>NewP_ok g n H
 have z1:=(zgz h2).2;have z2:=(zgz h3).2;obtain⟨v,k5⟩:=yfk g hg.1 hg.2.2 (by omega) hm h ha hb (zgz h2).1 (zgz h3).1 (by omega) (by omega) (by omega) (by simp) H [] 0
 rw[h1]at k1;rw[h2]at k2;rw[h3]at k3;rcases a with⟨ka,Na,lsa,ksa⟩;rcases b with⟨kb,Nb,lsb,ksb⟩;have e0:Co.css []=[]:=rfl;rw[zvi];simp only[zfg,Te.cs,Gr.cs,e0,List.length_append,List.length_cons,List.length_nil,Nat.add_assoc,Nat.reduceAdd,List.append_assoc,List.cons_append,List.nil_append]at k1 k2 k3 k4 k5;by_cases he:e=0
 ·subst he
  simp only[↓reduceIte,go_sem,Te.cs,Gr.cs,k1,k2,k3,k4,k5,show ¬ (n:Int)<0 by omega,show ¬ (5000:Int)<(n:Int) by omega,e0,not_true_eq_false,ne_eq]
  exact if_pos (resC_lt _ (r,out,(n':Int),0))
 ·simp only[↓reduceIte,go_sem,Te.cs,Gr.cs,k1,k2,k3,k4,k5,show ¬ (n:Int)<0 by omega,show ¬ (5000:Int)<(n:Int) by omega,he,ne_eq,not_false_eq_true,e0]
  rfl
theorem zgx(g:Gr)(hg:okG g)(a b:Te)(ha:a.ok)(hb:b.ok)(most:Bool)(f:Int)(r:Bool×List Co×Int×Int)(h:ConvS g a b most f r)(H:List AO):
  F ze8 [.agg g.cs,.agg a.cs,.agg b.cs,.bool most,.int .i64 f] H=some (.ret (yfn r),H):=by
 cases h with
 |arg hq=>
  have k1:=fun H=>zno g hg H
  have k2:=fun H=>zkh a ha 1000 g.params g.metas H
  have k3:=fun H=>zkh b hb 1000 g.params g.metas H
  have e0:Co.css []=[]:=rfl;rcases a with⟨ka,Na,lsa,ksa⟩;rcases b with⟨kb,Nb,lsb,ksb⟩;rw[zvi];simp only[Te.cs,Gr.cs]at k1 k2 k3
  cases c1:znv g <;> rw[c1]at k1
  ·simp only[↓reduceIte,go_sem,Te.cs,Gr.cs,k1,yfn,e0]
  cases c2:zdv (.mk ka Na lsa ksa) 1000 g.params g.metas <;> rw[c2]at k2
  ·simp only[↓reduceIte,go_sem,Te.cs,Gr.cs,k1,k2,yfn,e0]
  cases c3:zdv (.mk kb Nb lsb ksb) 1000 g.params g.metas <;> rw[c3]at k3
  ·simp only[↓reduceIte,go_sem,Te.cs,Gr.cs,k1,k2,k3,yfn,e0]
  rw[c1,c2,c3]at hq;by_cases c4:f<0
  ·simp only[↓reduceIte,go_sem,Te.cs,Gr.cs,k1,k2,k3,c4,yfn,e0]
  ·have c5:5000<f:=by simp at hq;omega
   simp only[↓reduceIte,go_sem,Te.cs,Gr.cs,k1,k2,k3,c4,c5,yfn,e0]
 |@er n n' r e out h1 h2 h3 hf hn hA he=>
  subst hf;have:=zv2 g hg a b ha hb most n n' hn r e out h1 h2 h3 hA H
  rwa [if_pos he]at this
 |@ok n n' r out h1 h2 h3 hf hn hA=>
  subst hf;have:=zv2 g hg a b ha hb most n n' hn r 0 out h1 h2 h3 hA H
  rwa [if_neg (by simp)]at this
theorem ConvS.oks{g:Gr}(hg:okG g){a b:Te}(ha:a.ok)(hb:b.ok){most:Bool}{f:Int}{r:Bool×List Co×Int×Int}(h:ConvS g a b most f r):okCs r.2.1:=by
 have h0:okCs []:=⟨by simp,by intro c hc;cases hc⟩
 cases h with
 |arg=>exact h0
 |er=>exact h0
 |ok _ _ _ _ _ hA=>
  have:=hA.len (by simp)
  exact⟨by dsimp only;omega,hA.oks hg.1 ha hb (by intro c hc;cases hc)⟩
end Go.Ab
end
section
set_option linter.unusedVariables false
set_option linter.unusedSimpArgs false
set_option maxRecDepth 100000
set_option maxHeartbeats 4000000
namespace Go.Ab
open Go.RowKit Go.Proofs
def runB:Nat->List Cl->Int->List Int->Option Bool
 |0,_,_,_=>none
 |n+1,l,most,m=>if (zaz l m).any (fun x=>decide (most<x))=true then some false else if zaz l m=m then (if m.all (fun x=>decide (x<=most))=true then some true else none) else runB n l most (zaz l m)
theorem z35:∀(n:Nat) {l:List Cl} {most:Int} {m:List Int} {b:Bool},runB n l most m=some b->∃r k,RunS l most m r k/\r.isSome=b
 |0,l,most,m,b,h=>by cases h
 |n+1,l,most,m,b,h=>by
  rw[runB]at h
  split at h
  ·rename_i h1
   cases h;obtain⟨x,hx,hlt⟩:=List.any_eq_true.1 h1
   exact⟨none,1,.over ⟨x,hx,by simpa using hlt⟩,rfl⟩
  ·rename_i h1
   split at h
   ·rename_i h2
    split at h
    ·rename_i h3
     cases h;exact⟨some m,1,.fix h2 (fun x hx=>by simpa using List.all_eq_true.1 h3 x hx),rfl⟩
    ·cases h
   ·rename_i h2
    obtain⟨r,k,h3,h4⟩:=z35 n h;refine⟨r,k+1,.more h2 (fun x hx=>?_) h3,h4⟩
    simp only[List.any_eq_true,decide_eq_true_eq,not_exists,not_and]at h1;have:=h1 x hx;omega
def brkB(f:Nat)(cons:List Co)(p:Nat)(b:Lv)(n:Nat)(x:At):Option Bool:=runB f (zp7 cons (zc0 n p) b x) (zg1 ((p+1:Nat):Int) (zp7 cons (zc0 n p) b x)) (List.replicate (p+1) 0)
theorem yg8(f:Nat){cons:List Co}{p:Nat}{a b:Lv}(h:((List.range (2 ^ p)).all fun n=>(zap (za5 a (zc0 n p))).all fun x=>brkB f cons p b n x == some false)=true):z0s cons p a b=true:=by
 refine znj.2 fun n hn hb=>?_
 obtain⟨x,hx,m,k,hr⟩:=hb;have h1:=List.all_eq_true.1 (List.all_eq_true.1 h n (by simpa using hn)) x hx
 have h1:brkB f cons p b n x=some false:=by simpa using h1
 obtain⟨r,k',h2,h3⟩:=z35 f h1;rw[zfw]at hr;have:=(hr.det h2).1;subst this;cases h3
theorem leqB_no(f:Nat){cons:List Co}{p:Nat}{a b:Lv}(h:((List.range (2 ^ p)).any fun n=>(zap (za5 a (zc0 n p))).any fun x=>brkB f cons p b n x == some true)=true):z0s cons p a b=false:=by
 rcases hb:z0s cons p a b with _|_
 ·rfl
 exfalso;obtain⟨n,hn,h1⟩:=List.any_eq_true.1 h;obtain⟨x,hx,h2⟩:=List.any_eq_true.1 h1;have h2:brkB f cons p b n x=some true:=by simpa using h2
 obtain⟨r,k,h3,h4⟩:=z35 f h2;refine znj.1 hb n (by simpa using hn) ⟨x,hx,?_⟩
 cases r with
 |none=>cases h4
 |some m=>exact⟨m,k,by rw[zfw];exact h3⟩
def pL:Lv:=.mk 5 0 []
def spL:Lv:=.mk 2 0 [pL]
def sP:Te:=.mk 2 0 [pL] []
def sS:Te:=.mk 2 0 [spL] []
def g1:Gr:=⟨[],1,0,[],1⟩
def g2:Gr:=⟨[],1,0,[],2⟩
def g0:Gr:=⟨[],0,0,[],0⟩
theorem g_ok(p m mode:Int):okG ⟨[],p,m,[],mode⟩:=⟨yg4,by simp,by intro c hc;cases hc⟩
theorem yau:sP.ok:=by simp[sP,pL,zjf,zum]
theorem yat:sS.ok:=by simp[sS,spL,pL,zjf,zum]
theorem leq1:zha g1 (0,[]) pL spL=(true,0,[]):=by
 unfold zha;rw[if_neg (by simp),if_neg (show ¬ g1.mode=2 by decide),if_pos (by rfl)]
 rw[show z0s g1.cons g1.params.toNat pL spL=true from yg8 20 (by decide +kernel)]
theorem leq2:zha g1 (0,[]) spL pL=(false,0,[]):=by
 unfold zha;rw[if_neg (by simp),if_neg (show ¬ g1.mode=2 by decide),if_pos (by rfl)]
 rw[show z0s g1.cons g1.params.toNat spL pL=false from leqB_no 20 (by decide +kernel)]
theorem zr2(g:Gr)(n:Nat)(l:Lv):Hd g.env n (.mk 2 0 [l] []) (.mk 2 0 [l] []) n:=.stuck (by decide) (by decide) (fun h=>absurd h (by decide))
theorem aw1:ConvS g1 sP sS true 5 (true,[],4,0):=by
 have h:Al g1 (4+1) [] sP sS true _ 4 _ _:=.sortM (zr2 g1 4 pL) (zr2 g1 4 spL);rw[leq1]at h;exact .ok (by rfl) (by rfl) (by rfl) rfl (by decide) h
theorem aw2:ConvS g1 sS sP true 5 (false,[],4,0):=by
 have h:Al g1 (4+1) [] sS sP true _ 4 _ _:=.sortM (zr2 g1 4 spL) (zr2 g1 4 pL);rw[leq2]at h;exact .ok (by rfl) (by rfl) (by rfl) rfl (by decide) h
theorem aw3:ConvS g1 sP sS true 0 (false,[],0,40) :=
 .er (by rfl) (by rfl) (by rfl) rfl (by decide) (.burn0 (g:=g1)) (by decide)
theorem aw4:ConvS g2 sS sP false 5 (true,[.mk spL pL,.mk pL spL],4,0):=by
 have h:Al g2 (4+1) [] sS sP false _ 4 _ _:=.lvls (.inl ⟨rfl,rfl⟩) (zr2 g2 4 spL) (zr2 g2 4 pL) rfl;have e:zh7 g2 (0,[]) [spL] [pL]=(true,0,[.mk spL pL,.mk pL spL]):=by
  simp[zh7,zj2,zha,g2]
 rw[e]at h;exact .ok (by rfl) (by rfl) (by rfl) rfl (by decide) h
theorem zsh(H:List AO):F zk2 [] H=some (.ret (.bool true),H):=by
 have hS0:=fun H=>zcd pL H
 have hS1:=fun H=>zcd spL H
 have r1:=fun H=>zgx g1 (g_ok _ _ _) sP sS yau yat true 5 _ aw1 H
 have r2:=fun H=>zgx g1 (g_ok _ _ _) sS sP yat yau true 5 _ aw2 H
 have r3:=fun H=>zgx g1 (g_ok _ _ _) sP sS yau yat true 0 _ aw3 H
 have r4:=fun H=>zgx g2 (g_ok _ _ _) sS sP yat yau false 5 _ aw4 H
 have r5:=fun H=>zgx g0 (g_ok _ _ _) sP sS yau yat true 5 (false,[],0,1) (.arg (.inl (by rfl))) H
 have r6:=fun H=>zno g2 (g_ok _ _ _) H
 have r7:=fun H=>zno g0 (g_ok _ _ _) H
 rw[show znv g2=true from rfl]at r6
 rw[show znv g0=false from rfl]at r7
 have e1:De.css []=[]:=rfl;have e2:Co.css []=[]:=rfl;have e3:Co.css [.mk spL pL,.mk pL spL]=[spL.cs++pL.cs,pL.cs++spL.cs]:=rfl;simp only[yfn,e1,e2,e3,g0,g1,g2,Gr.cs,sP,sS,pL,spL,Te.cs,Te.css,Lv.cs,Lv.css,List.cons_append,List.nil_append]at hS0 hS1 r1 r2 r3 r4 r5 r6 r7;rw[zzz];simp only[↓reduceIte,go_sem,hS0,hS1,r1,r2,r3,r4,r5,r6,r7,List.length_cons,List.length_nil,Nat.reduceAdd,Int.cast_ofNat_Int]
end Go.Ab
end
section
set_option linter.unusedVariables false
set_option linter.unusedSimpArgs false
set_option maxRecDepth 100000
set_option maxHeartbeats 2000000
namespace Go.Ab
open Go.RowKit Go.Proofs
theorem zcm{H Y:List AO}{id:Nat}{x:AO}(h:id<H.length):H.set id x++Y=(H++Y).set id x:=by rw[List.set_append_left _ _ h]
theorem zbi{H Y:List AO}{id i:Nat}{x:AO}(h:id<H.length):((H++Y).set id x)[H.length+i]?=Y[i]?:=by
 rw[List.getElem?_set_ne (by omega),ztz]
theorem zbj{H Y:List AO}{id:Nat}{x:AO}(h:id<H.length):((H++Y).set id x)[H.length]?=Y[0]?:=by
 rw[List.getElem?_set_ne (by omega),zt0]
theorem zbg{H Y:List AO}{id i:Nat}{x y:AO}(h:id<H.length):((H++Y).set id x).set (H.length+i) y=(H++Y.set i y).set id x:=by
 rw[List.set_comm _ _ (by omega),yiv]
theorem zbh{H Y:List AO}{id:Nat}{x y:AO}(h:id<H.length):((H++Y).set id x).set H.length y=(H++Y.set 0 y).set id x:=by
 rw[List.set_comm _ _ (by omega),yiu]
theorem zbl{a b c:Nat}(h:a<b):(a<b+c)=True:=by simp;omega
open Classical in
theorem zcl{H X:List AO}{r:Res}{id:Nat}{y:AO}{L:List Int}{b:Int}(h:id<H.length):zet (H.set id y) r ((H++X).set id (mkr L b))=if LtR H.length r then some (r,H.set id (mkr L b)) else none:=by
 have e:(H++X).set id (mkr L b)=(H.set id y).set id (mkr L b)++X:=by rw[ztk,zcm h]
 rw[e];have:=zq3 (H:=H.set id y) (X:=X) (r:=r) (id:=id) (x:=mkr L b) (ykc _ L b);rw[this,List.length_set,ztk]
def zfh(L:List Int):Nat->Int->List Lv×Int
 |0,a=>([],a)
 |i+1,a=>((zaq L 3 2 2 a).1::(zfh L i (zaq L 3 2 2 a).2).1,(zfh L i (zaq L 3 2 2 a).2).2)
def zey(L:List Int):Nat->Int->Int->Te×Int
 |0,v,a=>(.mk 1 0 [] [],a)
 |d+1,v,a=>
  let k0:=zar L a 12
  let k:=if d=0 then k0.tmod 4 else k0
  if k<2/\0<v then (.mk 1 (zar L (a+1) v) [] [],a+1+1)
  else if k<3 then (.mk 2 0 [(zaq L 3 2 3 (a+1)).1] [],(zaq L 3 2 3 (a+1)).2)
  else if k<4 then (.mk 3 (zar L (a+1) 4) (zfh L (zar L (a+1+1) 3).toNat (a+1+1+1)).1 [],(zfh L (zar L (a+1+1) 3).toNat (a+1+1+1)).2)
  else
   let x:=zey L d v (a+1)
   if k<7 then (.mk 4 0 [] [x.1,(zey L d v x.2).1],(zey L d v x.2).2)
   else if k<9 then (.mk 5 0 [] [x.1,(zey L d (v+1) x.2).1],(zey L d (v+1) x.2).2)
   else if k<11 then (.mk 6 0 [] [x.1,(zey L d (v+1) x.2).1],(zey L d (v+1) x.2).2)
   else (.mk 7 0 [] [x.1,(zey L d v x.2).1,(zey L d (v+1) (zey L d v x.2).2).1],(zey L d (v+1) (zey L d v x.2).2).2)
theorem zw7(L:List Int):∀(i:Nat) (a:Int),a<=(zfh L i a).2/\(zfh L i a).2<=a+7*i
 |0,a=>by simp[zfh]
 |i+1,a=>by
  have h1:=zdq L 3 2 2 a;have h2:=zw7 L i (zaq L 3 2 2 a).2;rw[zfh];simp at h1 ⊢;omega
theorem znb{L:List Int}(hL:zbp L):∀(d:Nat) (v a:Int),a<=(zey L d v a).2/\(zey L d v a).2<=a+40*4 ^ d
 |0,v,a=>by simp[zey];omega
 |d+1,v,a=>by
  have hp:(4:Int) ^ (d+1)=4*4 ^ d:=by rw[Int.pow_succ];omega
  have hq:(1:Int)<=4 ^ d:=Int.pow_pos (by decide)
  have h1:=zdq L 3 2 3 (a+1);have h2:=zas hL (a+1+1) (n:=3) (by omega)
  have h3:=zw7 L (zar L (a+1+1) 3).toNat (a+1+1+1);have h4:=znb hL d v (a+1);have h5:=znb hL d v (zey L d v (a+1)).2;have h6:=znb hL d (v+1) (zey L d v (a+1)).2;have h7:=znb hL d (v+1) (zey L d v (zey L d v (a+1)).2).2;simp only[Int.reducePow,Nat.reduceAdd]at h1;rw[zey];dsimp only
  repeat' split
  all_goals (try dsimp only) <;> constructor <;> omega
theorem z1q(a:List Lv)(x:Lv):Lv.css a++[x.cs]=Lv.css (a++[x]):=by rw[z5g];rfl
theorem zuz(L:List Int)(hL:zbp L)(hlen:L.length<=140737488355328)(id:Nat)(H:List AO)(hid:id<H.length)(a0 n:Int)(v6:List AV):∀(i:Nat) (done:List Lv) (a:Int),i<=10->done.length+i<=100->0<=a/\a+7*i<=600000 ->
  zi6 (H.set id (mkr L a0)) ((H++[AO.lst 0 3 [],.lst 0 4 [],.lst done.length 3 (Lv.css done),.lst 0 4 [],.lst 0 3 [],.lst 0 4 []]).set id (mkr L a)) (.ptr id 0) (.int .i64 (i:Int)) [.int .i64 0,.int .i64 0,.ol H.length 0,.ol (H.length+1) 0] [.int .i64 3,.int .i64 n,.ol (H.length+2) done.length,.ol (H.length+3) 0]
   = some (.ret (.agg (Te.mk 3 n (done++(zfh L i a).1) []).cs),H.set id (mkr L (zfh L i a).2)):=by
 intro i
 induction i with
 |zero=>
  intro done a hi hdl ha;rw[zi6,zab,zfh];simp only[↓reduceIte,go_sem,Int.natCast_zero,zcm,zbi hid,zbj hid,zbg hid,zbh hid,List.length_set,hid,zcl hid,Te.cs,Te.css]
 |succ i ih=>
  intro done a hi hdl ha;have h1:=zdq L 3 2 2 a;simp only[Int.reducePow,Nat.reduceAdd]at h1;have hl:F zad [.ptr id 0,.int .i64 3,.int .i64 2,.int .i64 2] ((H++[AO.lst 0 3 [],.lst 0 4 [],.lst done.length 3 (Lv.css done),.lst 0 4 [],.lst 0 3 [],.lst 0 4 []]).set id (mkr L a))=_:=zix L hL hlen 3 2 (by omega) (by omega) 1 (by omega) a (by simp;omega) id (H++[AO.lst 0 3 [],.lst 0 4 [],.lst done.length 3 (Lv.css done),.lst 0 4 [],.lst 0 3 [],.lst 0 4 []]) (by simp;omega)
  have:=ih (done++[(zaq L 3 2 2 a).1]) (zaq L 3 2 2 a).2 (by omega) (by simp;omega) (by omega)
  simp only[zfk,List.append_assoc,List.cons_append,List.nil_append]at this;have hc:((i+1:Nat):Int) - 1=(i:Int):=by omega
  have hp:(0:Int)<((i+1:Nat):Int):=by omega
  have hdl2:done.length<=1073741823:=by omega
  rw[zi6,zab,zfh];simp only[↓reduceIte,go_sem,hp,hl,hc,zal (n:=(i:Int)) (by omega) (by omega),z1q,hdl2,zcm,zbi hid,zbj hid,zbg hid,zbh hid,List.length_set,hid,Nat.reduceAdd]
  exact this
theorem term_ok(L:List Int)(hL:zbp L)(hlen:L.length<=140737488355328):∀(d:Nat),d<=6->∀(v:Int),0<=v/\v+d<=100->∀(a:Int),0<=a/\a+40*4 ^ (d+1)<=500000->∀(id:Nat) (H:List AO),id<H.length ->
  F zde [.ptr id 0,.int .i64 v,.int .i64 ((d:Int)+1)] (H.set id (mkr L a))=some (.ret (.agg (zey L (d+1) v a).1.cs),H.set id (mkr L (zey L (d+1) v a).2)):=by
 intro d
 induction d with
 |zero=>
  intro hd v hv a ha id H hid;simp at ha;have hid2:∀X:List AO,id<(H++X).length:=fun X=>by simp;omega
  have hP0:=zbw L hL hlen a (by omega) 12 (by omega) id (H++[AO.lst 0 3 [],.lst 0 4 []]) (hid2 _) (by omega)
  have hPv:=zbw L hL hlen (a+1) (by omega) v (by omega) id (H++[AO.lst 0 3 [],.lst 0 4 []]) (hid2 _)
  have hP4:=zbw L hL hlen (a+1) (by omega) 4 (by omega) id (H++[AO.lst 0 3 [],.lst 0 4 []]) (hid2 _) (by omega)
  have hP3:=zbw L hL hlen (a+1+1) (by omega) 3 (by omega) id (H++[AO.lst 0 3 [],.lst 0 4 [],.lst 0 3 [],.lst 0 4 [],.lst 0 3 [],.lst 0 4 []]) (hid2 _) (by omega)
  have hl:F zad [.ptr id 0,.int .i64 3,.int .i64 2,.int .i64 3] ((H++[AO.lst 0 3 [],.lst 0 4 []]).set id (mkr L (a+1)))=_:=zix L hL hlen 3 2 (by omega) (by omega) 2 (by omega) (a+1) (by simp;omega) id (H++[AO.lst 0 3 [],.lst 0 4 []]) (hid2 _)
  have hr3:=zas hL (a+1+1) (n:=3) (by omega)
  have hlo:=zuz L hL hlen id H hid a (zar L (a+1) 4) [] (zar L (a+1+1) 3).toNat [] (a+1+1+1) (by omega) (by simp;omega) (by omega)
  simp only[Int.toNat_of_nonneg hr3.1,List.length_nil,List.nil_append,Lv.css]at hlo;have hk:=zas hL a (n:=12) (by omega)
  rw[zsx,zey];generalize zar L a 12=k0 at *;have h4:¬ (4:Int)=0:=by decide
  have h5:((0:Nat):Int)+1<2:=by decide
  have h6:k0.tmod 4<4:=by
   rw[Int.tmod_eq_emod_of_nonneg hk.1];exact Int.emod_lt_of_pos _ (by omega)
  generalize hk4:k0.tmod 4=k at *;have hc:(k<2/\0<v)\/(k<2/\¬ 0<v/\k<3)\/(¬ k<2/\k<3)\/(¬ k<2/\¬ k<3/\k<4):=by omega
  rcases hc with⟨h7,h8⟩|⟨h7,h8,h9⟩|⟨h7,h8⟩|⟨h7,h8,h9⟩
  ·simp only[↓reduceIte,go_sem,zcm,zbi hid,zbj hid,zbg hid,zbh hid,List.length_set,hid,zbl,zcl hid,hP0,hPv,hP4,hP3,hl,hk4,h4,h5,h7,h8,zeb,zcd,and_self,true_and]
  ·simp only[↓reduceIte,go_sem,zcm,zbi hid,zbj hid,zbg hid,zbh hid,List.length_set,hid,zbl,zcl hid,hP0,hPv,hP4,hP3,hl,hk4,h4,h5,h7,h8,h9,zeb,zcd,and_self,and_false]
  ·simp only[↓reduceIte,go_sem,zcm,zbi hid,zbj hid,zbg hid,zbh hid,List.length_set,hid,zbl,zcl hid,hP0,hPv,hP4,hP3,hl,hk4,h4,h5,h7,h8,zeb,zcd,and_self,false_and]
  ·simp only[↓reduceIte,go_sem,zcm,zbi hid,zbj hid,zbg hid,zbh hid,List.length_set,hid,zbl,zcl hid,hP0,hPv,hP4,hP3,hl,hk4,h4,h5,h7,h8,h9,zeb,zcd,and_self,false_and]
   exact hlo
 |succ d ih=>
  intro hd v hv a ha id H hid;have hpw:(4:Int) ^ (d+1+1)=4*4 ^ (d+1):=by rw[Int.pow_succ];omega
  have hpw2:(4:Int) ^ (d+1)=4*4 ^ d:=by rw[Int.pow_succ];omega
  have hq:(1:Int)<=4 ^ d:=Int.pow_pos (by decide)
  have hid2:∀X:List AO,id<(H++X).length:=fun X=>by simp;omega
  have hP0:=zbw L hL hlen a (by omega) 12 (by omega) id (H++[AO.lst 0 3 [],.lst 0 4 []]) (hid2 _) (by omega)
  have hPv:=zbw L hL hlen (a+1) (by omega) v (by omega) id (H++[AO.lst 0 3 [],.lst 0 4 []]) (hid2 _)
  have hP4:=zbw L hL hlen (a+1) (by omega) 4 (by omega) id (H++[AO.lst 0 3 [],.lst 0 4 []]) (hid2 _) (by omega)
  have hP3:=zbw L hL hlen (a+1+1) (by omega) 3 (by omega) id (H++[AO.lst 0 3 [],.lst 0 4 [],.lst 0 3 [],.lst 0 4 [],.lst 0 3 [],.lst 0 4 []]) (hid2 _) (by omega)
  have hl:F zad [.ptr id 0,.int .i64 3,.int .i64 2,.int .i64 3] ((H++[AO.lst 0 3 [],.lst 0 4 []]).set id (mkr L (a+1)))=_:=zix L hL hlen 3 2 (by omega) (by omega) 2 (by omega) (a+1) (by simp;omega) id (H++[AO.lst 0 3 [],.lst 0 4 []]) (hid2 _)
  have hr3:=zas hL (a+1+1) (n:=3) (by omega)
  have hlo:=zuz L hL hlen id H hid a (zar L (a+1) 4) [] (zar L (a+1+1) 3).toNat [] (a+1+1+1) (by omega) (by simp;omega) (by omega)
  simp only[Int.toNat_of_nonneg hr3.1,List.length_nil,List.nil_append,Lv.css]at hlo;have hk:=zas hL a (n:=12) (by omega)
  have hT1:=znb hL (d+1) v (a+1);have hT2:=znb hL (d+1) v (zey L (d+1) v (a+1)).2;have hC1:=fun Y:List AO=>ih (by omega) v (by omega) (a+1) (by omega) id (H++Y) (hid2 _)
  have hC2:=fun Y:List AO=>ih (by omega) v (by omega) (zey L (d+1) v (a+1)).2 (by omega) id (H++Y) (hid2 _)
  have hC3:=fun Y:List AO=>ih (by omega) (v+1) (by omega) (zey L (d+1) v (a+1)).2 (by omega) id (H++Y) (hid2 _)
  have hC4:=fun Y:List AO=>ih (by omega) (v+1) (by omega) (zey L (d+1) v (zey L (d+1) v (a+1)).2).2 (by omega) id (H++Y) (hid2 _)
  have hd1:((d+1:Nat):Int)+1 - 1=(d:Int)+1:=by omega
  have hw1:IntKind.i64.wrap ((d:Int)+1)=(d:Int)+1:=zal (by omega) (by omega)
  have hw2:IntKind.i64.wrap (v+1)=v+1:=zal (by omega) (by omega)
  rw[zsx,zey];generalize zar L a 12=k at *;have h4:¬ (4:Int)=0:=by decide
  have h5:¬ ((d+1:Nat):Int)+1<2:=by omega
  have h6:¬ d+1=0:=by omega
  have hc:(k<2/\0<v)\/(k<2/\¬ 0<v/\k<3)\/(¬ k<2/\k<3)\/(¬ k<2/\¬ k<3/\k<4)\/(¬ k<2/\¬ k<3/\¬ k<4/\k<7)\/(¬ k<2/\¬ k<3/\¬ k<4/\¬ k<7/\k<9)\/(¬ k<2/\¬ k<3/\¬ k<4/\¬ k<7/\¬ k<9/\k<11)\/(¬ k<2/\¬ k<3/\¬ k<4/\¬ k<7/\¬ k<9/\¬ k<11):=by omega
  rcases hc with⟨h7,h8⟩|⟨h7,h8,h9⟩|⟨h7,h8⟩|⟨h7,h8,h9⟩|⟨h7,h8,h9,h10⟩|⟨h7,h8,h9,h10,h11⟩|⟨h7,h8,h9,h10,h11,h12⟩|⟨h7,h8,h9,h10,h11,h12⟩
  ·simp only[↓reduceIte,go_sem,zcm,zbi hid,zbj hid,zbg hid,zbh hid,List.length_set,hid,zbl,zcl hid,hP0,hPv,hP4,hP3,hl,h4,h5,h6,h7,h8,zeb,zcd,and_self,true_and]
  ·simp only[↓reduceIte,go_sem,zcm,zbi hid,zbj hid,zbg hid,zbh hid,List.length_set,hid,zbl,zcl hid,hP0,hPv,hP4,hP3,hl,h4,h5,h6,h7,h8,h9,zeb,zcd,and_self,and_false]
  ·simp only[↓reduceIte,go_sem,zcm,zbi hid,zbj hid,zbg hid,zbh hid,List.length_set,hid,zbl,zcl hid,hP0,hPv,hP4,hP3,hl,h4,h5,h6,h7,h8,zeb,zcd,and_self,false_and]
  ·simp only[↓reduceIte,go_sem,zcm,zbi hid,zbj hid,zbg hid,zbh hid,List.length_set,hid,zbl,zcl hid,hP0,hPv,hP4,hP3,hl,h4,h5,h6,h7,h8,h9,zeb,zcd,and_self,false_and]
   exact hlo
  ·simp only[↓reduceIte,go_sem,zcm,zbi hid,zbj hid,zbg hid,zbh hid,List.length_set,hid,zbl,zcl hid,hP0,hPv,hP4,hP3,hl,h4,h5,h6,h7,h8,h9,h10,hd1,hw1,hw2,hC1,hC2,hC3,hC4,zd1,zso,zsn,and_self,false_and]
  ·simp only[↓reduceIte,go_sem,zcm,zbi hid,zbj hid,zbg hid,zbh hid,List.length_set,hid,zbl,zcl hid,hP0,hPv,hP4,hP3,hl,h4,h5,h6,h7,h8,h9,h10,h11,hd1,hw1,hw2,hC1,hC2,hC3,hC4,zd1,zso,zsn,and_self,false_and]
  ·simp only[↓reduceIte,go_sem,zcm,zbi hid,zbj hid,zbg hid,zbh hid,List.length_set,hid,zbl,zcl hid,hP0,hPv,hP4,hP3,hl,h4,h5,h6,h7,h8,h9,h10,h11,h12,hd1,hw1,hw2,hC1,hC2,hC3,hC4,zd1,zso,zsn,and_self,false_and]
  ·simp only[↓reduceIte,go_sem,zcm,zbi hid,zbj hid,zbg hid,zbh hid,List.length_set,hid,zbl,zcl hid,hP0,hPv,hP4,hP3,hl,h4,h5,h6,h7,h8,h9,h10,h11,h12,hd1,hw1,hw2,hC1,hC2,hC3,hC4,zd1,zso,zsn,and_self,false_and]
end Go.Ab
end
section
set_option linter.unusedVariables false
set_option linter.unusedSimpArgs false
set_option maxRecDepth 100000
set_option maxHeartbeats 2000000
namespace Go.Ab
open Go.RowKit Go.Proofs
theorem zhm(L:List Int)(p m:Int):∀(d:Nat) (a:Int),(zaq L p m d a).1.ok
 |0,a=>by rw[zaq];simp[zum]
 |d+1,a=>by
  have h:=zhm L p m d;rw[zaq]
  repeat' split
  all_goals simp[zum,h]
theorem zo6(L:List Int):∀(i:Nat) (a:Int),(zfh L i a).1.length=i/\∀x∈(zfh L i a).1,x.ok
 |0,a=>by simp[zfh]
 |i+1,a=>by
  have h:=zo6 L i;rw[zfh];refine⟨by simp[h],?_⟩
  intro x hx;simp at hx;rcases hx with rfl|hx
  ·exact zhm _ _ _ _ _
  ·exact (h _).2 x hx
theorem ztg{L:List Int}(hL:zbp L):∀(d:Nat) (v a:Int),(zey L d v a).1.ok
 |0,v,a=>by rw[zey];simp[zjf]
 |d+1,v,a=>by
  have h:=fun v a=>ztg hL d v a
  have h3:=zo6 L (zar L (a+1+1) 3).toNat (a+1+1+1);have h2:=zas hL (a+1+1) (n:=3) (by omega)
  rw[zey];dsimp only
  repeat' split
  all_goals simp[zjf,h,zhm]
  all_goals exact⟨by omega,h3.2⟩
end Go.Ab
end
section
set_option linter.unusedVariables false
set_option linter.unusedSimpArgs false
set_option maxRecDepth 100000
set_option maxHeartbeats 4000000
namespace Go.Ab
open Go.RowKit Go.Proofs
def zgc(L:List Int)(p:Int):Nat->Int->List Lv×Int
 |0,a=>([],a)
 |i+1,a=>((zaq L p 0 2 a).1::(zgc L p i (zaq L p 0 2 a).2).1,(zgc L p i (zaq L p 0 2 a).2).2)
def za0(L:List Int)(c p:Int):Nat->Int->Int->Te×Int
 |0,v,a=>(.mk 1 0 [] [],a)
 |d+1,v,a=>
  let k0:=zar L a 12
  let k:=if d=0 then k0.tmod 5 else k0
  if k<2/\0<v then (.mk 1 (zar L (a+1) v) [] [],a+1+1)
  else if k<4/\0<c then (.mk 3 (zar L (a+1) c) (zgc L p (zar L (a+1+1) 3).toNat (a+1+1+1)).1 [],(zgc L p (zar L (a+1+1) 3).toNat (a+1+1+1)).2)
  else if k<5 then (.mk 2 0 [(zaq L p 0 2 (a+1)).1] [],(zaq L p 0 2 (a+1)).2)
  else
   let x:=za0 L c p d v (a+1)
   if k<8 then (.mk 4 0 [] [x.1,(za0 L c p d v x.2).1],(za0 L c p d v x.2).2)
   else if k<10 then (.mk 5 0 [] [x.1,(za0 L c p d (v+1) x.2).1],(za0 L c p d (v+1) x.2).2)
   else if k<11 then (.mk 6 0 [] [x.1,(za0 L c p d (v+1) x.2).1],(za0 L c p d (v+1) x.2).2)
   else (.mk 7 0 [] [x.1,(za0 L c p d v x.2).1,(za0 L c p d (v+1) (za0 L c p d v x.2).2).1],(za0 L c p d (v+1) (za0 L c p d v x.2).2).2)
theorem zw9(L:List Int)(p:Int):∀(i:Nat) (a:Int),a<=(zgc L p i a).2/\(zgc L p i a).2<=a+7*i
 |0,a=>by simp[zgc]
 |i+1,a=>by
  have h1:=zdq L p 0 2 a;have h2:=zw9 L p i (zaq L p 0 2 a).2;rw[zgc];simp at h1 ⊢;omega
theorem ziu{L:List Int}(c p:Int)(hL:zbp L):∀(d:Nat) (v a:Int),a<=(za0 L c p d v a).2/\(za0 L c p d v a).2<=a+40*4 ^ d
 |0,v,a=>by simp[za0];omega
 |d+1,v,a=>by
  have hp:(4:Int) ^ (d+1)=4*4 ^ d:=by rw[Int.pow_succ];omega
  have hq:(1:Int)<=4 ^ d:=Int.pow_pos (by decide)
  have h1:=zdq L p 0 2 (a+1);have h2:=zas hL (a+1+1) (n:=3) (by omega)
  have h3:=zw9 L p (zar L (a+1+1) 3).toNat (a+1+1+1);have h4:=ziu c p hL d v (a+1);have h5:=ziu c p hL d v (za0 L c p d v (a+1)).2;have h6:=ziu c p hL d (v+1) (za0 L c p d v (a+1)).2;have h7:=ziu c p hL d (v+1) (za0 L c p d v (za0 L c p d v (a+1)).2).2;simp only[Int.reducePow,Nat.reduceAdd]at h1;rw[za0];dsimp only
  repeat' split
  all_goals (try dsimp only) <;> constructor <;> omega
theorem zss(p:Int)(hp0:0<=p/\p<=100)(L:List Int)(hL:zbp L)(hlen:L.length<=140737488355328)(id:Nat)(H:List AO)(hid:id<H.length)(a0 n:Int):∀(i:Nat) (done:List Lv) (a:Int),i<=10->done.length+i<=100->0<=a/\a+7*i<=600000 ->
  zgp (H.set id (mkr L a0)) ((H++[AO.lst 0 3 [],.lst 0 4 [],.lst done.length 3 (Lv.css done),.lst 0 4 [],.lst 0 3 [],.lst 0 4 []]).set id (mkr L a)) (.ptr id 0) (.int .i64 p) (.int .i64 (i:Int)) [.int .i64 0,.int .i64 0,.ol H.length 0,.ol (H.length+1) 0] [.int .i64 3,.int .i64 n,.ol (H.length+2) done.length,.ol (H.length+3) 0]
   = some (.ret (.agg (Te.mk 3 n (done++(zgc L p i a).1) []).cs),H.set id (mkr L (zgc L p i a).2)):=by
 intro i
 induction i with
 |zero=>
  intro done a hi hdl ha;rw[zgp,zab,zgc];simp only[↓reduceIte,go_sem,Int.natCast_zero,zcm,zbi hid,zbj hid,zbg hid,zbh hid,List.length_set,hid,zcl hid,Te.cs,Te.css]
 |succ i ih=>
  intro done a hi hdl ha;have h1:=zdq L p 0 2 a;simp only[Int.reducePow,Nat.reduceAdd]at h1;have hl:F zad [.ptr id 0,.int .i64 p,.int .i64 0,.int .i64 2] ((H++[AO.lst 0 3 [],.lst 0 4 [],.lst done.length 3 (Lv.css done),.lst 0 4 [],.lst 0 3 [],.lst 0 4 []]).set id (mkr L a))=_:=zix L hL hlen p 0 hp0 (by omega) 1 (by omega) a (by simp;omega) id (H++[AO.lst 0 3 [],.lst 0 4 [],.lst done.length 3 (Lv.css done),.lst 0 4 [],.lst 0 3 [],.lst 0 4 []]) (by simp;omega)
  have:=ih (done++[(zaq L p 0 2 a).1]) (zaq L p 0 2 a).2 (by omega) (by simp;omega) (by omega)
  simp only[zfk,List.append_assoc,List.cons_append,List.nil_append]at this;have hc:((i+1:Nat):Int) - 1=(i:Int):=by omega
  have hp:(0:Int)<((i+1:Nat):Int):=by omega
  have hdl2:done.length<=1073741823:=by omega
  rw[zgp,zab,zgc];simp only[↓reduceIte,go_sem,hp,hl,hc,zal (n:=(i:Int)) (by omega) (by omega),z1q,hdl2,zcm,zbi hid,zbj hid,zbg hid,zbh hid,List.length_set,hid,Nat.reduceAdd]
  exact this
theorem z26(c p:Int)(hc0:0<=c/\c<=100)(hp0:0<=p/\p<=100)(L:List Int)(hL:zbp L)(hlen:L.length<=140737488355328):∀(d:Nat),d<=6->∀(v:Int),0<=v/\v+d<=100->∀(a:Int),0<=a/\a+40*4 ^ (d+1)<=500000->∀(id:Nat) (H:List AO),id<H.length ->
  F zba [.ptr id 0,.int .i64 c,.int .i64 p,.int .i64 v,.int .i64 ((d:Int)+1)] (H.set id (mkr L a))=some (.ret (.agg (za0 L c p (d+1) v a).1.cs),H.set id (mkr L (za0 L c p (d+1) v a).2)):=by
 intro d
 induction d with
 |zero=>
  intro hd v hv a ha id H hid;simp at ha;have hid2:∀X:List AO,id<(H++X).length:=fun X=>by simp;omega
  have hP0:=zbw L hL hlen a (by omega) 12 (by omega) id (H++[AO.lst 0 3 [],.lst 0 4 []]) (hid2 _) (by omega)
  have hPv:=zbw L hL hlen (a+1) (by omega) v (by omega) id (H++[AO.lst 0 3 [],.lst 0 4 []]) (hid2 _)
  have hP4:=zbw L hL hlen (a+1) (by omega) c (by omega) id (H++[AO.lst 0 3 [],.lst 0 4 []]) (hid2 _)
  have hP3:=zbw L hL hlen (a+1+1) (by omega) 3 (by omega) id (H++[AO.lst 0 3 [],.lst 0 4 [],.lst 0 3 [],.lst 0 4 [],.lst 0 3 [],.lst 0 4 []]) (hid2 _) (by omega)
  have hl:F zad [.ptr id 0,.int .i64 p,.int .i64 0,.int .i64 2] ((H++[AO.lst 0 3 [],.lst 0 4 []]).set id (mkr L (a+1)))=_:=zix L hL hlen p 0 hp0 (by omega) 1 (by omega) (a+1) (by simp;omega) id (H++[AO.lst 0 3 [],.lst 0 4 []]) (hid2 _)
  have hr3:=zas hL (a+1+1) (n:=3) (by omega)
  have hlo:=zss p hp0 L hL hlen id H hid a (zar L (a+1) c) (zar L (a+1+1) 3).toNat [] (a+1+1+1) (by omega) (by simp;omega) (by omega)
  simp only[Int.toNat_of_nonneg hr3.1,List.length_nil,List.nil_append,Lv.css]at hlo;have hk:=zas hL a (n:=12) (by omega)
  rw[zpv,za0];generalize zar L a 12=k0 at *;have h4:¬ (5:Int)=0:=by decide
  have h5:((0:Nat):Int)+1<2:=by decide
  have h6:k0.tmod 5<5:=by
   rw[Int.tmod_eq_emod_of_nonneg hk.1];exact Int.emod_lt_of_pos _ (by omega)
  generalize hk4:k0.tmod 5=k at *;have h9:k<5:=h6;by_cases h7:k<2 <;> by_cases h8:0<v <;> by_cases h10:k<4 <;> by_cases h11:0<c
  all_goals first
   |omega
   |(simp only[↓reduceIte,go_sem,zcm,zbi hid,zbj hid,zbg hid,zbh hid,List.length_set,hid,zbl,zcl hid,hP0,hPv,hP4,hP3,hl,hk4,h4,h5,h7,h8,h9,h10,h11,zeb,zcd,and_self,and_false,false_and,true_and,if_true,if_false];done)
   |(simp only[↓reduceIte,go_sem,zcm,zbi hid,zbj hid,zbg hid,zbh hid,List.length_set,hid,zbl,zcl hid,hP0,hPv,hP4,hP3,hl,hk4,h4,h5,h7,h8,h9,h10,h11,zeb,zcd,and_self,and_false,false_and,true_and,if_true,if_false];exact hlo)
 |succ d ih=>
  intro hd v hv a ha id H hid;have hpw:(4:Int) ^ (d+1+1)=4*4 ^ (d+1):=by rw[Int.pow_succ];omega
  have hpw2:(4:Int) ^ (d+1)=4*4 ^ d:=by rw[Int.pow_succ];omega
  have hq:(1:Int)<=4 ^ d:=Int.pow_pos (by decide)
  have hid2:∀X:List AO,id<(H++X).length:=fun X=>by simp;omega
  have hP0:=zbw L hL hlen a (by omega) 12 (by omega) id (H++[AO.lst 0 3 [],.lst 0 4 []]) (hid2 _) (by omega)
  have hPv:=zbw L hL hlen (a+1) (by omega) v (by omega) id (H++[AO.lst 0 3 [],.lst 0 4 []]) (hid2 _)
  have hP4:=zbw L hL hlen (a+1) (by omega) c (by omega) id (H++[AO.lst 0 3 [],.lst 0 4 []]) (hid2 _)
  have hP3:=zbw L hL hlen (a+1+1) (by omega) 3 (by omega) id (H++[AO.lst 0 3 [],.lst 0 4 [],.lst 0 3 [],.lst 0 4 [],.lst 0 3 [],.lst 0 4 []]) (hid2 _) (by omega)
  have hl:F zad [.ptr id 0,.int .i64 p,.int .i64 0,.int .i64 2] ((H++[AO.lst 0 3 [],.lst 0 4 []]).set id (mkr L (a+1)))=_:=zix L hL hlen p 0 hp0 (by omega) 1 (by omega) (a+1) (by simp;omega) id (H++[AO.lst 0 3 [],.lst 0 4 []]) (hid2 _)
  have hr3:=zas hL (a+1+1) (n:=3) (by omega)
  have hlo:=zss p hp0 L hL hlen id H hid a (zar L (a+1) c) (zar L (a+1+1) 3).toNat [] (a+1+1+1) (by omega) (by simp;omega) (by omega)
  simp only[Int.toNat_of_nonneg hr3.1,List.length_nil,List.nil_append,Lv.css]at hlo;have hk:=zas hL a (n:=12) (by omega)
  have hT1:=ziu c p hL (d+1) v (a+1);have hT2:=ziu c p hL (d+1) v (za0 L c p (d+1) v (a+1)).2;have hC1:=fun Y:List AO=>ih (by omega) v (by omega) (a+1) (by omega) id (H++Y) (hid2 _)
  have hC2:=fun Y:List AO=>ih (by omega) v (by omega) (za0 L c p (d+1) v (a+1)).2 (by omega) id (H++Y) (hid2 _)
  have hC3:=fun Y:List AO=>ih (by omega) (v+1) (by omega) (za0 L c p (d+1) v (a+1)).2 (by omega) id (H++Y) (hid2 _)
  have hC4:=fun Y:List AO=>ih (by omega) (v+1) (by omega) (za0 L c p (d+1) v (za0 L c p (d+1) v (a+1)).2).2 (by omega) id (H++Y) (hid2 _)
  have hd1:((d+1:Nat):Int)+1 - 1=(d:Int)+1:=by omega
  have hw1:IntKind.i64.wrap ((d:Int)+1)=(d:Int)+1:=zal (by omega) (by omega)
  have hw2:IntKind.i64.wrap (v+1)=v+1:=zal (by omega) (by omega)
  rw[zpv,za0];generalize zar L a 12=k at *;have h4:¬ (5:Int)=0:=by decide
  have h5:¬ ((d+1:Nat):Int)+1<2:=by omega
  have h6:¬ d+1=0:=by omega
  by_cases h9:k<5
  ·by_cases h7:k<2 <;> by_cases h8:0<v <;> by_cases h10:k<4 <;> by_cases h11:0<c
   all_goals first
    |omega
    |(simp only[↓reduceIte,go_sem,zcm,zbi hid,zbj hid,zbg hid,zbh hid,List.length_set,hid,zbl,zcl hid,hP0,hPv,hP4,hP3,hl,h4,h5,h6,h7,h8,h9,h10,h11,zeb,zcd,and_self,and_false,false_and,true_and,if_true,if_false];done)
    |(simp only[↓reduceIte,go_sem,zcm,zbi hid,zbj hid,zbg hid,zbh hid,List.length_set,hid,zbl,zcl hid,hP0,hPv,hP4,hP3,hl,h4,h5,h6,h7,h8,h9,h10,h11,zeb,zcd,and_self,and_false,false_and,true_and,if_true,if_false];exact hlo)
  ·have h7:¬ k<2:=by omega
   have h8:¬ k<4:=by omega
   have h10:k<8\/¬ k<8/\k<10\/¬ k<8/\¬ k<10/\k<11\/¬ k<8/\¬ k<10/\¬ k<11:=by omega
   rcases h10 with h10|⟨h10,h11⟩|⟨h10,h11,h12⟩|⟨h10,h11,h12⟩
   ·simp only[↓reduceIte,go_sem,zcm,zbi hid,zbj hid,zbg hid,zbh hid,List.length_set,hid,zbl,zcl hid,hP0,hPv,hP4,hP3,hl,h4,h5,h6,h7,h8,h9,h10,hd1,hw1,hw2,hC1,hC2,hC3,hC4,zd1,zso,zsn,zeb,zcd,and_self,and_false,false_and,true_and,if_true,if_false]
   ·simp only[↓reduceIte,go_sem,zcm,zbi hid,zbj hid,zbg hid,zbh hid,List.length_set,hid,zbl,zcl hid,hP0,hPv,hP4,hP3,hl,h4,h5,h6,h7,h8,h9,h10,h11,hd1,hw1,hw2,hC1,hC2,hC3,hC4,zd1,zso,zsn,zeb,zcd,and_self,and_false,false_and,true_and,if_true,if_false]
   ·simp only[↓reduceIte,go_sem,zcm,zbi hid,zbj hid,zbg hid,zbh hid,List.length_set,hid,zbl,zcl hid,hP0,hPv,hP4,hP3,hl,h4,h5,h6,h7,h8,h9,h10,h11,h12,hd1,hw1,hw2,hC1,hC2,hC3,hC4,zd1,zso,zsn,zeb,zcd,and_self,and_false,false_and,true_and,if_true,if_false]
   ·simp only[↓reduceIte,go_sem,zcm,zbi hid,zbj hid,zbg hid,zbh hid,List.length_set,hid,zbl,zcl hid,hP0,hPv,hP4,hP3,hl,h4,h5,h6,h7,h8,h9,h10,h11,h12,hd1,hw1,hw2,hC1,hC2,hC3,hC4,zd1,zso,zsn,zeb,zcd,and_self,and_false,false_and,true_and,if_true,if_false]
end Go.Ab
end
section
set_option linter.unusedVariables false
set_option linter.unusedSimpArgs false
set_option maxRecDepth 100000
set_option maxHeartbeats 4000000
namespace Go.Ab
open Go.RowKit Go.Proofs
def con1(L:List Int)(p:Int)(a:Int):Co×Int:=(.mk (zaq L p 0 2 a).1 (zaq L p 0 2 (zaq L p 0 2 a).2).1,(zaq L p 0 2 (zaq L p 0 2 a).2).2)
def zl3(L:List Int):List Co×Int:=if 1<zar L 1 3 then ([(con1 L (zar L 0 3) 2).1],(con1 L (zar L 0 3) 2).2) else ([],2)
def zwj(L:List Int)(c:Int):De×Int :=
 let p:=zar L 0 3
 let t:=za0 L c p 3 0 (zl3 L).2
 if 0<zar L t.2 3 then (.mk p (zl3 L).1 t.1 true (za0 L c p 4 0 (t.2+1)).1,(za0 L c p 4 0 (t.2+1)).2)
 else (.mk p (zl3 L).1 t.1 false zeroT,t.2+1)
theorem decl_ok(L:List Int)(hL:zbp L)(hlen:L.length<=140737488355328)(c:Int)(hc:0<=c/\c<=100)(id:Nat)(H:List AO)(hid:id<H.length):
  F zke [.ptr id 0,.int .i64 c] (H.set id (mkr L 0))=some (.ret (.agg (zwj L c).1.cs),H.set id (mkr L (zwj L c).2)):=by
 have hid2:∀X:List AO,id<(H++X).length:=fun X=>by simp;omega
 have hp:=zas hL 0 (n:=3) (by omega)
 have hi:=zas hL 1 (n:=3) (by omega)
 have hK:2<=(zl3 L).2/\(zl3 L).2<=100:=by
  unfold zl3
  split
  ·have h1:=zdq L (zar L 0 3) 0 2 2
   have h2:=zdq L (zar L 0 3) 0 2 (zaq L (zar L 0 3) 0 2 2).2;simp only[Int.reducePow,Nat.reduceAdd]at h1 h2;simp only[con1];omega
  ·simp
 have hP0:=fun Y=>zbw L hL hlen 0 (by omega) 3 (by omega) id (H++Y) (hid2 _) (by omega)
 have hP1:=fun Y=>zbw L hL hlen 1 (by omega) 3 (by omega) id (H++Y) (hid2 _) (by omega)
 have hl1:∀Y,F zad [.ptr id 0,.int .i64 (zar L 0 3),.int .i64 0,.int .i64 2] ((H++Y).set id (mkr L 2))=_:=fun Y=>zix L hL hlen (zar L 0 3) 0 (by omega) (by omega) 1 (by omega) 2 (by simp) id (H++Y) (hid2 _)
 have hlv:=zdq L (zar L 0 3) 0 2 2;simp only[Int.reducePow,Nat.reduceAdd]at hlv;have hl2:∀Y,F zad [.ptr id 0,.int .i64 (zar L 0 3),.int .i64 0,.int .i64 2] ((H++Y).set id (mkr L (zaq L (zar L 0 3) 0 2 2).2))=_:=fun Y=>zix L hL hlen (zar L 0 3) 0 (by omega) (by omega) 1 (by omega) _ (by simp;omega) id (H++Y) (hid2 _)
 have hT:∀Y,F zba [.ptr id 0,.int .i64 c,.int .i64 (zar L 0 3),.int .i64 0,.int .i64 3] ((H++Y).set id (mkr L (zl3 L).2))=some (.ret (.agg (za0 L c (zar L 0 3) 3 0 (zl3 L).2).1.cs),(H++Y).set id (mkr L (za0 L c (zar L 0 3) 3 0 (zl3 L).2).2)):=fun Y=>z26 c (zar L 0 3) hc (by omega) L hL hlen 2 (by omega) 0 (by omega) (zl3 L).2 (by omega) id (H++Y) (hid2 _)
 have ha:=ziu c (zar L 0 3) hL 3 0 (zl3 L).2;simp only[Int.reducePow]at ha;have hP3:=fun Y=>zbw L hL hlen (za0 L c (zar L 0 3) 3 0 (zl3 L).2).2 (by omega) 3 (by omega) id (H++Y) (hid2 _) (by omega)
 have hV:∀Y,F zba [.ptr id 0,.int .i64 c,.int .i64 (zar L 0 3),.int .i64 0,.int .i64 4] ((H++Y).set id (mkr L ((za0 L c (zar L 0 3) 3 0 (zl3 L).2).2+1)))=some (.ret (.agg (za0 L c (zar L 0 3) 4 0 ((za0 L c (zar L 0 3) 3 0 (zl3 L).2).2+1)).1.cs),(H++Y).set id (mkr L (za0 L c (zar L 0 3) 4 0 ((za0 L c (zar L 0 3) 3 0 (zl3 L).2).2+1)).2)):=fun Y=>z26 c (zar L 0 3) hc (by omega) L hL hlen 3 (by omega) 0 (by omega) _ (by omega) id (H++Y) (hid2 _)
 rw[zwj];generalize za0 L c (zar L 0 3) 3 0 (zl3 L).2=q at *;generalize za0 L c (zar L 0 3) 4 0 (q.2+1)=r at *;rcases q with⟨⟨k1,n1,ls1,ks1⟩,b1⟩;rcases r with⟨⟨k2,n2,ls2,ks2⟩,b2⟩;simp only[Te.cs]at hT hV hP3;rw[z2q];have hcs:∀(x y:Lv) (u v w z o k:AV),over [u,v,w,z,o,k] 0 x.cs=x.cs++[z,o,k]:=by intro x y;intros;rcases x with⟨_,_,_⟩;rfl
 have hcs2:∀(x y:Lv) (u v w:AV),over (x.cs++[u,v,w]) 3 y.cs=x.cs++y.cs:=by intro x y;intros;rcases x with⟨_,_,_⟩;rcases y with⟨_,_,_⟩;rfl
 by_cases h1:1<zar L 1 3
 ·have h2:zar L 1 3=2:=by omega
  simp only[zl3,con1,if_pos h1]at hT ⊢;generalize hx:zaq L (zar L 0 3) 0 2 2=x at *;generalize hy:zaq L (zar L 0 3) 0 2 x.2=y at *;rcases x with⟨⟨k3,n3,ks3⟩,b3⟩;rcases y with⟨⟨k4,n4,ks4⟩,b4⟩;simp only[Lv.cs]at hl1 hl2;by_cases h3:0<zar L b1 3
  ·rw[if_pos h3]
   simp only[↓reduceIte,go_sem,zcm,zbi hid,zbj hid,zbg hid,zbh hid,List.length_set,hid,zbl,zcl hid,hP0,hP1,hP3,hT,hV,hl1,hl2,hcs,hcs2,Lv.cs,h2,h3,show ((1:Int)<2) from by decide,show ¬ ((1:Int)<1) from by decide,show IntKind.i64.wrap 1=1 from by decide,Nat.add_le_add_iff_left,Nat.reduceLeDiff,De.cs,De.p,De.cons,De.type,De.has,De.value,Co.css,Co.cs,Co.a,Co.b,Te.cs,zeroT,Lv.css,Te.css,List.map_cons,List.map_nil,List.cons_append,List.nil_append]
   rw[zei,zab];simp only[↓reduceIte,go_sem,zcm,zbi hid,zbj hid,zbg hid,zbh hid,List.length_set,hid,zbl,zcl hid,hP0,hP1,hP3,hT,hV,hl1,hl2,hcs,hcs2,Lv.cs,h2,h3,show ((1:Int)<2) from by decide,show ¬ ((1:Int)<1) from by decide,show IntKind.i64.wrap 1=1 from by decide,Nat.add_le_add_iff_left,Nat.reduceLeDiff,De.cs,De.p,De.cons,De.type,De.has,De.value,Co.css,Co.cs,Co.a,Co.b,Te.cs,zeroT,Lv.css,Te.css,List.map_cons,List.map_nil,List.cons_append,List.nil_append]
   rw[zei,zab];simp only[↓reduceIte,go_sem,zcm,zbi hid,zbj hid,zbg hid,zbh hid,List.length_set,hid,zbl,zcl hid,hP0,hP1,hP3,hT,hV,hl1,hl2,hcs,hcs2,Lv.cs,h2,h3,show ((1:Int)<2) from by decide,show ¬ ((1:Int)<1) from by decide,show IntKind.i64.wrap 1=1 from by decide,Nat.add_le_add_iff_left,Nat.reduceLeDiff,De.cs,De.p,De.cons,De.type,De.has,De.value,Co.css,Co.cs,Co.a,Co.b,Te.cs,zeroT,Lv.css,Te.css,List.map_cons,List.map_nil,List.cons_append,List.nil_append]
  ·rw[if_neg h3]
   simp only[↓reduceIte,go_sem,zcm,zbi hid,zbj hid,zbg hid,zbh hid,List.length_set,hid,zbl,zcl hid,hP0,hP1,hP3,hT,hV,hl1,hl2,hcs,hcs2,Lv.cs,h2,h3,show ((1:Int)<2) from by decide,show ¬ ((1:Int)<1) from by decide,show IntKind.i64.wrap 1=1 from by decide,Nat.add_le_add_iff_left,Nat.reduceLeDiff,De.cs,De.p,De.cons,De.type,De.has,De.value,Co.css,Co.cs,Co.a,Co.b,Te.cs,zeroT,Lv.css,Te.css,List.map_cons,List.map_nil,List.cons_append,List.nil_append]
   rw[zei,zab];simp only[↓reduceIte,go_sem,zcm,zbi hid,zbj hid,zbg hid,zbh hid,List.length_set,hid,zbl,zcl hid,hP0,hP1,hP3,hT,hV,hl1,hl2,hcs,hcs2,Lv.cs,h2,h3,show ((1:Int)<2) from by decide,show ¬ ((1:Int)<1) from by decide,show IntKind.i64.wrap 1=1 from by decide,Nat.add_le_add_iff_left,Nat.reduceLeDiff,De.cs,De.p,De.cons,De.type,De.has,De.value,Co.css,Co.cs,Co.a,Co.b,Te.cs,zeroT,Lv.css,Te.css,List.map_cons,List.map_nil,List.cons_append,List.nil_append]
   rw[zei,zab];simp only[↓reduceIte,go_sem,zcm,zbi hid,zbj hid,zbg hid,zbh hid,List.length_set,hid,zbl,zcl hid,hP0,hP1,hP3,hT,hV,hl1,hl2,hcs,hcs2,Lv.cs,h2,h3,show ((1:Int)<2) from by decide,show ¬ ((1:Int)<1) from by decide,show IntKind.i64.wrap 1=1 from by decide,Nat.add_le_add_iff_left,Nat.reduceLeDiff,De.cs,De.p,De.cons,De.type,De.has,De.value,Co.css,Co.cs,Co.a,Co.b,Te.cs,zeroT,Lv.css,Te.css,List.map_cons,List.map_nil,List.cons_append,List.nil_append]
 ·simp only[zl3,if_neg h1]at hT ⊢
  have h2:True:=trivial;by_cases h3:0<zar L b1 3
  ·rw[if_pos h3]
   simp only[↓reduceIte,go_sem,zcm,zbi hid,zbj hid,zbg hid,zbh hid,List.length_set,hid,zbl,zcl hid,hP0,hP1,hP3,hT,hV,h1,h3,De.cs,De.p,De.cons,De.type,De.has,De.value,Co.css,Co.cs,Co.a,Co.b,Te.cs,zeroT,Lv.css,Te.css,List.map_cons,List.map_nil,List.cons_append,List.nil_append];rw[zei,zab];simp only[↓reduceIte,go_sem,zcm,zbi hid,zbj hid,zbg hid,zbh hid,List.length_set,hid,zbl,zcl hid,hP0,hP1,hP3,hT,hV,h1,h3,De.cs,De.p,De.cons,De.type,De.has,De.value,Co.css,Co.cs,Co.a,Co.b,Te.cs,zeroT,Lv.css,Te.css,List.map_cons,List.map_nil,List.cons_append,List.nil_append]
  ·rw[if_neg h3]
   simp only[↓reduceIte,go_sem,zcm,zbi hid,zbj hid,zbg hid,zbh hid,List.length_set,hid,zbl,zcl hid,hP0,hP1,hP3,hT,hV,h1,h3,De.cs,De.p,De.cons,De.type,De.has,De.value,Co.css,Co.cs,Co.a,Co.b,Te.cs,zeroT,Lv.css,Te.css,List.map_cons,List.map_nil,List.cons_append,List.nil_append];rw[zei,zab];simp only[↓reduceIte,go_sem,zcm,zbi hid,zbj hid,zbg hid,zbh hid,List.length_set,hid,zbl,zcl hid,hP0,hP1,hP3,hT,hV,h1,h3,De.cs,De.p,De.cons,De.type,De.has,De.value,Co.css,Co.cs,Co.a,Co.b,Te.cs,zeroT,Lv.css,Te.css,List.map_cons,List.map_nil,List.cons_append,List.nil_append]
theorem zpg{H:List AO}{x y:AO}:(H++[x]).set H.length y=H++[y]:=by simp
theorem yia(L:List Int)(hL:zbp L)(hlen:L.length<=140737488355328)(c:Int)(hc:0<=c/\c<=100)(X:List AO):
  F zke [.ptr X.length 0,.int .i64 c] (X++[mkr L 0])=some (.ret (.agg (zwj L c).1.cs),X++[mkr L (zwj L c).2]):=by
 have:=decl_ok L hL hlen c hc X.length (X++[mkr L 0]) (by simp)
 rwa [zpg,zpg]at this
def z84:List (List Int)->Nat->List De
 |[],_=>[]
 |l::r,i=>if i<4 then (zwj l i).1::z84 r (i+1) else []
def yjn(l:List (List Int)):List (List AV):=l.map fun l=>[.sl (u8s l)]
def BsOk(l:List (List Int)):Prop:=l.length<=140737488355328/\∀x∈l,x.length<=140737488355328/\zbp x
theorem yfy(l:List (List Int))(i:Nat):(yjn l)[i]?=l[i]?.map fun l=>[AV.sl (u8s l)]:=by simp[yjn]
theorem zx1(l:List (List Int)):(yjn l).length=l.length:=by simp[yjn]
theorem z87(a:List De)(x:De):De.css a++[x.cs]=De.css (a++[x]):=by simp[De.css]
theorem env_ok(l:List (List Int))(hl:BsOk l)(H:List AO):F zof [.sl (yjn l)] H=some (.ret (.sl (De.css (z84 l 0))),H):=by
 have loop:∀(suf pre:List (List Int)) (done:List De) (J:List AO),l=pre++suf->done.length=pre.length->pre.length<=4 ->
   zh4 H (H++(.lst 0 11 [] :: .lst done.length 11 (De.css done)::J)) (.sl (yjn l)) (.ol (H.length+1) done.length) (.int .i64 pre.length)=some (.ret (.sl (De.css (done++z84 suf pre.length))),H):=by
  intro suf
  induction suf with
  |nil=>
   intro pre done J e hd hp;have hn:¬ (pre.length:Int)<l.length:=by rw[e];simp
   rw[zh4,zab,z84,List.append_nil];simp only[↓reduceIte,go_sem,zx1,hn]
  |cons x suf ih=>
   intro pre done J e hd hp;have hn:(pre.length:Int)<l.length:=by rw[e];simp;omega
   rw[z84];by_cases h4:pre.length<4
   ·have hg:l[pre.length]?=some x:=by rw[e];simp
    obtain⟨hx1,hx2⟩:=hl.2 x (by rw[e];simp)
    have hD:=yia x hx2 hx1 pre.length (by omega) (H++(.lst 0 11 [] :: .lst done.length 11 (De.css done)::J))
    have:=ih (pre++[x]) (done++[(zwj x pre.length).1]) (J++[mkr x (zwj x pre.length).2]) (by rw[e];simp) (by simp[hd]) (by simp;omega)
    simp only[zaf,List.length_append,List.length_cons,List.length_nil,List.append_assoc,List.cons_append,List.nil_append,Nat.zero_add]at this hD;rw[zh4,zab,if_pos h4];have h0:AO.box [.sl (u8s x),.int .i64 0]=mkr x 0:=rfl;simp only[↓reduceIte,go_sem,zx1,yfy,hn,h4,show (pre.length:Int)<4 by omega,hg,h0,hD,z87,show done.length<=1073741823 by omega,zac (n:=pre.length) (by omega)]
    exact this
   ·rw[zh4,zab,if_neg h4,List.append_nil]
    simp only[↓reduceIte,go_sem,zx1,hn,show ¬ (pre.length:Int)<4 by omega]
 have:=loop l [] [] [] rfl rfl (by simp)
 simp only[List.length_nil,Int.natCast_zero,List.nil_append,De.css,List.map_nil]at this;rw[z5b];simp only[↓reduceIte,go_sem,this,De.css]
end Go.Ab
end
section
set_option linter.unusedVariables false
set_option linter.unusedSimpArgs false
set_option maxRecDepth 100000
set_option maxHeartbeats 4000000
namespace Go.Ab
open Go.RowKit Go.Proofs
theorem zw8(L:List Int)(p:Int):∀(i:Nat) (a:Int),(zgc L p i a).1.length=i/\∀x∈(zgc L p i a).1,x.ok
 |0,a=>by simp[zgc]
 |i+1,a=>by
  have h:=zw8 L p i;rw[zgc];refine⟨by simp[h],?_⟩
  intro x hx;simp at hx;rcases hx with rfl|hx
  ·exact zhm _ _ _ _ _
  ·exact (h _).2 x hx
theorem zpd{L:List Int}(hL:zbp L)(c p:Int):∀(d:Nat) (v a:Int),(za0 L c p d v a).1.ok
 |0,v,a=>by rw[za0];simp[zjf]
 |d+1,v,a=>by
  have h:=fun v a=>zpd hL c p d v a
  have h3:=zw8 L p (zar L (a+1+1) 3).toNat (a+1+1+1);have h2:=zas hL (a+1+1) (n:=3) (by omega)
  rw[za0];dsimp only
  repeat' split
  all_goals simp[zjf,h,zhm]
  all_goals exact⟨by omega,h3.2⟩
theorem yib{L:List Int}(hL:zbp L)(c:Int):(zwj L c).1.ok:=by
 have hk:(zl3 L).1.length<=140737488355328/\∀x∈(zl3 L).1,x.ok:=by
  unfold zl3
  split
  ·refine⟨by simp,?_⟩
   intro x hx;simp at hx;subst hx;exact⟨zhm _ _ _ _ _,zhm _ _ _ _ _⟩
  ·exact⟨by simp,by intro x hx;cases hx⟩
 rw[zwj]
 split
 ·exact⟨hk.1,hk.2,zpd hL _ _ _ _ _,zpd hL _ _ _ _ _⟩
 ·exact⟨hk.1,hk.2,zpd hL _ _ _ _ _,yfv⟩
theorem z69:∀(l:List (List Int)) (i:Nat),(z84 l i).length<=l.length
 |[],_=>by simp[z84]
 |x::r,i=>by
  have:=z69 r (i+1);rw[z84];split <;> simp <;> omega
theorem ydu:∀(l:List (List Int)) (i:Nat),(∀x∈l,x.length<=140737488355328/\zbp x)->∀d∈z84 l i,d.ok
 |[],_,_,d,hd=>by simp[z84]at hd
 |x::r,i,h,d,hd=>by
  rw[z84]at hd
  split at hd
  ·rcases List.mem_cons.1 hd with rfl|hd
   ·exact yib (h x (by simp)).2 _
   ·exact ydu r (i+1) (fun y hy=>h y (by simp[hy])) d hd
  ·cases hd
theorem yh5{l:List (List Int)}(hl:BsOk l):z1j (z84 l 0):=⟨Nat.le_trans (z69 l 0) hl.1,ydu l 0 hl.2⟩
end Go.Ab
end
section
set_option linter.unusedVariables false
set_option linter.unusedSimpArgs false
namespace Go.Ab
open Go.RowKit Go.Proofs
mutual
theorem right_mono{p m:Int}:∀(t:Te) {v d v' d':Int},rightT p m t v d=true->v<=v' -> d<=d' -> rightT p m t v' d' = true
 |.mk k n ls ks,v,d,v',d',h,hv,hd=>by
  obtain⟨h1,h2,h3,h4,h5⟩:=zca h;have h6:zdc k n ls v' = true:=by
   unfold zdc at h4 ⊢
   split at h4
   ·rename_i e;rw[if_pos e];simp at h4 ⊢;refine⟨⟨h4.1.1,by omega⟩,h4.2⟩
   ·rename_i e;rw[if_neg e];exact h4
  rw[rightT,if_neg (by omega),if_neg (by simpa using h2),if_neg (by rw[h3,h6];simp),rights_mono ks h5 hv (by omega)]
theorem rights_mono{p m k:Int}:∀(ks:List Te) {i v d v' d':Int},rightTs p m k ks i v d=true->v<=v' -> d<=d' -> rightTs p m k ks i v' d' = true
 |[],_,_,_,_,_,_,_,_=>rfl
 |x::r,i,v,d,v',d',h,hv,hd=>by
  rw[rightTs,Bool.and_eq_true]at h;rw[rightTs,right_mono x h.1 (by omega) hd,rights_mono r h.2 hv hd];rfl
end
mutual
theorem right_lift{p m b:Int}(hb:0<=b):∀(t:Te) {v d:Int} (f:Int),rightT p m t v d=true->rightT p m (liftT b t f) (v+b) d=true
 |.mk k n ls ks,v,d,f,h=>by
  obtain⟨h1,h2,h3,h4,h5⟩:=zca h;have h6:zdc k (if k=1/\f<=n then n+b else n) ls (v+b)=true:=by
   by_cases e:k=1
   ·subst e
    obtain⟨a1,a2,rfl⟩:=zmn h4;unfold zdc;rw[if_pos rfl]
    split <;> simp <;> omega
   ·rw[if_neg (by omega)]
    unfold zdc at h4 ⊢;rw[if_neg e]at h4 ⊢;exact h4
  rw[liftT,rightT,if_neg (by omega),if_neg (by rw[zrw];simpa using h2),if_neg (by rw[h3,h6];simp),rights_lift hb ks f h5]
theorem rights_lift{p m b k:Int}(hb:0<=b):∀(ks:List Te) {i v d:Int} (f:Int),rightTs p m k ks i v d=true->rightTs p m k (liftTs b k ks i f) i (v+b) d=true
 |[],_,_,_,_,_=>rfl
 |x::r,i,v,d,f,h=>by
  rw[rightTs,Bool.and_eq_true]at h;have:=right_lift hb x (f+binds k i) h.1;rw[show v+binds k i+b=v+b+binds k i by omega]at this
  rw[liftTs,rightTs,this,rights_lift hb r f h.2];rfl
end
mutual
theorem right_open{p m du:Int}{u:Te}:∀(t:Te) {v d f:Int},rightT p m t (v+1) d=true->0<=f->f<=v->rightT p m u (v - f) du=true->rightT p m (openT u t f) v (d+du)=true
 |.mk k n ls ks,v,d,f,h,hf,hv,hu=>by
  obtain⟨h1,h2,h3,h4,h5⟩:=zca h;have hdu:1<=du:=by cases u;exact (zca hu).1
  by_cases e:k=1/\n=f
  ·rw[openT,if_pos e]
   have:=right_lift hf u 0 hu;rw[show v - f+f=v by omega]at this
   exact right_mono _ this (by omega) (by omega)
  ·have h6:zdc k (if k=1/\f<n then n - 1 else n) ls v=true:=by
    by_cases e1:k=1
    ·subst e1
     obtain⟨a1,a2,rfl⟩:=zmn h4;unfold zdc;rw[if_pos rfl];have:n≠f:=fun x=>e ⟨rfl,x⟩
     split <;> simp <;> omega
    ·rw[if_neg (by omega)]
     unfold zdc at h4 ⊢;rw[if_neg e1]at h4 ⊢;exact h4
   rw[openT,if_neg e,rightT,if_neg (by omega),if_neg (by rw[zrq];simpa using h2),if_neg (by rw[h3,h6];simp)]
   have:=rights_open ks h5 hf hv hu;rw[show d - 1+du=d+du - 1 by omega]at this
   exact this
theorem rights_open{p m du k:Int}{u:Te}:∀(ks:List Te) {i v d f:Int},rightTs p m k ks i (v+1) d=true->0<=f->f<=v->rightT p m u (v - f) du=true->rightTs p m k (openTs u k ks i f) i v (d+du)=true
 |[],_,_,_,_,_,_,_,_=>rfl
 |x::r,i,v,d,f,h,hf,hv,hu=>by
  have hb:=zle k i;rw[rightTs,Bool.and_eq_true]at h;have h1:=h.1;rw[show v+1+binds k i=v+binds k i+1 by omega]at h1
  have:=right_open x (f:=f+binds k i) h1 (by omega) (by omega) (by rw[show v+binds k i - (f+binds k i)=v - f by omega];exact hu)
  rw[openTs,rightTs,this,rights_open r h.2 hf hv hu];rfl
end
end Go.Ab
end
section
set_option linter.unusedVariables false
set_option linter.unusedSimpArgs false
set_option maxRecDepth 100000
set_option maxHeartbeats 2000000
namespace Go.Ab
open Go.RowKit Go.Proofs
mutual
def lsz:Lv->Nat
 |.mk _ _ ks=>1+lszs ks
def lszs:List Lv->Nat
 |[]=>0
 |x::r=>lsz x+lszs r
end
mutual
theorem nodes_lsz:∀(l:Lv) (most:Int),nodes l most<=lsz l
 |.mk _ _ ks,most=>by
  have:=nodes_lszs ks most 1;rw[nodes,lsz];omega
theorem nodes_lszs:∀(ks:List Lv) (most n:Int),nodesL ks most n<=n+lszs ks
 |[],_,n=>by rw[nodesL,lszs];omega
 |x::r,most,n=>by
  have h1:=nodes_lsz x (most - n);have h2:=nodes_lszs r most (n+nodes x (most - n));rw[nodesL,lszs]
  split <;> omega
end
theorem z1o(L:List Int)(p m:Int):∀(d:Nat) (a:Int),lsz (zaq L p m d a).1+1<=2 ^ (d+1)
 |0,a=>by simp[zaq,lsz,lszs]
 |d+1,a=>by
  have h:=z1o L p m d;have hp:2 ^ (d+1+1)=2*2 ^ (d+1):=by rw[Nat.pow_succ];omega
  have h1:=h (a+1);have h2:=h (zaq L p m d (a+1)).2;rw[zaq]
  repeat' split
  all_goals (try dsimp only) <;> simp only[lsz,lszs] <;> omega
theorem zst{L:List Int}(hL:zbp L){p m P M:Int}(hp:p<=P)(hm:m<=M):∀(d:Nat) (a e:Int),d+1<=e->rightB P M (zaq L p m d a).1 e=true
 |0,a,e,he=>by rw[zaq];simp[rightB,rightsB,zfr];omega
 |d+1,a,e,he=>by
  have h:=fun a=>zst hL hp hm d a (e - 1) (by omega)
  rw[zaq];have e1:¬ e<1:=by omega
  have p1:0<p->0<=zar L (a+1) p/\zar L (a+1) p<p:=fun h=>zas hL _ h
  have p2:0<m->0<=zar L (a+1) m/\zar L (a+1) m<m:=fun h=>zas hL _ h
  repeat' split
  all_goals simp[rightB,rightsB,zfr,h,e1]
  all_goals omega
theorem zni{L:List Int}(hL:zbp L){p m:Int}(hp:p<=5)(hm:m<=10)(d:Nat)(hd:d<=5)(a:Int):zam (zaq L p m d a).1 5 10=true:=by
 have h1:=zst hL hp hm d a 12 (by omega)
 have h2:=z1o L p m d a;have h3:=nodes_lsz (zaq L p m d a).1 101;have h4:2 ^ (d+1)<=2 ^ 6:=Nat.pow_le_pow_right (by omega) (by omega)
 unfold zam;simp[h1];omega
theorem zlw{L:List Int}(hL:zbp L):∀(i:Nat) (a:Int),(zfh L i a).1.all (fun x=>zam x 5 10)=true
 |0,a=>rfl
 |i+1,a=>by
  rw[zfh];simp only[List.all_cons,zni hL (show (3:Int)<=5 by omega) (show (2:Int)<=10 by omega) 2 (by omega) a,zlw hL i,Bool.and_self]
theorem zt9{L:List Int}(hL:zbp L):∀(d:Nat) (v a:Int),0<=v->rightT 5 10 (zey L (d+1) v a).1 v (d+1)=true:=by
 intro d
 induction d with
 |zero=>
  intro v a hv;have hl:=zni hL (show (3:Int)<=5 by omega) (show (2:Int)<=10 by omega) 3 (by omega) (a+1)
  have hls:=zlw hL (zar L (a+1+1) 3).toNat (a+1+1+1);have hln:=(zo6 L (zar L (a+1+1) 3).toNat (a+1+1+1)).1;have hp3:=zas hL (a+1+1) (n:=3) (by omega)
  have hp4:=zas hL (a+1) (n:=4) (by omega)
  have hpv:0<v->0<=zar L (a+1) v/\zar L (a+1) v<v:=fun h=>zas hL _ h
  have hk:=zas hL a (n:=12) (by omega)
  rw[zey];dsimp only;rw[if_pos rfl];generalize zar L a 12=k0 at *;have hk4:k0.tmod 4<4:=by rw[Int.tmod_eq_emod_of_nonneg hk.1];omega
  generalize k0.tmod 4=k at *
  split
  ·rename_i h;simp[rightT,rightTs,zdr,zdc];exact hpv h.2
  split
  ·simp[rightT,rightTs,zdr,zdc,hl]
  ·simp[rightT,rightTs,zdr,zdc,hln];exact⟨by simpa using hls,by omega⟩
 |succ d ih=>
  intro v a hv;have hl:=zni hL (show (3:Int)<=5 by omega) (show (2:Int)<=10 by omega) 3 (by omega) (a+1)
  have hls:=zlw hL (zar L (a+1+1) 3).toNat (a+1+1+1);have hln:=(zo6 L (zar L (a+1+1) 3).toNat (a+1+1+1)).1;have hp3:=zas hL (a+1+1) (n:=3) (by omega)
  have hp4:=zas hL (a+1) (n:=4) (by omega)
  have hpv:0<v->0<=zar L (a+1) v/\zar L (a+1) v<v:=fun h=>zas hL _ h
  have i1:=fun a=>ih v a hv
  have i2:=fun a=>ih (v+1) a (by omega)
  have hd:¬ (((d+1:Nat):Int)+1<1):=by omega
  have hd':¬ ((d:Int)+1+1<1):=by omega
  have hd2:((d+1:Nat):Int)+1 - 1=(d:Int)+1:=by omega
  rw[zey];dsimp only;rw[if_neg (show ¬ (d+1=0) by omega)]
  generalize zar L a 12=k at *
  split
  ·rename_i h;simp[rightT,rightTs,zdr,zdc,hd,hd'];exact hpv h.2
  split
  ·simp[rightT,rightTs,zdr,zdc,hl,hd,hd']
  split
  ·simp[rightT,rightTs,zdr,zdc,hln,hd,hd'];exact⟨by simpa using hls,by omega⟩
  split
  ·simp only[rightT,rightTs,zdr,zdc,hd,hd2];simp[binds,i1,i2]
  split
  ·simp only[rightT,rightTs,zdr,zdc,hd,hd2];simp[binds,i1,i2]
  split
  ·simp only[rightT,rightTs,zdr,zdc,hd,hd2];simp[binds,i1,i2]
  ·simp only[rightT,rightTs,zdr,zdc,hd,hd2];simp[binds,i1,i2]
end Go.Ab
end
section
set_option linter.unusedVariables false
set_option linter.unusedSimpArgs false
set_option maxRecDepth 100000
set_option maxHeartbeats 4000000
namespace Go.Ab
open Go.RowKit Go.Proofs
def yig(L:List Int)(p a:Int):Co×Int:=(.mk (zaq L p 0 3 a).1 (zaq L p 0 3 (zaq L p 0 3 a).2).1,(zaq L p 0 3 (zaq L p 0 3 a).2).2)
def zsf(L:List Int)(p:Int):Nat->Int->List Co×Int
 |0,a=>([],a)
 |i+1,a=>((yig L p a).1::(zsf L p i (yig L p a).2).1,(zsf L p i (yig L p a).2).2)
theorem conS_at(L:List Int)(p a:Int):a<=(yig L p a).2/\(yig L p a).2<=a+30:=by
 have h1:=zdq L p 0 3 a;have h2:=zdq L p 0 3 (zaq L p 0 3 a).2;simp only[Int.reducePow,Nat.reduceAdd]at h1 h2;unfold yig;dsimp only;omega
theorem z23(L:List Int)(p:Int):∀(i:Nat) (a:Int),(zsf L p i a).1.length=i
 |0,a=>rfl
 |i+1,a=>by rw[zsf];simp[z23 L p i]
theorem z7a(L:List Int)(p:Int):∀(i:Nat) (a:Int),∀c∈(zsf L p i a).1,c.ok
 |0,a,c,hc=>by cases hc
 |i+1,a,c,hc=>by
  rw[zsf]at hc;rcases List.mem_cons.1 hc with rfl|hc
  ·exact⟨zhm _ _ _ _ _,zhm _ _ _ _ _⟩
  ·exact z7a L p i _ c hc
theorem z9d(a:List Co)(x:Co):Co.css a++[x.cs]=Co.css (a++[x]):=by simp[Co.css]
theorem cons_ok(L:List Int)(hL:zbp L)(hlen:L.length<=140737488355328)(p:Int)(hp:0<=p/\p<=100)(most:Int)(hm:0<=most/\most<=90)(a:Int)(ha:0<=a/\a<=900000)(id:Nat)(H:List AO)(hid:id<H.length):
  F zms [.ptr id 0,.int .i64 p,.int .i64 most] (H.set id (mkr L a))=some (.ret (.sl (Co.css (zsf L p (zar L a (most+1)).toNat (a+1)).1)),H.set id (mkr L (zsf L p (zar L a (most+1)).toNat (a+1)).2)):=by
 have hid2:∀X:List AO,id<(H++X).length:=fun X=>by simp;omega
 have hcs:∀(x:Lv) (u v w z o k:AV),over [u,v,w,z,o,k] 0 x.cs=x.cs++[z,o,k]:=by intro x;intros;rcases x with⟨_,_,_⟩;rfl
 have hcs2:∀(x y:Lv) (u v w:AV),over (x.cs++[u,v,w]) 3 y.cs=x.cs++y.cs:=by intro x y;intros;rcases x with⟨_,_,_⟩;rcases y with⟨_,_,_⟩;rfl
 have hp1:=zas hL a (n:=most+1) (by omega)
 have hP:=fun Y=>zbw L hL hlen a (by omega) (most+1) (by omega) id (H++Y) (hid2 _) (by omega)
 have e0:Co.css []=[]:=rfl;have loop:∀(i:Nat),i<=100->∀(b:Int),0<=b/\b+30*i<=950000->∀(done:List Co) (ver:Nat),done.length+i<=1000 ->
   zi7 (H.set id (mkr L a)) ((H++[AO.lst 0 6 [],AO.lst ver 6 (Co.css done)]).set id (mkr L b)) (.ptr id 0) (.int .i64 p) (.ol (H.length+1) ver) (.int .i64 i)=some (.ret (.sl (Co.css (done++(zsf L p i b).1))),H.set id (mkr L (zsf L p i b).2)):=by
  intro i
  induction i with
  |zero=>
   intro _ b hb done ver hd;rw[zi7,zab,zsf,List.append_nil];simp only[↓reduceIte,go_sem,zcm,zbi hid,zbj hid,zbg hid,zbh hid,List.length_set,hid,zbl,zcl hid,Int.natCast_zero,show ¬ (0:Int)<0 by decide]
   exact if_pos (.sl (zpc _ done))
  |succ i ih=>
   intro hi b hb done ver hd;have h1:=zdq L p 0 3 b;have h2:=zdq L p 0 3 (zaq L p 0 3 b).2;simp only[Int.reducePow,Nat.reduceAdd]at h1 h2;have hl1:∀Y,F zad [.ptr id 0,.int .i64 p,.int .i64 0,.int .i64 3] ((H++Y).set id (mkr L b))=_:=fun Y=>zix L hL hlen p 0 (by omega) (by omega) 2 (by omega) b ⟨by omega,by simp only[Int.reducePow,Nat.reduceAdd];omega⟩ id (H++Y) (hid2 _)
   have hl2:∀Y,F zad [.ptr id 0,.int .i64 p,.int .i64 0,.int .i64 3] ((H++Y).set id (mkr L (zaq L p 0 3 b).2))=_:=fun Y=>zix L hL hlen p 0 (by omega) (by omega) 2 (by omega) _ ⟨by omega,by simp only[Int.reducePow,Nat.reduceAdd];omega⟩ id (H++Y) (hid2 _)
   have hc:=conS_at L p b;have:=ih (by omega) (yig L p b).2 (by omega) (done++[(yig L p b).1]) (ver+1) (by simp;omega)
   rw[zsf];unfold yig at this ⊢;dsimp only at this ⊢;generalize hx:zaq L p 0 3 b=x at *;generalize hy:zaq L p 0 3 x.2=y at *;rcases x with⟨⟨k3,n3,ks3⟩,b3⟩;rcases y with⟨⟨k4,n4,ks4⟩,b4⟩;rw[<- z9d]at this;simp only[Nat.reduceAdd,Lv.cs,hx,hy,Co.cs,Co.a,Co.b,List.cons_append,List.nil_append,List.append_assoc]at hl1 hl2 this;rw[zi7,zab];simp only[↓reduceIte,go_sem,zcm,zbi hid,zbj hid,zbg hid,zbh hid,List.length_set,hid,zbl,zcl hid,hl1,hl2,hcs,hcs2,Lv.cs,show (0:Int)<((i+1:Nat):Int) by omega,show IntKind.i64.wrap (((i+1:Nat):Int) - 1)=(i:Int) by rw[zal (by omega) (by omega)];omega,show done.length<=1073741823 by omega,List.cons_append,List.nil_append,this]
 have:=loop (zar L a (most+1)).toNat (by omega) (a+1) (by omega) [] 0 (by simp;omega)
 rw[show ((zar L a (most+1)).toNat:Int)=zar L a (most+1) by omega]at this
 simp only[e0,List.nil_append,zcm hid]at this;rw[z2t];simp only[↓reduceIte,go_sem,zcm,zbi hid,zbj hid,zbg hid,zbh hid,List.length_set,hid,zbl,zcl hid,hP,zal (n:=most+1) (by omega) (by omega),this]
def zk5(l:List (List Int))(k:List Int)(ga:Bool):Gr:=⟨z84 l 0,3,if ga then 2 else 0,(zsf k 3 (zar k 0 3).toNat 1).1,if ga then 2 else 1⟩
theorem z8q{l:List (List Int)}(hl:BsOk l){k:List Int}(hk:zbp k)(ga:Bool):okG (zk5 l k ga):=by
 refine⟨yh5 hl,?_,z7a _ _ _ _⟩;have:=zas hk 0 (n:=3) (by omega)
 simp only[zk5,z23];omega
theorem yda(l:List (List Int))(hl:BsOk l)(k:List Int)(hk:zbp k)(hlen:k.length<=140737488355328)(ga:Bool)(H:List AO):
  F zjj [.sl (yjn l),.sl (u8s k),.bool ga] H=some (.ret (.agg (zk5 l k ga).cs),H):=by
 have hE:=fun H=>env_ok l hl H
 have h0:AO.box [.sl (u8s k),.int .i64 0]=mkr k 0:=rfl;have hC:=cons_ok k hk hlen 3 (by omega) 2 (by omega) 0 (by omega) H.length (H++[mkr k 0]) (by simp)
 rw[zpg,zpg]at hC;simp only[show (2:Int)+1=3 from rfl,show (0:Int)+1=1 from rfl]at hC
 rw[zwf];cases ga
 ·simp only[↓reduceIte,go_sem,hE,h0,hC,Gr.cs,zk5,Bool.false_eq_true]
  exact if_pos (.agg (gr_lt _ (zk5 l k false)))
 ·simp only[↓reduceIte,go_sem,hE,h0,hC,Gr.cs,zk5]
  exact if_pos (.agg (gr_lt _ (zk5 l k true)))
mutual
def unkB:Lv->Bool
 |.mk k n ks=>unkBs ks || decide (k=6)
def unkBs:List Lv->Bool
 |[]=>false
 |x::r=>unkB x || unkBs r
end
theorem z7v(l:Lv):l.ok->∀(H:List AO),F zf1 [.agg l.cs] H=some (.ret (.bool (unkB l)),H):=by
 induction l using Lv.ind with
 |h k n ks ih=>
 intro hl H;have hlen:=hl.len;have loop:∀(suf pre:List Lv),ks=pre++suf->zf9 H H (.int .i64 pre.length) [.int .i64 k,.int .i64 n,.sl (Lv.css ks)]=some (.ret (.bool (unkBs suf || decide (k=6))),H):=by
  intro suf
  induction suf with
  |nil=>
   intro pre e;subst e;rw[zf9,zab];simp only[↓reduceIte,go_sem,unkBs,Bool.false_or]
  |cons x suf ih2=>
   intro pre e;subst e;simp at hlen;have:=ih2 (pre++[x]) (by simp)
   simp only[zaf]at this;have hx:=fun H=>ih x (by simp) (hl.all x (by simp)) H
   rw[zf9,zab,unkBs]
   cases hu:unkB x <;> rw[hu]at hx
   ·simp only[↓reduceIte,go_sem,hx,zac (n:=pre.length) (by omega),this,Bool.false_or]
   ·simp only[↓reduceIte,go_sem,hx,Bool.true_or]
 have:=loop ks [] rfl;simp only[List.length_nil,Int.natCast_zero]at this;rw[zvh,unkB];simp only[↓reduceIte,go_sem,Lv.cs,this]
mutual
def smT:Te->Bool
 |.mk k n ls ks=>decide (ls.length<=100) && decide (ks.length<=100) && smTs ks
def smTs:List Te->Bool
 |[]=>true
 |x::r=>smT x && smTs r
end
theorem zx6:∀{ks:List Te},smTs ks=true->∀x∈ks,smT x=true
 |y::r,h,x,hx=>by
  rw[smTs,Bool.and_eq_true]at h;rcases List.mem_cons.1 hx with rfl|hx
  ·exact h.1
  ·exact zx6 h.2 x hx
mutual
theorem right_sm{p m:Int}:∀{t:Te} {v d:Int},rightT p m t v d=true->smT t=true
 |.mk k n ls ks,v,d,h=>by
  obtain⟨h1,h2,h3,h4,h5⟩:=zca h;have:=zq0 k;rw[smT,right_sms h5,Bool.and_true];have:ls.length<=100:=by
   unfold zdc at h4
   split at h4
   ·simp at h4;simp[h4.2]
   split at h4
   ·simp at h4;omega
   split at h4
   ·simp at h4;omega
   ·simp at h4;simp[h4.2]
  simp only[Bool.and_eq_true,decide_eq_true_eq];omega
theorem right_sms{p m k:Int}:∀{ks:List Te} {i v d:Int},rightTs p m k ks i v d=true->smTs ks=true
 |[],_,_,_,_=>rfl
 |x::r,i,v,d,h=>by
  rw[rightTs]at h;simp at h;rw[smTs,right_sm h.1,right_sms h.2];rfl
end
mutual
def plainT(z:Lv):Te->Te
 |.mk k n ls ks=>.mk k n (ls.map fun x=>if unkB x=true then z else x) (plainTs z ks)
def plainTs(z:Lv):List Te->List Te
 |[]=>[]
 |x::r=>plainT z x::plainTs z r
end
theorem zp6(z:Lv):∀ks:List Te,(plainTs z ks).length=ks.length
 |[]=>rfl
 |x::r=>by rw[plainTs];simp[zp6 z r]
mutual
theorem plain_sm(z:Lv):∀t:Te,smT (plainT z t)=smT t
 |.mk k n ls ks=>by rw[plainT,smT,smT,plains_sm z ks,zp6,List.length_map]
theorem plains_sm(z:Lv):∀ks:List Te,smTs (plainTs z ks)=smTs ks
 |[]=>rfl
 |x::r=>by rw[plainTs,smTs,smTs,plain_sm z x,plains_sm z r]
end
theorem zui{z:Lv}{p:Te->Prop}:∀{ks:List Te},(∀x∈ks,p (plainT z x))->∀y∈plainTs z ks,p y
 |[],_,y,hy=>by cases hy
 |x::r,h,y,hy=>by
  rw[plainTs]at hy;rcases List.mem_cons.1 hy with rfl|hy
  ·exact h x (by simp)
  ·exact zui (fun w hw=>h w (by simp[hw])) y hy
theorem ya7{z:Lv}(hz:z.ok)(t:Te):t.ok->(plainT z t).ok:=by
 induction t using Te.ind with
 |h k n ls ks ih=>
 intro ht;rw[plainT];refine .mk (by rw[zp6];exact ht.len) (by simpa using ht.len2) ?_ (zui fun x hx=>ih x hx (ht.all x hx))
 intro x hx;obtain⟨y,hy,rfl⟩:=List.mem_map.1 hx
 split
 ·exact hz
 ·exact ht.all2 y hy
theorem ygx(z:Lv)(hz:z.ok)(t:Te):t.ok->smT t=true->∀(H:List AO),F zin [.agg t.cs,.agg z.cs] H=some (.ret (.agg (plainT z t).cs),H):=by
 induction t using Te.ind with
 |h k n ls ks ih=>
 intro hl hs H;rw[smT]at hs;simp only[Bool.and_eq_true,decide_eq_true_eq]at hs;obtain⟨⟨hs1,hs2⟩,hs3⟩:=hs;have loop1:∀(dl:List Lv) (suf pre done:List Te),ks=pre++suf->done.length=pre.length ->
   zh2 H (H++[.lst 0 3 [],.lst 0 4 [],.lst dl.length 3 (Lv.css dl),.lst done.length 4 (Te.css done),.lst 0 3 [],.lst 0 4 []]) (.int .i64 pre.length) [.int .i64 k,.int .i64 n,.sl (Lv.css ls),.sl (Te.css ks)] z.cs
    [.int .i64 0,.int .i64 0,.ol H.length 0,.ol (H.length+1) 0] [.int .i64 k,.int .i64 n,.ol (H.length+2) dl.length,.ol (H.length+3) done.length]=some (.ret (.agg (Te.mk k n dl (done++plainTs z suf)).cs),H):=by
  intro dl suf
  induction suf with
  |nil=>
   intro pre done e he;subst e;rw[zh2,zab];simp only[↓reduceIte,go_sem,plainTs,Te.cs]
  |cons x suf ih2=>
   intro pre done e he;subst e;simp at hs2;have:=ih2 (pre++[x]) (done++[plainT z x]) (by simp) (by simp[he])
   simp only[zaf]at this;simp only[zfk,List.append_assoc,List.cons_append,List.nil_append]at this;have hx:=fun H=>ih x (by simp) (hl.all x (by simp)) (zx6 hs3 x (by simp)) H
   rw[zh2,zab,plainTs];simp only[↓reduceIte,go_sem,hx,zac (n:=pre.length) (by omega),show done.length<=1073741823 by omega,this]
 have loop0:∀(suf pre dl:List Lv),ls=pre++suf->dl.length=pre.length ->
   zh3 H (H++[.lst 0 3 [],.lst 0 4 [],.lst dl.length 3 (Lv.css dl),.lst 0 4 [],.lst 0 3 [],.lst 0 4 []]) (.int .i64 pre.length) [.int .i64 k,.int .i64 n,.sl (Lv.css ls),.sl (Te.css ks)] z.cs
    [.int .i64 0,.int .i64 0,.ol H.length 0,.ol (H.length+1) 0] [.int .i64 k,.int .i64 n,.ol (H.length+2) dl.length,.ol (H.length+3) 0]=some (.ret (.agg (Te.mk k n (dl++suf.map fun x=>if unkB x=true then z else x) (plainTs z ks)).cs),H):=by
  intro suf
  induction suf with
  |nil=>
   intro pre dl e he;have:=loop1 dl ks [] [] rfl rfl;subst e;simp only[List.length_nil,Int.natCast_zero,Te.css,List.nil_append,List.append_nil]at this;rw[zh3,zab];simp only[↓reduceIte,go_sem,List.append_nil,List.map_nil,this]
  |cons x suf ih2=>
   intro pre dl e he;subst e;simp at hs1;have:=ih2 (pre++[x]) (dl++[if unkB x=true then z else x]) (by simp) (by simp[he])
   simp only[zaf]at this;simp only[zfk,List.append_assoc,List.cons_append,List.nil_append]at this;have hx:=fun H=>z7v x (hl.all2 x (by simp)) H
   rcases z with⟨kz,nz,lz⟩;rcases x with⟨kx,nx,lx⟩;rw[zh3,zab,List.map_cons]
   cases hu:unkB (.mk kx nx lx) <;> rw[hu]at hx <;> simp only[hu,Bool.false_eq_true,↓reduceIte]at this
   ·rw[<- ztx]at this
    simp only[Lv.cs]at hx this;simp only[↓reduceIte,go_sem,Lv.cs,hx,zac (n:=pre.length) (by omega),show dl.length<=1073741823 by omega,this,Bool.false_eq_true]
   ·rw[<- ztx]at this
    simp only[Lv.cs]at hx this;simp only[↓reduceIte,go_sem,Lv.cs,hx,zac (n:=pre.length) (by omega),show dl.length<=1073741823 by omega,this]
 have:=loop0 ls [] [] rfl rfl;simp only[List.length_nil,Int.natCast_zero,Lv.css,List.nil_append]at this;rw[zzy,plainT];simp only[↓reduceIte,go_sem,Te.cs,this]
mutual
def succT:Te->Te
 |.mk k n ls ks=>if k=2 then .mk 2 0 [.mk 2 0 ls] [] else .mk k n ls (succTs ks)
def succTs:List Te->List Te
 |[]=>[]
 |x::r=>succT x::succTs r
end
theorem zwq:∀ks:List Te,(succTs ks).length=ks.length
 |[]=>rfl
 |x::r=>by rw[succTs];simp[zwq r]
theorem zwp{p:Te->Prop}:∀{ks:List Te},(∀x∈ks,p (succT x))->∀y∈succTs ks,p y
 |[],_,y,hy=>by cases hy
 |x::r,h,y,hy=>by
  rw[succTs]at hy;rcases List.mem_cons.1 hy with rfl|hy
  ·exact h x (by simp)
  ·exact zwp (fun w hw=>h w (by simp[hw])) y hy
theorem yf4(t:Te):t.ok->(succT t).ok:=by
 induction t using Te.ind with
 |h k n ls ks ih=>
 intro ht;rw[succT]
 split
 ·have h1:=ht.len2
  have h2:=ht.all2;simp only[zjf,zum,List.length_cons,List.length_nil,List.mem_singleton,forall_eq];exact⟨by omega,by omega,⟨h1,h2⟩,by intro x hx;cases hx⟩
 ·exact .mk (by rw[zwq];exact ht.len) ht.len2 ht.all2 (zwp fun x hx=>ih x hx (ht.all x hx))
theorem succ_ok(t:Te):t.ok->smT t=true->∀(H:List AO),F zkd [.agg t.cs] H=some (.ret (.agg (succT t).cs),H):=by
 induction t using Te.ind with
 |h k n ls ks ih=>
 intro hl hs H;rw[smT]at hs;simp only[Bool.and_eq_true,decide_eq_true_eq]at hs;obtain⟨⟨hs1,hs2⟩,hs3⟩:=hs;have loop:∀(suf pre done:List Te),ks=pre++suf->done.length=pre.length ->
   zi5 H (H++[.lst 0 3 [],.lst 0 4 [],.lst 0 3 [],.lst done.length 4 (Te.css done),.lst 0 3 [],.lst 0 4 []]) (.int .i64 pre.length) [.int .i64 k,.int .i64 n,.sl (Lv.css ls),.sl (Te.css ks)]
    [.int .i64 0,.int .i64 0,.ol H.length 0,.ol (H.length+1) 0] [.int .i64 k,.int .i64 n,.sl (Lv.css ls),.ol (H.length+3) done.length]=some (.ret (.agg (Te.mk k n ls (done++succTs suf)).cs),H):=by
  intro suf
  induction suf with
  |nil=>
   intro pre done e he;subst e;rw[zi5,zab];simp only[↓reduceIte,go_sem,succTs,Te.cs]
  |cons x suf ih2=>
   intro pre done e he;subst e;simp at hs2;have:=ih2 (pre++[x]) (done++[succT x]) (by simp) (by simp[he])
   simp only[zaf]at this;simp only[zfk,List.append_assoc,List.cons_append,List.nil_append]at this;have hx:=fun H=>ih x (by simp) (hl.all x (by simp)) (zx6 hs3 x (by simp)) H
   rw[zi5,zab,succTs];simp only[↓reduceIte,go_sem,hx,zac (n:=pre.length) (by omega),show done.length<=1073741823 by omega,this]
 have l0:=loop ks [] [] rfl rfl;simp only[List.length_nil,Int.natCast_zero,List.nil_append,Te.css,Te.cs]at l0;have hS:=fun H=>zcd (.mk 2 0 ls) H
 simp only[Lv.cs,Te.cs,Lv.css,Te.css]at hS;rw[z2n,succT];by_cases h1:k=2
 ·subst h1
  simp only[↓reduceIte,go_sem,Te.cs,hS,Lv.css,Te.css,Lv.cs]
 ·simp only[↓reduceIte,go_sem,Te.cs,h1,l0]
end Go.Ab
end
section
set_option linter.unusedVariables false
set_option linter.unusedSimpArgs false
set_option maxRecDepth 100000
set_option maxHeartbeats 4000000
namespace Go.Ab
open Go.RowKit Go.Proofs
def zL1:Lv:=.mk 1 0 []
def tmS(L:List Int)(g:Gr)(d:Nat)(a:Int):Te×Int:=(if 0<g.metas then (zey L d 3 a).1 else plainT zL1 (zey L d 3 a).1,(zey L d 3 a).2)
theorem yjk:zL1.ok:=by simp[zL1,zum]
theorem yjo{L:List Int}(hL:zbp L)(g:Gr)(d:Nat)(a:Int):(tmS L g d a).1.ok:=by
 unfold tmS;dsimp only
 split
 ·exact ztg hL d 3 a
 ·exact ya7 yjk _ (ztg hL d 3 a)
theorem tmS_sm{L:List Int}(hL:zbp L)(g:Gr)(d:Nat)(a:Int):smT (tmS L g (d+1) a).1=true:=by
 have h:=right_sm (zt9 hL d 3 a (by omega))
 unfold tmS;dsimp only
 split
 ·exact h
 ·rw[plain_sm];exact h
theorem tmS_at{L:List Int}(hL:zbp L)(g:Gr)(d:Nat)(a:Int):a<=(tmS L g d a).2/\(tmS L g d a).2<=a+40*4 ^ d:=znb hL d 3 a
theorem z3n(L:List Int)(hL:zbp L)(hlen:L.length<=140737488355328)(g:Gr)(d:Nat)(hd:d<=6)(a:Int)(ha:0<=a/\a+40*4 ^ (d+1)<=500000)(id:Nat)(H:List AO)(hid:id<H.length):
  F zg3 [.ptr id 0,.agg g.cs,.int .i64 ((d:Int)+1)] (H.set id (mkr L a))=some (.ret (.agg (tmS L g (d+1) a).1.cs),H.set id (mkr L (tmS L g (d+1) a).2)):=by
 have hT:=term_ok L hL hlen d hd 3 (by omega) a ha id H hid
 have hr:=right_sm (zt9 hL d 3 a (by omega))
 have hk:=ztg hL (d+1) 3 a;have hP:=fun H=>ygx zL1 yjk _ hk hr H
 unfold tmS;generalize zey L (d+1) 3 a=q at *;rcases q with⟨⟨k,n,ls,ks⟩,b⟩;rcases hp:plainT zL1 (.mk k n ls ks) with⟨k2,n2,ls2,ks2⟩;dsimp only at hP ⊢
 try simp only[hp]at hP
 simp only[Te.cs,zL1,Lv.cs,Lv.css]at hT hP;rw[z2o];by_cases hm:0<g.metas
 ·simp only[↓reduceIte,go_sem,Gr.cs,hT,hm,Te.cs,List.length_set,hid,zbl,zcl hid,zr5]
 ·simp only[↓reduceIte,go_sem,Gr.cs,hT,hm,hP,Te.cs,List.length_set,hid,zbl,zcl hid,zr5]
def z8i(L:List Int)(g:Gr)(t:Te)(a:Int):Te×Int :=
 if (zgw t 0 1).2≠0 then (t,a)
 else
  let up:=(zgw t 0 1).1
  let v:Te:=.mk 1 0 [] []
  let k:=zar L a 7
  if k=0 then (.mk 5 0 [] [sort0,.mk 4 0 [] [up,v]],a+1)
  else if k=1 then (.mk 7 0 [] [sort0,sort0,up],a+1)
  else if k=2 then (.mk 4 0 [] [.mk 5 0 [] [sort0,up],sort0],a+1)
  else if k=3 then (.mk 4 0 [] [.mk 5 0 [] [sort0,v],t],a+1)
  else if k=4 then (succT t,a+1)
  else if k=5 then tmS L g 3 (a+1)
  else (t,a+1)
theorem yg5{L:List Int}(hL:zbp L)(g:Gr)(t:Te)(ht:t.ok)(a:Int):(z8i L g t a).1.ok:=by
 have hu:=z7t ht 0 1;have h1:=ygb;have h2:=yf4 t ht;have h3:=yjo hL g 3 (a+1);have h4:(Te.mk 1 0 [] []).ok:=by simp[zjf]
 unfold z8i
 split
 ·exact ht
 ·dsimp only
  repeat' split
  ·simp[zjf,h1,hu]
  ·simp[zjf,h1,hu]
  ·simp[zjf,h1,hu]
  ·simp[zjf,h1,ht]
  ·exact h2
  ·exact h3
  ·exact ht
theorem ye5(L:List Int)(hL:zbp L)(hlen:L.length<=140737488355328)(g:Gr)(t:Te)(ht:t.ok)(hs:smT t=true)(a:Int)(ha:0<=a/\a<=400000)(id:Nat)(H:List AO)(hid:id<H.length):
  F zmr [.agg t.cs,.ptr id 0,.agg g.cs] (H.set id (mkr L a))=some (.ret (.agg (z8i L g t a).1.cs),H.set id (mkr L (z8i L g t a).2)):=by
 have hU:=fun H=>yfa t ht 0 1 H
 have hS:=fun H=>zcd (.mk 1 0 []) H
 have hV:=fun H=>zeb 0 H
 have hP:=zbw L hL hlen a (by omega) 7 (by omega) id H hid (by omega)
 have hk:=zas hL a (n:=7) (by omega)
 have hT:F zg3 [.ptr id 0,.agg g.cs,.int .i64 3] (H.set id (mkr L (a+1)))=_:=z3n L hL hlen g 2 (by omega) (a+1) (by simp;omega) id H hid
 have hsu:=fun H=>succ_ok t ht hs H
 unfold z8i;rcases hl:zgw t 0 1 with⟨up,e⟩;rw[hl]at hU;have c1:=fun H=>zd1 4 [up,.mk 1 0 [] []] H
 have c2:=fun H=>zd1 5 [sort0,.mk 4 0 [] [up,.mk 1 0 [] []]] H
 have c3:=fun H=>zd1 7 [sort0,sort0,up] H
 have c4:=fun H=>zd1 5 [sort0,up] H
 have c5:=fun H=>zd1 4 [.mk 5 0 [] [sort0,up],sort0] H
 have c6:=fun H=>zd1 5 [sort0,.mk 1 0 [] []] H
 have c7:=fun H=>zd1 4 [.mk 5 0 [] [sort0,.mk 1 0 [] []],t] H
 rw[show (2:Nat)+1=3 from rfl]at hT
 generalize tmS L g 3 (a+1)=q at *;rcases q with⟨⟨k3,n3,l3,s3⟩,b3⟩;rcases up with⟨k2,n2,l2,s2⟩;rcases hsc:succT t with⟨k4,n4,l4,s4⟩;rw[hsc]at hsu;rcases t with⟨k1,n1,l1,s1⟩;simp only[Te.cs,Te.css,Lv.cs,Lv.css,sort0,Gr.cs,zp5]at hU hS hV hT hsu c1 c2 c3 c4 c5 c6 c7;rw[z2p];by_cases he:e=0
 ·subst he
  have hc:zar L a 7=0\/zar L a 7=1\/zar L a 7=2\/zar L a 7=3\/zar L a 7=4\/zar L a 7=5\/zar L a 7=6:=by omega
  rcases hc with h|h|h|h|h|h|h <;> rw[h]at hP <;>
   simp only[↓reduceIte,go_sem,Gr.cs,Te.cs,Te.css,Lv.cs,Lv.css,sort0,hU,hS,hV,hP,hT,hsu,c1,c2,c3,c4,c5,c6,c7,h,z7f,List.length_set,hid,zbl,zcl hid,zr5,ne_eq,not_true_eq_false]
 ·simp only[↓reduceIte,go_sem,Gr.cs,Te.cs,hU,he,ne_eq,not_false_eq_true,List.length_set,hid,zbl,zcl hid,zr5]
end Go.Ab
end
section
set_option linter.unusedVariables false
set_option linter.unusedSimpArgs false
set_option maxRecDepth 100000
set_option maxHeartbeats 2000000
namespace Go.Ab
open Go.RowKit Go.Proofs
mutual
theorem right_min{p m:Int}:∀{t:Te} {v d v2 d2:Int},rightT p m t v d=true->rightT p m t v2 d2=true->rightT p m t v d2=true
 |.mk k n ls ks,v,d,v2,d2,h1,h2=>by
  rw[rightT]at h1 h2 ⊢
  split at h2
  ·cases h2
  rename_i hd;rw[if_neg hd]
  split at h1
  ·cases h1
  split at h1
  ·cases h1
  rename_i hk;rw[if_neg hk]at h2 ⊢
  split at h1
  ·cases h1
  rename_i hn;rw[if_neg hn]
  split at h2
  ·cases h2
  exact rights_min h1 h2
theorem rights_min{p m k:Int}:∀{ks:List Te} {i v d v2 d2:Int},rightTs p m k ks i v d=true->rightTs p m k ks i v2 d2=true->rightTs p m k ks i v d2=true
 |[],_,_,_,_,_,_,_=>rfl
 |x::r,i,v,d,v2,d2,h1,h2=>by
  rw[rightTs,Bool.and_eq_true]at h1 h2 ⊢;exact⟨right_min h1.1 h2.1,rights_min h1.2 h2.2⟩
end
mutual
theorem parts_sz:∀(t:Te) (m:Int),parts t m<=sz t
 |.mk k n ls ks,m=>by
  rw[parts,sz,subs,List.length_cons];have:=partss_sz ks m 1;omega
theorem partss_sz:∀(ks:List Te) (m n:Int),partsL ks m n<=n+(subss ks).length
 |[],m,n=>by rw[partsL,subss];simp
 |x::r,m,n=>by
  rw[partsL,subss,List.length_append];have h1:=partss_sz r m n;have h2:=partss_sz r m (n+parts x (m - n));have h3:=parts_sz x (m - n);unfold sz at h3
  split <;> omega
end
mutual
theorem rightB_mono{p m P M:Int}(hp:p<=P)(hm:m<=M):∀{l:Lv} {d:Int},rightB p m l d=true->rightB P M l d=true
 |.mk k n ks,d,h=>by
  rw[rightB]at h ⊢
  split at h
  ·cases h
  rename_i h1;rw[if_neg h1]
  split at h
  ·cases h
  rename_i h2;rw[if_neg h2]
  split
  ·rename_i h3;rw[if_pos h3]at h;simp at h ⊢;omega
  ·rename_i h3
   rw[if_neg h3]at h
   split
   ·rename_i h4;rw[if_pos h4]at h;simp at h ⊢;omega
   ·rename_i h4
    rw[if_neg h4]at h;simp only[Bool.and_eq_true]at h ⊢;exact⟨rightsB_mono hp hm h.1,h.2⟩
theorem rightsB_mono{p m P M:Int}(hp:p<=P)(hm:m<=M):∀{ks:List Lv} {d:Int},rightsB p m ks d=true->rightsB P M ks d=true
 |[],_,_=>rfl
 |x::r,d,h=>by
  rw[rightsB,Bool.and_eq_true]at h ⊢;exact⟨rightB_mono hp hm h.1,rightsB_mono hp hm h.2⟩
end
theorem z5w{l:Lv}{p m P M:Int}(hp:p<=P)(hm:m<=M)(hP:P<=5)(hM:M<=10)(h:zam l p m=true):zam l P M=true:=by
 unfold zam at h ⊢;simp only[Bool.and_eq_true,decide_eq_true_eq]at h ⊢;exact⟨⟨⟨⟨⟨by omega,hP⟩,by omega⟩,hM⟩,h.1.2⟩,rightB_mono hp hm h.2⟩
mutual
theorem right_pm{p m P M:Int}(hp:p<=P)(hm:m<=M)(hP:P<=5)(hM:M<=10):∀{t:Te} {v d:Int},rightT p m t v d=true->rightT P M t v d=true
 |.mk k n ls ks,v,d,h=>by
  rw[rightT]at h ⊢
  split at h
  ·cases h
  rename_i h1;rw[if_neg h1]
  split at h
  ·cases h
  rename_i h2;rw[if_neg h2]
  split at h
  ·cases h
  rename_i h3;simp only[Bool.not_eq_false,Bool.and_eq_true,List.all_eq_true]at h3;have:(ls.all fun x=>zam x P M)=true:=List.all_eq_true.2 fun x hx=>z5w hp hm hP hM (h3.1 x hx)
  rw[this,h3.2];simp only[Bool.and_self,Bool.true_eq_false,if_false];exact rights_pm hp hm hP hM h
theorem rights_pm{p m P M:Int}(hp:p<=P)(hm:m<=M)(hP:P<=5)(hM:M<=10){k:Int}:∀{ks:List Te} {i v d:Int},rightTs p m k ks i v d=true->rightTs P M k ks i v d=true
 |[],_,_,_,_=>rfl
 |x::r,i,v,d,h=>by
  rw[rightTs,Bool.and_eq_true]at h ⊢;exact⟨right_pm hp hm hP hM h.1,rights_pm hp hm hP hM h.2⟩
end
mutual
theorem right_sub{ps ms:List Lv}{p m:Int}:∀{t:Te} {v d:Int},rightT p m t v d=true->okTm ps ms t=true->rightT 5 10 (subT ps ms t) v d=true
 |.mk k n ls ks,v,d,h,ho=>by
  rw[subT,rightT]at *;rw[okTm,Bool.and_eq_true]at ho
  split at h
  ·cases h
  rename_i h1;rw[if_neg h1]
  split at h
  ·cases h
  rename_i h2;rw[if_neg (by rw[zth,List.length_map];exact h2)]
  split at h
  ·cases h
  rename_i h3;simp only[Bool.not_eq_false,Bool.and_eq_true,List.all_eq_true]at h3;have e1:((ls.map fun l=>(zsl l ps ms).1).all fun x=>zam x 5 10)=true:=by
   rw[List.all_map,List.all_eq_true];intro x hx;have:=List.all_eq_true.1 ho.1 x hx;simp only[decide_eq_true_eq]at this;show zam (zsl x ps ms).1 5 10=true;unfold zsl at this ⊢
   split at this
   ·simp at this
   ·rename_i g
    rw[if_neg g]
    split at this
    ·rename_i g2;rw[if_pos g2];exact g2
    ·simp at this
  have e2:zdc k n (ls.map fun l=>(zsl l ps ms).1) v=true:=by
   have:=h3.2;unfold zdc at this ⊢;simp only[List.length_map];exact this
  rw[e1,e2];simp only[Bool.and_self,Bool.true_eq_false,if_false];exact rights_sub h ho.2
theorem rights_sub{ps ms:List Lv}{p m k:Int}:∀{ks:List Te} {i v d:Int},rightTs p m k ks i v d=true->okTms ps ms ks=true->rightTs 5 10 k (subTs ps ms ks) i v d=true
 |[],_,_,_,_,_=>rfl
 |x::r,i,v,d,h,ho=>by
  rw[subTs,rightTs,Bool.and_eq_true]at *;rw[okTms,Bool.and_eq_true]at ho;exact⟨right_sub h.1 ho.1,rights_sub h.2 ho.2⟩
end
theorem zx8{t:Te}{v d:Int}(h:rightT 5 10 t v d=true)(hv:v<=1000)(hd:d<=30)(hs:sz t<=600):zcv t=true:=by
 have h1:=right_mono t h hv hd;have h2:=parts_sz t 601;unfold zcv zdv;simp[h1];omega
def inv(t:Te):Prop:=sz t<=600/\rightT 5 10 t 2 30=true
theorem inv.shape{t:Te}(h:inv t):zcv t=true:=zx8 h.2 (by omega) (by omega) h.1
theorem zo5{b v r:Te}{e:Int}(hb:sz b<=600)(hb2:rightT 5 10 b 3 29=true)(hv:inv v)(ho:zlg b v=(r,e)):e=0/\inv r\/e=2:=by
 have s1:=zx8 hb2 (by omega) (by omega) hb
 have s2:=hv.shape;unfold zlg at ho;rw[if_neg (by simp[s1,s2])]at ho
 unfold zs5 at ho
 split at ho
 ·rename_i h
  cases ho;refine .inl ⟨rfl,ztj h,?_⟩
  exact right_min (right_open b (v:=2) (f:=0) hb2 (by omega) (by omega) (by simpa using hv.2)) (zhb h)
 ·cases ho;exact .inr rfl
theorem sz_let(N:Int)(ls:List Lv)(s v b:Te):sz (.mk 7 N ls [s,v,b])=sz s+sz v+sz b+1:=by
 simp[sz,subs,subss];omega
theorem yjq(k N:Int)(ls:List Lv)(f a:Te):sz (.mk k N ls [f,a])=sz f+sz a+1:=by
 simp[sz,subs,subss]
theorem z4o{N:Int}{ls:List Lv}{s v b:Te}(h:inv (.mk 7 N ls [s,v,b])):inv v/\sz b<=600/\rightT 5 10 b 3 29=true:=by
 have h1:=h.1;rw[sz_let]at h1;have h2:=(zca h.2).2.2.2.2;simp[rightTs,binds]at h2;exact⟨⟨by omega,right_mono v h2.2.1 (by omega) (by omega)⟩,by omega,h2.2.2⟩
theorem zyu{N:Int}{ls:List Lv}{f a:Te}(h:inv (.mk 4 N ls [f,a])):inv f/\inv a:=by
 have h1:=h.1;rw[yjq]at h1;have h2:=(zca h.2).2.2.2.2;simp[rightTs,binds]at h2;exact⟨⟨by omega,right_mono f h2.1 (by omega) (by omega)⟩,by omega,right_mono a h2.2 (by omega) (by omega)⟩
theorem z4p{N:Int}{ls:List Lv}{s b:Te}(h:inv (.mk 5 N ls [s,b])):sz b<=600/\rightT 5 10 b 3 29=true:=by
 have h1:=h.1;rw[yjq]at h1;have h2:=(zca h.2).2.2.2.2;simp[rightTs,binds]at h2;exact⟨by omega,h2.2⟩
theorem z2z:∀{env:List De} {a:Int} {j:Nat} {d:De},zsz env a=true->env[j]?=some d->yic d (a+j)=true
 |[],_,_,_,_,h=>by simp at h
 |x::r,a,0,d,h1,h2=>by
  rw[zsz,Bool.and_eq_true]at h1;simp at h2;subst h2;simpa using h1.1
 |x::r,a,j+1,d,h1,h2=>by
  rw[zsz,Bool.and_eq_true]at h1;have:=z2z h1.2 (show r[j]?=some d by simpa using h2)
  rwa [show a+1+(j:Int)=a+((j+1:Nat):Int) by omega]at this
theorem zt7{env:List De}(hR:zm7 env=true){n:Int}{ls:List Lv}{d:De}(hu:zwo env n ls=some d):zdv d.value 0 d.p 0=true:=by
 obtain⟨h1,h2,_⟩:=zqf hu;unfold zm7 at hR;rw[Bool.and_eq_true]at hR;have:=z2z hR.1 h1;unfold yic at this;rw[if_pos h2,Bool.and_eq_true]at this;have h3:=this.2;unfold mayT at h3;rw[Bool.and_eq_true]at h3;exact h3.1
theorem zvo{env:List De}(hR:zm7 env=true){N:Int}{ls:List Lv}{ks:List Te}{d:De}{r:Te}{e:Int}(ht:inv (.mk 3 N ls ks))(hu:zwo env N ls=some d)(hs:zoy d.value ls []=(r,e)):e=0/\inv r\/e=2:=by
 have hv:=zt7 hR hu;unfold zdv at hv;simp only[Bool.and_eq_true,decide_eq_true_eq]at hv;have hp:0<=d.p/\d.p<=5:=by omega
 have hr:=right_pm (p:=d.p) (m:=0) (P:=5) (M:=10) hp.2 (by omega) (by omega) (by omega) hv.2
 have hsz:sz d.value<=600:=by
  have:=subs_parts d.value 601 (by omega)
  unfold sz;omega
 have hsh:=zx8 hr (by omega) (by omega) hsz
 have hi:=zca ht.2;have hn:=hi.2.2.2.1;have hl:ls.length<=5:=by
  unfold zdc at hn;simp at hn;exact hn.2
 have hls:zdg ls=true:=by
  have:=hi.2.2.1;unfold zdg;simpa using this
 unfold zoy at hs;have g:¬ (zcv d.value=false\/5<ls.length\/10<([]:List Lv).length\/zdg ls=false\/zdg []=false):=by
  rw[hsh,hls,show zdg []=true from rfl];simp;exact hl
 rw[if_neg g]at hs
 split at hs
 ·rename_i ho
  cases hs;refine .inl ⟨rfl,?_,?_⟩
  ·unfold sz at *;rw[subs_subT];exact hsz
  ·exact right_mono _ (right_sub hr ho) (by omega) (by omega)
 ·cases hs;exact .inr rfl
theorem Hd.inv5{env:List De}(hR:zm7 env=true){n:Nat}{t t':Te}{n':Nat}(h:Hd env n t t' n'):inv t->t'.kind=5->inv t':=by
 induction h with
 |stuck=>exact fun h _=>h
 |lett ho _ ih=>
  intro h h5;obtain⟨a,b,c⟩:=z4o h;rcases zo5 b c a ho with⟨_,hr⟩|h
  ·exact ih hr h5
  ·cases h
 |const hN hu hs _ ih=>
  intro h h5;rcases zvo hR h hu hs with⟨_,hr⟩|h
  ·exact ih hr h5
  ·cases h
 |app=>exact fun _ h=>by cases h
 |beta _ ho _ ih1 ih2=>
  intro h h5;obtain⟨hf,ha⟩:=zyu h;obtain⟨b,c⟩:=z4p (ih1 hf rfl);rcases zo5 b c ha ho with⟨_,hr⟩|h
  ·exact ih2 hr h5
  ·cases h
theorem He.two{env:List De}(hR:zm7 env=true){n:Nat}{t:Te}{n':Nat}{e:Int}(h:He env n t n' e):inv t->e=2\/e=40:=by
 induction h with
 |let0=>exact fun _=>.inr rfl
 |let2 ho he=>
  intro h;obtain⟨a,b,c⟩:=z4o h;rcases zo5 b c a ho with⟨h,_⟩|h
  ·exact absurd h he
  ·exact .inl h
 |letr ho _ ih=>
  intro h;obtain⟨a,b,c⟩:=z4o h;rcases zo5 b c a ho with⟨_,hr⟩|h
  ·exact ih hr
  ·cases h
 |const0=>exact fun _=>.inr rfl
 |const2 hN hu hs he=>
  intro h;rcases zvo hR h hu hs with⟨h,_⟩|h
  ·exact absurd h he
  ·exact .inl h
 |constr hN hu hs _ ih=>
  intro h;rcases zvo hR h hu hs with⟨_,hr⟩|h
  ·exact ih hr
  ·cases h
 |appf _ ih=>exact fun h=>ih (zyu h).1
 |beta0=>exact fun _=>.inr rfl
 |beta2 hd ho he=>
  intro h;obtain⟨hf,ha⟩:=zyu h;obtain⟨b,c⟩:=z4p (hd.inv5 hR hf rfl);rcases zo5 b c ha ho with⟨h,_⟩|h
  ·exact absurd h he
  ·exact .inl h
 |betar hd ho _ ih=>
  intro h;obtain⟨hf,ha⟩:=zyu h;obtain⟨b,c⟩:=z4p (hd.inv5 hR hf rfl);rcases zo5 b c ha ho with⟨_,hr⟩|h
  ·exact ih hr
  ·cases h
theorem Hd.again{env:List De}{n:Nat}{t t':Te}{n':Nat}(h:Hd env n t t' n'):∀m,Hd env m t' t' m:=by
 induction h with
 |stuck h1 h2 h3=>exact fun m=>.stuck h1 h2 h3
 |lett _ _ ih=>exact ih
 |const _ _ _ _ ih=>exact ih
 |app _ hk ih=>exact fun m=>.app (ih m) hk
 |beta _ _ _ _ ih=>exact ih
theorem Hd.more{env:List De}{n:Nat}{t t':Te}{n':Nat}(h:Hd env n t t' n'):∀k,Hd env (n+k) t t' (n' + k):=by
 induction h with
 |stuck h1 h2 h3=>exact fun m=>.stuck h1 h2 h3
 |@lett n N ls s v b r t' n' ho _ ih=>
  intro k;rw[show n+1+k=(n+k)+1 by omega]
  exact .lett ho (ih k)
 |@const n N ls ks d r t' n' hN hu hs _ ih=>
  intro k;rw[show n+1+k=(n+k)+1 by omega]
  exact .const hN hu hs (ih k)
 |app _ hk ih=>exact fun k=>.app (ih k) hk
 |@beta n N ls f a N2 ls2 s b m r t' n' _ ho _ ih1 ih2=>
  intro k;have:=ih1 k;rw[show m+1+k=(m+k)+1 by omega]at this
  exact .beta this ho (ih2 k)
end Go.Ab
end
section
set_option linter.unusedVariables false
set_option linter.unusedSimpArgs false
set_option maxRecDepth 100000
set_option maxHeartbeats 2000000
namespace Go.Ab
open Go.RowKit Go.Proofs
theorem Hd.det{env:List De}{n:Nat}{t t1:Te}{n1:Nat}(h:Hd env n t t1 n1):∀{k N:Int} {ls:List Lv} {ks:List Te} {t2:Te} {n2:Nat},t = .mk k N ls ks->Hd env n (.mk k N ls ks) t2 n2->t1=t2/\n1=n2:=by
 induction h with
 |@stuck n k' N' ls' ks' h4 h7 h3=>
  intro k N ls ks t2 n2 e h2;cases e;generalize hq:Te.mk k' N' ls' ks' = q at h2
  cases h2 with
  |stuck=>exact⟨rfl,rfl⟩
  |lett=>cases hq;exact absurd rfl h7
  |const hN hu=>cases hq;rw[(h3 rfl).2]at hu;cases hu
  |app=>cases hq;exact absurd rfl h4
  |beta=>cases hq;exact absurd rfl h4
 |@lett n N' ls' s v b r t' n' ho hd ih=>
  intro k N ls ks t2 n2 e h2;cases e;generalize hq:Te.mk 7 N' ls' [s,v,b]=q at h2;generalize hn:n+1=m at h2
  cases h2 with
  |stuck h4 h7 h3=>cases hq;exact absurd rfl h7
  |@lett n N ls s2 v2 b2 r2 t' n' ho2 hd2=>
   cases hq;cases hn
   rw[ho]at ho2;cases ho2;rcases r with⟨k,N,ls,ks⟩;exact ih rfl hd2
  |const hN hu=>exact absurd (congrArg Te.kind hq) (show ¬ (7:Int)=3 by decide)
  |app=>exact absurd (congrArg Te.kind hq) (show ¬ (7:Int)=4 by decide)
  |beta=>exact absurd (congrArg Te.kind hq) (show ¬ (7:Int)=4 by decide)
 |@const n N' ls' ks' d r t' n' hN hu hs hd ih=>
  intro k N ls ks t2 n2 e h2;cases e;generalize hq:Te.mk 3 N' ls' ks' = q at h2;generalize hn:n+1=m at h2
  cases h2 with
  |stuck h4 h7 h3=>cases hq;rw[(h3 rfl).2]at hu;cases hu
  |lett=>exact absurd (congrArg Te.kind hq) (show ¬ (3:Int)=7 by decide)
  |const hN2 hu2 hs2 hd2=>
   cases hq;cases hn
   rw[hu]at hu2;cases hu2;rw[hs]at hs2;cases hs2;rcases r with⟨k,N,ls,ks⟩;exact ih rfl hd2
  |app=>exact absurd (congrArg Te.kind hq) (show ¬ (3:Int)=4 by decide)
  |beta=>exact absurd (congrArg Te.kind hq) (show ¬ (3:Int)=4 by decide)
 |@app n N' ls' f a f' n' hd hk ih=>
  intro k N ls ks t2 n2 e h2;cases e;generalize hq:Te.mk 4 N' ls' [f,a]=q at h2
  cases h2 with
  |stuck h4 h7 h3=>cases hq;exact absurd rfl h4
  |lett=>exact absurd (congrArg Te.kind hq) (show ¬ (4:Int)=7 by decide)
  |const hN2 hu2 hs2 hd2=>exact absurd (congrArg Te.kind hq) (show ¬ (4:Int)=3 by decide)
  |app hd2 hk2=>
   cases hq;rcases f with⟨k,N,ls,ks⟩
   obtain⟨rfl,rfl⟩:=ih rfl hd2;exact⟨rfl,rfl⟩
  |beta hd2 ho2 hd3=>
   cases hq;rcases f with⟨k,N,ls,ks⟩
   obtain⟨rfl,_⟩:=ih rfl hd2;exact absurd rfl hk
 |@beta n N' ls' f a N2 ls2 s b m r t' n' hd ho hd2 ih1 ih2=>
  intro k N ls ks t2 n2 e h2;cases e;generalize hq:Te.mk 4 N' ls' [f,a]=q at h2
  cases h2 with
  |stuck h4 h7 h3=>cases hq;exact absurd rfl h4
  |lett=>exact absurd (congrArg Te.kind hq) (show ¬ (4:Int)=7 by decide)
  |const hN2 hu2 hs2 hd2=>exact absurd (congrArg Te.kind hq) (show ¬ (4:Int)=3 by decide)
  |app hd2 hk2=>
   cases hq;rcases f with⟨k,N,ls,ks⟩
   obtain⟨rfl,_⟩:=ih1 rfl hd2;exact absurd rfl hk2
  |beta hd2 ho2 hd3=>
   cases hq;rcases f with⟨k,N,ls,ks⟩
   obtain⟨e1,e2⟩:=ih1 rfl hd2;cases e1;cases e2;rw[ho]at ho2;cases ho2;rcases r with⟨k,N,ls,ks⟩;exact ih2 rfl hd3
def Hx(env:List De)(t t':Te):Prop:=∃n n',Hd env n t t' n'
theorem Hd.hx{env:List De}{n:Nat}{t t':Te}{n':Nat}(h:Hd env n t t' n'):Hx env t t':=⟨n,n',h⟩
theorem Hx.det{env:List De}{t t1 t2:Te}(h1:Hx env t t1)(h2:Hx env t t2):t1=t2:=by
 obtain⟨n,n',h1⟩:=h1;obtain⟨m,m',h2⟩:=h2;have h3:=h1.more m;have h4:=h2.more n;rw[Nat.add_comm m n]at h4;rcases t with⟨k,N,ls,ks⟩;exact (h3.det rfl h4).1
theorem Hx.again{env:List De}{t t':Te}(h:Hx env t t'):Hx env t' t':=by
 obtain⟨n,n',h⟩:=h;exact⟨0,0,h.again 0⟩
noncomputable def z3s(g:Gr)(a b:Lv):Bool:=z0s g.cons g.params.toNat a b
noncomputable def z3k(g:Gr):List Lv->List Lv->Bool
 |a::xs,b::ys=>(z3s g a b && z3s g b a) && z3k g xs ys
 |_,_=>true
inductive Cw (g:Gr):Te->Te->Bool->Bool->Prop
 |lam2 {k N k' N':Int} {ls ls':List Lv} {s x s' y x' y':Te} {most r:Bool}:k=5->k' = 5->Hx g.env x x' -> Hx g.env y y' -> Cw g x' y' false r->Cw g (.mk k N ls [s,x]) (.mk k' N' ls' [s',y]) most r
 |lamL {k N k' N':Int} {ls ls':List Lv} {s x x' e':Te} {ks':List Te} {most r:Bool}:k=5->k' ≠ 5->Hx g.env x x' -> Hx g.env (zxm (.mk k' N' ls' ks')) e' -> Cw g x' e' false r->Cw g (.mk k N ls [s,x]) (.mk k' N' ls' ks') most r
 |lamR {k N k' N':Int} {ls ls':List Lv} {s y y' e':Te} {ks:List Te} {most r:Bool}:k≠5->k' = 5->Hx g.env (zxm (.mk k N ls ks)) e' -> Hx g.env y y' -> Cw g e' y' false r->Cw g (.mk k N ls ks) (.mk k' N' ls' [s,y]) most r
 |other {k N k' N':Int} {ls ls':List Lv} {ks ks':List Te} {most:Bool}:k≠5->k' ≠ 5->(k≠k' \/ N≠N' \/ ls.length≠ls'.length)->Cw g (.mk k N ls ks) (.mk k' N' ls' ks') most false
 |var {k N k' N':Int} {ls ls':List Lv} {ks ks':List Te} {most:Bool}:k=1->k' = 1->N=N' -> ls.length=ls'.length->Cw g (.mk k N ls ks) (.mk k' N' ls' ks') most true
 |sortM {k N k' N':Int} {x y:Lv} {ks ks':List Te}:k=2->k' = 2->N=N' -> Cw g (.mk k N [x] ks) (.mk k' N' [y] ks') true (z3s g x y)
 |lvls {k N k' N':Int} {ls ls':List Lv} {ks ks':List Te} {most:Bool}:(k=2/\most=false\/k=3)->k' = k->N=N' -> ls.length=ls'.length->Cw g (.mk k N ls ks) (.mk k' N' ls' ks') most (z3k g ls ls')
 |two1 {k N k' N':Int} {ls ls':List Lv} {f x f' x' f1 f1':Te} {most:Bool}:(k=4\/k=6)->k' = k->N=N' -> ls.length=ls'.length->Hx g.env f f1->Hx g.env f' f1' -> Cw g f1 f1' false false->Cw g (.mk k N ls [f,x]) (.mk k' N' ls' [f',x']) most false
 |two2 {k N k' N':Int} {ls ls':List Lv} {f x f' x' f1 f1' x1 x1':Te} {most r:Bool}:(k=4\/k=6)->k' = k->N=N' -> ls.length=ls'.length->Hx g.env f f1->Hx g.env f' f1' -> Cw g f1 f1' false true->Hx g.env x x1->Hx g.env x' x1' -> Cw g x1 x1' (decide (k=6) && most) r->Cw g (.mk k N ls [f,x]) (.mk k' N' ls' [f',x']) most r
theorem ztq{g:Gr}(hm:g.mode=1){out:List Co}{a b:Lv}(h:(zha g (0,out) a b).2.1=0):(zha g (0,out) a b).1=z3s g a b/\(zha g (0,out) a b).2.2=out:=by
 unfold zha at h ⊢;rw[if_neg (by simp),if_neg (by omega)]at h ⊢
 split at h
 ·rename_i hh;rw[if_pos hh];exact⟨rfl,rfl⟩
 ·cases h
theorem z3a{g:Gr}(hm:g.mode=1){out:List Co}{a b:Lv}(h:(zj2 g (0,out) a b).2.1=0):(zj2 g (0,out) a b).1=(z3s g a b && z3s g b a)/\(zj2 g (0,out) a b).2.2=out:=by
 unfold zj2 at h ⊢
 split at h
 ·rename_i h1
  have h0:=(zoe h1).2;obtain⟨e1,e2⟩:=ztq hm h0;rw[if_pos h1];have e3:(zha g (0,out) a b).2=(0,out):=Prod.ext h0 e2;rw[e3]at h ⊢;obtain⟨e4,e5⟩:=ztq hm h;rw[<- e1,h1,Bool.true_and];exact⟨e4,e5⟩
 ·rename_i h1
  rw[if_neg h1];obtain⟨e1,e2⟩:=ztq hm h;refine⟨?_,e2⟩;rw[<- e1];simp only[Bool.not_eq_true]at h1;rw[h1];rfl
theorem z7p{g:Gr}(hm:g.mode=1){out:List Co}:∀{p q:List Lv},(zh7 g (0,out) p q).2.1=0->(zh7 g (0,out) p q).1=z3k g p q/\(zh7 g (0,out) p q).2.2=out
 |a::xs,b::ys,h=>by
  rw[zh7]at h ⊢;rw[z3k]
  split at h
  ·rename_i h1
   have h0:=(zsg h1).2;obtain⟨e1,e2⟩:=z3a hm h0;have e3:(zj2 g (0,out) a b).2=(0,out):=Prod.ext h0 e2;rw[if_pos h1];rw[e3]at h ⊢;rw[<- e1,h1,Bool.true_and];exact z7p hm h
  ·rename_i h1
   rw[if_neg h1];obtain⟨e1,e2⟩:=z3a hm h;refine⟨?_,e2⟩;rw[<- e1];simp only[Bool.not_eq_true]at h1;rw[h1];rfl
 |[],_,h=>by simp[zh7,z3k]
 |_::_,[],h=>by simp[zh7,z3k]
theorem Al.cw{g:Gr}(hm:g.mode=1){n:Nat}{out:List Co}{a b:Te}{most r:Bool}{n':Nat}{e:Int}{out':List Co}(h:Al g n out a b most r n' e out'):e=0->out' = out/\∃a' b',Hx g.env a a' /\ Hx g.env b b' /\ Cw g a' b' most r:=by
 induction h with
 |burn0=>intro h;cases h
 |headA h=>exact fun e=>absurd e h.ne
 |headB _ h=>exact fun e=>absurd e h.ne
 |lam2 h1 h2 _ ih=>
  intro e;obtain⟨ho,x',y',k1,k2,k3⟩:=ih e;exact⟨ho,_,_,h1.hx,h2.hx,.lam2 rfl rfl k1 k2 k3⟩
 |@lamL n out a b b' s x N ls most r n1 n2 n' e out' h1 h2 hk _ _ ih=>
  intro e;obtain⟨ho,x',y',k1,k2,k3⟩:=ih e;rcases b' with⟨k,N,l,s⟩;exact⟨ho,_,_,h1.hx,h2.hx,.lamL rfl hk k1 k2 k3⟩
 |lamLe _ _ _ h=>exact fun e=>absurd e h
 |@lamR n out a b a' s y N ls most r n1 n2 n' e out' h1 hk h2 _ _ ih=>
  intro e;obtain⟨ho,x',y',k1,k2,k3⟩:=ih e;rcases a' with⟨k,N,l,s⟩;exact⟨ho,_,_,h1.hx,h2.hx,.lamR hk rfl k1 k2 k3⟩
 |lamRe _ _ _ h=>exact fun e=>absurd e h
 |other h1 k5 h2 k5' hne=>exact fun _=>⟨rfl,_,_,h1.hx,h2.hx,.other k5 k5' hne⟩
 |var h1 h2 hl=>exact fun _=>⟨rfl,_,_,h1.hx,h2.hx,.var rfl rfl rfl hl⟩
 |sortM h1 h2=>
  intro e;obtain⟨e1,e2⟩:=ztq hm e;rw[e1];exact⟨e2,_,_,h1.hx,h2.hx,.sortM rfl rfl rfl⟩
 |lvls hk h1 h2 hl=>
  intro e;obtain⟨e1,e2⟩:=z7p hm e;rw[e1];exact⟨e2,_,_,h1.hx,h2.hx,.lvls hk rfl rfl hl⟩
 |two1 hk h1 h2 hl _ ih=>
  intro e;obtain⟨ho,x',y',k1,k2,k3⟩:=ih e;exact⟨ho,_,_,h1.hx,h2.hx,.two1 hk rfl rfl hl k1 k2 k3⟩
 |two2 hk h1 h2 hl _ _ ih1 ih2=>
  intro e;obtain⟨ho,x',y',k1,k2,k3⟩:=ih1 rfl;obtain⟨ho2,x2,y2,l1,l2,l3⟩:=ih2 e;exact⟨ho2.trans ho,_,_,h1.hx,h2.hx,.two2 hk rfl rfl hl k1 k2 k3 l1 l2 l3⟩
end Go.Ab
end
section
set_option linter.unusedVariables false
set_option linter.unusedSimpArgs false
set_option maxRecDepth 100000
set_option maxHeartbeats 2000000
namespace Go.Ab
open Go.RowKit Go.Proofs
theorem Cw.det{g:Gr}{a b:Te}{m r:Bool}(h:Cw g a b m r):∀{m2 r2:Bool},Cw g a b m2 r2->(m=m2->r=r2)/\(m=false->r=true->r2=true):=by
 induction h with
 |lam2 hk hk' hx hy _ ih=>
  intro m2 r2 h2
  cases h2 with
  |lam2 _ _ hx2 hy2 h3=>cases hx.det hx2;cases hy.det hy2;have:=(ih h3).1 rfl;subst this;exact⟨fun _=>rfl,fun _=>id⟩
  |lamL _ h5=>exact absurd hk' h5
  |lamR h5=>exact absurd hk h5
  |other h5=>exact absurd hk h5
  |var h1=>omega
  |sortM h1=>omega
  |lvls h1=>omega
  |two1 h1=>omega
  |two2 h1=>omega
 |lamL hk hk' hx hy _ ih=>
  intro m2 r2 h2
  cases h2 with
  |lam2 _ h5=>exact absurd h5 hk'
  |lamL _ _ hx2 hy2 h3=>cases hx.det hx2;cases hy.det hy2;have:=(ih h3).1 rfl;subst this;exact⟨fun _=>rfl,fun _=>id⟩
  |lamR h5=>exact absurd hk h5
  |other h5=>exact absurd hk h5
  |var h1=>omega
  |sortM h1=>omega
  |lvls h1=>omega
  |two1 h1=>omega
  |two2 h1=>omega
 |lamR hk hk' hx hy _ ih=>
  intro m2 r2 h2
  cases h2 with
  |lam2 h5=>exact absurd h5 hk
  |lamL h5=>exact absurd h5 hk
  |lamR _ _ hx2 hy2 h3=>cases hx.det hx2;cases hy.det hy2;have:=(ih h3).1 rfl;subst this;exact⟨fun _=>rfl,fun _=>id⟩
  |other _ h5=>exact absurd hk' h5
  |var h1 h3=>omega
  |sortM h1 h3=>omega
  |lvls h1 h3=>omega
  |two1 h1 h3=>omega
  |two2 h1 h3=>omega
 |other hk hk' hne=>
  intro m2 r2 h2
  cases h2 with
  |lam2 h5=>exact absurd h5 hk
  |lamL h5=>exact absurd h5 hk
  |lamR _ h5=>exact absurd h5 hk'
  |other=>exact⟨fun _=>rfl,fun _ h=>by cases h⟩
  |var h1 h3 h4 h5=>exfalso;omega
  |sortM h1 h3 h4=>exfalso;simp at hne;omega
  |lvls h1 h3 h4 h5=>exfalso;omega
  |two1 h1 h3 h4 h5=>exfalso;omega
  |two2 h1 h3 h4 h5=>exfalso;omega
 |var hk hk' hN hl=>
  intro m2 r2 h2
  cases h2 with
  |lam2 h5=>omega
  |lamL h5=>omega
  |lamR _ h5=>omega
  |other _ _ h5=>exfalso;omega
  |var=>exact⟨fun _=>rfl,fun _=>id⟩
  |sortM h1=>exfalso;omega
  |lvls h1 h3=>exfalso;omega
  |two1 h1 h3=>exfalso;omega
  |two2 h1 h3=>exfalso;omega
 |sortM hk hk' hN=>
  intro m2 r2 h2
  cases h2 with
  |other _ _ h5=>exfalso;simp at h5;omega
  |var h1=>exfalso;omega
  |sortM=>exact⟨fun _=>rfl,fun h=>by cases h⟩
  |lvls h1 h3=>
   refine⟨fun h=>?_,fun h=>by cases h⟩
   rcases h1 with⟨_,h1⟩|h1
   ·subst h1;cases h
   ·omega
  |lam2 h5=>omega
  |lamL h5=>omega
  |lamR _ h5=>omega
  |two1 h1 h3=>exfalso;omega
  |two2 h1 h3=>exfalso;omega
 |lvls hk hk' hN hl=>
  intro m2 r2 h2
  cases h2 with
  |lam2 h5=>omega
  |lamL h5=>omega
  |lamR _ h5=>omega
  |other _ _ h5=>exfalso;omega
  |var h1=>exfalso;omega
  |sortM h1 h3=>
   refine⟨fun h=>?_,fun h hr=>?_⟩
   ·rcases hk with⟨_,h1⟩|h1
    ·subst h1;cases h
    ·omega
   ·simp only[z3k,Bool.and_true,Bool.and_eq_true]at hr
    exact hr.1
  |lvls=>exact⟨fun _=>rfl,fun _=>id⟩
  |two1 h1 h3=>exfalso;omega
  |two2 h1 h3=>exfalso;omega
 |two1 hk hk' hN hl hx hy _ ih=>
  intro m2 r2 h2
  cases h2 with
  |lam2 h5=>omega
  |lamL h5=>omega
  |lamR _ h5=>omega
  |other _ _ h5=>exfalso;omega
  |var h1=>exfalso;omega
  |sortM h1=>exfalso;omega
  |lvls h1=>exfalso;omega
  |two1=>exact⟨fun _=>rfl,fun _ h=>by cases h⟩
  |two2 _ _ _ _ hx2 hy2 h3=>cases hx.det hx2;cases hy.det hy2;exact absurd ((ih h3).1 rfl) (by decide)
 |@two2 k N k' N' ls ls' f x f' x' f1 f1' x1 x1' most r hk hk' hN hl hx hy _ hu hv _ ih1 ih2=>
  intro m2 r2 h2
  cases h2 with
  |lam2 h5=>omega
  |lamL h5=>omega
  |lamR _ h5=>omega
  |other _ _ h5=>exfalso;omega
  |var h1=>exfalso;omega
  |sortM h1=>exfalso;omega
  |lvls h1=>exfalso;omega
  |two1 _ _ _ _ hx2 hy2 h3=>cases hx.det hx2;cases hy.det hy2;exact absurd ((ih1 h3).1 rfl) (by decide)
  |two2 _ _ _ _ hx2 hy2 h3 hu2 hv2 h4=>
   cases hu.det hu2;cases hv.det hv2
   obtain⟨a1,a2⟩:=ih2 h4;exact⟨fun h=>a1 (by rw[h]),fun h hr=>a2 (by rw[h,Bool.and_false]) hr⟩
theorem z74{l:List Cl}:∀{m:List Int},zaz l m=m->∀c∈l,zh5 m c=m:=by
 induction l with
 |nil=>intro m _ c hc;cases hc
 |cons c l ih=>
  intro m h x hx;have e:zaz (c::l) m=zaz l (zh5 m c):=rfl;have h1:zh5 m c=m:=by
   have a:=zx5 m c;have b:=zn9 l (zh5 m c);rw[<- e,h]at b;exact ykf b a
  rcases List.mem_cons.1 hx with rfl|hx
  ·exact h1
  ·rw[e,h1]at h
   exact ih h x hx
theorem z9k{f:Fl}{a:At}(h:a∈zap f):0<=a.v/\a.v<(f.o.length:Int)+1:=by
 rw[zap]at h;rcases List.mem_cons.1 h with rfl|h
 ·exact⟨Int.le_refl 0,by show (0:Int)<_;omega⟩
 ·have:=zsi a f.o 1 h
  omega
theorem z1p(cons:List Co)(p:Nat)(x:Lv):z0s cons p x x=true:=by
 refine znj.2 fun n hn hb=>?_
 obtain⟨a,ha,m,k,hr⟩:=hb;obtain⟨h1,h2,h3⟩:=hr.model rfl;have hc:(⟨[a],⟨a.v,a.o+1⟩⟩:Cl)∈zp7 cons (zc0 n p) x a:=by
  unfold zp7;exact List.mem_append_right _ (List.mem_map.2 ⟨a,ha,rfl⟩)
 have h4:=z74 h1 _ hc;have hv:=z9k ha;have hl:=zsu x (zc0 n p);rw[zfw]at h3 hl;simp only[List.length_replicate]at h3;have h5:=zwu (m:=m) (c:=⟨[a],⟨a.v,a.o+1⟩⟩) (by simp[zsk,z0r];omega) (by dsimp only;omega)
 exact h5.2 h4
theorem z3j(g:Gr):∀p:List Lv,z3k g p p=true
 |[]=>rfl
 |a::p=>by rw[z3k,z3j g p,z3s,z1p];rfl
theorem Cw.refl{g:Gr}{a b:Te}{m r:Bool}(h:Cw g a b m r):a=b->r=true:=by
 induction h with
 |lam2 hk hk' hx hy _ ih=>intro e;cases e;exact ih (hx.det hy)
 |lamL hk hk'=>intro e;cases e;exact absurd hk hk'
 |lamR hk hk'=>intro e;cases e;exact absurd hk' hk
 |other hk hk' hne=>intro e;cases e;simp at hne
 |var=>exact fun _=>rfl
 |sortM=>intro e;cases e;exact z1p _ _ _
 |lvls=>intro e;cases e;exact z3j _ _
 |two1 hk hk' hN hl hx hy _ ih=>intro e;cases e;exact ih (hx.det hy)
 |two2 hk hk' hN hl hx hy _ hu hv _ ih1 ih2=>intro e;cases e;exact ih2 (hu.det hv)
end Go.Ab
end
section
set_option linter.unusedVariables false
set_option linter.unusedSimpArgs false
set_option maxRecDepth 100000
set_option maxHeartbeats 2000000
namespace Go.Ab
open Go.RowKit Go.Proofs
mutual
def clsB(q:Int):Lv->Bool
 |.mk k n ks=>(decide (k≠5) || decide (n<q)) && decide (k≠6) && clsBs q ks
def clsBs(q:Int):List Lv->Bool
 |[]=>true
 |x::r=>clsB q x && clsBs q r
end
mutual
theorem right_cls{q:Int}:∀{l:Lv} {d:Int},rightB q 0 l d=true->clsB q l=true
 |.mk k n ks,d,h=>by
  obtain⟨h1,h2,h3,h4,h5,h6,h7⟩:=zo4 h;rw[clsB,rights_cls h7,Bool.and_true];simp only[Bool.and_eq_true,Bool.or_eq_true,decide_eq_true_eq];exact⟨by by_cases h:k=5;exact .inr (h4 h);exact .inl h,fun h=>by have:=h5 h;omega⟩
theorem rights_cls{q:Int}:∀{ks:List Lv} {d:Int},rightsB q 0 ks d=true->clsBs q ks=true
 |[],_,_=>rfl
 |x::r,d,h=>by
  rw[rightsB,Bool.and_eq_true]at h;rw[clsBs,right_cls h.1,rights_cls h.2];rfl
end
mutual
theorem cls_right{p m q:Int}:∀{l:Lv} {d:Int},rightB p m l d=true->clsB q l=true->rightB q 0 l d=true
 |.mk k n ks,d,h,hc=>by
  obtain⟨h1,h2,h3,h4,h5,h6,h7⟩:=zo4 h;rw[clsB]at hc;simp only[Bool.and_eq_true,Bool.or_eq_true,decide_eq_true_eq]at hc;have h8:=clss_right h7 hc.2;rw[rightB,if_neg (by omega),if_neg (by simpa using h2)]
  by_cases k5:k=5
  ·rw[if_pos k5];simp;omega
  ·rw[if_neg k5,if_neg hc.1.2,h8];simp;exact h6 k5 hc.1.2
theorem clss_right{p m q:Int}:∀{ks:List Lv} {d:Int},rightsB p m ks d=true->clsBs q ks=true->rightsB q 0 ks d=true
 |[],_,_,_=>rfl
 |x::r,d,h,hc=>by
  rw[rightsB,Bool.and_eq_true]at h;rw[clsBs,Bool.and_eq_true]at hc;rw[rightsB,cls_right h.1 hc.1,clss_right h.2 hc.2];rfl
end
mutual
theorem sub_cls{ps:List Lv}{p q:Int}(hp:(ps.length:Int)=p)(hx:∀x∈ps,clsB q x=true):∀{l:Lv} {d:Int},rightB p 0 l d=true->clsB q (subL ps [] l)=true
 |.mk k n ks,d,h=>by
  obtain⟨h1,h2,h3,h4,h5,h6,h7⟩:=zo4 h;have h8:=subs_cls hp hx h7;rw[subL];by_cases k5:k=5
  ·have hn:n.toNat<ps.length:=by have:=h4 k5;omega
   rw[show byL ps [] k n=some (ps[n.toNat]) by unfold byL;rw[if_pos k5,List.getElem?_eq_getElem hn]]
   exact hx _ (List.getElem_mem hn)
  ·have k6:¬ k=6:=fun h=>by have:=h5 h;omega
   rw[show byL ps [] k n=none by unfold byL;rw[if_neg k5,if_neg k6]]
   dsimp only;rw[clsB,h8];simp[k5,k6]
theorem subs_cls{ps:List Lv}{p q:Int}(hp:(ps.length:Int)=p)(hx:∀x∈ps,clsB q x=true):∀{ks:List Lv} {d:Int},rightsB p 0 ks d=true->clsBs q (subLs ps [] ks)=true
 |[],_,_=>rfl
 |x::r,d,h=>by
  rw[rightsB,Bool.and_eq_true]at h;rw[subLs,clsBs,sub_cls hp hx h.1,subs_cls hp hx h.2];rfl
end
theorem zph{l:Lv}{p m:Int}(h:zam l p m=true):nodes l 101<=100/\rightB p m l 12=true:=by
 unfold zam at h;simp only[Bool.and_eq_true,decide_eq_true_eq]at h;exact⟨h.1.2,h.2⟩
theorem ye4{l:Lv}{q:Int}(hq:0<=q/\q<=5)(h1:nodes l 101<=100)(h2:rightB q 0 l 12=true):zam l q 0=true:=by
 unfold zam;simp only[Bool.and_eq_true,decide_eq_true_eq];exact⟨⟨⟨⟨⟨hq.1,hq.2⟩,by omega⟩,by omega⟩,h1⟩,h2⟩
theorem yjb{l:Lv}{ps:List Lv}{p q:Int}(hq:0<=q/\q<=5)(hp:(ps.length:Int)=p)(hx:∀x∈ps,zam x q 0=true)(hl:zam l p 0=true)(he:(zsl l ps []).2=0):zam (zsl l ps []).1 q 0=true:=by
 unfold zsl at he ⊢
 split at he
 ·cases he
 ·rename_i h1
  rw[if_neg h1]
  split at he
  ·rename_i h2
   rw[if_pos h2];have h3:=sub_cls hp (fun x h=>right_cls (zph (hx x h)).2) (zph hl).2
   exact ye4 hq (zph h2).1 (cls_right (zph h2).2 h3)
  ·cases he
mutual
def lvT(q:Int):Te->Bool
 |.mk k n ls ks=>(ls.all fun x=>zam x q 0) && lvTs q ks
def lvTs(q:Int):List Te->Bool
 |[]=>true
 |x::r=>lvT q x && lvTs q r
end
theorem z6s{q:Int}:∀{ks:List Te},lvTs q ks=true->∀x∈ks,lvT q x=true
 |y::r,h,x,hx=>by
  rw[lvTs,Bool.and_eq_true]at h;rcases List.mem_cons.1 hx with rfl|hx
  ·exact h.1
  ·exact z6s h.2 x hx
theorem ze0{q k n:Int}{ls:List Lv}{ks:List Te}(h:lvT q (.mk k n ls ks)=true):(∀x∈ls,zam x q 0=true)/\∀x∈ks,lvT q x=true:=by
 rw[lvT,Bool.and_eq_true]at h;exact⟨List.all_eq_true.1 h.1,z6s h.2⟩
mutual
theorem right_lv{q m:Int}(hm:m=0):∀{t:Te} {v d:Int},rightT q m t v d=true->lvT q t=true
 |.mk k n ls ks,v,d,h=>by
  obtain⟨h1,h2,h3,h4,h5⟩:=zca h;subst hm;rw[lvT,h3,rights_lv rfl h5];rfl
theorem rights_lv{q m k:Int}(hm:m=0):∀{ks:List Te} {i v d:Int},rightTs q m k ks i v d=true->lvTs q ks=true
 |[],_,_,_,_=>rfl
 |x::r,i,v,d,h=>by
  rw[rightTs,Bool.and_eq_true]at h;rw[lvTs,right_lv hm h.1,rights_lv hm h.2];rfl
end
mutual
theorem lift_lv(q b:Int):∀(t:Te) (f:Int),lvT q (liftT b t f)=lvT q t
 |.mk k n ls ks,f=>by rw[liftT,lvT,lvT,lifts_lv q b k ks 0 f]
theorem lifts_lv(q b k:Int):∀(ks:List Te) (i f:Int),lvTs q (liftTs b k ks i f)=lvTs q ks
 |[],_,_=>rfl
 |x::r,i,f=>by rw[liftTs,lvTs,lvTs,lift_lv q b x,lifts_lv q b k r]
end
mutual
theorem open_lv{q:Int}{u:Te}(hu:lvT q u=true):∀(t:Te) (f:Int),lvT q t=true->lvT q (openT u t f)=true
 |.mk k n ls ks,f,h=>by
  rw[openT]
  split
  ·rw[lift_lv];exact hu
  ·rw[lvT,Bool.and_eq_true]at h ⊢
   exact⟨h.1,opens_lv hu k ks 0 f h.2⟩
theorem opens_lv{q:Int}{u:Te}(hu:lvT q u=true)(k:Int):∀(ks:List Te) (i f:Int),lvTs q ks=true->lvTs q (openTs u k ks i f)=true
 |[],_,_,_=>rfl
 |x::r,i,f,h=>by
  rw[lvTs,Bool.and_eq_true]at h;rw[openTs,lvTs,open_lv hu x _ h.1,opens_lv hu k r _ _ h.2];rfl
end
mutual
theorem subt_lv{ps:List Lv}{p q:Int}(hq:0<=q/\q<=5)(hp:(ps.length:Int)=p)(hx:∀x∈ps,zam x q 0=true):∀{t:Te},lvT p t=true->okTm ps [] t=true->lvT q (subT ps [] t)=true
 |.mk k n ls ks,h,ho=>by
  rw[lvT,Bool.and_eq_true]at h;rw[okTm,Bool.and_eq_true]at ho;rw[subT,lvT,subts_lv hq hp hx h.2 ho.2,Bool.and_true,List.all_eq_true];intro y hy;obtain⟨l,hl,rfl⟩:=List.mem_map.1 hy;exact yjb hq hp hx (List.all_eq_true.1 h.1 l hl) (by simpa using List.all_eq_true.1 ho.1 l hl)
theorem subts_lv{ps:List Lv}{p q:Int}(hq:0<=q/\q<=5)(hp:(ps.length:Int)=p)(hx:∀x∈ps,zam x q 0=true):∀{ks:List Te},lvTs p ks=true->okTms ps [] ks=true->lvTs q (subTs ps [] ks)=true
 |[],_,_=>rfl
 |x::r,h,ho=>by
  rw[lvTs,Bool.and_eq_true]at h;rw[okTms,Bool.and_eq_true]at ho;rw[subTs,lvTs,subt_lv hq hp hx h.1 ho.1,subts_lv hq hp hx h.2 ho.2];rfl
end
theorem zvz{t:Te}{v q:Int}(h:zdv t v q 0=true):lvT q t=true:=by
 unfold zdv at h;simp only[Bool.and_eq_true]at h;exact right_lv rfl h.2
theorem Hd.lv{env:List De}(hR:zm7 env=true){q:Int}(hq:0<=q/\q<=5){n:Nat}{t t':Te}{n':Nat}(h:Hd env n t t' n'):lvT q t=true->lvT q t' = true:=by
 induction h with
 |stuck=>exact id
 |lett ho _ ih=>
  intro h;have h2:=(ze0 h).2;rw[(zpj ho).2.2.1]at ih;exact ih (open_lv (h2 _ (by simp)) _ _ (h2 _ (by simp)))
 |const hN hu hs _ ih=>
  intro h;obtain⟨_,rfl,ho⟩:=zt2 hs;exact ih (subt_lv hq (zqf hu).2.2 (ze0 h).1 (zvz (zt7 hR hu)) ho)
 |app _ _ ih=>
  intro h;have h2:=(ze0 h).2;have h3:=ih (h2 _ (by simp))
  have h4:=h2 _ (show _∈[_,_] from List.mem_cons_of_mem _ (List.mem_singleton.2 rfl))
  rw[lvT,lvTs,lvTs,h3,h4];rfl
 |beta _ ho _ ih1 ih2=>
  intro h;have h2:=(ze0 h).2;have h3:=(ze0 (ih1 (h2 _ (by simp)))).2
  rw[(zpj ho).2.2.1]at ih2;exact ih2 (open_lv (h2 _ (by simp)) _ _ (h3 _ (by simp)))
theorem ykp{q:Int}{t:Te}(hL:(zgw t 0 1).2=0)(h:lvT q t=true):lvT q (zxm t)=true:=by
 have e:(zgw t 0 1).1=liftT 1 t 0:=by
  revert hL;unfold zgw zs5
  split
  ·intro h;cases h
  ·split
   ·intro _;rfl
   ·intro h;cases h
 rw[zxm,e,lvT,lvTs,lvTs,lift_lv,h];rfl
def gaG(g:Gr):Gr:={ g with mode:=2 }
noncomputable def chk(g:Gr)(c:Co):Bool:=z3s g c.a c.b
def rgC(q:Int)(c:Co):Prop:=zam c.a q 0=true/\zam c.b q 0=true
theorem z4k{g:Gr}{out:List Co}{a b:Lv}(h:(zha (gaG g) (0,out) a b).2.1=0):zha (gaG g) (0,out) a b=(true,0,out++[.mk a b]):=by
 unfold zha at h ⊢;rw[if_neg (by simp),if_pos (show (gaG g).mode=2 from rfl)]at h ⊢
 split at h
 ·cases h
 ·rename_i h1;rw[if_neg h1]
theorem z4l{g:Gr}(hm:g.mode=1)(hc:zdz g.cons g.params=true){out:List Co}{a b:Lv}(ha:zam a g.params 0=true)(hb:zam b g.params 0=true):zha g (0,out) a b=(z3s g a b,0,out):=by
 unfold zha;rw[if_neg (by simp),if_neg (by omega),if_pos (by rw[hc,ha,hb];rfl)];rfl
theorem yil{g:Gr}{out:List Co}{a b:Lv}(h:(zj2 (gaG g) (0,out) a b).2.1=0):zj2 (gaG g) (0,out) a b=(true,0,out++[.mk a b,.mk b a]):=by
 have h1:(zha (gaG g) (0,out) a b).2.1=0:=by
  unfold zj2 at h
  split at h
  ·rename_i h1;exact (zoe h1).2
  ·exact h
 have h2:=z4k h1;unfold zj2 at h ⊢;rw[h2]at h ⊢;rw[if_pos rfl]at h ⊢;rw[z4k h,List.append_assoc];rfl
theorem yev{g:Gr}{q:Int}:∀{ls ls':List Lv} {out:List Co},(zh7 (gaG g) (0,out) ls ls').2.1=0->(∀x∈ls,zam x q 0=true)->(∀x∈ls',zam x q 0=true) ->
  ∃new,zh7 (gaG g) (0,out) ls ls' = (true,0,out++new)/\(∀c∈new,rgC q c)/\z3k g ls ls' = new.all (chk g)
 |a::xs,b::ys,out,h,h1,h2=>by
  have hb:(zj2 (gaG g) (0,out) a b).2.1=0:=by
   rw[zh7]at h
   split at h
   ·rename_i h1;exact (zsg h1).2
   ·exact h
  have hb:=yil hb;rw[zh7,hb,if_pos rfl]at h;obtain⟨new,e1,e2,e3⟩:=yev h (fun x hx=>h1 x (by simp[hx])) (fun x hx=>h2 x (by simp[hx]))
  refine⟨.mk a b :: .mk b a::new,?_,?_,?_⟩
  ·rw[zh7,hb,if_pos rfl,e1,List.append_assoc];rfl
  ·intro c hc
   rcases List.mem_cons.1 hc with rfl|hc
   ·exact⟨h1 a (by simp),h2 b (by simp)⟩
   ·rcases List.mem_cons.1 hc with rfl|hc
    ·exact⟨h2 b (by simp),h1 a (by simp)⟩
    ·exact e2 c hc
  ·rw[z3k,e3,List.all_cons,List.all_cons,Bool.and_assoc];rfl
 |[],_,out,h,_,_=>⟨[],by simp[zh7],by simp,by simp[z3k]⟩
 |_::_,[],out,h,_,_=>⟨[],by simp[zh7],by simp,by simp[z3k]⟩
theorem yew{g:Gr}(hm:g.mode=1)(hc:zdz g.cons g.params=true){out:List Co}:∀{ls ls':List Lv},(∀x∈ls,zam x g.params 0=true)->(∀x∈ls',zam x g.params 0=true)->zh7 g (0,out) ls ls' = (z3k g ls ls',0,out)
 |a::xs,b::ys,h1,h2=>by
  have ha:=h1 a (by simp)
  have hb:=h2 b (by simp)
  have e:zj2 g (0,out) a b=(z3s g a b && z3s g b a,0,out):=by
   unfold zj2;rw[z4l hm hc ha hb]
   cases h:z3s g a b
   ·simp
   ·simp[z4l hm hc hb ha]
  rw[zh7,z3k,e]
  cases h:(z3s g a b && z3s g b a)
  ·simp
  ·simp[yew hm hc (ls:=xs) (ls':=ys) (fun x hx=>h1 x (by simp[hx])) (fun x hx=>h2 x (by simp[hx]))]
 |[],_,_,_=>by simp[zh7,z3k]
 |_::_,[],_,_=>by simp[zh7,z3k]
theorem Al.ga{g:Gr}(hm:g.mode=1)(hR:zm7 g.env=true)(hc:zdz g.cons g.params=true){n:Nat}{out:List Co}{a b:Te}{most r:Bool}{n':Nat}{e:Int}{out':List Co}(h:Al (gaG g) n out a b most r n' e out'):
  e=0->lvT g.params a=true->lvT g.params b=true->∃new,out' = out++new/\(∀c∈new,rgC g.params c)/\∀o2:List Co,(new.all (chk g)=true->Al g n o2 a b most r n' 0 o2)/\(new.all (chk g)=false->∃m,Al g n o2 a b most false m 0 o2):=by
 have hq:0<=g.params/\g.params<=5:=by
  unfold zdz at hc;simp only[Bool.and_eq_true,decide_eq_true_eq]at hc;omega
 induction h with
 |burn0=>intro h;cases h
 |headA h=>exact fun e=>absurd e h.ne
 |headB _ h=>exact fun e=>absurd e h.ne
 |lam2 h1 h2 _ ih=>
  intro e ha hb;have l1:=(ze0 (h1.lv hR hq ha)).2 _ (show _∈[_,_] from List.mem_cons_of_mem _ (List.mem_singleton.2 rfl))
  have l2:=(ze0 (h2.lv hR hq hb)).2 _ (show _∈[_,_] from List.mem_cons_of_mem _ (List.mem_singleton.2 rfl))
  obtain⟨new,e1,e2,e3⟩:=ih e l1 l2;exact⟨new,e1,e2,fun o2=>⟨fun h=>.lam2 h1 h2 ((e3 o2).1 h),fun h=>by obtain⟨m,h⟩:=(e3 o2).2 h;exact⟨m,.lam2 h1 h2 h⟩⟩⟩
 |lamL h1 h2 hk hL _ ih=>
  intro e ha hb;have l1:=(ze0 (h1.lv hR hq ha)).2 _ (show _∈[_,_] from List.mem_cons_of_mem _ (List.mem_singleton.2 rfl))
  have l2:=ykp hL (h2.lv hR hq hb);obtain⟨new,e1,e2,e3⟩:=ih e l1 l2;exact⟨new,e1,e2,fun o2=>⟨fun h=>.lamL h1 h2 hk hL ((e3 o2).1 h),fun h=>by obtain⟨m,h⟩:=(e3 o2).2 h;exact⟨m,.lamL h1 h2 hk hL h⟩⟩⟩
 |lamLe _ _ _ h=>exact fun e=>absurd e h
 |lamR h1 hk h2 hL _ ih=>
  intro e ha hb;have l1:=ykp hL (h1.lv hR hq ha);have l2:=(ze0 (h2.lv hR hq hb)).2 _ (show _∈[_,_] from List.mem_cons_of_mem _ (List.mem_singleton.2 rfl))
  obtain⟨new,e1,e2,e3⟩:=ih e l1 l2;exact⟨new,e1,e2,fun o2=>⟨fun h=>.lamR h1 hk h2 hL ((e3 o2).1 h),fun h=>by obtain⟨m,h⟩:=(e3 o2).2 h;exact⟨m,.lamR h1 hk h2 hL h⟩⟩⟩
 |lamRe _ _ _ h=>exact fun e=>absurd e h
 |other h1 k5 h2 k5' hne=>
  intro _ _ _;exact⟨[],by simp,by simp,fun o2=>⟨fun _=>.other h1 k5 h2 k5' hne,fun h=>by cases h⟩⟩
 |var h1 h2 hl=>
  intro _ _ _;exact⟨[],by simp,by simp,fun o2=>⟨fun _=>.var h1 h2 hl,fun h=>by cases h⟩⟩
 |@sortM n out a b N x y ks ks' n1 n2 h1 h2=>
  intro e ha hb;have l1:=(ze0 (h1.lv hR hq ha)).1 x (by simp)
  have l2:=(ze0 (h2.lv hR hq hb)).1 y (by simp)
  have e1:=z4k e;rw[e1];refine⟨[.mk x y],rfl,?_,fun o2=>?_⟩
  ·intro c hc
   simp only[List.mem_singleton]at hc;subst hc;exact⟨l1,l2⟩
  ·have h3:Al g (n+1) o2 a b true _ n2 _ _:=.sortM (g:=g) (out:=o2) h1 h2
   rw[z4l hm hc l1 l2]at h3;have e4:[Co.mk x y].all (chk g)=z3s g x y:=by simp[chk,Co.a,Co.b]
   rw[e4];exact⟨fun h=>by rw[h]at h3;exact h3,fun h=>by rw[h]at h3;exact⟨n2,h3⟩⟩
 |@lvls n out a b k N ls ls' ks ks' most n1 n2 hk h1 h2 hl=>
  intro e ha hb;have l1:=(ze0 (h1.lv hR hq ha)).1;have l2:=(ze0 (h2.lv hR hq hb)).1;obtain⟨new,e1,e2,e3⟩:=yev e l1 l2;rw[e1];refine⟨new,rfl,e2,fun o2=>?_⟩
  have h3:Al g (n+1) o2 a b most _ n2 _ _:=.lvls (g:=g) (out:=o2) hk h1 h2 hl;rw[yew hm hc l1 l2]at h3;rw[<- e3];exact⟨fun h=>by rw[h]at h3;exact h3,fun h=>by rw[h]at h3;exact⟨n2,h3⟩⟩
 |two1 hk h1 h2 hl _ ih=>
  intro e ha hb;have l1:=(ze0 (h1.lv hR hq ha)).2 _ (List.mem_cons_self);have l2:=(ze0 (h2.lv hR hq hb)).2 _ (List.mem_cons_self);obtain⟨new,e1,e2,e3⟩:=ih e l1 l2;exact⟨new,e1,e2,fun o2=>⟨fun h=>.two1 hk h1 h2 hl ((e3 o2).1 h),fun h=>by obtain⟨m,h⟩:=(e3 o2).2 h;exact⟨m,.two1 hk h1 h2 hl h⟩⟩⟩
 |two2 hk h1 h2 hl _ _ ih1 ih2=>
  intro e ha hb;have l1:=(ze0 (h1.lv hR hq ha)).2 _ (List.mem_cons_self);have l2:=(ze0 (h2.lv hR hq hb)).2 _ (List.mem_cons_self);have l3:=(ze0 (h1.lv hR hq ha)).2 _ (show _∈[_,_] from List.mem_cons_of_mem _ (List.mem_singleton.2 rfl))
  have l4:=(ze0 (h2.lv hR hq hb)).2 _ (show _∈[_,_] from List.mem_cons_of_mem _ (List.mem_singleton.2 rfl))
  obtain⟨new1,e1,e2,e3⟩:=ih1 rfl l1 l2;obtain⟨new2,e4,e5,e6⟩:=ih2 e l3 l4;refine⟨new1++new2,by rw[e4,e1,List.append_assoc],?_,fun o2=>?_⟩
  ·intro c hc
   rcases List.mem_append.1 hc with hc|hc
   ·exact e2 c hc
   ·exact e5 c hc
  ·rw[List.all_append]
   cases hn:new1.all (chk g)
   ·refine⟨fun h=>by simp at h,fun _=>?_⟩
    obtain⟨m,h⟩:=(e3 o2).2 hn;exact⟨m,.two1 hk h1 h2 hl h⟩
   ·rw[Bool.true_and]
    have h3:=(e3 o2).1 hn;exact⟨fun h=>.two2 hk h1 h2 hl h3 ((e6 o2).1 h),fun h=>by obtain⟨m,h⟩:=(e6 o2).2 h;exact⟨m,.two2 hk h1 h2 hl h3 h⟩⟩
end Go.Ab
end
section
set_option linter.unusedVariables false
set_option linter.unusedSimpArgs false
set_option maxRecDepth 100000
set_option maxHeartbeats 8000000
namespace Go.Ab
open Go.RowKit Go.Proofs
theorem ConvS.none{g:Gr}(hm:g.mode=1){a b:Te}{most:Bool}{f:Int}{r:Bool×List Co×Int×Int}(h:ConvS g a b most f r):r.2.1=[]:=by
 cases h with
 |arg=>rfl
 |er=>rfl
 |ok _ _ _ _ _ h=>exact (h.cw hm rfl).1
theorem ConvS.bad{g:Gr}{a b:Te}{most:Bool}{f:Int}{r:Bool×List Co×Int×Int}(h:ConvS g a b most f r)(he:r.2.2.2≠0):r.2.1=[]:=by
 cases h with
 |arg=>rfl
 |er=>rfl
 |ok=>exact absurd rfl he
theorem ConvS.gather{g:Gr}(hm:g.mode=1)(h0:g.metas=0){a b:Te}{most:Bool}{n:Nat}{r1 r2:Bool×List Co×Int×Int}(h1:ConvS g a b most n r1)(h2:ConvS (gaG g) a b most n r2)(e1:r1.2.2.2=0)(e2:r2.2.2.2=0):
  zdz g.cons g.params=true/\(∀c∈r2.2.1,rgC g.params c)/\r1.1=(r2.1 && r2.2.1.all (chk g)):=by
 cases h1 with
 |arg=>cases e1
 |er _ _ _ _ _ _ h=>exact absurd e1 h
 |@ok n1 n1' r1 out1 a1 a2 a3 a4 a5 A1=>
  cases h2 with
  |arg=>cases e2
  |er _ _ _ _ _ _ h=>exact absurd e2 h
  |@ok n2 n2' r2 out2 b1 b2 b3 b4 b5 A2=>
   obtain⟨_,i1,i2,_⟩:=zxv a1;have e:n1=n2:=by omega
   subst e;rw[h0]at a2 a3;obtain⟨new,k1,k2,k3⟩:=A2.ga hm i1 i2 rfl (zvz a2) (zvz a3);rw[List.nil_append]at k1;subst k1;refine⟨i2,k2,?_⟩;obtain⟨_,a',b',x1,x2,x3⟩:=A1.cw hm rfl;dsimp only
   cases hn:out2.all (chk g)
   ·obtain⟨m,A3⟩:=(k3 []).2 hn
    obtain⟨_,a2',b2',y1,y2,y3⟩:=A3.cw hm rfl
    cases x1.det y1
    cases x2.det y2
    rw[Bool.and_false];exact (x3.det y3).1 rfl
   ·obtain⟨_,a2',b2',y1,y2,y3⟩:=((k3 []).1 hn).cw hm rfl
    cases x1.det y1
    cases x2.det y2
    rw[Bool.and_true];exact (x3.det y3).1 rfl
theorem z0m(l:List (List Int))(hl:BsOk l)(K:List Int)(hK:zbp K)(hKl:K.length<=140737488355328)(L:List Int)(hL:zbp L)(hlen:L.length<=140737488355328)(most:Bool)(H:List AO):
  F ze6 [.sl (yjn l),.sl (u8s K),.sl (u8s L),.bool most] H=some (.ret (.bool true),H):=by
 have hG:=fun H=>yda l hl K hK hKl false H
 have hg:=z8q hl hK false;have hmode:(zk5 l K false).mode=1:=rfl;have hmetas:(zk5 l K false).metas=0:=rfl;have hpar:(zk5 l K false).params=((3:Nat):Int):=rfl;have h0:AO.box [.sl (u8s L),.int .i64 0]=mkr L 0:=rfl;generalize zk5 l K false=g at *;have hT:F zg3 [.ptr H.length 0,.agg g.cs,.int .i64 4] ((H++[mkr L 0]).set H.length (mkr L 0))=_:=z3n L hL hlen g 3 (by omega) 0 (by decide) H.length (H++[mkr L 0]) (by simp)
 have hat:=tmS_at hL g 4 0;have hsm:=tmS_sm hL g 3 0;have hok:=yjo hL g 4 0;simp only[Int.reducePow,Nat.reduceAdd]at hT hat hsm;generalize tmS L g 4 0=q at *;rcases q with⟨a,b0⟩;dsimp only at hT hat hsm hok;have hN:=ye5 L hL hlen g a hok hsm b0 (by omega) H.length (H++[mkr L b0]) (by simp)
 have hnk:=yg5 hL g a hok b0;generalize z8i L g a b0=r at *;rcases r with⟨b,b1⟩;dsimp only at hN hnk;have hg2:okG (gaG g):=hg;obtain⟨⟨x,c,n1,e⟩,s1⟩:=zxo g a b most 400;obtain⟨⟨y,d,n2,f⟩,s2⟩:=zxo (gaG g) a b most 400;have t1:=fun H=>zgx g hg a b hok hnk most 400 _ s1 H
 have t2:=fun H=>zgx (gaG g) hg2 a b hok hnk most 400 _ s2 H
 have u1:=s1.none hmode;have u2:=s2.bad;have u3:=s1.gather (n:=400) hmode hmetas s2;have hd:=s2.oks hg2 hok hnk;have hdl:d.length<=100:=by
  generalize hq:(y,d,n2,f)=q at s2
  cases s2 with
  |arg=>cases hq;simp
  |er=>cases hq;simp
  |ok _ _ _ _ _ h=>cases hq;exact h.len (by simp)
 dsimp only at u1 u2 u3 hd;subst u1;rw[zpg,zpg]at hT hN;rcases a with⟨k1,m1,l1,q1⟩;rcases b with⟨k2,m2,l2,q2⟩;have e0:Co.css []=[]:=rfl;have hgc:(gaG g).cs=[.sl (De.css g.env),.int .i64 g.params,.int .i64 g.metas,.sl (Co.css g.cons),.int .i64 2]:=rfl;rw[hgc]at t2;simp only[Te.cs,Gr.cs,yfn,e0]at hG hT hN t1 t2;rw[zq9];by_cases hf:f=0
 ·subst hf
  by_cases he:e=0
  ·subst he
   obtain⟨i2,k2,k3⟩:=u3 rfl rfl;have hLq:∀c∈d,∀H,∃vs,F zmh [.sl (Co.css g.cons),.int .i64 g.params,.agg c.a.cs,.agg c.b.cs] H=some (.ret (.tup [.bool (chk g c),.sl (zay vs),.int .i64 0]),H):=by
    intro c hc H;obtain⟨r1,r2⟩:=k2 c hc;obtain⟨o1,o2⟩:=hd.2 c hc;have hpp:g.params.toNat=3:=by rw[hpar];rfl
    unfold chk z3s;rw[hpp];rw[hpar]at i2 r1 r2 ⊢;exact yjf g.cons hg.2.2 3 c.a c.b o1 o2 i2 r1 r2 H
   have loop:∀(suf pre:List Co) (all:Bool),d=pre++suf->x=(all && suf.all (chk g)) ->
     zen H (H++[mkr L b1]) (.bool true) (.bool x) (.sl (Co.css d)) (.bool all) (.int .i64 pre.length) [.sl (De.css g.env),.int .i64 g.params,.int .i64 g.metas,.sl (Co.css g.cons),.int .i64 2]=some (.ret (.bool true),H):=by
    intro suf
    induction suf with
    |nil=>
     intro pre all e hx;rw[List.append_nil]at e;subst e;rw[List.all_nil,Bool.and_true]at hx;subst hx;rw[zen,zab]
     cases x <;> simp only[↓reduceIte,go_sem,beq_self_eq_true]
    |cons c suf ih=>
     intro pre all e hx;have hc:c∈d:=by rw[e];simp
     have hgt:d[pre.length]?=some c:=by rw[e];simp
     have hpl:(pre.length:Int)<d.length:=by rw[e];simp;omega
     obtain⟨vs,hL1⟩:=hLq c hc (H++[mkr L b1]);have:=ih (pre++[c]) (all && chk g c) (by rw[e];simp) (by rw[hx,List.all_cons,Bool.and_assoc])
     simp only[zaf]at this;rw[zen,zab];rcases c with⟨⟨k3,n3,l3⟩,⟨k4,n4,l4⟩⟩;simp only[Co.a,Co.b,Lv.cs]at hL1;cases all
     ·simp only[Bool.false_and]at this
      simp only[↓reduceIte,go_sem,hpl,hgt,Co.cs,Co.a,Co.b,Lv.cs,List.cons_append,List.nil_append,hL1,zac (n:=pre.length) (by omega),this]
     ·simp only[Bool.true_and]at this
      simp only[↓reduceIte,go_sem,hpl,hgt,Co.cs,Co.a,Co.b,Lv.cs,List.cons_append,List.nil_append,hL1,zac (n:=pre.length) (by omega),this]
   have:=loop d [] y rfl k3;simp only[List.length_nil,Int.natCast_zero]at this;simp only[↓reduceIte,go_sem,hG,h0,hT,hN,t1,t2,zsh,Te.cs,this]
  ·simp only[↓reduceIte,go_sem,hG,h0,hT,hN,t1,t2,zsh,Te.cs,he]
 ·have hdn:=u2 hf
  subst hdn;simp only[e0]at t2;simp only[↓reduceIte,go_sem,hG,h0,hT,hN,t1,t2,zsh,Te.cs,hf]
theorem zwn(l:List (List Int))(hl:BsOk l)(K:List Int)(hK:K.length<=140737488355328/\zbp K)(L:List Int)(hL:L.length<=140737488355328/\zbp L)(most:Bool)(H:List AO):
  F ze6 [.sl (l.map fun l=>[.sl (u8s l)]),.sl (u8s K),.sl (u8s L),.bool most] H=some (.ret (.bool true),H) :=
 z0m l hl K hK.2 hK.1 L hL.2 hL.1 most H
end Go.Ab
end
