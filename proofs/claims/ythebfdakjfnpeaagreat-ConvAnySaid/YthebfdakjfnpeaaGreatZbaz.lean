/- What the law ConvAny of layer 17 comes to, part 26. Conditions: none. -/
import Derived.Test.YthebfdakjfnpeaaGreatZbay
section
set_option linter.unusedVariables false
set_option linter.unusedSimpArgs false
set_option maxRecDepth 100000
set_option maxHeartbeats 2000000
namespace Go.Ab
open Go.RowKit Go.Proofs
theorem zn0(g:Gr)(s:Int×List Co)(a b:Lv)(h:s.2.length<=100):(zgh g s a b).2.2.length<=100:=by
 unfold zgh
 split
 ·exact h
 split
 ·split
  ·exact h
  ·simp;omega
 split <;> exact h
noncomputable def zog(g:Gr)(s:Int×List Co)(a b:Lv):Bool×Int×List Co :=
 if (zgh g s a b).1=true then zgh g (zgh g s a b).2 b a else (false,(zgh g s a b).2)
noncomputable def zj7(g:Gr):Int×List Co->List Lv->List Lv->Bool×Int×List Co
 |s,a::xs,b::ys=>if (zog g s a b).1=true then zj7 g (zog g s a b).2 xs ys else (false,(zog g s a b).2)
 |s,_,_=>(true,s)
theorem z3x(g:Gr)(s:Int×List Co)(a b:Lv)(h:s.2.length<=100):(zog g s a b).2.2.length<=100:=by
 have h1:=zn0 g s a b h;unfold zog
 split
 ·exact zn0 g _ b a h1
 ·exact h1
theorem ye5(g:Gr)(hcons:∀c∈g.cons,c.ok)(hl:g.cons.length<=1000)(hmode:g.mode=1\/g.mode=2)(a b:Lv)(ha:a.ok)(hb:b.ok)(A X:List AO)(n e:Int)(ver:Nat)(out:List Co)(ho:out.length<=100):
  ∃ver',F zd4 [.ptr (A.length+1) 0,.agg a.cs,.agg b.cs] (zjt A g n e ver out X)=some (.ret (.bool (zog g (e,out) a b).1),zjt A g n (zog g (e,out) a b).2.1 ver' (zog g (e,out) a b).2.2 X):=by
 obtain⟨v1,h1⟩:=z06 g hcons hl hmode a b ha hb A X n e ver out ho;obtain⟨v2,h2⟩:=z06 g hcons hl hmode b a hb ha A X n (zgh g (e,out) a b).2.1 v1 (zgh g (e,out) a b).2.2 (zn0 g _ a b ho);have hfin:=fun n' e' ver' out' b=>zeq A X g n e ver out n' e' ver' out' b
 rw[zqa];unfold zog
 cases hc:(zgh g (e,out) a b).1
 ·rw[hc]at h1
  refine⟨v1,?_⟩;simp only[↓reduceIte,go_sem,h1,hfin]
 ·rw[hc]at h1
  refine⟨v2,?_⟩;simp only[↓reduceIte,go_sem,h1,h2,hfin]
theorem yjf(g:Gr)(hcons:∀c∈g.cons,c.ok)(hl:g.cons.length<=1000)(hmode:g.mode=1\/g.mode=2)(P Q:List Lv)(hP:∀x∈P,x.ok)(hQ:∀x∈Q,x.ok)(hlen:P.length=Q.length)(hb:P.length<=140737488355328)(A X:List AO)(n e:Int)(ver:Nat)(out:List Co)(ho:out.length<=100):
  ∃ver',F zeo [.ptr (A.length+1) 0,.sl (Lv.css P),.sl (Lv.css Q)] (zjt A g n e ver out X)=some (.ret (.bool (zj7 g (e,out) P Q).1),zjt A g n (zj7 g (e,out) P Q).2.1 ver' (zj7 g (e,out) P Q).2.2 X):=by
 have hfin:=fun n' e' ver' out' b=>zeq A X g n e ver out n' e' ver' out' b
 have loop:∀(p q ps qs:List Lv),P=ps++p->Q=qs++q->ps.length=qs.length->∀(v1:Nat) (s:Int×List Co),s.2.length<=100->∃ver',
   zc7 (zjt A g n e ver out X) (zjt A g n s.1 v1 s.2 X) (.ptr (A.length+1) 0) (.sl (Lv.css P)) (.sl (Lv.css Q)) (.int .i64 ps.length)=some (.ret (.bool (zj7 g s p q).1),zjt A g n (zj7 g s p q).2.1 ver' (zj7 g s p q).2.2 X):=by
  intro p
  induction p with
  |nil=>
   intro q ps qs h1 h2 h3 v1 s hs;rw[List.append_nil]at h1;subst h1;refine⟨v1,?_⟩;rw[zc7,zab];simp only[↓reduceIte,go_sem,hfin,zj7]
  |cons a p ih=>
   intro q ps qs h1 h2 h3 v1 s hs
   cases q with
   |nil=>rw[h1,h2]at hlen;simp at hlen;omega
   |cons b q=>
   have ha:=hP a (by rw[h1];simp)
   have hbb:=hQ b (by rw[h2];simp)
   have hga:P[ps.length]?=some a:=by rw[h1];simp
   have hgb:Q[ps.length]?=some b:=by rw[h2,h3];simp
   have hpl:ps.length<P.length:=by rw[h1];simp
   obtain⟨v2,hB⟩:=ye5 g hcons hl hmode a b ha hbb A X n s.1 v1 s.2 hs;obtain⟨v3,h4⟩:=ih q (ps++[a]) (qs++[b]) (by rw[h1];simp) (by rw[h2];simp) (by simp[h3]) v2 (zog g s a b).2 (z3x g s a b hs)
   simp only[zaf]at h4;rw[zj7]
   cases hc:(zog g s a b).1
   ·rw[show ((s.1,s.2):Int×List Co)=s from rfl,hc]at hB
    refine⟨v2,?_⟩;rw[zc7,zab];simp only[↓reduceIte,go_sem,show (ps.length:Int)<(P.length:Int) by omega,hga,hgb,hB,hfin]
   ·rw[show ((s.1,s.2):Int×List Co)=s from rfl,hc]at hB
    refine⟨v3,?_⟩;rw[zc7,zab];simp only[↓reduceIte,go_sem,show (ps.length:Int)<(P.length:Int) by omega,hga,hgb,hB,hfin,zac (n:=ps.length) (by omega),h4]
 obtain⟨v,h⟩:=loop P Q [] [] rfl rfl rfl ver (e,out) ho;refine⟨v,?_⟩;rw[zqy];simp only[↓reduceIte,go_sem];exact h
theorem zvl(g:Gr)(hcons:∀c∈g.cons,c.ok)(hl:g.cons.length<=1000)(hmode:g.mode=1\/g.mode=2)(P Q:List Lv)(hP:∀x∈P,x.ok)(hQ:∀x∈Q,x.ok)(hlen:P.length=Q.length)(hb:P.length<=140737488355328)(k1 n1 k2 n2:Int)(ks1 ks2:List Te)(m:AV)(A X:List AO)(n e:Int)(ver:Nat)(out:List Co)(ho:out.length<=100):
  ∃ver',F zbk [.ptr (A.length+4) 0,.agg (Te.mk k1 n1 P ks1).cs,.agg (Te.mk k2 n2 Q ks2).cs,m] (zhk A g n e ver out X)=some (.ret (.bool (zj7 g (e,out) P Q).1),zhk A g n (zj7 g (e,out) P Q).2.1 ver' (zj7 g (e,out) P Q).2.2 X):=by
 have hfin:=fun n' e' ver' out' b=>zc5 A X g n e ver out n' e' ver' out' b
 have loop:∀(p q ps qs:List Lv),P=ps++p->Q=qs++q->ps.length=qs.length->∀(v1:Nat) (s:Int×List Co),s.2.length<=100->∃ver',
   zbq (zhk A g n e ver out X) (zhk A g n s.1 v1 s.2 X) (.ptr (A.length+4) 0) (.sl (Lv.css P)) (.int .i64 P.length) (.int .i64 ps.length) (Te.mk k2 n2 Q ks2).cs=some (.ret (.bool (zj7 g s p q).1),zhk A g n (zj7 g s p q).2.1 ver' (zj7 g s p q).2.2 X):=by
  intro p
  induction p with
  |nil=>
   intro q ps qs h1 h2 h3 v1 s hs;rw[List.append_nil]at h1;subst h1;refine⟨v1,?_⟩;rw[zbq,zab];simp only[↓reduceIte,go_sem,Te.cs,hfin,zj7]
  |cons a p ih=>
   intro q ps qs h1 h2 h3 v1 s hs
   cases q with
   |nil=>rw[h1,h2]at hlen;simp at hlen;omega
   |cons b q=>
   have ha:=hP a (by rw[h1];simp)
   have hbb:=hQ b (by rw[h2];simp)
   have hga:P[ps.length]?=some a:=by rw[h1];simp
   have hgb:Q[ps.length]?=some b:=by rw[h2,h3];simp
   have hpl:ps.length<P.length:=by rw[h1];simp
   obtain⟨v2,hB⟩:=zwn g hcons hl hmode a b ha hbb A X n s.1 v1 s.2 hs;obtain⟨v3,hC⟩:=zwn g hcons hl hmode b a hbb ha A X n (zgh g s a b).2.1 v2 (zgh g s a b).2.2 (zn0 g s a b hs);obtain⟨v4,h4⟩:=ih q (ps++[a]) (qs++[b]) (by rw[h1];simp) (by rw[h2];simp) (by simp[h3]) v3 (zgh g (zgh g s a b).2 b a).2 (zn0 g _ b a (zn0 g s a b hs))
   simp only[zaf,Te.cs]at h4;rw[show ((s.1,s.2):Int×List Co)=s from rfl]at hB
   rw[show (((zgh g s a b).2.1,(zgh g s a b).2.2):Int×List Co)=(zgh g s a b).2 from rfl]at hC
   rw[zj7,zog]
   cases hc:(zgh g s a b).1
   ·rw[hc]at hB
    refine⟨v2,?_⟩;rw[zbq,zab];simp only[↓reduceIte,go_sem,Te.cs,show (ps.length:Int)<(P.length:Int) by omega,hga,hgb,hB,hfin]
   ·rw[hc]at hB
    cases hd:(zgh g (zgh g s a b).2 b a).1
    ·rw[hd]at hC
     refine⟨v3,?_⟩;rw[zbq,zab];simp only[↓reduceIte,go_sem,Te.cs,show (ps.length:Int)<(P.length:Int) by omega,hga,hgb,hB,hC,hd,hfin]
    ·rw[hd]at hC
     refine⟨v4,?_⟩;rw[zbq,zab];simp only[↓reduceIte,go_sem,Te.cs,show (ps.length:Int)<(P.length:Int) by omega,hga,hgb,hB,hC,hd,hfin,zac (n:=ps.length) (by omega),h4]
 obtain⟨v,h⟩:=loop P Q [] [] rfl rfl rfl ver (e,out) ho;refine⟨v,?_⟩;simp only[Te.cs,List.length_nil,Int.natCast_zero]at h;rw[zpf];simp only[↓reduceIte,go_sem,Te.cs];exact h
end Go.Ab
end
section
set_option linter.unusedVariables false
set_option linter.unusedSimpArgs false
set_option maxRecDepth 100000
set_option maxHeartbeats 2000000
namespace Go.Ab
open Go.RowKit Go.Proofs
def zwp(t:Te):Te:=.mk 4 0 [] [(zhz t 0 1).1,.mk 1 0 [] []]
theorem yjp(g:Gr)(t:Te)(e:Int)(A X:List AO)(n:Int)(ver:Nat)(out:List Co):F zbp [.ptr (A.length+1) 0,.agg t.cs,.int .i64 e] (zjt A g n 0 ver out X)=some (.ret (.agg t.cs),zjt A g n e ver out X):=by
 have h:=zeg g.env t n e (A++[.lst ver 6 (Co.css out)]) X (g.cs++[.ol A.length ver]) (zq3 A X g ver out);have hl:(A++[AO.lst ver 6 (Co.css out)]).length=A.length+1:=by simp
 rw[<- zf8,<- zf8,hl]at h;exact h
theorem zul(g:Gr)(t:Te)(ht:t.ok)(A X:List AO)(n:Int)(ver:Nat)(out:List Co):F zdo [.ptr (A.length+1) 0,.agg t.cs] (zjt A g n 0 ver out X)=some (.ret (.agg (zwp t).cs),zjt A g n (zhz t 0 1).2 ver out X):=by
 have hL:=fun H=>yfu t ht 0 1 H
 rcases hq:zhz t 0 1 with⟨u,e⟩;rw[hq]at hL;have hP:=yjp g u e A X n ver out;have hfin:=fun r hr=>z7v A X g n 0 ver out n e ver out r hr
 rw[zqx,zwp,hq];rcases u with⟨k,N,ls,ks⟩;simp only[Te.cs]at hP;simp only[zjh,Te.cs]at hL;simp only[↓reduceIte,go_sem,hL,hP,Te.cs,Te.css];exact hfin _ (.agg (ztf _ (.mk 4 0 [] [.mk k N ls ks,.mk 1 0 [] []])))
theorem zr9(g:Gr)(t:Te)(ht:t.ok)(hk:t.kind≠5)(A X:List AO)(n:Int)(ver:Nat)(out:List Co):F zcv [.ptr (A.length+4) 0,.agg t.cs] (zhk A g n 0 ver out X)=some (.ret (.agg (zwp t).cs),zhk A g n (zhz t 0 1).2 ver out X):=by
 have hL:=fun H=>yju t ht 0 1 H
 rcases hq:zhz t 0 1 with⟨u,e⟩;rw[hq]at hL;have hP:=z04 g.env u n e A (.lst 0 11 [] :: .lst 0 6 [] :: .lst ver 6 (Co.css out) :: .box (.ptr A.length 0::(g.cs++[.ol (A.length+3) ver]))::X);have hfin:=fun r hr=>z65 A X g n 0 ver out n e ver out r hr
 rcases t with⟨k,N,ls,ks⟩;rcases u with⟨k2,N2,ls2,ks2⟩;have hk:¬ k=5:=hk;rw[zlp,zwp,hq];simp only[Te.cs,Gr.cs,List.cons_append,List.nil_append]at hP;simp only[zjh,Te.cs]at hL;simp only[↓reduceIte,go_sem,zhk,Gr.cs,hk,hL,hP,Te.cs,Te.css];have h:=hfin (.ret (.agg (Te.mk 4 0 [] [.mk k2 N2 ls2 ks2,.mk 1 0 [] []]).cs)) (Lt.agg (ztf _ (.mk 4 0 [] [.mk k2 N2 ls2 ks2,.mk 1 0 [] []])));simp only[zhk,Gr.cs,Te.cs,Te.css,List.cons_append,List.nil_append]at h;exact h
theorem zp3(g:Gr)(N:Int)(ls:List Lv)(s b:Te)(A X:List AO)(n e:Int)(ver:Nat)(out:List Co):F zcv [.ptr (A.length+4) 0,.agg (Te.mk 5 N ls [s,b]).cs] (zhk A g n e ver out X)=some (.ret (.agg b.cs),zhk A g n e ver out X):=by
 rw[zlp];simp only[↓reduceIte,go_sem,Te.cs,Te.css]
end Go.Ab
end
section
set_option linter.unusedVariables false
set_option linter.unusedSimpArgs false
set_option maxRecDepth 100000
set_option maxHeartbeats 2000000
namespace Go.Ab
open Go.RowKit Go.Proofs
inductive Al (g:Gr):Nat->List Co->Te->Te->Bool->Bool->Nat->Int->List Co->Prop
 |burn0 {out:List Co} {a b:Te} {most:Bool}:Al g 0 out a b most false 0 40 out
 |headA {n:Nat} {out:List Co} {a b:Te} {most:Bool} {n':Nat} {e:Int}:He g.env n a n' e->Al g (n+1) out a b most false n' e out
 |headB {n:Nat} {out:List Co} {a b a':Te} {most:Bool} {n1 n':Nat} {e:Int}:Hd g.env n a a' n1->He g.env n1 b n' e->Al g (n+1) out a b most false n' e out
 |lam2 {n:Nat} {out:List Co} {a b s x s' y:Te} {N N':Int} {ls ls':List Lv} {most r:Bool} {n1 n2 n':Nat} {e:Int} {out':List Co}:Hd g.env n a (.mk 5 N ls [s,x]) n1->Hd g.env n1 b (.mk 5 N' ls' [s',y]) n2->Al g n2 out x y false r n' e out' -> Al g (n+1) out a b most r n' e out'
 |lamL {n:Nat} {out:List Co} {a b b' s x:Te} {N:Int} {ls:List Lv} {most r:Bool} {n1 n2 n':Nat} {e:Int} {out':List Co}:Hd g.env n a (.mk 5 N ls [s,x]) n1->Hd g.env n1 b b' n2->b'.kind≠5->(zhz b' 0 1).2=0->Al g n2 out x (zwp b') false r n' e out' -> Al g (n+1) out a b most r n' e out'
 |lamLe {n:Nat} {out:List Co} {a b b' s x:Te} {N:Int} {ls:List Lv} {most:Bool} {n1 n2:Nat}:Hd g.env n a (.mk 5 N ls [s,x]) n1->Hd g.env n1 b b' n2->b'.kind≠5->(zhz b' 0 1).2≠0->Al g (n+1) out a b most false n2 (zhz b' 0 1).2 out
 |lamR {n:Nat} {out:List Co} {a b a' s y:Te} {N:Int} {ls:List Lv} {most r:Bool} {n1 n2 n':Nat} {e:Int} {out':List Co}:Hd g.env n a a' n1->a'.kind≠5->Hd g.env n1 b (.mk 5 N ls [s,y]) n2->(zhz a' 0 1).2=0->Al g n2 out (zwp a') y false r n' e out' -> Al g (n+1) out a b most r n' e out'
 |lamRe {n:Nat} {out:List Co} {a b a' s y:Te} {N:Int} {ls:List Lv} {most:Bool} {n1 n2:Nat}:Hd g.env n a a' n1->a'.kind≠5->Hd g.env n1 b (.mk 5 N ls [s,y]) n2->(zhz a' 0 1).2≠0->Al g (n+1) out a b most false n2 (zhz a' 0 1).2 out
 |other {n:Nat} {out:List Co} {a b:Te} {k N k' N':Int} {ls ls':List Lv} {ks ks':List Te} {most:Bool} {n1 n2:Nat}:Hd g.env n a (.mk k N ls ks) n1->k≠5->Hd g.env n1 b (.mk k' N' ls' ks') n2->k' ≠ 5->(k≠k' \/ N≠N' \/ ls.length≠ls'.length)->Al g (n+1) out a b most false n2 0 out
 |var {n:Nat} {out:List Co} {a b:Te} {N:Int} {ls ls':List Lv} {ks ks':List Te} {most:Bool} {n1 n2:Nat}:Hd g.env n a (.mk 1 N ls ks) n1->Hd g.env n1 b (.mk 1 N ls' ks') n2->ls.length=ls'.length->Al g (n+1) out a b most true n2 0 out
 |sortM {n:Nat} {out:List Co} {a b:Te} {N:Int} {x y:Lv} {ks ks':List Te} {n1 n2:Nat}:Hd g.env n a (.mk 2 N [x] ks) n1->Hd g.env n1 b (.mk 2 N [y] ks') n2->Al g (n+1) out a b true (zgh g (0,out) x y).1 n2 (zgh g (0,out) x y).2.1 (zgh g (0,out) x y).2.2
 |lvls {n:Nat} {out:List Co} {a b:Te} {k N:Int} {ls ls':List Lv} {ks ks':List Te} {most:Bool} {n1 n2:Nat}:(k=2/\most=false\/k=3)->Hd g.env n a (.mk k N ls ks) n1->Hd g.env n1 b (.mk k N ls' ks') n2->ls.length=ls'.length->Al g (n+1) out a b most (zj7 g (0,out) ls ls').1 n2 (zj7 g (0,out) ls ls').2.1 (zj7 g (0,out) ls ls').2.2
 |two1 {n:Nat} {out:List Co} {a b f x f' x':Te} {k N:Int} {ls ls':List Lv} {most:Bool} {n1 n2 n':Nat} {e:Int} {out':List Co}:(k=4\/k=6)->Hd g.env n a (.mk k N ls [f,x]) n1->Hd g.env n1 b (.mk k N ls' [f',x']) n2->ls.length=ls'.length->Al g n2 out f f' false false n' e out' -> Al g (n+1) out a b most false n' e out'
 |two2 {n:Nat} {out:List Co} {a b f x f' x':Te} {k N:Int} {ls ls':List Lv} {most r:Bool} {n1 n2 n3 n':Nat} {e:Int} {out1 out':List Co}:(k=4\/k=6)->Hd g.env n a (.mk k N ls [f,x]) n1->Hd g.env n1 b (.mk k N ls' [f',x']) n2->ls.length=ls'.length->Al g n2 out f f' false true n3 0 out1->Al g n3 out1 x x' (decide (k=6) && most) r n' e out' -> Al g (n+1) out a b most r n' e out'
end Go.Ab
end
section
set_option linter.unusedVariables false
set_option linter.unusedSimpArgs false
set_option maxRecDepth 100000
set_option maxHeartbeats 2000000
namespace Go.Ab
open Go.RowKit Go.Proofs
theorem zr2(A:List AO)(ver:Nat)(out:List Co):(A++[AO.lst ver 6 (Co.css out)]).length=A.length+1:=by simp
theorem zeu(g:Gr)(A X:List AO)(n:Nat)(hn:n+1<=1000000)(ver:Nat)(out:List Co):F za7 [.ptr (A.length+1) 0] (zjt A g (n+1:Nat) 0 ver out X)=some (.ret (.bool true),zjt A g n 0 ver out X):=by
 have h:=zd6 g.env (n+1:Nat) (by omega) (A++[.lst ver 6 (Co.css out)]) X (g.cs++[.ol A.length ver]) (zq3 A X g ver out)
 rw[<- zf8,zr2,if_neg (by omega),show ((n+1:Nat):Int) - 1=(n:Int) by omega,<- zf8]at h
 exact h
theorem yjz(g:Gr)(A X:List AO)(ver:Nat)(out:List Co):F za7 [.ptr (A.length+1) 0] (zjt A g 0 0 ver out X)=some (.ret (.bool false),zjt A g 0 40 ver out X):=by
 have h:=zd6 g.env 0 (by omega) (A++[.lst ver 6 (Co.css out)]) X (g.cs++[.ol A.length ver]) (zq3 A X g ver out)
 rw[<- zf8,zr2,if_pos rfl,<- zf8]at h;exact h
theorem zbn(g:Gr)(hE:zty g.env){n:Nat}{t t':Te}{n':Nat}(h:Hd g.env n t t' n')(ht:t.ok)(hn:n<=1000000)(A X:List AO)(ver:Nat)(out:List Co):
  F zav [.ptr (A.length+1) 0,.agg t.cs] (zjt A g n 0 ver out X)=some (.ret (.agg t'.cs),zjt A g n' 0 ver out X):=by
 have h:=yab (A++[.lst ver 6 (Co.css out)]) X g.env (g.cs++[.ol A.length ver]) (zq3 A X g ver out) hE h ht hn;rw[<- zf8,zr2,<- zf8]at h;exact h
theorem z4c(g:Gr)(hE:zty g.env){n:Nat}{t:Te}{n':Nat}{e:Int}(h:He g.env n t n' e)(ht:t.ok)(hn:n<=1000000)(A X:List AO)(ver:Nat)(out:List Co):
  ∃x:Te,F zav [.ptr (A.length+1) 0,.agg t.cs] (zjt A g n 0 ver out X)=some (.ret (.agg x.cs),zjt A g n' e ver out X):=by
 obtain⟨x,h⟩:=yac (A++[.lst ver 6 (Co.css out)]) X g.env (g.cs++[.ol A.length ver]) (zq3 A X g ver out) hE h ht hn;rw[<- zf8,zr2,<- zf8]at h;exact⟨x,h⟩
end Go.Ab
end
section
set_option linter.unusedVariables false
set_option linter.unusedSimpArgs false
set_option maxRecDepth 100000
set_option maxHeartbeats 2000000
namespace Go.Ab
open Go.RowKit Go.Proofs
mutual
def w2:Te->Bool
 |.mk k n ls ks=>(decide (k≠2) || decide (ls.length=1)) && w2s ks
def w2s:List Te->Bool
 |[]=>true
 |x::r=>w2 x && w2s r
end
mutual
theorem right_w2{p m:Int}:∀{t:Te} {v d:Int},rightT p m t v d=true->w2 t=true
 |.mk k n ls ks,v,d,h=>by
  obtain⟨h1,h2,h3,h4,h5⟩:=zf2 h;rw[w2,right_w2s h5,Bool.and_true];by_cases k2:k=2
  ·subst k2;unfold zl1 at h4;simp at h4;simp[h4]
  ·simp[k2]
theorem right_w2s{p m k:Int}:∀{ks:List Te} {i v d:Int},rightTs p m k ks i v d=true->w2s ks=true
 |[],_,_,_,_=>rfl
 |x::r,i,v,d,h=>by
  rw[rightTs]at h;simp at h;rw[w2s,right_w2 h.1,right_w2s h.2];rfl
end
theorem zt9{t:Te}(h:zcc t=true):w2 t=true:=right_w2 (zfo h)
mutual
theorem sub_w2(ps ms:List Lv):∀t:Te,w2 (subT ps ms t)=w2 t
 |.mk k n ls ks=>by
  rw[subT,w2,w2,subs_w2 ps ms ks,List.length_map]
theorem subs_w2(ps ms:List Lv):∀ks:List Te,w2s (subTs ps ms ks)=w2s ks
 |[]=>rfl
 |x::r=>by rw[subTs,w2s,w2s,sub_w2 ps ms x,subs_w2 ps ms r]
end
theorem Hd.w2{env:List De}{n:Nat}{t t':Te}{n':Nat}(h:Hd env n t t' n'):w2 t=true->Go.Ab.w2 t' = true:=by
 induction h with
 |stuck=>exact id
 |lett ho _ ih=>exact fun _=>ih (zt9 (zus ho).2.2.2)
 |const _ _ hs _ ih=>exact fun _=>ih (by obtain⟨h1,rfl,_⟩:=z03 hs;rw[sub_w2];exact zt9 h1)
 |app _ _ ih=>
  intro h;simp only[Go.Ab.w2,w2s,Bool.and_eq_true,Bool.and_true]at h ⊢;exact⟨by simp,ih h.2.1,h.2.2⟩
 |beta _ ho _ _ ih=>exact fun _=>ih (zt9 (zus ho).2.2.2)
theorem Hd.wf{env:List De}{n:Nat}{t t':Te}{n':Nat}(h:Hd env n t t' n'):wfT t=true->wfT t' = true:=by
 induction h with
 |stuck=>exact id
 |lett ho _ ih=>exact fun _=>ih (zur ho)
 |const _ _ hs _ ih=>exact fun _=>ih (z8d hs)
 |app _ _ ih=>
  intro h;simp only[wfT,wfTs,Bool.and_eq_true,Bool.and_true]at h ⊢;exact⟨by simp[zfs],ih h.2.1,h.2.2⟩
 |beta _ ho _ _ ih=>exact fun _=>ih (zur ho)
theorem Hd.k7{env:List De}{n:Nat}{t t':Te}{n':Nat}(h:Hd env n t t' n'):t'.kind≠7:=by
 induction h with
 |stuck _ h _=>exact h
 |lett _ _ ih=>exact ih
 |const _ _ _ _ ih=>exact ih
 |app=>exact (show ¬ (4:Int)=7 by decide)
 |beta _ _ _ _ ih=>exact ih
def wg(t:Te):Bool:=wfT t && w2 t
theorem ygw{t:Te}(h:zcc t=true):wg t=true:=by simp[wg,zyq h,zt9 h]
theorem Hd.wg{env:List De}{n:Nat}{t t':Te}{n':Nat}(h:Hd env n t t' n')(hw:wg t=true):Go.Ab.wg t' = true:=by
 simp only[Go.Ab.wg,Bool.and_eq_true]at hw ⊢;exact⟨h.wf hw.1,h.w2 hw.2⟩
theorem zdr{k N:Int}{ls:List Lv}{ks:List Te}(h:wg (.mk k N ls ks)=true):(ks.length:Int)=zfs k/\(k=2->ls.length=1)/\∀x∈ks,wg x=true:=by
 simp only[wg,wfT,w2,Bool.and_eq_true,decide_eq_true_eq,Bool.or_eq_true]at h;obtain⟨⟨⟨h1,h2⟩,h3⟩,h4,h5⟩:=h;refine⟨h1,fun hk=>by simpa [hk] using h4,?_⟩
 clear h1 h2 h4
 induction ks with
 |nil=>intro x hx;cases hx
 |cons y r ih=>
  simp only[wfTs,w2s,Bool.and_eq_true]at h3 h5;intro x hx;rcases List.mem_cons.1 hx with rfl|hx
  ·simp[wg,h3.1,h5.1]
  ·exact ih h3.2 h5.2 x hx
theorem z1i{k N:Int}{ls:List Lv}{ks:List Te}(h:wg (.mk k N ls ks)=true)(hk:k=4\/k=5\/k=6):∃a b,ks=[a,b]/\wg a=true/\wg b=true:=by
 obtain⟨h1,_,h2⟩:=zdr h;obtain⟨a,b,rfl⟩:=zyn (ks:=ks) (by rw[h1];rcases hk with rfl|rfl|rfl <;> rfl)
 exact⟨a,b,rfl,h2 a (by simp),h2 b (by simp)⟩
theorem wg_kind{k N:Int}{ls:List Lv}{ks:List Te}(h:wg (.mk k N ls ks)=true)(h7:k≠7):k=1\/k=2\/k=3\/k=4\/k=5\/k=6:=by
 have h1:=(zdr h).1;unfold zfs at h1;omega
theorem zs7{t:Te}(h:(zhz t 0 1).2=0):wg (zwp t)=true:=by
 have:zcc (zhz t 0 1).1=true:=by
  revert h;unfold zhz zuw
  split
  ·intro h;cases h
  ·split
   ·intro _;assumption
   ·intro h;cases h
 have hw:=ygw this;simp only[wg,Bool.and_eq_true]at hw;simp[wg,zwp,wfT,wfTs,w2,w2s,hw.1,hw.2,zfs]
theorem zs8{t:Te}(h:t.ok):(zwp t).ok:=by
 have:=yjt h 0 1;simp[zwp,zxq,this]
theorem Al.le{g:Gr}{n:Nat}{out:List Co}{a b:Te}{most r:Bool}{n':Nat}{e:Int}{out':List Co}(h:Al g n out a b most r n' e out'):n' <= n:=by
 have hE:∀{n:Nat} {t:Te} {n':Nat} {e:Int},He g.env n t n' e->n' <= n:=by
  intro n t n' e h
  induction h with
  |let0=>omega
  |let2=>omega
  |letr _ _ ih=>omega
  |const0=>omega
  |const2=>omega
  |constr _ _ _ _ ih=>omega
  |appf _ ih=>exact ih
  |beta0 h1=>omega
  |beta2 h1=>have:=h1.le;omega
  |betar h1 _ _ ih=>have:=h1.le;omega
 induction h with
 |burn0=>omega
 |headA h=>have:=hE h;omega
 |headB h1 h2=>have:=h1.le;have:=hE h2;omega
 |lam2 h1 h2 _ ih=>have:=h1.le;have:=h2.le;omega
 |lamL h1 h2 _ _ _ ih=>have:=h1.le;have:=h2.le;omega
 |lamLe h1 h2=>have:=h1.le;have:=h2.le;omega
 |lamR h1 _ h2 _ _ ih=>have:=h1.le;have:=h2.le;omega
 |lamRe h1 _ h2=>have:=h1.le;have:=h2.le;omega
 |other h1 _ h2=>have:=h1.le;have:=h2.le;omega
 |var h1 h2=>have:=h1.le;have:=h2.le;omega
 |sortM h1 h2=>have:=h1.le;have:=h2.le;omega
 |lvls _ h1 h2=>have:=h1.le;have:=h2.le;omega
 |two1 _ h1 h2 _ _ ih=>have:=h1.le;have:=h2.le;omega
 |two2 _ h1 h2 _ _ _ ih1 ih2=>have:=h1.le;have:=h2.le;omega
theorem z8b(g:Gr):∀(s:Int×List Co) (p q:List Lv),s.2.length<=100->(zj7 g s p q).2.2.length<=100
 |s,a::xs,b::ys,h=>by
  rw[zj7];have h1:=z3x g s a b h
  split
  ·exact z8b g _ xs ys h1
  ·exact h1
 |s,[],_,h=>by simpa [zj7] using h
 |s,_::_,[],h=>by simpa [zj7] using h
theorem Al.len{g:Gr}{n:Nat}{out:List Co}{a b:Te}{most r:Bool}{n':Nat}{e:Int}{out':List Co}(h:Al g n out a b most r n' e out'):out.length<=100->out'.length<=100:=by
 induction h with
 |lam2 _ _ _ ih=>exact ih
 |lamL _ _ _ _ _ ih=>exact ih
 |lamR _ _ _ _ _ ih=>exact ih
 |sortM=>exact fun h=>zn0 g _ _ _ h
 |lvls=>exact fun h=>z8b g _ _ _ h
 |two1 _ _ _ _ _ ih=>exact ih
 |two2 _ _ _ _ _ _ ih1 ih2=>exact fun h=>ih2 (ih1 h)
 |_=>exact id
theorem zvn{g:Gr}{s:Int×List Co}{a b:Lv}(h:(zgh g s a b).1=true):s.1=0/\(zgh g s a b).2.1=0:=by
 unfold zgh at h ⊢
 split at h
 ·cases h
 rename_i h1;have h1:s.1=0:=by simpa using h1
 rw[if_neg (by simp[h1])]
 split at h
 ·rename_i h2
  rw[if_pos h2]
  split at h
  ·cases h
  ·rename_i h3
   rw[if_neg h3];exact⟨h1,rfl⟩
 ·rename_i h2
  rw[if_neg h2]
  split at h
  ·rename_i h3
   rw[if_pos h3];exact⟨h1,h1⟩
  ·cases h
theorem z9w{g:Gr}{s:Int×List Co}{a b:Lv}(h:(zog g s a b).1=true):s.1=0/\(zog g s a b).2.1=0:=by
 unfold zog at h ⊢
 split at h
 ·rename_i h1
  rw[if_pos h1];exact⟨(zvn h1).1,(zvn h).2⟩
 ·cases h
theorem z35{g:Gr}:∀{s:Int×List Co} {p q:List Lv},s.1=0->(zj7 g s p q).1=true->(zj7 g s p q).2.1=0
 |s,a::xs,b::ys,hs,h=>by
  rw[zj7]at h ⊢
  split at h
  ·rename_i h1
   rw[if_pos h1];exact z35 (z9w h1).2 h
  ·cases h
 |s,[],_,hs,h=>by simpa [zj7] using hs
 |s,_::_,[],hs,h=>by simpa [zj7] using hs
theorem Al.yes{g:Gr}{n:Nat}{out:List Co}{a b:Te}{most r:Bool}{n':Nat}{e:Int}{out':List Co}(h:Al g n out a b most r n' e out'):r=true->e=0:=by
 induction h with
 |lam2 _ _ _ ih=>exact ih
 |lamL _ _ _ _ _ ih=>exact ih
 |lamR _ _ _ _ _ ih=>exact ih
 |var=>exact fun _=>rfl
 |sortM=>exact fun h=>(zvn h).2
 |lvls=>exact fun h=>z35 rfl h
 |two2 _ _ _ _ _ _ ih1 ih2=>exact ih2
 |_=>exact fun h=>by cases h
theorem yjg(g:Gr):∀(n:Nat) (out:List Co) (a b:Te) (most:Bool),wg a=true->wg b=true->∃r n' e out',Al g n out a b most r n' e out':=by
 intro n
 induction n using Nat.strongRecOn with
 |ind n ihn=>
 intro out a b most ha hb;rcases n with _|n
 ·exact⟨_,_,_,_,.burn0⟩
 have hwf:∀{t:Te},wg t=true->wfT t=true:=by
  intro t h;simp only[wg,Bool.and_eq_true]at h;exact h.1
 rcases zxw g.env n a (hwf ha) with⟨a',n1,hda,_⟩|⟨n',e,hea⟩
 case inr=>exact⟨_,_,_,_,.headA hea⟩
 rcases zxw g.env n1 b (hwf hb) with⟨b',n2,hdb,_⟩|⟨n',e,heb⟩
 case inr=>exact⟨_,_,_,_,.headB hda heb⟩
 have hle:n2<=n:=Nat.le_trans hdb.le hda.le;have hwa:=hda.wg ha;have hwb:=hdb.wg hb;have h7a:=hda.k7;have h7b:=hdb.k7;rcases a' with⟨k,N,ls,ks⟩;rcases b' with⟨k',N',ls',ks'⟩;by_cases k5:k=5
 ·subst k5
  obtain⟨s,x,rfl,hs,hx⟩:=z1i hwa (by omega)
  by_cases k5':k' = 5
  ·subst k5'
   obtain⟨s',y,rfl,hs',hy⟩:=z1i hwb (by omega)
   obtain⟨r,n',e,out',h⟩:=ihn n2 (by omega) out x y false hx hy
   exact⟨_,_,_,_,.lam2 hda hdb h⟩
  ·by_cases hL:(zhz (.mk k' N' ls' ks') 0 1).2=0
   ·obtain⟨r,n',e,out',h⟩:=ihn n2 (by omega) out x (zwp (.mk k' N' ls' ks')) false hx (zs7 hL)
    exact⟨_,_,_,_,.lamL hda hdb k5' hL h⟩
   ·exact⟨_,_,_,_,.lamLe hda hdb k5' hL⟩
 by_cases k5':k' = 5
 ·subst k5'
  obtain⟨s',y,rfl,hs',hy⟩:=z1i hwb (by omega)
  by_cases hL:(zhz (.mk k N ls ks) 0 1).2=0
  ·obtain⟨r,n',e,out',h⟩:=ihn n2 (by omega) out (zwp (.mk k N ls ks)) y false (zs7 hL) hy
   exact⟨_,_,_,_,.lamR hda k5 hdb hL h⟩
  ·exact⟨_,_,_,_,.lamRe hda k5 hdb hL⟩
 by_cases ho:k≠k' \/ N≠N' \/ ls.length≠ls'.length
 ·exact⟨_,_,_,_,.other hda k5 hdb k5' ho⟩
 simp only[not_or,ne_eq,Decidable.not_not]at ho;obtain⟨rfl,rfl,hl⟩:=ho;rcases wg_kind hwa h7a with rfl|rfl|rfl|h46
 ·exact⟨_,_,_,_,.var hda hdb hl⟩
 ·cases most
  ·exact⟨_,_,_,_,.lvls (.inl ⟨rfl,rfl⟩) hda hdb hl⟩
  ·have l1:=(zdr hwa).2.1 rfl
   obtain⟨x,rfl⟩:=List.length_eq_one_iff.1 l1;obtain⟨y,rfl⟩:=List.length_eq_one_iff.1 (hl.symm.trans l1);exact⟨_,_,_,_,.sortM hda hdb⟩
 ·exact⟨_,_,_,_,.lvls (.inr rfl) hda hdb hl⟩
 ·have h46:k=4\/k=6:=by omega
  obtain⟨f,x,rfl,hf,hx⟩:=z1i hwa (by omega)
  obtain⟨f',x',rfl,hf',hx'⟩:=z1i hwb (by omega)
  obtain⟨r,n3,e,out1,h⟩:=ihn n2 (by omega) out f f' false hf hf'
  cases r
  ·exact⟨_,_,_,_,.two1 h46 hda hdb hl h⟩
  ·have he:=h.yes rfl
   subst he;have:=h.le;obtain⟨r,n',e,out',h2⟩:=ihn n3 (by omega) out1 x x' (decide (k=6) && most) hx hx'
   exact⟨_,_,_,_,.two2 h46 hda hdb hl h h2⟩
end Go.Ab
end
section
set_option linter.unusedVariables false
set_option linter.unusedSimpArgs false
set_option maxRecDepth 100000
set_option maxHeartbeats 4000000
namespace Go.Ab
open Go.RowKit Go.Proofs
theorem zf7(A:List AO)(g:Gr)(n e:Int)(ver:Nat)(out:List Co)(X:List AO):zjt A g n e ver out X=A++(.lst ver 6 (Co.css out) :: .box [.sl (De.css g.env),.int .i64 n,.int .i64 e,.sl (De.css g.env),.int .i64 g.params,.int .i64 g.metas,.sl (Co.css g.cons),.int .i64 g.mode,.ol A.length ver]::X):=rfl
theorem yf0(g:Gr)(x:Te)(n e:Int)(he:e≠0)(A X:List AO)(ver:Nat)(out:List Co):
  F zav [.ptr (A.length+1) 0,.agg x.cs] (zjt A g n e ver out X)=some (.ret (.agg x.cs),zjt A g n e ver out X):=by
 have h:=zll g.env x n e (A++[.lst ver 6 (Co.css out)]) X (g.cs++[.ol A.length ver]) (zq3 A X g ver out) he n e _ rfl;rw[<- zkl,<- zf8,zr2]at h;exact h
theorem Hd.oks{g:Gr}(hE:zty g.env){n:Nat}{t:Te}{k N:Int}{ls:List Lv}{ks:List Te}{n':Nat}(h:Hd g.env n t (.mk k N ls ks) n')(ht:t.ok):(Te.mk k N ls ks).ok:=h.ok hE ht
theorem yf1(g:Gr)(hE:zty g.env)(hcons:∀c∈g.cons,c.ok)(hcl:g.cons.length<=1000)(hmode:g.mode=1\/g.mode=2){n:Nat}{out:List Co}{a b:Te}{most r:Bool}{n':Nat}{e:Int}{out':List Co}(h:Al g n out a b most r n' e out'):
  a.ok->b.ok->wg a=true->wg b=true->n<=1000000->out.length<=100->∀(A X:List AO) (ver:Nat),∃ver',F za6 [.ptr (A.length+1) 0,.agg a.cs,.agg b.cs,.bool most] (zjt A g n 0 ver out X)=some (.ret (.bool r),zjt A g n' e ver' out' X):=by
 induction h with
 |@burn0 out a b most=>
  intro ha hb hwa hwb hn ho A X ver;have hB:=yjz g A X ver out;have hfin:=zeq A X g 0 0 ver out 0 40 ver out false;refine⟨ver,?_⟩;rcases a with⟨k,N,ls,ks⟩;rcases b with⟨k',N',ls',ks'⟩;rw[zal];simp only[zf7]at hB hfin;simp only[↓reduceIte,go_sem,zf7,Int.natCast_zero,Te.cs,hB];exact hfin
 |@headA n out a b most n' e hda=>
  intro ha hb hwa hwb hn ho A X ver;have hB:=zeu g A X n hn ver out;obtain⟨⟨kx,Nx,lx,kx2⟩,hH1⟩:=z4c g hE hda ha (by omega) A X ver out
  have hne:=hda.ne;have hH2:=yf0 g b n' e hne A X ver out;have hfin:=zeq A X g (n+1:Nat) 0 ver out n' e ver out false;refine⟨ver,?_⟩;rcases a with⟨k,N,ls,ks⟩;rcases b with⟨k',N',ls',ks'⟩;rw[zal];simp only[zf7,Te.cs]at hB hfin hH1 hH2;simp only[↓reduceIte,go_sem,zf7,Te.cs,hB,hH1,hH2,hne];exact hfin
 |@headB n out a b a' most n1 n' e hda heb=>
  intro ha hb hwa hwb hn ho A X ver;have hB:=zeu g A X n hn ver out;have hH1:=zbn g hE hda ha (by omega) A X ver out
  obtain⟨⟨kx,Nx,lx,kx2⟩,hH2⟩:=z4c g hE heb hb (by have:=hda.le;omega) A X ver out
  have hne:=heb.ne;have hfin:=zeq A X g (n+1:Nat) 0 ver out n' e ver out false;refine⟨ver,?_⟩;rcases a with⟨k,N,ls,ks⟩;rcases b with⟨k',N',ls',ks'⟩;rcases a' with⟨k3,N3,ls3,ks3⟩;rw[zal];simp only[zf7,Te.cs]at hB hfin hH1 hH2;simp only[↓reduceIte,go_sem,zf7,Te.cs,hB,hH1,hH2,hne];exact hfin
 |@lam2 n out a b s x s' y N N' ls ls' most r n1 n2 n' e out' hda hdb hal ih=>
  intro ha hb hwa hwb hn ho A X ver;have hB:=zeu g A X n hn ver out;have hH1:=zbn g hE hda ha (by omega) A X ver out
  have hH2:=zbn g hE hdb hb (by have:=hda.le;omega) A X ver out
  have hoa:=hda.ok hE ha;have hob:=hdb.ok hE hb;have hwa':=hda.wg hwa;have hwb':=hdb.wg hwb;have hle1:=hda.le;have hle2:=hdb.le;obtain⟨v1,hI⟩:=ih (hoa.all x (by simp)) (hob.all y (by simp)) ((zdr hwa').2.2 x (by simp)) ((zdr hwb').2.2 y (by simp)) (by omega) ho A X ver
  have hfin:=zeq A X g (n+1:Nat) 0 ver out n' e v1 out' r;refine⟨v1,?_⟩;rcases a with⟨ka,Na,lsa,ksa⟩;rcases b with⟨kb,Nb,lsb,ksb⟩;rw[zal];simp only[zf7,Te.cs,Te.css,Lv.css]at hB hfin hH1 hH2 hI;simp only[↓reduceIte,go_sem,zf7,Te.cs,Te.css,Lv.css,hB,hH1,hH2,hI];exact hfin
 |@lamL n out a b b' s x N ls most r n1 n2 n' e out' hda hdb hk hL hal ih=>
  intro ha hb hwa hwb hn ho A X ver;have hB:=zeu g A X n hn ver out;have hH1:=zbn g hE hda ha (by omega) A X ver out
  have hH2:=zbn g hE hdb hb (by have:=hda.le;omega) A X ver out
  have hoa:=hda.ok hE ha;have hob:=hdb.ok hE hb;have hwa':=hda.wg hwa;have hwb':=hdb.wg hwb;have hle1:=hda.le;have hle2:=hdb.le;obtain⟨v1,hI⟩:=ih (hoa.all x (by simp)) (zs8 hob) ((zdr hwa').2.2 x (by simp)) (zs7 hL) (by omega) ho A X ver
  have hT:=zul g b' hob A X n2 ver out;rw[hL]at hT;rcases b' with⟨k',N',ls',ks'⟩;have hk:¬ k' = 5:=hk;rcases hq:zwp (.mk k' N' ls' ks') with⟨k3,N3,ls3,ks3⟩;rw[hq]at hI hT;have hfin:=zeq A X g (n+1:Nat) 0 ver out n' e v1 out' r;refine⟨v1,?_⟩;rcases a with⟨ka,Na,lsa,ksa⟩;rcases b with⟨kb,Nb,lsb,ksb⟩;rw[zal];simp only[zf7,Te.cs,Te.css,Lv.css]at hB hfin hH1 hH2 hI hT;simp only[↓reduceIte,go_sem,zf7,Te.cs,Te.css,Lv.css,hB,hH1,hH2,hI,hT,hk];exact hfin
 |@lamLe n out a b b' s x N ls most n1 n2 hda hdb hk hL=>
  intro ha hb hwa hwb hn ho A X ver;have hB:=zeu g A X n hn ver out;have hH1:=zbn g hE hda ha (by omega) A X ver out
  have hH2:=zbn g hE hdb hb (by have:=hda.le;omega) A X ver out
  have hoa:=hda.ok hE ha;have hob:=hdb.ok hE hb;have hwa':=hda.wg hwa;have hwb':=hdb.wg hwb;have hle1:=hda.le;have hle2:=hdb.le;have hT:=zul g b' hob A X n2 ver out;generalize (zhz b' 0 1).2=e at *;rcases b' with⟨k',N',ls',ks'⟩;have hk:¬ k' = 5:=hk;rcases hq:zwp (.mk k' N' ls' ks') with⟨k3,N3,ls3,ks3⟩;rw[hq]at hT;have hfin:=zeq A X g (n+1:Nat) 0 ver out n2 e ver out false;refine⟨ver,?_⟩;rcases a with⟨ka,Na,lsa,ksa⟩;rcases b with⟨kb,Nb,lsb,ksb⟩;rw[zal];simp only[zf7,Te.cs,Te.css,Lv.css]at hB hfin hH1 hH2 hT;simp only[↓reduceIte,go_sem,zf7,Te.cs,Te.css,Lv.css,hB,hH1,hH2,hT,hk,hL];exact hfin
 |@lamR n out a b a' s y N ls most r n1 n2 n' e out' hda hk hdb hL hal ih=>
  intro ha hb hwa hwb hn ho A X ver;have hB:=zeu g A X n hn ver out;have hH1:=zbn g hE hda ha (by omega) A X ver out
  have hH2:=zbn g hE hdb hb (by have:=hda.le;omega) A X ver out
  have hoa:=hda.ok hE ha;have hob:=hdb.ok hE hb;have hwa':=hda.wg hwa;have hwb':=hdb.wg hwb;have hle1:=hda.le;have hle2:=hdb.le;obtain⟨v1,hI⟩:=ih (zs8 hoa) (hob.all y (by simp)) (zs7 hL) ((zdr hwb').2.2 y (by simp)) (by omega) ho A X ver
  have hT:=zul g a' hoa A X n2 ver out;rw[hL]at hT;rcases a' with⟨k',N',ls',ks'⟩;have hk:¬ k' = 5:=hk;rcases hq:zwp (.mk k' N' ls' ks') with⟨k3,N3,ls3,ks3⟩;rw[hq]at hI hT;have hfin:=zeq A X g (n+1:Nat) 0 ver out n' e v1 out' r;refine⟨v1,?_⟩;rcases a with⟨ka,Na,lsa,ksa⟩;rcases b with⟨kb,Nb,lsb,ksb⟩;rw[zal];simp only[zf7,Te.cs,Te.css,Lv.css]at hB hfin hH1 hH2 hI hT;simp only[↓reduceIte,go_sem,zf7,Te.cs,Te.css,Lv.css,hB,hH1,hH2,hI,hT,hk];exact hfin
 |@lamRe n out a b a' s y N ls most n1 n2 hda hk hdb hL=>
  intro ha hb hwa hwb hn ho A X ver;have hB:=zeu g A X n hn ver out;have hH1:=zbn g hE hda ha (by omega) A X ver out
  have hH2:=zbn g hE hdb hb (by have:=hda.le;omega) A X ver out
  have hoa:=hda.ok hE ha;have hob:=hdb.ok hE hb;have hwa':=hda.wg hwa;have hwb':=hdb.wg hwb;have hle1:=hda.le;have hle2:=hdb.le;have hT:=zul g a' hoa A X n2 ver out;generalize (zhz a' 0 1).2=e at *;rcases a' with⟨k',N',ls',ks'⟩;have hk:¬ k' = 5:=hk;rcases hq:zwp (.mk k' N' ls' ks') with⟨k3,N3,ls3,ks3⟩;rw[hq]at hT;have hfin:=zeq A X g (n+1:Nat) 0 ver out n2 e ver out false;refine⟨ver,?_⟩;rcases a with⟨ka,Na,lsa,ksa⟩;rcases b with⟨kb,Nb,lsb,ksb⟩;rw[zal];simp only[zf7,Te.cs,Te.css,Lv.css]at hB hfin hH1 hH2 hT;simp only[↓reduceIte,go_sem,zf7,Te.cs,Te.css,Lv.css,hB,hH1,hH2,hT,hk,hL];exact hfin
 |@other n out a b k N k' N' ls ls' ks ks' most n1 n2 hda hk5 hdb hk5' hne=>
  intro ha hb hwa hwb hn ho A X ver;have hB:=zeu g A X n hn ver out;have hH1:=zbn g hE hda ha (by omega) A X ver out
  have hH2:=zbn g hE hdb hb (by have:=hda.le;omega) A X ver out
  have hoa:=hda.ok hE ha;have hob:=hdb.ok hE hb;have hwa':=hda.wg hwa;have hwb':=hdb.wg hwb;have hle1:=hda.le;have hle2:=hdb.le;have hfin:=zeq A X g (n+1:Nat) 0 ver out n2 0 ver out false;refine⟨ver,?_⟩;rcases a with⟨ka,Na,lsa,ksa⟩;rcases b with⟨kb,Nb,lsb,ksb⟩;rw[zal];simp only[zf7,Te.cs]at hB hfin hH1 hH2;by_cases c1:k=k'
  ·by_cases c2:N=N'
   ·have c3:¬ (ls.length:Int)=(ls'.length:Int):=by rcases hne with h|h|h <;> omega
    simp only[↓reduceIte,go_sem,zf7,Te.cs,hB,hH1,hH2,hk5,hk5',c1,c2,c3];exact hfin
   ·simp only[↓reduceIte,go_sem,zf7,Te.cs,hB,hH1,hH2,hk5,hk5',c1,c2]
    exact hfin
  ·simp only[↓reduceIte,go_sem,zf7,Te.cs,hB,hH1,hH2,hk5,hk5',c1]
   exact hfin
 |@var n out a b N ls ls' ks ks' most n1 n2 hda hdb hl=>
  intro ha hb hwa hwb hn ho A X ver;have hB:=zeu g A X n hn ver out;have hH1:=zbn g hE hda ha (by omega) A X ver out
  have hH2:=zbn g hE hdb hb (by have:=hda.le;omega) A X ver out
  have hoa:=hda.ok hE ha;have hob:=hdb.ok hE hb;have hwa':=hda.wg hwa;have hwb':=hdb.wg hwb;have hle1:=hda.le;have hle2:=hdb.le;have hlI:(ls.length:Int)=(ls'.length:Int):=by omega
  have hfin:=zeq A X g (n+1:Nat) 0 ver out n2 0 ver out true;refine⟨ver,?_⟩;rcases a with⟨ka,Na,lsa,ksa⟩;rcases b with⟨kb,Nb,lsb,ksb⟩;rw[zal];simp only[zf7,Te.cs,Te.css,Lv.css]at hB hfin hH1 hH2;simp only[↓reduceIte,go_sem,zf7,Te.cs,Te.css,Lv.css,hB,hH1,hH2,hlI];exact hfin
 |@sortM n out a b N x y ks ks' n1 n2 hda hdb=>
  intro ha hb hwa hwb hn ho A X ver;have hB:=zeu g A X n hn ver out;have hH1:=zbn g hE hda ha (by omega) A X ver out
  have hH2:=zbn g hE hdb hb (by have:=hda.le;omega) A X ver out
  have hoa:=hda.ok hE ha;have hob:=hdb.ok hE hb;have hwa':=hda.wg hwa;have hwb':=hdb.wg hwb;have hle1:=hda.le;have hle2:=hdb.le;obtain⟨v1,hI⟩:=z06 g hcons hcl hmode x y (hoa.all2 x (by simp)) (hob.all2 y (by simp)) A X n2 0 ver out ho
  have hfin:=zeq A X g (n+1:Nat) 0 ver out n2 (zgh g (0,out) x y).2.1 v1 (zgh g (0,out) x y).2.2 (zgh g (0,out) x y).1;refine⟨v1,?_⟩;rcases a with⟨ka,Na,lsa,ksa⟩;rcases b with⟨kb,Nb,lsb,ksb⟩;rw[zal];simp only[zf7,Te.cs,Te.css,Lv.css]at hB hfin hH1 hH2 hI;simp only[↓reduceIte,go_sem,zf7,Te.cs,Te.css,Lv.css,hB,hH1,hH2,hI,List.length_cons,List.length_nil];exact hfin
 |@lvls n out a b k N ls ls' ks ks' most n1 n2 hk hda hdb hl=>
  intro ha hb hwa hwb hn ho A X ver;have hB:=zeu g A X n hn ver out;have hH1:=zbn g hE hda ha (by omega) A X ver out
  have hH2:=zbn g hE hdb hb (by have:=hda.le;omega) A X ver out
  have hoa:=hda.ok hE ha;have hob:=hdb.ok hE hb;have hwa':=hda.wg hwa;have hwb':=hdb.wg hwb;have hle1:=hda.le;have hle2:=hdb.le;obtain⟨v1,hI⟩:=yjf g hcons hcl hmode ls ls' hoa.all2 hob.all2 hl hoa.len2 A X n2 0 ver out ho;have hlI:(ls.length:Int)=(ls'.length:Int):=by omega
  have hfin:=zeq A X g (n+1:Nat) 0 ver out n2 (zj7 g (0,out) ls ls').2.1 v1 (zj7 g (0,out) ls ls').2.2 (zj7 g (0,out) ls ls').1;refine⟨v1,?_⟩;rcases a with⟨ka,Na,lsa,ksa⟩;rcases b with⟨kb,Nb,lsb,ksb⟩;rw[zal];simp only[zf7,Te.cs]at hB hfin hH1 hH2 hI;rcases hk with⟨rfl,rfl⟩|rfl
  ·simp only[↓reduceIte,go_sem,zf7,Te.cs,hB,hH1,hH2,hI,hlI]
   exact hfin
  ·simp only[↓reduceIte,go_sem,zf7,Te.cs,hB,hH1,hH2,hI,hlI]
   exact hfin
 |@two1 n out a b f x f' x' k N ls ls' most n1 n2 n' e out' hk hda hdb hl hal ih=>
  intro ha hb hwa hwb hn ho A X ver;have hB:=zeu g A X n hn ver out;have hH1:=zbn g hE hda ha (by omega) A X ver out
  have hH2:=zbn g hE hdb hb (by have:=hda.le;omega) A X ver out
  have hoa:=hda.ok hE ha;have hob:=hdb.ok hE hb;have hwa':=hda.wg hwa;have hwb':=hdb.wg hwb;have hle1:=hda.le;have hle2:=hdb.le;obtain⟨v1,hI⟩:=ih (hoa.all f (by simp)) (hob.all f' (by simp)) ((zdr hwa').2.2 f (by simp)) ((zdr hwb').2.2 f' (by simp)) (by omega) ho A X ver
  have hlI:(ls.length:Int)=(ls'.length:Int):=by omega
  have hfin:=zeq A X g (n+1:Nat) 0 ver out n' e v1 out' false;refine⟨v1,?_⟩;rcases a with⟨ka,Na,lsa,ksa⟩;rcases b with⟨kb,Nb,lsb,ksb⟩;rw[zal];simp only[zf7,Te.cs,Te.css]at hB hfin hH1 hH2 hI;rcases hk with rfl|rfl
  ·simp only[↓reduceIte,go_sem,zf7,Te.cs,Te.css,hB,hH1,hH2,hI,hlI]
   exact hfin
  ·simp only[↓reduceIte,go_sem,zf7,Te.cs,Te.css,hB,hH1,hH2,hI,hlI]
   exact hfin
 |@two2 n out a b f x f' x' k N ls ls' most r n1 n2 n3 n' e out1 out' hk hda hdb hl hal hal2 ih1 ih2=>
  intro ha hb hwa hwb hn ho A X ver;have hB:=zeu g A X n hn ver out;have hH1:=zbn g hE hda ha (by omega) A X ver out
  have hH2:=zbn g hE hdb hb (by have:=hda.le;omega) A X ver out
  have hoa:=hda.ok hE ha;have hob:=hdb.ok hE hb;have hwa':=hda.wg hwa;have hwb':=hdb.wg hwb;have hle1:=hda.le;have hle2:=hdb.le;have hle3:=hal.le;obtain⟨v1,hI⟩:=ih1 (hoa.all f (by simp)) (hob.all f' (by simp)) ((zdr hwa').2.2 f (by simp)) ((zdr hwb').2.2 f' (by simp)) (by omega) ho A X ver
  obtain⟨v2,hJ⟩:=ih2 (hoa.all x (by simp)) (hob.all x' (by simp)) ((zdr hwa').2.2 x (by simp)) ((zdr hwb').2.2 x' (by simp)) (by omega) (hal.len ho) A X v1
  have hlI:(ls.length:Int)=(ls'.length:Int):=by omega
  have hfin:=zeq A X g (n+1:Nat) 0 ver out n' e v2 out' r;refine⟨v2,?_⟩;rcases a with⟨ka,Na,lsa,ksa⟩;rcases b with⟨kb,Nb,lsb,ksb⟩;rw[zal];simp only[zf7,Te.cs,Te.css]at hB hfin hH1 hH2 hI hJ;rcases hk with rfl|rfl
  ·simp only[show decide ((4:Int)=6)=false from rfl,Bool.false_and]at hJ
   simp only[↓reduceIte,go_sem,zf7,Te.cs,Te.css,hB,hH1,hH2,hI,hJ,hlI];exact hfin
  ·simp only[decide_true,Bool.true_and]at hJ
   cases most <;>
   ·simp only[↓reduceIte,go_sem,zf7,Te.cs,Te.css,hB,hH1,hH2,hI,hJ,hlI]
    exact hfin
end Go.Ab
end
section
set_option linter.unusedVariables false
set_option linter.unusedSimpArgs false
set_option maxRecDepth 100000
set_option maxHeartbeats 4000000
namespace Go.Ab
open Go.RowKit Go.Proofs
def zwk:List (AV×AV):=[(.agg [.int .i64 1,.int .i64 1],.fn (.func zbg) [] []),(.agg [.int .i64 2,.int .i64 2],.fn (.func zbx) [] []),(.agg [.int .i64 3,.int .i64 3],.fn (.func zbk) [] []),(.agg [.int .i64 4,.int .i64 4],.fn (.func zb6) [] []),(.agg [.int .i64 6,.int .i64 6],.fn (.func zcn) [] [])]
theorem ze1(H:List AO):F zpg [] H=some (.ret (.fmap zwk),H):=by
 rw[z54];simp only[↓reduceIte,go_sem,zug,zzb,zde,zoh,ltL,zwk,List.length_cons,List.length_nil,List.cons.injEq,and_false,false_and]
theorem z0w(k k':Int):∃o,zde 2 [k,k'] zwk=some o:=by
 simp only[zwk,zde,zug,zzb,List.length_cons,List.length_nil,↓reduceIte];exact⟨_,rfl⟩
theorem yfb{k k':Int}(h:k≠k'):zde 2 [k,k'] zwk=some none:=by
 simp only[zwk,zde,zug,zzb,List.length_cons,List.length_nil,↓reduceIte];have:∀c:Int,¬ ([c,c]=[k,k']):=by intro c hc;simp at hc;omega
 simp only[this,↓reduceIte]
theorem asks_1:zde 2 [1,1] zwk=some (some (.fn (.func zbg) [] [])):=rfl
theorem ylf:zde 2 [2,2] zwk=some (some (.fn (.func zbx) [] [])):=rfl
theorem asks_3:zde 2 [3,3] zwk=some (some (.fn (.func zbk) [] [])):=rfl
theorem yle:zde 2 [4,4] zwk=some (some (.fn (.func zb6) [] [])):=rfl
theorem yld:zde 2 [6,6] zwk=some (some (.fn (.func zcn) [] [])):=rfl
theorem zdl(k k':Int):zug 2 (.agg [.int .i64 k,.int .i64 k'])=some [k,k']:=rfl
theorem zfg(A:List AO)(g:Gr)(n e:Int)(ver:Nat)(out:List Co)(X:List AO):zhk A g n e ver out X=A++(.box [.sl (De.css g.env),.int .i64 n,.int .i64 e] :: .lst 0 11 [] :: .lst 0 6 [] :: .lst ver 6 (Co.css out) :: .box [.ptr A.length 0,.sl (De.css g.env),.int .i64 g.params,.int .i64 g.metas,.sl (Co.css g.cons),.int .i64 g.mode,.ol (A.length+3) ver]::X):=rfl
theorem zdq(g:Gr)(A X:List AO)(n:Nat)(hn:n+1<=1000000)(ver:Nat)(out:List Co):F zai [.ptr A.length 0] (zhk A g (n+1:Nat) 0 ver out X)=some (.ret (.bool true),zhk A g n 0 ver out X):=by
 have h:=zma g.env (n+1:Nat) (by omega) A (.lst 0 11 [] :: .lst 0 6 [] :: .lst ver 6 (Co.css out) :: .box (.ptr A.length 0::(g.cs++[.ol (A.length+3) ver]))::X)
 rw[if_neg (by omega),show ((n+1:Nat):Int) - 1=(n:Int) by omega]at h
 exact h
theorem yf4(g:Gr)(A X:List AO)(ver:Nat)(out:List Co):F zai [.ptr A.length 0] (zhk A g 0 0 ver out X)=some (.ret (.bool false),zhk A g 0 40 ver out X):=by
 have h:=zma g.env 0 (by omega) A (.lst 0 11 [] :: .lst 0 6 [] :: .lst ver 6 (Co.css out) :: .box (.ptr A.length 0::(g.cs++[.ol (A.length+3) ver]))::X)
 rw[if_pos rfl]at h;exact h
theorem za5(g:Gr)(hE:zty g.env){n:Nat}{t t':Te}{n':Nat}(h:Hd g.env n t t' n')(ht:t.ok)(hs:sz t+600*n<=500000000)(A X:List AO)(ver:Nat)(out:List Co):
  F zaw [.ptr A.length 0,.agg t.cs] (zhk A g n 0 ver out X)=some (.ret (.agg t'.cs),zhk A g n' 0 ver out X) :=
 yjx A (.lst 0 11 [] :: .lst 0 6 [] :: .lst ver 6 (Co.css out) :: .box (.ptr A.length 0::(g.cs++[AV.ol (A.length+3) ver]))::X) g.env hE h ht hs
theorem zyi(g:Gr)(hE:zty g.env){n:Nat}{t:Te}{n':Nat}{e:Int}(h:He g.env n t n' e)(ht:t.ok)(hs:sz t+600*n<=500000000)(A X:List AO)(ver:Nat)(out:List Co):
  ∃x:Te,F zaw [.ptr A.length 0,.agg t.cs] (zhk A g n 0 ver out X)=some (.ret (.agg x.cs),zhk A g n' e ver out X) :=
 yjy A (.lst 0 11 [] :: .lst 0 6 [] :: .lst ver 6 (Co.css out) :: .box (.ptr A.length 0::(g.cs++[AV.ol (A.length+3) ver]))::X) g.env hE h ht hs
theorem yaa(g:Gr)(x:Te)(n e:Int)(he:e≠0)(A X:List AO)(ver:Nat)(out:List Co):
  F zaw [.ptr A.length 0,.agg x.cs] (zhk A g n e ver out X)=some (.ret (.agg x.cs),zhk A g n e ver out X):=by
 rcases x with⟨k,N,ls,ks⟩;have h:=yfx A (.lst 0 11 [] :: .lst 0 6 [] :: .lst ver 6 (Co.css out) :: .box (.ptr A.length 0::(g.cs++[AV.ol (A.length+3) ver]))::X) g.env n e n e 0 [] (by simp) k N ls ks (.inl he)
 rw[<- z6k]at h;exact h
theorem zym(p m:AV)(k N:Int)(ls:List Lv)(ks:List Te)(k' N':Int)(ls':List Lv)(ks':List Te)(H:List AO):F zbg [p,.agg [.int .i64 k,.int .i64 N,.sl (Lv.css ls),.sl (Te.css ks)],.agg [.int .i64 k',.int .i64 N',.sl (Lv.css ls'),.sl (Te.css ks')],m] H=some (.ret (.bool true),H):=by
 rw[znh];simp only[↓reduceIte,go_sem]
theorem zsh{k N:Int}{ls:List Lv}{x y:Te}:sz (.mk k N ls [x,y])=sz x+sz y+1:=by simp[sz,subs,subss]
theorem yk4{t:Te}(h:(zhz t 0 1).2=0):sz (zwp t)<=602:=by
 have:zcc (zhz t 0 1).1=true:=by
  revert h;unfold zhz zuw
  split
  ·intro h;cases h
  ·split
   ·intro _;assumption
   ·intro h;cases h
 have:=zyr this;rw[zwp,zsh];have:sz (.mk 1 0 [] [])=1:=rfl;omega
section
variable (g : Gr) (hcons : ∀ c ∈ g.cons, c.ok) (hcl : g.cons.length ≤ 1000) (hmode : g.mode = 1 ∨ g.mode = 2)
include hcons hcl hmode
theorem ybb(x y:Lv)(hx:x.ok)(hy:y.ok)(k N k' N':Int)(ks ks':List Te)(A X:List AO)(n:Int)(ver:Nat)(out:List Co)(ho:out.length<=100):∃ver',
  F zbx [.ptr (A.length+4) 0,.agg [.int .i64 k,.int .i64 N,.sl (Lv.css [x]),.sl (Te.css ks)],.agg [.int .i64 k',.int .i64 N',.sl (Lv.css [y]),.sl (Te.css ks')],.bool true] (zhk A g n 0 ver out X)=some (.ret (.bool (zgh g (0,out) x y).1),zhk A g n (zgh g (0,out) x y).2.1 ver' (zgh g (0,out) x y).2.2 X):=by
 obtain⟨v1,hI⟩:=zwn g hcons hcl hmode x y hx hy A X n 0 ver out ho;have hfin:=zc5 A X g n 0 ver out n (zgh g (0,out) x y).2.1 v1 (zgh g (0,out) x y).2.2 (zgh g (0,out) x y).1;refine⟨v1,?_⟩;rw[zj5];simp only[↓reduceIte,go_sem,Lv.css,hI,hfin]
theorem ybc(P Q:List Lv)(hP:∀x∈P,x.ok)(hQ:∀x∈Q,x.ok)(hlen:P.length=Q.length)(hb:P.length<=140737488355328)(k N k' N':Int)(ks ks':List Te)(A X:List AO)(n:Int)(ver:Nat)(out:List Co)(ho:out.length<=100):∃ver',
  F zbx [.ptr (A.length+4) 0,.agg [.int .i64 k,.int .i64 N,.sl (Lv.css P),.sl (Te.css ks)],.agg [.int .i64 k',.int .i64 N',.sl (Lv.css Q),.sl (Te.css ks')],.bool false] (zhk A g n 0 ver out X)=some (.ret (.bool (zj7 g (0,out) P Q).1),zhk A g n (zj7 g (0,out) P Q).2.1 ver' (zj7 g (0,out) P Q).2.2 X):=by
 obtain⟨v1,hI⟩:=zvl g hcons hcl hmode P Q hP hQ hlen hb k N k' N' ks ks' (.bool false) A X n 0 ver out ho;have hfin:=zc5 A X g n 0 ver out n (zj7 g (0,out) P Q).2.1 v1 (zj7 g (0,out) P Q).2.2 (zj7 g (0,out) P Q).1;refine⟨v1,?_⟩;simp only[Te.cs]at hI;rw[zj5];simp only[↓reduceIte,go_sem,hI,hfin]
end
theorem yf6(g:Gr)(hE:zty g.env)(hcons:∀c∈g.cons,c.ok)(hcl:g.cons.length<=1000)(hmode:g.mode=1\/g.mode=2){n:Nat}{out:List Co}{a b:Te}{most r:Bool}{n':Nat}{e:Int}{out':List Co}(h:Al g n out a b most r n' e out'):
  a.ok->b.ok->wg a=true->wg b=true->sz a+600*n<=400000000->sz b+600*n<=400000000->n<=500000->out.length<=100->∀(A X:List AO) (ver:Nat),∃ver',F za8 [.ptr (A.length+4) 0,.agg a.cs,.agg b.cs,.bool most] (zhk A g n 0 ver out X)=some (.ret (.bool r),zhk A g n' e ver' out' X):=by
 induction h with
 |@burn0 out a b most=>
  intro ha hb hwa hwb hsa hsb hn ho A X ver;have hB:=yf4 g A X ver out;have hfin:=zc5 A X g 0 0 ver out 0 40 ver out false;refine⟨ver,?_⟩;rcases a with⟨ka,Na,lsa,ksa⟩;rcases b with⟨kb,Nb,lsb,ksb⟩;rw[zaj];simp only[zfg]at hB hfin;simp only[↓reduceIte,go_sem,zfg,ze1,zdl,Int.natCast_zero,Te.cs,hB,hfin]
 |@headA n out a b most n' e hda=>
  intro ha hb hwa hwb hsa hsb hn ho A X ver;have hB:=zdq g A X n (by omega) ver out
  obtain⟨⟨kx,Nx,lx,kx2⟩,hH1⟩:=zyi g hE hda ha (by omega) A X ver out
  have hne:=hda.ne;have hH2:=yaa g b n' e hne A X ver out;have hfin:=zc5 A X g (n+1:Nat) 0 ver out n' e ver out false;refine⟨ver,?_⟩;rcases a with⟨ka,Na,lsa,ksa⟩;rcases b with⟨kb,Nb,lsb,ksb⟩;rw[zaj];simp only[zfg,Te.cs]at hB hfin hH1 hH2;obtain⟨o,hany⟩:=z0w kx kb
  cases o <;>
  ·simp only[↓reduceIte,go_sem,zfg,ze1,zdl,Te.cs,hB,hH1,hH2,hne,hany,hfin]
 |@headB n out a b a' most n1 n' e hda heb=>
  intro ha hb hwa hwb hsa hsb hn ho A X ver;have hB:=zdq g A X n (by omega) ver out
  have hH1:=za5 g hE hda ha (by omega) A X ver out
  obtain⟨⟨kx,Nx,lx,kx2⟩,hH2⟩:=zyi g hE heb hb (by have:=hda.le;omega) A X ver out
  have hne:=heb.ne;have hfin:=zc5 A X g (n+1:Nat) 0 ver out n' e ver out false;refine⟨ver,?_⟩;rcases a with⟨ka,Na,lsa,ksa⟩;rcases b with⟨kb,Nb,lsb,ksb⟩;rw[zaj];rcases a' with⟨k3,N3,ls3,ks3⟩;simp only[zfg,Te.cs]at hB hfin hH1 hH2;obtain⟨o,hany⟩:=z0w k3 kx
  cases o <;>
  ·simp only[↓reduceIte,go_sem,zfg,ze1,zdl,Te.cs,hB,hH1,hH2,hne,hany,hfin]
 |@lam2 n out a b s x s' y N N' ls ls' most r n1 n2 n' e out' hda hdb hal ih=>
  intro ha hb hwa hwb hsa hsb hn ho A X ver;have hB:=zdq g A X n (by omega) ver out
  have hH1:=za5 g hE hda ha (by omega) A X ver out
  have hH2:=za5 g hE hdb hb (by have:=hda.le;omega) A X ver out
  have hoa:=hda.ok hE ha;have hob:=hdb.ok hE hb;have hwa':=hda.wg hwa;have hwb':=hdb.wg hwb;have hle1:=hda.le;have hle2:=hdb.le;have hz1:=hda.sz;have hz2:=hdb.sz;rw[zsh]at hz1 hz2;obtain⟨v1,hI⟩:=ih (hoa.all x (by simp)) (hob.all y (by simp)) ((zdr hwa').2.2 x (by simp)) ((zdr hwb').2.2 y (by simp)) (by omega) (by omega) (by omega) ho A X ver
  have hT1:=zp3 g N ls s x A X n2 0 ver out;have hT2:=zp3 g N' ls' s' y A X n2 0 ver out;rcases x with⟨k3,N3,ls3,ks3⟩;rcases y with⟨k4,N4,ls4,ks4⟩;have hfin:=zc5 A X g (n+1:Nat) 0 ver out n' e v1 out' r;refine⟨v1,?_⟩;rcases a with⟨ka,Na,lsa,ksa⟩;rcases b with⟨kb,Nb,lsb,ksb⟩;rw[zaj];simp only[zfg,Te.cs,Te.css,Lv.css]at hB hfin hH1 hH2 hI hT1 hT2;simp only[↓reduceIte,go_sem,zfg,ze1,zdl,Te.cs,Te.css,Lv.css,hB,hH1,hH2,hI,hT1,hT2,hfin]
 |@lamL n out a b b' s x N ls most r n1 n2 n' e out' hda hdb hk hL hal ih=>
  intro ha hb hwa hwb hsa hsb hn ho A X ver;have hB:=zdq g A X n (by omega) ver out
  have hH1:=za5 g hE hda ha (by omega) A X ver out
  have hH2:=za5 g hE hdb hb (by have:=hda.le;omega) A X ver out
  have hoa:=hda.ok hE ha;have hob:=hdb.ok hE hb;have hwa':=hda.wg hwa;have hwb':=hdb.wg hwb;have hle1:=hda.le;have hle2:=hdb.le;have hz1:=hda.sz;have hz2:=hdb.sz;rw[zsh]at hz1;have hz3:=yk4 hL;obtain⟨v1,hI⟩:=ih (hoa.all x (by simp)) (zs8 hob) ((zdr hwa').2.2 x (by simp)) (zs7 hL) (by omega) (by omega) (by omega) ho A X ver
  have hT1:=zp3 g N ls s x A X n2 0 ver out;have hT2:=zr9 g b' hob hk A X n2 ver out;rw[hL]at hT2;rcases b' with⟨k',N',ls',ks'⟩;rcases x with⟨k4,N4,ls4,ks4⟩;rcases hq:zwp (.mk k' N' ls' ks') with⟨k3,N3,ls3,ks3⟩;rw[hq]at hI hT2;have hfin:=zc5 A X g (n+1:Nat) 0 ver out n' e v1 out' r;refine⟨v1,?_⟩;rcases a with⟨ka,Na,lsa,ksa⟩;rcases b with⟨kb,Nb,lsb,ksb⟩;rw[zaj];simp only[zfg,Te.cs,Te.css,Lv.css]at hB hfin hH1 hH2 hI hT1 hT2;simp only[↓reduceIte,go_sem,zfg,ze1,zdl,Te.cs,Te.css,Lv.css,hB,hH1,hH2,hI,hT1,hT2,hfin]
 |@lamLe n out a b b' s x N ls most n1 n2 hda hdb hk hL=>
  intro ha hb hwa hwb hsa hsb hn ho A X ver;have hB:=zdq g A X n (by omega) ver out
  have hH1:=za5 g hE hda ha (by omega) A X ver out
  have hH2:=za5 g hE hdb hb (by have:=hda.le;omega) A X ver out
  have hoa:=hda.ok hE ha;have hob:=hdb.ok hE hb;have hwa':=hda.wg hwa;have hwb':=hdb.wg hwb;have hle1:=hda.le;have hle2:=hdb.le;have hz1:=hda.sz;have hz2:=hdb.sz;have hT1:=zp3 g N ls s x A X n2 0 ver out;have hT2:=zr9 g b' hob hk A X n2 ver out;generalize (zhz b' 0 1).2=e at *;rcases b' with⟨k',N',ls',ks'⟩;rcases x with⟨k4,N4,ls4,ks4⟩;rcases hq:zwp (.mk k' N' ls' ks') with⟨k3,N3,ls3,ks3⟩;rw[hq]at hT2;have hfin:=zc5 A X g (n+1:Nat) 0 ver out n2 e ver out false;refine⟨ver,?_⟩;rcases a with⟨ka,Na,lsa,ksa⟩;rcases b with⟨kb,Nb,lsb,ksb⟩;rw[zaj];simp only[zfg,Te.cs,Te.css,Lv.css]at hB hfin hH1 hH2 hT1 hT2;simp only[↓reduceIte,go_sem,zfg,ze1,zdl,Te.cs,Te.css,Lv.css,hB,hH1,hH2,hT1,hT2,hL,hfin]
 |@lamR n out a b a' s y N ls most r n1 n2 n' e out' hda hk hdb hL hal ih=>
  intro ha hb hwa hwb hsa hsb hn ho A X ver;have hB:=zdq g A X n (by omega) ver out
  have hH1:=za5 g hE hda ha (by omega) A X ver out
  have hH2:=za5 g hE hdb hb (by have:=hda.le;omega) A X ver out
  have hoa:=hda.ok hE ha;have hob:=hdb.ok hE hb;have hwa':=hda.wg hwa;have hwb':=hdb.wg hwb;have hle1:=hda.le;have hle2:=hdb.le;have hz1:=hda.sz;have hz2:=hdb.sz;rw[zsh]at hz2;have hz3:=yk4 hL;obtain⟨v1,hI⟩:=ih (zs8 hoa) (hob.all y (by simp)) (zs7 hL) ((zdr hwb').2.2 y (by simp)) (by omega) (by omega) (by omega) ho A X ver
  have hT1:=zr9 g a' hoa hk A X n2 ver out;have hT2:=zp3 g N ls s y A X n2 0 ver out;rw[hL]at hT1;rcases a' with⟨k',N',ls',ks'⟩;rcases y with⟨k4,N4,ls4,ks4⟩;have hk:¬ k' = 5:=hk;rcases hq:zwp (.mk k' N' ls' ks') with⟨k3,N3,ls3,ks3⟩;rw[hq]at hI hT1;have hfin:=zc5 A X g (n+1:Nat) 0 ver out n' e v1 out' r;refine⟨v1,?_⟩;rcases a with⟨ka,Na,lsa,ksa⟩;rcases b with⟨kb,Nb,lsb,ksb⟩;rw[zaj];simp only[zfg,Te.cs,Te.css,Lv.css]at hB hfin hH1 hH2 hI hT1 hT2;simp only[↓reduceIte,go_sem,zfg,ze1,zdl,Te.cs,Te.css,Lv.css,hB,hH1,hH2,hI,hT1,hT2,hk,hfin]
 |@lamRe n out a b a' s y N ls most n1 n2 hda hk hdb hL=>
  intro ha hb hwa hwb hsa hsb hn ho A X ver;have hB:=zdq g A X n (by omega) ver out
  have hH1:=za5 g hE hda ha (by omega) A X ver out
  have hH2:=za5 g hE hdb hb (by have:=hda.le;omega) A X ver out
  have hoa:=hda.ok hE ha;have hob:=hdb.ok hE hb;have hwa':=hda.wg hwa;have hwb':=hdb.wg hwb;have hle1:=hda.le;have hle2:=hdb.le;have hz1:=hda.sz;have hz2:=hdb.sz;have hT1:=zr9 g a' hoa hk A X n2 ver out;generalize (zhz a' 0 1).2=e at *;have hT2:=zp3 g N ls s y A X n2 e ver out;rcases a' with⟨k',N',ls',ks'⟩;rcases y with⟨k4,N4,ls4,ks4⟩;have hk:¬ k' = 5:=hk;rcases hq:zwp (.mk k' N' ls' ks') with⟨k3,N3,ls3,ks3⟩;rw[hq]at hT1;have hfin:=zc5 A X g (n+1:Nat) 0 ver out n2 e ver out false;refine⟨ver,?_⟩;rcases a with⟨ka,Na,lsa,ksa⟩;rcases b with⟨kb,Nb,lsb,ksb⟩;rw[zaj];simp only[zfg,Te.cs,Te.css,Lv.css]at hB hfin hH1 hH2 hT1 hT2;simp only[↓reduceIte,go_sem,zfg,ze1,zdl,Te.cs,Te.css,Lv.css,hB,hH1,hH2,hT1,hT2,hk,hL,hfin]
 |@other n out a b k N k' N' ls ls' ks ks' most n1 n2 hda hk5 hdb hk5' hne=>
  intro ha hb hwa hwb hsa hsb hn ho A X ver;have hB:=zdq g A X n (by omega) ver out
  have hH1:=za5 g hE hda ha (by omega) A X ver out
  have hH2:=za5 g hE hdb hb (by have:=hda.le;omega) A X ver out
  have hoa:=hda.ok hE ha;have hob:=hdb.ok hE hb;have hwa':=hda.wg hwa;have hwb':=hdb.wg hwb;have hle1:=hda.le;have hle2:=hdb.le;have hz1:=hda.sz;have hz2:=hdb.sz;have hfin:=zc5 A X g (n+1:Nat) 0 ver out n2 0 ver out false;refine⟨ver,?_⟩;rcases a with⟨ka,Na,lsa,ksa⟩;rcases b with⟨kb,Nb,lsb,ksb⟩;rw[zaj];simp only[zfg,Te.cs]at hB hfin hH1 hH2;by_cases c1:k=k'
  ·obtain⟨o,hany⟩:=z0w k k'
   subst c1;by_cases c2:N=N'
   ·have c3:¬ (ls.length:Int)=(ls'.length:Int):=by rcases hne with h|h|h <;> omega
    cases o <;>
    ·simp only[↓reduceIte,go_sem,zfg,ze1,zdl,Te.cs,hB,hH1,hH2,hk5,hany,c2,c3,hfin]
   ·cases o <;>
    ·simp only[↓reduceIte,go_sem,zfg,ze1,zdl,Te.cs,hB,hH1,hH2,hk5,hany,c2,hfin]
  ·simp only[↓reduceIte,go_sem,zfg,ze1,zdl,Te.cs,hB,hH1,hH2,hk5,hk5',yfb c1,hfin]
 |@var n out a b N ls ls' ks ks' most n1 n2 hda hdb hl=>
  intro ha hb hwa hwb hsa hsb hn ho A X ver;have hB:=zdq g A X n (by omega) ver out
  have hH1:=za5 g hE hda ha (by omega) A X ver out
  have hH2:=za5 g hE hdb hb (by have:=hda.le;omega) A X ver out
  have hoa:=hda.ok hE ha;have hob:=hdb.ok hE hb;have hwa':=hda.wg hwa;have hwb':=hdb.wg hwb;have hle1:=hda.le;have hle2:=hdb.le;have hz1:=hda.sz;have hz2:=hdb.sz;have hlI:(ls.length:Int)=(ls'.length:Int):=by omega
  have hfin:=zc5 A X g (n+1:Nat) 0 ver out n2 0 ver out true;refine⟨ver,?_⟩;rcases a with⟨ka,Na,lsa,ksa⟩;rcases b with⟨kb,Nb,lsb,ksb⟩;rw[zaj];simp only[zfg,Te.cs]at hB hfin hH1 hH2;simp only[↓reduceIte,go_sem,zfg,ze1,zdl,asks_1,zym,Te.cs,hB,hH1,hH2,hlI,hfin]
 |@sortM n out a b N x y ks ks' n1 n2 hda hdb=>
  intro ha hb hwa hwb hsa hsb hn ho A X ver;have hB:=zdq g A X n (by omega) ver out
  have hH1:=za5 g hE hda ha (by omega) A X ver out
  have hH2:=za5 g hE hdb hb (by have:=hda.le;omega) A X ver out
  have hoa:=hda.ok hE ha;have hob:=hdb.ok hE hb;have hwa':=hda.wg hwa;have hwb':=hdb.wg hwb;have hle1:=hda.le;have hle2:=hdb.le;have hz1:=hda.sz;have hz2:=hdb.sz;obtain⟨v1,hI⟩:=ybb g hcons hcl hmode x y (hoa.all2 x (by simp)) (hob.all2 y (by simp)) 2 N 2 N ks ks' A X n2 ver out ho
  have hfin:=zc5 A X g (n+1:Nat) 0 ver out n2 (zgh g (0,out) x y).2.1 v1 (zgh g (0,out) x y).2.2 (zgh g (0,out) x y).1;refine⟨v1,?_⟩;rcases a with⟨ka,Na,lsa,ksa⟩;rcases b with⟨kb,Nb,lsb,ksb⟩;rw[zaj];simp only[zfg,Te.cs,Lv.css]at hB hfin hH1 hH2 hI;simp only[↓reduceIte,go_sem,zfg,ze1,zdl,ylf,Te.cs,Lv.css,List.length_cons,List.length_nil,hB,hH1,hH2,hI,hfin]
 |@lvls n out a b k N ls ls' ks ks' most n1 n2 hk hda hdb hl=>
  intro ha hb hwa hwb hsa hsb hn ho A X ver;have hB:=zdq g A X n (by omega) ver out
  have hH1:=za5 g hE hda ha (by omega) A X ver out
  have hH2:=za5 g hE hdb hb (by have:=hda.le;omega) A X ver out
  have hoa:=hda.ok hE ha;have hob:=hdb.ok hE hb;have hwa':=hda.wg hwa;have hwb':=hdb.wg hwb;have hle1:=hda.le;have hle2:=hdb.le;have hz1:=hda.sz;have hz2:=hdb.sz;have hlI:(ls.length:Int)=(ls'.length:Int):=by omega
  rcases hk with⟨rfl,rfl⟩|rfl
  ·obtain⟨v1,hI⟩:=ybc g hcons hcl hmode ls ls' hoa.all2 hob.all2 hl hoa.len2 2 N 2 N ks ks' A X n2 ver out ho
   have hfin:=zc5 A X g (n+1:Nat) 0 ver out n2 (zj7 g (0,out) ls ls').2.1 v1 (zj7 g (0,out) ls ls').2.2 (zj7 g (0,out) ls ls').1;refine⟨v1,?_⟩;rcases a with⟨ka,Na,lsa,ksa⟩;rcases b with⟨kb,Nb,lsb,ksb⟩;rw[zaj];simp only[zfg,Te.cs]at hB hfin hH1 hH2 hI;simp only[↓reduceIte,go_sem,zfg,ze1,zdl,ylf,Te.cs,hB,hH1,hH2,hI,hlI,hfin]
  ·obtain⟨v1,hI⟩:=zvl g hcons hcl hmode ls ls' hoa.all2 hob.all2 hl hoa.len2 3 N 3 N ks ks' (.bool most) A X n2 0 ver out ho
   have hfin:=zc5 A X g (n+1:Nat) 0 ver out n2 (zj7 g (0,out) ls ls').2.1 v1 (zj7 g (0,out) ls ls').2.2 (zj7 g (0,out) ls ls').1;refine⟨v1,?_⟩;rcases a with⟨ka,Na,lsa,ksa⟩;rcases b with⟨kb,Nb,lsb,ksb⟩;rw[zaj];simp only[zfg,Te.cs]at hB hfin hH1 hH2 hI;simp only[↓reduceIte,go_sem,zfg,ze1,zdl,asks_3,Te.cs,hB,hH1,hH2,hI,hlI,hfin]
 |@two1 n out a b f x f' x' k N ls ls' most n1 n2 n' e out' hk hda hdb hl hal ih=>
  intro ha hb hwa hwb hsa hsb hn ho A X ver;have hB:=zdq g A X n (by omega) ver out
  have hH1:=za5 g hE hda ha (by omega) A X ver out
  have hH2:=za5 g hE hdb hb (by have:=hda.le;omega) A X ver out
  have hoa:=hda.ok hE ha;have hob:=hdb.ok hE hb;have hwa':=hda.wg hwa;have hwb':=hdb.wg hwb;have hle1:=hda.le;have hle2:=hdb.le;have hz1:=hda.sz;have hz2:=hdb.sz;have hlI:(ls.length:Int)=(ls'.length:Int):=by omega
  rw[zsh]at hz1 hz2;obtain⟨v1,hI⟩:=ih (hoa.all f (by simp)) (hob.all f' (by simp)) ((zdr hwa').2.2 f (by simp)) ((zdr hwb').2.2 f' (by simp)) (by omega) (by omega) (by omega) ho A X ver
  have hfin:=zc5 A X g (n+1:Nat) 0 ver out n' e v1 out' false;refine⟨v1,?_⟩;rcases a with⟨ka,Na,lsa,ksa⟩;rcases b with⟨kb,Nb,lsb,ksb⟩;rw[zaj];simp only[Te.cs,Te.css]at hH1 hH2;rcases hk with rfl|rfl
  ·have hQ:F zb6 [.ptr (A.length+4) 0,.agg [.int .i64 4,.int .i64 N,.sl (Lv.css ls),.sl [f.cs,x.cs]],.agg [.int .i64 4,.int .i64 N,.sl (Lv.css ls'),.sl [f'.cs,x'.cs]],.bool most] (zhk A g n2 0 ver out X)=some (.ret (.bool false),zhk A g n' e v1 out' X):=by
    have hfin:=zc5 A X g n2 0 ver out n' e v1 out' false;rcases f with⟨k3,N3,ls3,ks3⟩;rcases x with⟨k4,N4,ls4,ks4⟩;rcases f' with⟨k5,N5,ls5,ks5⟩;rcases x' with⟨k6,N6,ls6,ks6⟩;rw[zlq];simp only[Te.cs]at hI;simp only[↓reduceIte,go_sem,Te.cs,hI,hfin]
   simp only[zfg]at hB hfin hH1 hH2 hQ;simp only[↓reduceIte,go_sem,zfg,ze1,zdl,yle,Te.cs,Te.css,hB,hH1,hH2,hQ,hlI,hfin]
  ·have hQ:F zcn [.ptr (A.length+4) 0,.agg [.int .i64 6,.int .i64 N,.sl (Lv.css ls),.sl [f.cs,x.cs]],.agg [.int .i64 6,.int .i64 N,.sl (Lv.css ls'),.sl [f'.cs,x'.cs]],.bool most] (zhk A g n2 0 ver out X)=some (.ret (.bool false),zhk A g n' e v1 out' X):=by
    have hfin:=zc5 A X g n2 0 ver out n' e v1 out' false;rcases f with⟨k3,N3,ls3,ks3⟩;rcases x with⟨k4,N4,ls4,ks4⟩;rcases f' with⟨k5,N5,ls5,ks5⟩;rcases x' with⟨k6,N6,ls6,ks6⟩;rw[zl7];simp only[Te.cs]at hI;simp only[↓reduceIte,go_sem,Te.cs,hI,hfin]
   simp only[zfg]at hB hfin hH1 hH2 hQ;simp only[↓reduceIte,go_sem,zfg,ze1,zdl,yld,Te.cs,Te.css,hB,hH1,hH2,hQ,hlI,hfin]
 |@two2 n out a b f x f' x' k N ls ls' most r n1 n2 n3 n' e out1 out' hk hda hdb hl hal hal2 ih1 ih2=>
  intro ha hb hwa hwb hsa hsb hn ho A X ver;have hB:=zdq g A X n (by omega) ver out
  have hH1:=za5 g hE hda ha (by omega) A X ver out
  have hH2:=za5 g hE hdb hb (by have:=hda.le;omega) A X ver out
  have hoa:=hda.ok hE ha;have hob:=hdb.ok hE hb;have hwa':=hda.wg hwa;have hwb':=hdb.wg hwb;have hle1:=hda.le;have hle2:=hdb.le;have hz1:=hda.sz;have hz2:=hdb.sz;have hlI:(ls.length:Int)=(ls'.length:Int):=by omega
  rw[zsh]at hz1 hz2;have hle3:=hal.le;obtain⟨v1,hI⟩:=ih1 (hoa.all f (by simp)) (hob.all f' (by simp)) ((zdr hwa').2.2 f (by simp)) ((zdr hwb').2.2 f' (by simp)) (by omega) (by omega) (by omega) ho A X ver
  obtain⟨v2,hJ⟩:=ih2 (hoa.all x (by simp)) (hob.all x' (by simp)) ((zdr hwa').2.2 x (by simp)) ((zdr hwb').2.2 x' (by simp)) (by omega) (by omega) (by omega) (hal.len ho) A X v1
  have hfin:=zc5 A X g (n+1:Nat) 0 ver out n' e v2 out' r;refine⟨v2,?_⟩;rcases a with⟨ka,Na,lsa,ksa⟩;rcases b with⟨kb,Nb,lsb,ksb⟩;rw[zaj];simp only[Te.cs,Te.css]at hH1 hH2;rcases hk with rfl|rfl
  ·simp only[show decide ((4:Int)=6)=false from rfl,Bool.false_and]at hJ
   have hQ:F zb6 [.ptr (A.length+4) 0,.agg [.int .i64 4,.int .i64 N,.sl (Lv.css ls),.sl [f.cs,x.cs]],.agg [.int .i64 4,.int .i64 N,.sl (Lv.css ls'),.sl [f'.cs,x'.cs]],.bool most] (zhk A g n2 0 ver out X)=some (.ret (.bool r),zhk A g n' e v2 out' X):=by
    have hfin:=zc5 A X g n2 0 ver out n' e v2 out' r;rcases f with⟨k3,N3,ls3,ks3⟩;rcases x with⟨k4,N4,ls4,ks4⟩;rcases f' with⟨k5,N5,ls5,ks5⟩;rcases x' with⟨k6,N6,ls6,ks6⟩;rw[zlq];simp only[Te.cs]at hI hJ;simp only[↓reduceIte,go_sem,Te.cs,hI,hJ,hfin]
   simp only[zfg]at hB hfin hH1 hH2 hQ;simp only[↓reduceIte,go_sem,zfg,ze1,zdl,yle,Te.cs,Te.css,hB,hH1,hH2,hQ,hlI,hfin]
  ·simp only[decide_true,Bool.true_and]at hJ
   have hQ:F zcn [.ptr (A.length+4) 0,.agg [.int .i64 6,.int .i64 N,.sl (Lv.css ls),.sl [f.cs,x.cs]],.agg [.int .i64 6,.int .i64 N,.sl (Lv.css ls'),.sl [f'.cs,x'.cs]],.bool most] (zhk A g n2 0 ver out X)=some (.ret (.bool r),zhk A g n' e v2 out' X):=by
    have hfin:=zc5 A X g n2 0 ver out n' e v2 out' r;rcases f with⟨k3,N3,ls3,ks3⟩;rcases x with⟨k4,N4,ls4,ks4⟩;rcases f' with⟨k5,N5,ls5,ks5⟩;rcases x' with⟨k6,N6,ls6,ks6⟩;rw[zl7];simp only[Te.cs]at hI hJ;simp only[↓reduceIte,go_sem,Te.cs,hI,hJ,hfin]
   simp only[zfg]at hB hfin hH1 hH2 hQ;simp only[↓reduceIte,go_sem,zfg,ze1,zdl,yld,Te.cs,Te.css,hB,hH1,hH2,hQ,hlI,hfin]
end Go.Ab
end
section
set_option linter.unusedVariables false
set_option linter.unusedSimpArgs false
set_option maxRecDepth 100000
set_option maxHeartbeats 2000000
namespace Go.Ab
open Go.RowKit Go.Proofs
theorem yho:zty []:=⟨by simp,by intro d hd;cases hd⟩
end Go.Ab
end
section
set_option linter.unusedVariables false
set_option linter.unusedSimpArgs false
set_option maxRecDepth 100000
set_option maxHeartbeats 4000000
namespace Go.Ab
open Go.RowKit Go.Proofs
def okCs(l:List Co):Prop:=l.length<=140737488355328/\∀c∈l,c.ok
def okG(g:Gr):Prop:=zty g.env/\okCs g.cons
def yhq(g:Gr):Bool:=(decide (g.mode=1) && decide (g.metas=0)) || (decide (g.mode=2) && decide (0<=g.metas) && decide (g.metas<=10))
def zjw(g:Gr):Bool:=yhq g && (zqp g.env && zdt g.cons g.params)
theorem ztd(g:Gr)(hg:okG g)(H:List AO):F zin [.agg g.cs] H=some (.ret (.bool (zjw g)),H):=by
 have h1:=fun H=>z98 g.env hg.1 H
 have h2:=fun H=>zr4 g.cons hg.2.1 hg.2.2 g.params H
 rw[zzu,zjw,yhq];rcases g with⟨env,p,m,cons,mode⟩;dsimp only[Gr.cs]at h1 h2 ⊢;by_cases c1:mode=1
 ·subst c1
  by_cases c2:m=0
  ·subst c2
   cases c3:zqp env <;> rw[c3]at h1 <;> simp only[↓reduceIte,go_sem,h1,h2] <;> simp
  ·simp only[↓reduceIte,go_sem,c2]
   simp[c2]
 ·by_cases c4:mode=2
  ·subst c4
   by_cases c5:m<0
   ·simp only[↓reduceIte,go_sem,c5,show ¬ (2:Int)=1 by decide]
    simp;omega
   ·by_cases c6:10<m
    ·simp only[↓reduceIte,go_sem,c5,c6,show ¬ (2:Int)=1 by decide]
     simp;omega
    ·have e1:(decide (0<=m))=true:=by simp;omega
     have e2:(decide (m<=10))=true:=by simp;omega
     cases c3:zqp env <;> rw[c3]at h1 <;> simp only[↓reduceIte,go_sem,h1,h2,c5,c6,show ¬ (2:Int)=1 by decide,e1,e2] <;> simp
  ·simp only[↓reduceIte,go_sem,c1,c4]
   simp
theorem zlv(g:Gr)(hg:okG g)(H:List AO):F zhj [.agg g.cs] H=some (.ret (.bool (zjw g)),H):=by
 have h1:=fun H=>z97 g.env hg.1 H
 have h2:=fun H=>zun g.cons hg.2.1 hg.2.2 g.params H
 rw[z3i,zjw,yhq];rcases g with⟨env,p,m,cons,mode⟩;dsimp only[Gr.cs]at h1 h2 ⊢;by_cases c1:mode=1
 ·subst c1
  by_cases c2:m=0
  ·subst c2
   cases c3:zqp env <;> rw[c3]at h1 <;> simp only[↓reduceIte,go_sem,h1,h2] <;> simp
  ·simp only[↓reduceIte,go_sem,c2]
   simp[c2]
 ·by_cases c4:mode=2
  ·subst c4
   by_cases c5:m<0
   ·simp only[↓reduceIte,go_sem,c5,show ¬ (2:Int)=1 by decide]
    simp;omega
   ·by_cases c6:10<m
    ·simp only[↓reduceIte,go_sem,c5,c6,show ¬ (2:Int)=1 by decide]
     simp;omega
    ·have e1:(decide (0<=m))=true:=by simp;omega
     have e2:(decide (m<=10))=true:=by simp;omega
     cases c3:zqp env <;> rw[c3]at h1 <;> simp only[↓reduceIte,go_sem,h1,h2,c5,c6,show ¬ (2:Int)=1 by decide,e1,e2] <;> simp
  ·simp only[↓reduceIte,go_sem,c1,c4]
   simp
theorem zyg{g:Gr}(h:zjw g=true):(g.mode=1\/g.mode=2)/\zqp g.env=true/\zdt g.cons g.params=true/\g.cons.length<=8:=by
 unfold zjw yhq at h;simp only[Bool.and_eq_true,Bool.or_eq_true,decide_eq_true_eq]at h;obtain⟨h1,h2,h3⟩:=h;refine⟨by omega,h2,h3,?_⟩
 unfold zdt at h3;simp only[Bool.and_eq_true,decide_eq_true_eq]at h3;exact h3.1.2
theorem zue{g:Gr}{s:Int×List Co}{a b:Lv}(ha:a.ok)(hb:b.ok)(h:∀c∈s.2,c.ok):∀c∈(zgh g s a b).2.2,c.ok:=by
 unfold zgh
 split
 ·exact h
 split
 ·split
  ·exact h
  ·intro c hc
   simp only[List.mem_append,List.mem_singleton]at hc;rcases hc with hc|rfl
   ·exact h c hc
   ·exact⟨ha,hb⟩
 split <;> exact h
theorem ye4{g:Gr}{s:Int×List Co}{a b:Lv}(ha:a.ok)(hb:b.ok)(h:∀c∈s.2,c.ok):∀c∈(zog g s a b).2.2,c.ok:=by
 unfold zog
 split
 ·exact zue hb ha (zue ha hb h)
 ·exact zue ha hb h
theorem z8a{g:Gr}:∀{s:Int×List Co} {p q:List Lv},(∀x∈p,x.ok)->(∀x∈q,x.ok)->(∀c∈s.2,c.ok)->∀c∈(zj7 g s p q).2.2,c.ok
 |s,a::xs,b::ys,hp,hq,h=>by
  rw[zj7];have h1:=ye4 (g:=g) (hp a (by simp)) (hq b (by simp)) h
  split
  ·exact z8a (fun x hx=>hp x (by simp[hx])) (fun x hx=>hq x (by simp[hx])) h1
  ·exact h1
 |s,[],_,_,_,h=>by simpa [zj7] using h
 |s,_::_,[],_,_,h=>by simpa [zj7] using h
theorem Al.oks{g:Gr}(hE:zty g.env){n:Nat}{out:List Co}{a b:Te}{most r:Bool}{n':Nat}{e:Int}{out':List Co}(h:Al g n out a b most r n' e out'):a.ok->b.ok->(∀c∈out,c.ok)->∀c∈out',c.ok:=by
 induction h with
 |lam2 h1 h2 _ ih=>exact fun ha hb=>ih ((h1.ok hE ha).all _ (by simp)) ((h2.ok hE hb).all _ (by simp))
 |lamL h1 h2 _ _ _ ih=>exact fun ha hb=>ih ((h1.ok hE ha).all _ (by simp)) (zs8 (h2.ok hE hb))
 |lamR h1 _ h2 _ _ ih=>exact fun ha hb=>ih (zs8 (h1.ok hE ha)) ((h2.ok hE hb).all _ (by simp))
 |sortM h1 h2=>exact fun ha hb h=>zue ((h1.ok hE ha).all2 _ (by simp)) ((h2.ok hE hb).all2 _ (by simp)) h
 |lvls _ h1 h2=>exact fun ha hb h=>z8a (h1.ok hE ha).all2 (h2.ok hE hb).all2 h
 |two1 _ h1 h2 _ _ ih=>exact fun ha hb=>ih ((h1.ok hE ha).all _ (by simp)) ((h2.ok hE hb).all _ (by simp))
 |two2 _ h1 h2 _ _ _ ih1 ih2=>exact fun ha hb h=>ih2 ((h1.ok hE ha).all _ (by simp)) ((h2.ok hE hb).all _ (by simp)) (ih1 ((h1.ok hE ha).all _ (by simp)) ((h2.ok hE hb).all _ (by simp)) h)
 |_=>exact fun _ _ h=>h
def zwc:List Co->List Co->Bool
 |[],[]=>true
 |x::l,y::m=>lvEq x.a y.a && lvEq x.b y.b && zwc l m
 |_,_=>false
theorem zwb:∀l:List Co,zwc l l=true
 |[]=>rfl
 |x::l=>by rw[zwc,lvEq_refl,lvEq_refl,zwb l];rfl
theorem z4r(P Q:List Co)(hP:okCs P)(H:List AO):F zgi [.sl (Co.css P),.sl (Co.css Q)] H=some (.ret (.bool (decide (P.length=Q.length) && zwc P Q)),H):=by
 have loop:P.length=Q.length->∀(p q ps qs:List Co),P=ps++p->Q=qs++q->ps.length=qs.length ->
   zfk H H (.sl (Co.css P)) (.sl (Co.css Q)) (.int .i64 ps.length)=some (.ret (.bool (zwc p q)),H):=by
  intro hlen p
  induction p with
  |nil=>
   intro q ps qs h1 h2 h3;rw[List.append_nil]at h1;subst h1
   cases q with
   |cons y q=>rw[h2]at hlen;simp at hlen;omega
   |nil=>
   rw[zfk,zab];simp only[↓reduceIte,go_sem,zwc]
  |cons x p ih=>
   intro q ps qs h1 h2 h3
   cases q with
   |nil=>rw[h1,h2]at hlen;simp at hlen;omega
   |cons y q=>
   have hx:=hP.2 x (by rw[h1];simp)
   have hga:P[ps.length]?=some x:=by rw[h1];simp
   have hgb:Q[ps.length]?=some y:=by rw[h2,h3];simp
   have hpl:ps.length<P.length:=by rw[h1];simp
   have hP1:=hP.1;have h4:=ih q (ps++[x]) (qs++[y]) (by rw[h1];simp) (by rw[h2];simp) (by simp[h3])
   have q1:=fun H=>zu2 x.a hx.1 y.a H
   have q2:=fun H=>zu2 x.b hx.2 y.b H
   simp only[zaf]at h4;rw[zfk,zab,zwc];rcases x with⟨⟨k1,n1,l1⟩,⟨k2,n2,l2⟩⟩;rcases y with⟨⟨k3,n3,l3⟩,⟨k4,n4,l4⟩⟩;simp only[Co.a,Co.b,Lv.cs]at q1 q2 ⊢
   cases c1:lvEq (.mk k1 n1 l1) (.mk k3 n3 l3) <;> rw[c1]at q1
   ·simp only[↓reduceIte,go_sem,show (ps.length:Int)<(P.length:Int) by omega,hga,hgb,Co.cs,Co.a,Co.b,Lv.cs,List.cons_append,List.nil_append,q1,Bool.false_and]
   cases c2:lvEq (.mk k2 n2 l2) (.mk k4 n4 l4) <;> rw[c2]at q2
   ·simp only[↓reduceIte,go_sem,show (ps.length:Int)<(P.length:Int) by omega,hga,hgb,Co.cs,Co.a,Co.b,Lv.cs,List.cons_append,List.nil_append,q1,q2,Bool.and_false,Bool.false_and]
   ·simp only[↓reduceIte,go_sem,show (ps.length:Int)<(P.length:Int) by omega,hga,hgb,Co.cs,Co.a,Co.b,Lv.cs,List.cons_append,List.nil_append,q1,q2,Bool.true_and,zac (n:=ps.length) (by omega),h4]
 rw[zt4];by_cases hl:P.length=Q.length
 ·have:=loop hl P Q [] [] rfl rfl rfl
  simp only[List.length_nil,Int.natCast_zero]at this;simp only[↓reduceIte,go_sem,hl,this,decide_true,Bool.true_and]
 ·have:¬ (P.length:Int)=(Q.length:Int):=by omega
  simp only[↓reduceIte,go_sem,this,hl,decide_false,Bool.false_and]
inductive ConvS (g:Gr) (a b:Te) (most:Bool) (f:Int):Bool×List Co×Int×Int->Prop
 |arg:(zjw g=false\/zc6 a 1000 g.params g.metas=false\/zc6 b 1000 g.params g.metas=false\/f<0\/5000<f)->ConvS g a b most f (false,[],0,1)
 |er {n n':Nat} {r:Bool} {e:Int} {out:List Co}:zjw g=true->zc6 a 1000 g.params g.metas=true->zc6 b 1000 g.params g.metas=true->f=n->n<=5000->Al g n [] a b most r n' e out->e≠0->ConvS g a b most f (false,[],0,e)
 |ok {n n':Nat} {r:Bool} {out:List Co}:zjw g=true->zc6 a 1000 g.params g.metas=true->zc6 b 1000 g.params g.metas=true->f=n->n<=5000->Al g n [] a b most r n' 0 out->ConvS g a b most f (r,out,n',0)
theorem zew{t:Te}{v p m:Int}(h:zc6 t v p m=true):wg t=true/\sz t<=600:=by
 unfold zc6 at h;simp only[Bool.and_eq_true,decide_eq_true_eq]at h;refine⟨by simp[wg,right_wf h.2,right_w2 h.2],?_⟩
 have h1:=subs_parts t 601 (by omega)
 have:=h.1.2;unfold sz;omega
theorem z9m(g:Gr)(a b:Te)(most:Bool)(f:Int):∃r,ConvS g a b most f r:=by
 cases h1:zjw g
 ·exact⟨_,.arg (.inl h1)⟩
 cases h2:zc6 a 1000 g.params g.metas
 ·exact⟨_,.arg (.inr (.inl h2))⟩
 cases h3:zc6 b 1000 g.params g.metas
 ·exact⟨_,.arg (.inr (.inr (.inl h3)))⟩
 by_cases h4:f<0
 ·exact⟨_,.arg (.inr (.inr (.inr (.inl h4))))⟩
 by_cases h5:5000<f
 ·exact⟨_,.arg (.inr (.inr (.inr (.inr h5))))⟩
 obtain⟨n,rfl⟩:=Int.eq_ofNat_of_zero_le (show 0<=f by omega)
 obtain⟨r,n',e,out,h⟩:=yjg g n [] a b most (zew h2).1 (zew h3).1;by_cases he:e=0
 ·subst he;exact⟨_,.ok h1 h2 h3 rfl (by omega) h⟩
 ·exact⟨_,.er h1 h2 h3 rfl (by omega) h he⟩
abbrev z1x(x:Bool×List Co×Int×Int):AV:=.tup [.bool x.1,.sl (Co.css x.2.1),.int .i64 x.2.2.1,.int .i64 x.2.2.2]
theorem ybm(n:Nat)(x:Bool×List Co×Int×Int):Lt n (z1x x):=by
 refine .tup ?_;intro a ha;simp at ha;rcases ha with rfl|rfl|rfl|rfl
 ·exact .bool _
 ·exact .sl (zr5 _ _)
 ·exact .int _ _
 ·exact .int _ _
theorem zyj(g:Gr)(hg:okG g)(a b:Te)(ha:a.ok)(hb:b.ok)(most:Bool)(n n':Nat)(hn:n<=5000)(r:Bool)(e:Int)(out:List Co)(h1:zjw g=true)(h2:zc6 a 1000 g.params g.metas=true)(h3:zc6 b 1000 g.params g.metas=true)(h:Al g n [] a b most r n' e out)(H:List AO):
  F zkn [.agg g.cs,.agg a.cs,.agg b.cs,.bool most,.int .i64 n] H=some (.ret (z1x (if e≠0 then (false,[],0,e) else (r,out,(n':Int),0))),H):=by
 obtain⟨hm,_,_,hl⟩:=zyg h1;have k1:=fun H=>ztd g hg H
 have k2:=fun H=>zg7 a ha 1000 g.params g.metas H
 have k3:=fun H=>zg7 b hb 1000 g.params g.metas H
 have k4:=fun H=>yjr g n H
 obtain⟨v,k5⟩:=yf1 g hg.1 hg.2.2 (by omega) hm h ha hb (zew h2).1 (zew h3).1 (by omega) (by simp) (H++[.lst 0 11 [],.lst 0 11 [],.lst 0 6 []]) [] 0
 rw[h1]at k1;rw[h2]at k2;rw[h3]at k3;rcases a with⟨ka,Na,lsa,ksa⟩;rcases b with⟨kb,Nb,lsb,ksb⟩;have e0:Co.css []=[]:=rfl;rw[ztm];simp only[zf7,Te.cs,Gr.cs,e0,List.length_append,List.length_cons,List.length_nil,Nat.add_assoc,Nat.reduceAdd,List.append_assoc,List.cons_append,List.nil_append]at k1 k2 k3 k4 k5;by_cases he:e=0
 ·subst he
  simp only[↓reduceIte,go_sem,Te.cs,Gr.cs,k1,k2,k3,k4,k5,show ¬ (n:Int)<0 by omega,show ¬ (5000:Int)<(n:Int) by omega,e0,not_true_eq_false,ne_eq]
  exact if_pos (ybm _ (r,out,(n':Int),0))
 ·simp only[↓reduceIte,go_sem,Te.cs,Gr.cs,k1,k2,k3,k4,k5,show ¬ (n:Int)<0 by omega,show ¬ (5000:Int)<(n:Int) by omega,he,ne_eq,not_false_eq_true,e0]
  rfl
theorem zwo(g:Gr)(hg:okG g)(a b:Te)(ha:a.ok)(hb:b.ok)(most:Bool)(n n':Nat)(hn:n<=5000)(r:Bool)(e:Int)(out:List Co)(h1:zjw g=true)(h2:zc6 a 1000 g.params g.metas=true)(h3:zc6 b 1000 g.params g.metas=true)(h:Al g n [] a b most r n' e out)(H:List AO):
  F zfx [.agg g.cs,.agg a.cs,.agg b.cs,.bool most,.int .i64 n] H=some (.ret (z1x (if e≠0 then (false,[],0,e) else (r,out,(n':Int),0))),H):=by
 obtain⟨hm,_,_,hl⟩:=zyg h1;have k1:=fun H=>zlv g hg H
 have k2:=fun H=>zkx a ha 1000 g.params g.metas H
 have k3:=fun H=>zkx b hb 1000 g.params g.metas H
 have k4:=fun H=>NewP_ok g n H
 have z1:=(zew h2).2;have z2:=(zew h3).2;obtain⟨v,k5⟩:=yf6 g hg.1 hg.2.2 (by omega) hm h ha hb (zew h2).1 (zew h3).1 (by omega) (by omega) (by omega) (by simp) H [] 0
 rw[h1]at k1;rw[h2]at k2;rw[h3]at k3;rcases a with⟨ka,Na,lsa,ksa⟩;rcases b with⟨kb,Nb,lsb,ksb⟩;have e0:Co.css []=[]:=rfl;rw[zv4];simp only[zfg,Te.cs,Gr.cs,e0,List.length_append,List.length_cons,List.length_nil,Nat.add_assoc,Nat.reduceAdd,List.append_assoc,List.cons_append,List.nil_append]at k1 k2 k3 k4 k5;by_cases he:e=0
 ·subst he
  simp only[↓reduceIte,go_sem,Te.cs,Gr.cs,k1,k2,k3,k4,k5,show ¬ (n:Int)<0 by omega,show ¬ (5000:Int)<(n:Int) by omega,e0,not_true_eq_false,ne_eq]
  exact if_pos (ybm _ (r,out,(n':Int),0))
 ·simp only[↓reduceIte,go_sem,Te.cs,Gr.cs,k1,k2,k3,k4,k5,show ¬ (n:Int)<0 by omega,show ¬ (5000:Int)<(n:Int) by omega,he,ne_eq,not_false_eq_true,e0]
  rfl
theorem yae(g:Gr)(hg:okG g)(a b:Te)(ha:a.ok)(hb:b.ok)(most:Bool)(f:Int)(r:Bool×List Co×Int×Int)(h:ConvS g a b most f r)(H:List AO):
  F zkn [.agg g.cs,.agg a.cs,.agg b.cs,.bool most,.int .i64 f] H=some (.ret (z1x r),H):=by
 cases h with
 |arg hq=>
  have k1:=fun H=>ztd g hg H
  have k2:=fun H=>zg7 a ha 1000 g.params g.metas H
  have k3:=fun H=>zg7 b hb 1000 g.params g.metas H
  have e0:Co.css []=[]:=rfl;rcases a with⟨ka,Na,lsa,ksa⟩;rcases b with⟨kb,Nb,lsb,ksb⟩;rw[ztm];simp only[Te.cs,Gr.cs]at k1 k2 k3
  cases c1:zjw g <;> rw[c1]at k1
  ·simp only[↓reduceIte,go_sem,Te.cs,Gr.cs,k1,z1x,e0]
  cases c2:zc6 (.mk ka Na lsa ksa) 1000 g.params g.metas <;> rw[c2]at k2
  ·simp only[↓reduceIte,go_sem,Te.cs,Gr.cs,k1,k2,z1x,e0]
  cases c3:zc6 (.mk kb Nb lsb ksb) 1000 g.params g.metas <;> rw[c3]at k3
  ·simp only[↓reduceIte,go_sem,Te.cs,Gr.cs,k1,k2,k3,z1x,e0]
  rw[c1,c2,c3]at hq;by_cases c4:f<0
  ·simp only[↓reduceIte,go_sem,Te.cs,Gr.cs,k1,k2,k3,c4,z1x,e0]
  ·have c5:5000<f:=by simp at hq;omega
   simp only[↓reduceIte,go_sem,Te.cs,Gr.cs,k1,k2,k3,c4,c5,z1x,e0]
 |@er n n' r e out h1 h2 h3 hf hn hA he=>
  subst hf;have:=zyj g hg a b ha hb most n n' hn r e out h1 h2 h3 hA H
  rwa [if_pos he]at this
 |@ok n n' r out h1 h2 h3 hf hn hA=>
  subst hf;have:=zyj g hg a b ha hb most n n' hn r 0 out h1 h2 h3 hA H
  rwa [if_neg (by simp)]at this
theorem zi3(g:Gr)(hg:okG g)(a b:Te)(ha:a.ok)(hb:b.ok)(most:Bool)(f:Int)(r:Bool×List Co×Int×Int)(h:ConvS g a b most f r)(H:List AO):
  F zfx [.agg g.cs,.agg a.cs,.agg b.cs,.bool most,.int .i64 f] H=some (.ret (z1x r),H):=by
 cases h with
 |arg hq=>
  have k1:=fun H=>zlv g hg H
  have k2:=fun H=>zkx a ha 1000 g.params g.metas H
  have k3:=fun H=>zkx b hb 1000 g.params g.metas H
  have e0:Co.css []=[]:=rfl;rcases a with⟨ka,Na,lsa,ksa⟩;rcases b with⟨kb,Nb,lsb,ksb⟩;rw[zv4];simp only[Te.cs,Gr.cs]at k1 k2 k3
  cases c1:zjw g <;> rw[c1]at k1
  ·simp only[↓reduceIte,go_sem,Te.cs,Gr.cs,k1,z1x,e0]
  cases c2:zc6 (.mk ka Na lsa ksa) 1000 g.params g.metas <;> rw[c2]at k2
  ·simp only[↓reduceIte,go_sem,Te.cs,Gr.cs,k1,k2,z1x,e0]
  cases c3:zc6 (.mk kb Nb lsb ksb) 1000 g.params g.metas <;> rw[c3]at k3
  ·simp only[↓reduceIte,go_sem,Te.cs,Gr.cs,k1,k2,k3,z1x,e0]
  rw[c1,c2,c3]at hq;by_cases c4:f<0
  ·simp only[↓reduceIte,go_sem,Te.cs,Gr.cs,k1,k2,k3,c4,z1x,e0]
  ·have c5:5000<f:=by simp at hq;omega
   simp only[↓reduceIte,go_sem,Te.cs,Gr.cs,k1,k2,k3,c4,c5,z1x,e0]
 |@er n n' r e out h1 h2 h3 hf hn hA he=>
  subst hf;have:=zwo g hg a b ha hb most n n' hn r e out h1 h2 h3 hA H
  rwa [if_pos he]at this
 |@ok n n' r out h1 h2 h3 hf hn hA=>
  subst hf;have:=zwo g hg a b ha hb most n n' hn r 0 out h1 h2 h3 hA H
  rwa [if_neg (by simp)]at this
theorem ConvS.oks{g:Gr}(hg:okG g){a b:Te}(ha:a.ok)(hb:b.ok){most:Bool}{f:Int}{r:Bool×List Co×Int×Int}(h:ConvS g a b most f r):okCs r.2.1:=by
 have h0:okCs []:=⟨by simp,by intro c hc;cases hc⟩
 cases h with
 |arg=>exact h0
 |er=>exact h0
 |ok _ _ _ _ _ hA=>
  have:=hA.len (by simp)
  exact⟨by dsimp only;omega,hA.oks hg.1 ha hb (by intro c hc;cases hc)⟩
theorem ybf(g:Gr)(hg:okG g)(a b:Te)(ha:a.ok)(hb:b.ok)(most:Bool)(f:Int)(H:List AO):F znb [.agg g.cs,.agg a.cs,.agg b.cs,.bool most,.int .i64 f] H=some (.ret (.bool true),H):=by
 obtain⟨r,hr⟩:=z9m g a b most f;have k1:=fun H=>yae g hg a b ha hb most f r hr H
 have k2:=fun H=>zi3 g hg a b ha hb most f r hr H
 have k3:=hr.oks hg ha hb;have k4:=fun H=>ztd g hg H
 have k5:=fun H=>zlv g hg H
 rcases r with⟨r,out,n,e⟩;have k6:=fun H=>z4r out out k3 H
 rw[zwb]at k6;simp only[decide_true,Bool.and_self]at k6;rcases a with⟨ka,Na,lsa,ksa⟩;rcases b with⟨kb,Nb,lsb,ksb⟩;simp only[Te.cs,Gr.cs,z1x]at k1 k2 k4 k5;rw[z3e]
 cases r <;> cases c1:zjw g <;> simp only[c1]at k4 k5 <;>
  simp only[↓reduceIte,go_sem,Te.cs,Gr.cs,k1,k2,k4,k5,k6,beq_self_eq_true]
end Go.Ab
end
