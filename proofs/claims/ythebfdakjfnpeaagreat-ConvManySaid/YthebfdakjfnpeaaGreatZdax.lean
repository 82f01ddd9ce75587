/- What the law ConvMany of layer 17 comes to, part 24. Conditions: none. -/
import Derived.Test.YthebfdakjfnpeaaGreatZdaw
section
set_option linter.unusedVariables false
set_option linter.unusedSimpArgs false
set_option maxRecDepth 100000
set_option maxHeartbeats 2000000
namespace Go.Ab
open Go.RowKit Go.Proofs
def z0v(l:List Cl)(fr:List Int)(most:Int)(out:List (List AV))(is:Bool)(looks:Int)(last cur:List Int):List AO :=
 [.box [.sl (Cl.css l)],.box [.sl (zaq fr)],.box [.int .i64 most],.box [.sl out],.box [.bool is],.box [.int .i64 looks],.box (zlm last),.box (zlm cur)]
abbrev encM(m:List Int):List AV:=[.agg (zlm m)]
structure RunSt where
 looks:Int
 last:List Int
 cur:List Int
structure RunEn where
 out:Option (List Int)
 looks:Int
 last:List Int
 cur:List Int
def z1g(n:Nat):List (Nat×AV):=[(3,.ptr n 0),(4,.ptr (n+1) 0),(5,.ptr (n+2) 0),(6,.ptr (n+3) 0),(7,.ptr (n+4) 0),(8,.ptr (n+5) 0),(9,.ptr (n+6) 0)]
def runJ(l:List Cl)(fr:List Int)(most:Int)(s:RunSt)(m:List Int):Option (RunSt ⊕ RunEn) :=
 if m.length=16/\s.last.length=16/\0<=s.looks/\s.looks<=1000000000000000/\l.length<=1000/\fr.length<=16 then
  if (m.any fun x=>decide (most<x))=true then some (.inr ⟨none,s.looks+l.length,s.last,s.cur⟩)
  else if m=s.last then some (.inr ⟨some (m.take fr.length),s.looks+l.length,s.last,s.cur⟩)
  else some (.inl ⟨s.looks+l.length,m,s.cur⟩)
 else none
def yfl(l:List Cl)(fr:List Int)(most:Int)(s:RunSt):List AO:=z0v l fr most [] false s.looks s.last s.cur
def z1f(l:List Cl)(fr:List Int)(most:Int)(e:RunEn):List AO:=z0v l fr most (z1r e.out) e.out.isSome e.looks e.last e.cur
theorem z4c(n:Nat)(l:List Cl)(fr:List Int)(most:Int)(out:Option (List Int))(is:Bool)(looks:Int)(last cur:List Int):∀o∈z0v l fr most (z1r out) is looks last cur,LtO n o:=by
 intro o ho;have hm:=lt_modL n out;simp[z0v]at ho;rcases ho with rfl|rfl|rfl|rfl|rfl|rfl|rfl|rfl
 ·intro a ha;simp at ha;subst ha;exact .sl (z0e n l)
 ·intro a ha;simp at ha;subst ha;exact .sl (zrp n fr)
 ·intro a ha;simp at ha;subst ha;exact .int _ _
 ·intro a ha;simp at ha;subst ha;exact .sl (of_eq_true hm)
 ·intro a ha;simp at ha;subst ha;exact .bool _
 ·intro a ha;simp at ha;subst ha;exact .int _ _
 ·exact z4w n last
 ·exact z4w n cur
theorem yeb(H:List AO)(id ver n:Nat)(l:List Int)(hl:l.length=16)(hn:n<=16)(hH:H[id]?=some (.lst ver 1 (zaq l))):F zau [.ov id ver 1 0 n] H=some (.ret (.sl (zaq (l.take n))),H):=by
 have he:zjw H (.ov id ver 1 0 n)=some (zaq (l.take n)):=by
  simp only[zjw,hH];rw[if_pos (by simp[zaq];omega)]
  simp[zaq,List.map_take]
 rw[zrv];unfold zv4;dsimp only;rw[he];dsimp only;rw[if_pos ⟨by omega,by omega,by rw[zpv];simp;omega,zy0 _,zrp _ _⟩]
theorem run_ys(H:List AO)(l:List Cl)(fr:List Int)(most:Int):Ys (.yd (H.length+8+1)) (H.length+8+2) encM (fun s=>H++(yfl l fr most s++[.dfr,.slp .ready 38 (z1g H.length) [16] zb2 zb1])) (fun e=>H++(z1f l fr most e++[.dfr,.slp (.done .ret) 38 (z1g H.length) [16] zb2 zb1])) (runJ l fr most):=by
 refine z30 H 8 encM (yfl l fr most) (z1f l fr most) (fun _=>.ret) (runJ l fr most) 38 (z1g H.length) [16] zb2 zb1 zu3 zu1 (fun _=>rfl) ?_ ?_ ?_ ?_
 ·rintro (p|e) <;> rfl
 ·rintro s (p|e) i o ho
  ·exact .inr (z4c _ l fr most none _ _ _ _ o (List.mem_of_getElem? ho))
  ·exact .inr (z4c _ l fr most e.out _ _ _ _ o (List.mem_of_getElem? ho))
 ·intro p hp;simp[z1g]at hp;rcases hp with rfl|rfl|rfl|rfl|rfl|rfl|rfl <;> exact .ptr (by omega)
 ·rintro ⟨looks,last,cur⟩ m X r hst
  unfold runJ at hst;dsimp only at hst
  split at hst
  ·rename_i hc
   obtain⟨hm,hl,h0,h1,hll,hf⟩:=hc;obtain⟨x,q,e⟩:∃x q,m=x::q:=by
    cases m with
    |nil=>simp at hm
    |cons x q=>exact⟨x,q,rfl⟩
   have hA:(H++(z0v l fr most [] false (looks+l.length) last cur++(.dfr :: .slp .busy 38 (z1g H.length) [16] zb2 zb1::X))).length=H.length+(X.length+10):=by simp[z0v]
   have hmax:=MaxV_ok (H++(z0v l fr most [] false (looks+l.length) last cur++(.dfr :: .slp .busy 38 (z1g H.length) [16] zb2 zb1::X))++[.lst 0 1 (zaq m)]) (H.length+(X.length+10)) 0 x q (by rw[<- e];exact hm) (by rw[<- hA,<- e,List.getElem?_append_right (Nat.le_refl _),Nat.sub_self];rfl)
   have hcl:=yeb (H++(z0v l fr most [] false (looks+l.length) last cur++(.dfr :: .slp .busy 38 (z1g H.length) [16] zb2 zb1::X))++[.lst 0 1 (zaq m)]) (H.length+(X.length+10)) 0 fr.length m hm hf (by rw[<- hA,List.getElem?_append_right (Nat.le_refl _),Nat.sub_self];rfl)
   simp only[z0v,z1g,List.append_assoc,List.cons_append,List.nil_append]at hmax hcl;have h01:¬ H.length=H.length+1:=by omega
   have h02:¬ H.length=H.length+2:=by omega
   have hwl:=zam (n:=looks+l.length) (by omega) (by omega)
   have hq:=z7e m last (by omega)
   have hov:(∃y∈m,most<y) ↔ most<zn8 q x:=by rw[zt7,e];simp
   have hrl:rd 16 true (zlm last)=some (.v (.agg (zlm last))):=zm8 (by rw[zhy];omega)
   have hol:over (zlm last) 0 (zlm m)=zlm m:=zrg _ _ (by rw[zhy,zhy];omega)
   have hz16:zum.length=16:=rfl;refine⟨[.lst 0 1 (zaq m)],?_⟩;simp only[↓reduceIte,go_sem,yfl,z0v,z1g,encM,hm,zyy,z01,hz16,hwl,hmax,hcl,zpv,zvl,hl,hq,hrl,hol,h01,h02];by_cases c1:(m.any fun x=>decide (most<x))=true
   ·have c1':most<zn8 q x:=hov.1 (by simpa using c1)
    rw[if_pos c1]at hst;cases hst;simp only[↓reduceIte,go_sem,c1',h01,h02,z4t,isL,z1f,z0v,z1g,z1r,Option.isSome]
   ·have c1':¬ most<zn8 q x:=fun k=>c1 (by simpa using hov.2 k)
    rw[if_neg c1]at hst;by_cases c2:m=last
    ·rw[if_pos c2]at hst
     cases hst;subst c2
     simp only[↓reduceIte,go_sem,c1',h01,h02,hf,hcl,zpv,z4t,isL,z1f,z0v,z1g,z1r,Option.isSome]
    ·rw[if_neg c2]at hst
     cases hst;simp only[↓reduceIte,go_sem,c1',c2,z4t,isL,yfl,z0v,z1g]
  ·cases hst
def z6j(H:List AO)(l:List Cl)(fr:List Int)(most:Int)(s:RunSt):List AO:=H++(yfl l fr most s++[.dfr,.slp .ready 38 (z1g H.length) [16] zb2 zb1])
def zyh(H:List AO)(l:List Cl)(fr:List Int)(most:Int)(e:RunEn):List AO:=H++(z1f l fr most e++[.dfr,.slp (.done .ret) 38 (z1g H.length) [16] zb2 zb1])
theorem run_fin(H:List AO)(l:List Cl)(fr:List Int)(most:Int)(s:RunSt)(e:RunEn):ze4 (z6j H l fr most s) (.ret (.tup [])) (zyh H l fr most e)=some (.ret (.tup []),zyh H l fr most e):=by
 have hlen:(z6j H l fr most s).length=H.length+10:=by simp[z6j,yfl,z0v]
 refine zpx (by simp[z6j,zyh,yfl,z1f,z0v]) (.tup (by simp)) fun id o ho=>?_
 by_cases h:id<H.length
 ·left
  unfold zyh at ho;unfold z6j;rw[List.getElem?_append_left h]at ho ⊢;exact ho
 ·right
  unfold zyh at ho;rw[List.getElem?_append_right (by omega)]at ho
  rw[hlen];rcases List.mem_append.1 (List.mem_of_getElem? ho) with hm|hm
  ·exact z4c _ l fr most e.out _ _ _ _ o hm
  ·simp at hm
   rcases hm with rfl|rfl
   ·trivial
   ·intro p hp
    simp[z1g]at hp;rcases hp with rfl|rfl|rfl|rfl|rfl|rfl|rfl <;> exact .ptr (by omega)
theorem z74(l:List Cl)(fr:List Int)(vars:Nat)(most:Int)(hl:∀c∈l,c.ok vars)(hb:l.length<=1000)(hv:vars<=16)(hv1:1<=vars)(hfr:fr.length=vars)(hm0:0<=most)(hm1:most<=1000000)(H:List AO)(s0:RunSt){m:List Int}{r:Option (List Int)}{n:Nat}(hr:RunS l most m r n):
  ∀(looks:Int),bdM vars most m->0<=looks->looks+n*l.length<=100000000000000 ->
  ∃e:RunEn,e.out=r/\e.looks=looks+n*l.length/\zb7 (z6j H l fr most s0) (z6j H l fr most ⟨looks,zgm m,zgm m⟩) (.yd (H.length+9)) (.ptr (H.length+7) 0) (.fp [.sl (Cl.css l)])=some (.ret (.tup []),zyh H l fr most e):=by
 have hy:=run_ys H l fr most;have step:∀(looks:Int) (m:List Int),bdM vars most m->0<=looks->looks<=100000000000000->∀q,runJ l fr most ⟨looks,zgm m,za1 l (zgm m)⟩ (za1 l (zgm m))=some q ->
   zb7 (z6j H l fr most s0) (z6j H l fr most ⟨looks,zgm m,zgm m⟩) (.yd (H.length+9)) (.ptr (H.length+7) 0) (.fp [.sl (Cl.css l)])=match q with
    |.inl s=>zb7 (z6j H l fr most s0) (z6j H l fr most s) (.yd (H.length+9)) (.ptr (H.length+7) 0) (.fp [.sl (Cl.css l)])
    |.inr e=>some (.ret (.tup []),zyh H l fr most e):=by
  intro looks m hbd h0 h1 q hq;have hp16:=zny m (by rw[hbd.1];exact hv)
  have hR:=fun H=>ygh l (fun c hc=>ok16 (hl c hc) hv) hb (zgm m) most (pad_bd hbd hv hm0) hm0 (by omega) H
  have hlr:(za1 l (zgm m)).length=16:=by rw[zmv];exact hp16
  have hc:=hy.call ⟨looks,zgm m,za1 l (zgm m)⟩ (za1 l (zgm m)) [] q hq;have hrd:rd 16 true (zlm (zgm m))=some (.v (.agg (zlm (zgm m)))):=zm8 (by rw[zhy];omega)
  have hrd2:rd 16 true (zlm (za1 l (zgm m)))=some (.v (.agg (zlm (za1 l (zgm m))))):=zm8 (by rw[zhy];omega)
  have hov:over (zlm (zgm m)) 0 (zlm (za1 l (zgm m)))=zlm (za1 l (zgm m)):=zrg _ _ (by rw[zhy,zhy];omega)
  simp only[yfl,z0v,encM,List.append_nil,List.append_assoc,List.cons_append,List.nil_append,Nat.add_assoc,Nat.reduceAdd]at hc;rw[zb7,zab]
  conv=>lhs;arg 4;rw[z6j,yfl,z0v]
  simp only[↓reduceIte,go_sem,hR,hrd,hrd2,hov,hc,hp16,hlr]
  cases q with
  |inl s=>rfl
  |inr e=>exact run_fin H l fr most s0 e
 have any_iff:∀m:List Int,m.length<=16->(((zgm m).any fun x=>decide (most<x))=true ↔ ∃x∈m,most<x):=by
  intro m hm;obtain⟨x,q,e⟩:∃x q,zgm m=x::q:=by
   cases h:zgm m with
   |nil=>have:=zny m hm;rw[h]at this;simp at this
   |cons x q=>exact⟨x,q,rfl⟩
  rw[<- pad_max e most hm0,zt7,e];simp
 have jeq:∀(looks:Int) (m:List Int),bdM vars most m->0<=looks->looks<=100000000000000->∀c,runJ l fr most ⟨looks,zgm m,c⟩ (zgm (za1 l m)) =
   if (∃x∈za1 l m,most<x) then some (.inr ⟨none,looks+l.length,zgm m,c⟩)
   else if za1 l m=m then some (.inr ⟨some m,looks+l.length,zgm m,c⟩)
   else some (.inl ⟨looks+l.length,zgm (za1 l m),c⟩):=by
  intro looks m hbd h0 h1 c;have hlr:(za1 l m).length=m.length:=zmv l m;have hml:=hbd.1;unfold runJ;dsimp only;rw[if_pos ⟨zny _ (by omega),zny _ (by omega),h0,by omega,hb,by omega⟩]
  by_cases c1:∃x∈za1 l m,most<x
  ·rw[if_pos c1,if_pos ((any_iff _ (by omega)).2 c1)]
  ·rw[if_neg c1,if_neg (fun k=>c1 ((any_iff _ (by omega)).1 k))]
   by_cases c2:za1 l m=m
   ·rw[if_pos c2,if_pos ((ybb hlr).2 c2),c2]
    have:(zgm m).take fr.length=m:=by unfold zgm;rw[hfr,<- hml];simp
    rw[this]
   ·rw[if_neg c2,if_neg (fun k=>c2 ((ybb hlr).1 k))]
 induction hr with
 |over h=>
  intro looks hbd h0 h1;rename_i m;have hj:=jeq looks m hbd h0 (by omega) (za1 l (zgm m))
  rw[if_pos h]at hj;have hs:=step looks m hbd h0 (by omega) _ (by rw[zrf vars l m hl hbd.1]at hj ⊢;exact hj)
  exact⟨_,rfl,by simp,hs⟩
 |fix h hb2=>
  intro looks hbd h0 h1;rename_i m;have hj:=jeq looks m hbd h0 (by omega) (za1 l (zgm m))
  rw[if_neg (by rw[h];rintro ⟨x,hx,hlt⟩;have:=hb2 x hx;omega),if_pos h]at hj
  have hs:=step looks m hbd h0 (by omega) _ (by rw[zrf vars l m hl hbd.1]at hj ⊢;exact hj)
  exact⟨_,rfl,by simp,hs⟩
 |more h hb2 hr ih=>
  intro looks hbd h0 h1;rename_i m r n;have e:looks+l.length+n*(l.length:Int)=looks+((n+1:Nat):Int)*l.length:=by
   rw[Int.natCast_add,Int.add_mul];simp;omega
  have hn0:0<=n*(l.length:Int):=Int.mul_nonneg (by omega) (by omega)
  have hj:=jeq looks m hbd h0 (by omega) (za1 l (zgm m))
  rw[if_neg (by rintro ⟨x,hx,hlt⟩;have:=hb2 x hx;omega),if_neg h]at hj
  have hs:=step looks m hbd h0 (by omega) _ (by rw[zrf vars l m hl hbd.1]at hj ⊢;exact hj)
  have hrb:=hbd.round l hl hm0;obtain⟨en,h2,h3,h4⟩:=ih (looks+l.length) ⟨hrb.1,fun x hx=>⟨(hrb.2 x hx).1,hb2 x hx⟩⟩ (by omega) (by omega)
  refine⟨en,h2,by rw[h3,e],?_⟩
  rw[hs];exact h4
theorem z73(m:List Int)(hm:m.length=16)(l:List Cl)(H:List AO):FK zcf [.agg (zlm m),.sl (Cl.css l)] H=some (.ret (.fn (.func zbu) [] [.ptr H.length 0,.fp [.sl (Cl.css l)]]),H++[.box (zlm m)]):=by
 rw[zo7];simp only[↓reduceIte,go_sem,hm]
theorem runP_ok(l:List Cl)(fr:List Int)(vars:Nat)(most:Int)(hl:∀c∈l,c.ok vars)(hb:l.length<=1000)(hv:vars<=16)(hv1:1<=vars)(hm0:0<=most)(hm1:most<=1000000)(H:List AO){r:Option (List Int)}{n:Nat}(hr:RunS l most fr r n)(hbd:bdM vars most fr)(hn:(n:Int)*l.length<=100000000000000):
  F zom [.sl (Cl.css l),.sl (zaq fr),.int .i64 most] H=some (.ret (.tup [.sl (z1r r),.bool r.isSome,.int .i64 (n*l.length)]),H):=by
 have hof:=fun H=>of_ok fr (by rw[hbd.1];exact hv) H
 have hp16:=zny fr (by rw[hbd.1];exact hv)
 obtain⟨e,h1,h2,h3⟩:=z74 l fr vars most hl hb hv hv1 hbd.1 hm0 hm1 H ⟨0,zgm fr,zgm fr⟩ hr 0 hbd (by omega) (by omega)
 rw[Int.zero_add]at h2;have hov:∀z,z.length=16->over z 0 (zlm (zgm fr))=zlm (zgm fr):=fun z hz=>zrg _ _ (by rw[zhy];omega)
 have hrd:rd 16 true (zlm (zgm fr))=some (.v (.agg (zlm (zgm fr)))):=zm8 (by rw[zhy];omega)
 have hK:=fun H=>z73 (zgm fr) hp16 l H
 have he:=zs9 (H:=H) (DR:=z1f l fr most e) (k:=8) rfl (st:=.done .ret) (nn:=38) (t:=z1g H.length) (ps:=[16]) (asg:=zb2) (body:=zb1);have h4:F zbu [.yd (H.length+9),.ptr (H.length+7) 0,.fp [.sl (Cl.css l)]] (z6j H l fr most ⟨0,zgm fr,zgm fr⟩)=some (.ret (.tup []),zyh H l fr most e):=by
  rw[zoc];simp only[↓reduceIte,go_sem];exact h3
 simp only[z6j,zyh,yfl,z1f,z0v,z1g,List.append_nil,List.append_assoc,List.cons_append,List.nil_append,Nat.add_assoc,Nat.reduceAdd]at h4 he;rw[z5d];simp only[↓reduceIte,go_sem,hof,hp16,hov,hrd,hK,h4,he,h1,h2,List.nodup_cons,List.nodup_nil,List.not_mem_nil,not_false_eq_true,and_self]
theorem z3r(vars:Nat)(l:List Cl)(h:zh0 vars l=true){r:Option (List Int)}{k:Nat}(hr:RunS l (zhf vars l) (List.replicate vars 0) r k)(H:List AO):F zk7 [.int .i64 vars,.sl (Cl.css l)] H=some (.ret (.tup [.sl (z1r r),.bool r.isSome,.int .i64 (k*l.length),.int .i64 0]),H):=by
 have hR:=zgc.1 h;have hb:=zro vars l h;obtain⟨r',k',h1,h2⟩:=run0 vars l h;obtain⟨_,e⟩:=hr.det h1;have hk:(k:Int)*l.length<=300001*60:=Int.mul_le_mul (by omega) (by omega) (by omega) (by omega)
 have hro:=fun H=>runP_ok l (List.replicate vars 0) vars (zhf vars l) hR.2.2.2 (by omega) (by omega) hR.1 hb.1 (by omega) H hr ⟨by simp,fun x hx=>by simp at hx;omega⟩ (by omega)
 have hri:=fun H=>zwb vars l (by omega) (fun c hc=>by have:=(hR.2.2.2 c hc).len;omega) H
 have hrep:List.replicate vars [AV.int .i64 0]=zaq (List.replicate vars 0):=by simp[zaq]
 rw[zzf];simp only[↓reduceIte,go_sem,hri,h,ybs vars l h,show (vars:Int)<=1073741824 by omega,hro,hrep]
end Go.Ab
end
section
set_option linter.unusedVariables false
set_option linter.unusedSimpArgs false
set_option maxRecDepth 100000
set_option maxHeartbeats 2000000
namespace Go.Ab
open Go.RowKit Go.Proofs
@[go_sem] theorem cocs_over(a b c d e f:AV)(x:Co):over [a,b,c,d,e,f] 0 x.cs=x.cs:=by rcases x with⟨⟨k,n,ks⟩,⟨k2,n2,ks2⟩⟩;rfl
theorem zr1(n:Nat)(l:List Co):∀a∈(Co.css l).flatten,Lt n a:=by
 intro a ha;obtain⟨e,he,h2⟩:=List.mem_flatten.1 ha;obtain⟨x,_,rfl⟩:=List.mem_map.1 he;rcases List.mem_append.1 h2 with h|h
 ·exact z82 n x.a a h
 ·exact z82 n x.b a h
def zp4(cons:List Co)(z:List Bool):List AV:=[.sl (Co.css cons),.sl (bls z)]
theorem zr6(cons:List Co)(z:List Bool)(l:Lv)(hl:l.ok)(H:List AO):F za9 [.agg (zp4 cons z),.agg l.cs] H=some (.ret (.sl (At.css (zap (za3 l z)))),H):=by
 have hF:=fun H=>z54 l hl z H
 have hg:=zi3 l z;have loop:∀(so po:List Int) (ver:Nat),(za3 l z).o=po++so->zcz H (H++[.lst 0 2 [],.lst ver 2 (At.css (⟨0,(za3 l z).c⟩::ze5 po 1))]) (.ol (H.length+1) ver) (.sl (zaq (za3 l z).o)) (.int .i64 (za3 l z).o.length) (.int .i64 po.length)=some (.ret (.sl (At.css (zap (za3 l z)))),H):=by
  generalize za3 l z=f at hg ⊢;intro so
  induction so with
  |nil=>
   intro po ver h;rw[List.append_nil]at h;subst h;rw[zcz,zab];simp only[↓reduceIte,go_sem,Fl.cs,zap]
  |cons x so ih=>
   intro po ver h;have hga:f.o[po.length]?=some x:=by rw[h];simp
   have hp:po.length<f.o.length:=by rw[h];simp
   have hlen:=zs4 po 1;rw[zcz,zab];by_cases hx:0<=x
   ·have h1:=ih (po++[x]) (ver+1) (by rw[h];simp)
    rw[zn5,if_pos hx]at h1;have hs:At.css ({ v:=0,o:=f.c } :: ze5 po 1)++[[.int .i64 ((po.length:Int)+1),.int .i64 x]]=At.css ({ v:=0,o:=f.c } :: (ze5 po 1++[⟨1+po.length,x⟩])):=by
     rw[<- List.cons_append,<- zxz,Int.add_comm];rfl
    simp only[zaf,Fl.cs]at h1;simp only[↓reduceIte,go_sem,Fl.cs,show (po.length:Int)<(f.o.length:Int) by omega,hga,hx,zac (n:=po.length) (by omega),hs,List.length_cons,show (ze5 po 1).length<=1073741822 by omega,h1]
   ·have h1:=ih (po++[x]) ver (by rw[h];simp)
    rw[zn5,if_neg hx,List.append_nil]at h1;simp only[zaf,Fl.cs]at h1;simp only[↓reduceIte,go_sem,Fl.cs,show (po.length:Int)<(f.o.length:Int) by omega,hga,hx,zac (n:=po.length) (by omega),h1]
 have h1:=loop (za3 l z).o [] 0 rfl;have e:At.css [⟨0,(za3 l z).c⟩]=[[.int .i64 0,.int .i64 (za3 l z).c]]:=rfl;simp only[List.length_nil,Int.natCast_zero,ze5,e]at h1;rw[zn2];simp only[↓reduceIte,go_sem,zp4,hF];exact h1
abbrev encC(c:Cl):List AV:=[.agg c.cs]
def clV(cons:List Co)(z:List Bool):AV:=.fn (.func zat) [] [.fp (zp4 cons z)]
theorem zv5(cons:List Co)(z:List Bool)(H:List AO):F zce [.agg (zp4 cons z)] H=some (.ret (clV cons z),H):=by
 have hcs:∀n,∀a∈(Co.css cons).flatten,Lt n a:=fun n=>zr1 n cons
 rw[zmj];simp only[↓reduceIte,go_sem,clV,zp4];exact if_pos (.fn (by simp) (by intro x hx;simp at hx;subst hx;exact .fp (by intro a ha;simp at ha;rcases ha with rfl|rfl;exact .sl (hcs _);exact .sl (ykj _ z))))
theorem ykg(cons:List Co)(hcons:∀c∈cons,c.ok)(hcl:cons.length<=60)(z:List Bool)(hz:z.length<=5):yfd (clV cons z) encC (zca cons z):=by
 intro S E y m W WE stp hy s X r hr;have hone:=hy.one;have hcell:y.cells=[y]:=by cases y <;> first|rfl|(simp[AV.one]at hone)
 unfold AV.cells at hcell;unfold AV.one at hone;have fin:=fun r=>zye hy s r X []
 simp only[List.append_nil]at fin;have loop1:∀(i:Nat) (fb:Fl) (L:List At) (rest:List Cl),i<1000->L.length<=1000 ->
   (∀a:S,zl0 stp rest a=some r->zbc (W s++X) (W a++X) y (.fp (zp4 cons z)) (.sl (Co.css cons)) (.int .i64 cons.length) (.int .i64 (i+1))=some (.ret (.tup []),hp W WE r++X)) ->
   ∀(t p:List At),L=p++t->∀(a:S),zl0 stp (t.map (fun a=>(⟨zap fb,a⟩:Cl))++rest) a=some r->zb3 (W s++X) (W a++X) y (.fp (zp4 cons z)) (.sl (At.css (zap fb))) (.sl (Co.css cons)) (.int .i64 cons.length) (.int .i64 i) (.sl (At.css L)) (.int .i64 L.length) (.int .i64 p.length)=some (.ret (.tup []),hp W WE r++X):=by
  intro i fb L rest hi hL hrest t
  induction t with
  |nil=>
   intro p h a hq;rw[List.append_nil]at h;subst h;have h1:=hrest a (by simpa using hq)
   rw[zb3,zab];simp only[↓reduceIte,go_sem,zac (n:=i) (by omega),h1]
  |cons x t ih=>
   intro p h a hq;have hga:L[p.length]?=some x:=by rw[h];simp
   have hpl:p.length<L.length:=by rw[h];simp
   rw[List.map_cons,List.cons_append,zl0]at hq
   cases hst:stp a ⟨zap fb,x⟩ with
   |none=>rw[hst]at hq;cases hq
   |some q=>
   rw[hst]at hq;have hc:=hy.call a ⟨zap fb,x⟩ X q hst;simp only[encC,Cl.cs]at hc;rw[zb3,zab]
   cases q with
   |inl b=>
    have ih:=ih (p++[x]) (by rw[h];simp) b hq
    simp only[ze3,zaf]at hc ih;simp only[↓reduceIte,go_sem,At.cs,show (p.length:Int)<(L.length:Int) by omega,hga,hc,isL,zac (n:=p.length) (by omega),ih]
   |inr e=>
    cases hq;simp only[zqf]at hc
    simp only[↓reduceIte,go_sem,At.cs,show (p.length:Int)<(L.length:Int) by omega,hga,hc,isL]
    exact fin (.inr e)
 have loop2:∀(t p:List Co),cons=p++t->∀(a:S),zl0 stp (t.flatMap (z93 z)) a=some r->zbc (W s++X) (W a++X) y (.fp (zp4 cons z)) (.sl (Co.css cons)) (.int .i64 cons.length) (.int .i64 p.length)=some (.ret (.tup []),hp W WE r++X):=by
  intro t
  induction t with
  |nil=>
   intro p h a hq;rw[List.append_nil]at h;subst h;rw[List.flatMap_nil,zl0]at hq;cases hq;rw[zbc,zab];simp only[↓reduceIte,go_sem];exact fin (.inl a)
  |cons c t ih=>
   intro p h a hq;have hga:cons[p.length]?=some c:=by rw[h];simp
   have hpl:p.length<cons.length:=by rw[h];simp
   have hx:=hcons c (by rw[h];simp)
   have hA:=fun H=>zr6 cons z c.a hx.1 H
   have hB:=fun H=>zr6 cons z c.b hx.2 H
   have h0:=loop1 p.length (za3 c.b z) (zap (za3 c.a z)) (t.flatMap (z93 z)) (by omega) (by have:=zgb c.a z;omega) (fun b hb=>by
    have:=ih (p++[c]) (by rw[h];simp) b hb
    simpa only[zaf] using this) (zap (za3 c.a z)) [] rfl a (by rw[List.flatMap_cons,z93]at hq;exact hq)
   simp only[List.length_nil,Int.natCast_zero]at h0;unfold zp4 at hA hB h0 ⊢;rw[zbc,zab];simp only[↓reduceIte,go_sem,show (p.length:Int)<(cons.length:Int) by omega,hga,hA,hB,h0]
 have loop0:∀(t p:List Bool),z=p++t->∀(a:S),zl0 stp (zta t ((p.length:Int)+1)++cons.flatMap (z93 z)) a=some r->zbd (W s++X) (W a++X) y (.fp (zp4 cons z)) (.sl (bls z)) (.int .i64 z.length) (.int .i64 p.length)=some (.ret (.tup []),hp W WE r++X):=by
  intro t
  induction t with
  |nil=>
   intro p h a hq;rw[List.append_nil]at h;have h2:=loop2 cons [] rfl a (by simpa [zta] using hq)
   simp only[List.length_nil,Int.natCast_zero]at h2;unfold zp4 at h2 ⊢;rw[zbd,zab,h];rw[h]at h2;simp only[↓reduceIte,go_sem,h2]
  |cons b t ih=>
   intro p h a hq;have hga:z[p.length]?=some b:=by rw[h];simp
   have hpl:p.length<z.length:=by rw[h];simp
   have e1:(((p++[b]).length:Int)+1)=(p.length:Int)+1+1:=by simp
   rw[zta]at hq;cases b
   ·rw[if_neg (by simp),List.cons_append,zl0]at hq
    cases hst:stp a ⟨[⟨(p.length:Int)+1,0⟩],⟨0,1⟩⟩ with
    |none=>rw[hst]at hq;cases hq
    |some q=>
    rw[hst]at hq;have hc:=hy.call a ⟨[⟨(p.length:Int)+1,0⟩],⟨0,1⟩⟩ X q hst;simp only[encC,Cl.cs,At.css,List.map_cons,List.map_nil,At.cs]at hc;unfold zp4 at ih ⊢;rw[zbd,zab]
    cases q with
    |inl c=>
     have ih:=ih (p++[false]) (by rw[h];simp) c (by rw[e1];exact hq)
     simp only[ze3,zaf]at hc ih;simp only[↓reduceIte,go_sem,show (p.length:Int)<(z.length:Int) by omega,hga,hc,isL,zac (n:=p.length) (by omega),ih]
    |inr e=>
     cases hq;simp only[zqf]at hc
     simp only[↓reduceIte,go_sem,show (p.length:Int)<(z.length:Int) by omega,hga,hc,isL,zac (n:=p.length) (by omega)]
     exact fin (.inr e)
   ·rw[if_pos rfl]at hq
    have ih:=ih (p++[true]) (by rw[h];simp) a (by rw[e1];exact hq)
    unfold zp4 at ih ⊢;simp only[zaf]at ih;rw[zbd,zab];simp only[↓reduceIte,go_sem,show (p.length:Int)<(z.length:Int) by omega,hga,zac (n:=p.length) (by omega),ih]
 simp only[clV,zgr,List.cons_append,List.nil_append];show F zat _ _=_;rw[zlp];have:=loop0 z [] rfl s hr;unfold zp4 at this ⊢;simp only[↓reduceIte,go_sem];exact this
end Go.Ab
end
section
set_option linter.unusedVariables false
set_option linter.unusedSimpArgs false
set_option maxRecDepth 100000
set_option maxHeartbeats 2000000
namespace Go.Ab
open Go.RowKit Go.Proofs
def yko(n:Nat)(p:Nat×List Cl):List AO:=[.lst p.1 3 (Cl.css p.2),.box [.ol n p.1]]
def appJ(p:Nat×List Cl)(x:Cl):Option ((Nat×List Cl) ⊕ Empty):=if p.2.length<1073741823 then some (.inl (p.1+1,p.2++[x])) else none
theorem app_ys(H:List AO):Ys (.yd (H.length+2+1)) (H.length+2+2) encC (fun p=>H++(yko H.length p++[.dfr,.slp .ready 13 [(2,.ptr (H.length+1) 0)] [7] zas zar])) (fun e:Empty=>H++(noE e++[.dfr,.slp (.done (noE e)) 13 [(2,.ptr (H.length+1) 0)] [7] zas zar])) appJ:=by
 refine z30 H 2 encC (yko H.length) noE noE appJ 13 [(2,.ptr (H.length+1) 0)] [7] zas zar zjs zjr (fun _=>rfl) ?_ ?_ ?_ ?_
 ·rintro (p|e)
  ·rfl
  ·exact e.elim
 ·rintro s (p|e) i o ho
  ·match i,ho with
   |0,ho=>simp[ze3,yko]at ho;subst ho;exact .inr fun a ha=>z0e _ _ a ha
   |1,ho=>simp[ze3,yko]at ho;subst ho;exact .inr fun a ha=>by simp at ha;subst ha;exact .ol (by omega)
   |j+2,ho=>simp[ze3,yko]at ho
  ·exact e.elim
 ·intro p hp;simp at hp;subst hp;exact .ptr (by omega)
 ·rintro ⟨ver,es⟩ x X r hst
  refine⟨[],?_⟩;unfold appJ at hst;dsimp only at hst
  split at hst
  ·rename_i h2
   cases hst;simp only[↓reduceIte,go_sem,yko,encC,z4t,isL,show es.length<=1073741823 by omega,znm]
  ·cases hst
theorem z7q:∀(xs:List Cl) (ver:Nat) (es:List Cl),es.length+xs.length<=1073741823->∃v,zl0 appJ xs (ver,es)=some (.inl (v,es++xs))
 |[],ver,es,_=>⟨ver,by simp[zl0]⟩
 |x::r,ver,es,h=>by
  simp at h;obtain⟨v,hv⟩:=z7q r (ver+1) (es++[x]) (by simp;omega)
  refine⟨v,?_⟩;rw[zl0];unfold appJ;dsimp only;rw[if_pos (by omega)]
  rw[List.append_assoc]at hv;exact hv
theorem zv3(k:FuncId)(c:AV)(cap:List AV)(xs:List Cl)(hs:yfd (.fn (.func k) [] (c::cap)) encC xs)(hx:xs.length<=1073741823)(H:List AO):
  ∃v J,FK zbi [.fn (.func k) [] (c::cap)] H=some (.ret (.ol H.length v),H++(.lst v 3 (Cl.css xs)::J)):=by
 obtain⟨v,hv⟩:=z7q xs 0 [] (by simpa using hx)
 have hr:=hs _ _ _ _ _ _ _ (app_ys H) (0,[]) [] _ hv;have he:=zs9 (H:=H) (DR:=yko H.length (v,xs)) (k:=2) rfl (st:=.ready) (nn:=13) (t:=[(2,.ptr (H.length+1) 0)]) (ps:=[7]) (asg:=zas) (body:=zar);have e0:Cl.css []=[]:=rfl;simp only[ze3,yko,zgr,List.cons_append,List.nil_append,List.append_nil,Nat.add_assoc,Nat.reduceAdd,e0]at hr he;have hA:∃J,FK zaz [.nils 3,.fn (.func k) [] (c::cap)] H=some (.ret (.ol H.length v),H++(.lst v 3 (Cl.css xs)::J)):=by
  rw[zl1];simp only[↓reduceIte,go_sem,hr,he,List.mem_cons,List.not_mem_nil,or_false,forall_eq,List.nodup_cons,List.nodup_nil,not_false_eq_true,and_self];exact⟨_,rfl⟩
 obtain⟨J,hA⟩:=hA;refine⟨v,J,?_⟩;rw[znf];simp only[↓reduceIte,go_sem,hA]
theorem z06(z:List Bool)(hz:z.length<=5)(m:List Int)(hm:m.length=z.length+1)(hb:okM (z.length+1) m):∀(s p:List Bool),z=p++s->∀(o:List Int),o.length=z.length->∃vs,∀(H K:List AO),
  zbs H (H++(K++[.lst 0 1 (zaq o)])) (.sl (zaq m)) (.ol (H.length+K.length) 0) (.sl (bls z)) (.int .i64 z.length) (.int .i64 p.length)=some (.ret (.tup [.sl (zaq vs),.bool true]),H):=by
 have g0:=hb.get (v:=0) (by omega) (by omega)
 have e0:m[0]?=some (gI m 0):=g0.1;have lX:∀(H K:List AO) o,(H++(K++[o]))[H.length+K.length]?=some o:=fun H K o=>by
  rw[List.getElem?_append_right (by omega),List.getElem?_append_right (by omega)];simp
 have lS:∀(H K:List AO) o o',(H++(K++[o])).set (H.length+K.length) o' = H++(K++[o']):=fun H K o o'=>by
  rw[List.set_append_right _ _ (by omega),List.set_append_right _ _ (by omega)];simp
 intro s
 induction s with
 |nil=>
  intro p h o ho;rw[List.append_nil]at h;subst h;refine⟨o,fun H K=>?_⟩
  rw[zbs,zab];simp only[↓reduceIte,go_sem,lX,lS]
 |cons x s ih=>
  intro p h o ho;have hga:z[p.length]?=some x:=by rw[h];simp
  have hp:p.length<z.length:=by rw[h];simp
  have g1:=hb.get (v:=(p.length:Int)+1) (by omega) (by omega)
  have hnn:(0:Int)<=(p.length:Int)+1:=by omega
  have hpo:p.length<o.length:=by omega
  cases x
  ·obtain⟨vs,h1⟩:=ih (p++[false]) (by rw[h];simp) (o.set p.length (gI m 0 - gI m ((p.length:Int)+1))) (by simpa using ho)
   refine⟨vs,fun H K=>?_⟩
   have h1:=h1 H K;have hset:(zaq o).set p.length [.int .i64 (gI m 0 - gI m ((p.length:Int)+1))]=zaq (o.set p.length (gI m 0 - gI m ((p.length:Int)+1))):=by simp[zaq,List.map_set]
   obtain⟨w,hw⟩:∃w,o[p.length]?=some w:=⟨o[p.length],by simp[hpo]⟩
   simp only[zaf]at h1;rw[zbs,zab];simp only[↓reduceIte,go_sem,lX,lS,show (p.length:Int)<(z.length:Int) by omega,hga,e0,hnn,g1.1,hpo,hw,zac (n:=p.length) (by omega),zam (n:=gI m 0 - gI m ((p.length:Int)+1)) (by omega) (by omega),hset,h1]
  ·obtain⟨vs,h1⟩:=ih (p++[true]) (by rw[h];simp) o ho
   refine⟨vs,fun H K=>?_⟩
   have h1:=h1 H K;simp only[zaf]at h1;rw[zbs,zab];simp only[↓reduceIte,go_sem,show (p.length:Int)<(z.length:Int) by omega,hga,zac (n:=p.length) (by omega),h1]
theorem z7w(cons:List Co)(hcons:∀c∈cons,c.ok)(hcl:cons.length<=8)(z:List Bool)(hz:z.length<=5)(more:List Cl)(hm:more.length<=1000)(hR:zh0 ((z.length+1:Nat):Int) (zca cons z++more)=true){r:Option (List Int)}{k:Nat}(hr:RunS (zca cons z++more) (zhf ((z.length+1:Nat):Int) (zca cons z++more)) (List.replicate (z.length+1) 0) r k):
  ∃vs,∀(H:List AO),F zcq [.agg (zp4 cons z),.sl (Cl.css more)] H=some (.ret (.tup [.sl (zaq vs),.bool r.isSome]),H):=by
 have hlen:=zph cons z
 cases r with
 |none=>
  refine⟨[],fun H=>?_⟩
  obtain⟨v,J,hC⟩:=zv3 zat (.fp (zp4 cons z)) [] (zca cons z) (ykg cons hcons (by omega) z hz) (by omega) (H++[.lst 0 1 []])
  simp only[List.append_assoc,List.cons_append,List.nil_append,List.length_append,List.length_cons,List.length_nil,Nat.zero_add]at hC;have hcl:=fun H=>zv5 cons z H
  have hS:=fun H=>z3r (z.length+1) (zca cons z++more) hR hr H
  simp only[Int.natCast_add,Int.natCast_one]at hS;rw[zhl];unfold clV at hcl;unfold zp4 at hC hcl ⊢;have hap:Cl.css (zca cons z)++Cl.css more=Cl.css (zca cons z++more):=by simp[Cl.css]
  have h3:(∀x:List AV,x∈Cl.css more->x.length=3)=True:=eq_true (by intro x hx;obtain⟨z,_,rfl⟩:=List.mem_map.1 hx;rfl)
  simp only[↓reduceIte,go_sem,hcl,hC,hap,h3,show (zca cons z).length+more.length<=1073741824 by omega,zac (n:=z.length) (by omega),hS,Option.isSome,z1r,zfi]
 |some m=>
  have hmo:=yay hR hr;obtain⟨vs,hL⟩:=z06 z hz m hmo.1 hmo z [] rfl (List.replicate z.length 0) (by simp)
  have hrep:List.replicate z.length [AV.int .i64 0]=zaq (List.replicate z.length 0):=by simp[zaq]
  refine⟨vs,fun H=>?_⟩
  obtain⟨v,J,hC⟩:=zv3 zat (.fp (zp4 cons z)) [] (zca cons z) (ykg cons hcons (by omega) z hz) (by omega) (H++[.lst 0 1 []])
  simp only[List.append_assoc,List.cons_append,List.nil_append,List.length_append,List.length_cons,List.length_nil,Nat.zero_add]at hC;have hcl:=fun H=>zv5 cons z H
  have hS:=fun H=>z3r (z.length+1) (zca cons z++more) hR hr H
  simp only[Int.natCast_add,Int.natCast_one]at hS;rw[zhl];unfold clV at hcl;unfold zp4 at hC hcl ⊢;have hap:Cl.css (zca cons z)++Cl.css more=Cl.css (zca cons z++more):=by simp[Cl.css]
  have h3:(∀x:List AV,x∈Cl.css more->x.length=3)=True:=eq_true (by intro x hx;obtain⟨z,_,rfl⟩:=List.mem_map.1 hx;rfl)
  have hL:=hL H (AO.lst 0 1 [] :: .dead::J);simp only[List.append_assoc,List.cons_append,List.nil_append,List.length_append,List.length_cons,List.length_nil,Nat.zero_add,Nat.add_assoc,Nat.reduceAdd,Int.natCast_zero]at hL;simp only[↓reduceIte,go_sem,hcl,hC,hap,h3,show (zca cons z).length+more.length<=1073741824 by omega,zac (n:=z.length) (by omega),hS,Option.isSome,z1r,show (z.length:Int)<=1073741824 by omega,hrep]
  exact hL
theorem leq1_in(cons:List Co)(hcons:∀c∈cons,c.ok)(hcl:cons.length<=8)(z:List Bool)(hz:z.length<=5)(a b:Lv)(x:At)(hx:x∈zap (za3 a z)):
  ∃vs is,(is=true ↔ zkc (z.length+1) (zsn cons z b x))/\∀(G:List AO) (B:AV) (q:Nat) (hq:q<1000) (J:List AO) (t p:List At),zap (za3 b z)=p++t->∀ver,
   zh2 G (G++(J++[.lst ver 3 (Cl.css (zke x p))])) B (.ol (G.length+J.length) ver) (.sl (At.css (zap (za3 a z)))) (.int .i64 (zap (za3 a z)).length) (.int .i64 q) (.sl (At.css (zap (za3 b z)))) (.int .i64 (zap (za3 b z)).length) (.int .i64 p.length) (zp4 cons z) x.cs =
   if is=true then some (.ret (.tup [.sl (zaq vs),.bool true]),G) else zdu G (G++(J++[.dead])) B (.sl (At.css (zap (za3 a z)))) (.int .i64 (zap (za3 a z)).length) (.int .i64 (q+1)) (zp4 cons z):=by
 have hright:=zu7 cons hcl z hz a b x hx;obtain⟨r,k,hr,_⟩:=run0 (z.length+1) _ hright;have hbl:=zgb b z;obtain⟨vs,hV⟩:=z7w cons hcons hcl z hz (zke x (zap (za3 b z))) (by simp only[zke,List.length_map];omega) hright hr
 refine⟨vs,r.isSome,?_,?_⟩
 ·constructor
  ·intro h
   cases r with
   |none=>cases h
   |some m=>exact⟨m,k,hr⟩
  ·rintro ⟨m,k',h2⟩
   rw[(hr.det h2).1];rfl
 intro G B q hq J t;have hV:=hV (G++(J++[.dead]))
 induction t with
 |nil=>
  intro p h ver;rw[List.append_nil]at h;rw[h]at hV ⊢;have lX:∀o,(G++(J++[o]))[G.length+J.length]?=some o:=fun o=>by
   rw[List.getElem?_append_right (by omega),List.getElem?_append_right (by omega)];simp
  have lS:∀o o',(G++(J++[o])).set (G.length+J.length) o' = G++(J++[o']):=fun o o'=>by
   rw[List.set_append_right _ _ (by omega),List.set_append_right _ _ (by omega)];simp
  unfold zp4 at hV ⊢;rw[zh2,zab];simp only[↓reduceIte,go_sem,lX,lS,hV,zac (n:=q) (by omega)]
 |cons y t ih=>
  intro p h ver;have hga:(zap (za3 b z))[p.length]?=some y:=by rw[h];simp
  have hpl:p.length<(zap (za3 b z)).length:=by rw[h];simp
  have hy:=znp b z y (by rw[h];simp)
  have ih:=ih (p++[y]) (by rw[h];simp) (ver+1)
  have lX:∀o,(G++(J++[o]))[G.length+J.length]?=some o:=fun o=>by
   rw[List.getElem?_append_right (by omega),List.getElem?_append_right (by omega)];simp
  have lS:∀o o',(G++(J++[o])).set (G.length+J.length) o' = G++(J++[o']):=fun o o'=>by
   rw[List.set_append_right _ _ (by omega),List.set_append_right _ _ (by omega)];simp
  have hml:(zke x p).length<=1073741823:=by simp only[zke,List.length_map];omega
  rw[zxf,<- znm]at ih;simp only[zaf]at ih;rw[zh2,zab];simp only[↓reduceIte,go_sem,At.cs,lX,lS,show (p.length:Int)<((zap (za3 b z)).length:Int) by omega,hga,zac (n:=p.length) (by omega),hml,zam (n:=y.o+1) (by omega) (by omega)]
  exact ih
theorem leq1_ok(cons:List Co)(hcons:∀c∈cons,c.ok)(hcl:cons.length<=8)(z:List Bool)(hz:z.length<=5)(a b:Lv)(ha:a.ok)(hb:b.ok):
  ∃vs is,(is=true ↔ zmb cons a b z)/\∀(G:List AO) (A B:Nat) (hA:G[A]?=some (.box a.cs)) (hB:G[B]?=some (.box b.cs)),F zg4 [.agg (zp4 cons z),.ptr A 0,.ptr B 0] G=some (.ret (.tup [.sl (zaq vs),.bool is]),G):=by
 have hat:=fun H=>zr6 cons z a ha H
 have hbt:=fun H=>zr6 cons z b hb H
 have hla:=zgb a z;have loop:∀(s q:List At),zap (za3 a z)=q++s->∃vs is,(is=true ↔ ∃x∈s,zkc (z.length+1) (zsn cons z b x))/\∀(G:List AO) (B:Nat) (hB:G[B]?=some (.box b.cs)) (J:List AO),
   zdu G (G++J) (.ptr B 0) (.sl (At.css (zap (za3 a z)))) (.int .i64 (zap (za3 a z)).length) (.int .i64 q.length) (zp4 cons z)=some (.ret (.tup [.sl (zaq vs),.bool is]),G):=by
  intro s
  induction s with
  |nil=>
   intro q h;rw[List.append_nil]at h;refine⟨[],false,by simp,fun G B hB J=>?_⟩
   unfold zp4;rw[zdu,zab,h];simp only[↓reduceIte,go_sem,zfi]
  |cons x s ih=>
   intro q h;have hga:(zap (za3 a z))[q.length]?=some x:=by rw[h];simp
   have hql:q.length<(zap (za3 a z)).length:=by rw[h];simp
   obtain⟨vs,is,h1,h2⟩:=leq1_in cons hcons hcl z hz a b x (by rw[h];simp)
   obtain⟨vs',is',h4,h5⟩:=ih (q++[x]) (by rw[h];simp)
   simp only[zaf]at h5;have key:∀(G:List AO) (B:Nat) (hB:G[B]?=some (.box b.cs)) (J:List AO),zdu G (G++J) (.ptr B 0) (.sl (At.css (zap (za3 a z)))) (.int .i64 (zap (za3 a z)).length) (.int .i64 q.length) (zp4 cons z)=if is=true then some (.ret (.tup [.sl (zaq vs),.bool true]),G) else zdu G (G++(J++[.dead])) (.ptr B 0) (.sl (At.css (zap (za3 a z)))) (.int .i64 (zap (za3 a z)).length) (.int .i64 (q.length+1)) (zp4 cons z):=by
    intro G B hB J;have hBl:=(List.getElem?_eq_some_iff.1 hB).1;have h3:=h2 G (.ptr B 0) q.length (by omega) J (zap (za3 b z)) [] rfl 0
    have em:Cl.css (zke x [])=[]:=rfl;simp only[em,List.length_nil,Int.natCast_zero]at h3;have hBJ:(G++J)[B]?=some (.box b.cs):=by rw[List.getElem?_append_left hBl];exact hB
    have hBK:∀o,(G++(J++[o]))[B]?=some (.box b.cs):=fun o=>by rw[List.getElem?_append_left hBl];exact hB
    rw[<- h3];unfold zp4 at hbt ⊢;rw[zdu,zab];simp only[↓reduceIte,go_sem,show (q.length:Int)<((zap (za3 a z)).length:Int) by omega,hga,hbt,hBJ,hBK]
   cases is with
   |true=>exact⟨vs,true,by simp[h1.1 rfl],fun G B hB J=>by rw[key G B hB J];simp⟩
   |false=>
    refine⟨vs',is',?_,fun G B hB J=>by rw[key G B hB J];simpa using h5 G B hB (J++[.dead])⟩
    rw[h4];have hn:¬ zkc (z.length+1) (zsn cons z b x):=fun k=>by have:=h1.2 k;cases this
    simp[hn]
 obtain⟨vs,is,h1,h2⟩:=loop (zap (za3 a z)) [] rfl;refine⟨vs,is,h1,fun G A B hA hB=>?_⟩
 have h2:=h2 G B hB [];simp only[List.append_nil,List.length_nil,Int.natCast_zero]at h2;unfold zp4 at hat h2 ⊢;rw[zy9];simp only[↓reduceIte,go_sem,hA,hat];exact h2
end Go.Ab
end
section
set_option linter.unusedVariables false
set_option linter.unusedSimpArgs false
set_option maxRecDepth 100000
set_option maxHeartbeats 2000000
namespace Go.Ab
open Go.RowKit Go.Proofs
def zl8(cons:List Co)(out:List Int)(is:Bool):List AO:=[.box [.sl (Co.css cons)],.box [.sl (zaq out)],.box [.bool is]]
def zn9(tf:AV)(n:Nat):List (Nat×AV):=[(3,.ptr n 0),(5,.fp [tf]),(6,.ptr (n+1) 0),(7,.ptr (n+2) 0)]
def zxo(p:Nat)(bf:List Bool->Bool)(_:Unit)(z:List Bool):Option (Unit ⊕ List Bool):=if z.length=p then (if bf z=true then some (.inr z) else some (.inl ())) else none
theorem ydm(n:Nat)(cons:List Co)(out:List Int)(is:Bool):∀o∈zl8 cons out is,LtO n o:=by
 intro o ho;simp[zl8]at ho;rcases ho with rfl|rfl|rfl
 ·intro a ha;simp at ha;subst ha;exact .sl (zr1 n cons)
 ·intro a ha;simp at ha;subst ha;exact .sl (zrp n out)
 ·intro a ha;simp at ha;subst ha;exact .bool _
theorem yhn(cons:List Co)(k:FuncId)(c:AV)(cap:List AV)(p:Nat)(vf:List Bool->List Int)(bf:List Bool->Bool)(H:List AO)(hlt:Lt H.length (.fn (.func k) [] (c::cap)))
  (ht:∀z:List Bool,z.length=p->∀X,cfl T (.fn (.func k) [] (c::cap)) [.agg (zp4 cons z)] (H++X)=some (.ret (.tup [.sl (zaq (vf z)),.bool (bf z)]),H++X)) :
  Ys (.yd (H.length+3+1)) (H.length+3+2) encZ (fun _=>H++(zl8 cons [] false++[.dfr,.slp .ready 24 (zn9 (.fn (.func k) [] (c::cap)) H.length) [13] zci zcd])) (fun z=>H++(zl8 cons (vf z) true++[.dfr,.slp (.done .ret) 24 (zn9 (.fn (.func k) [] (c::cap)) H.length) [13] zci zcd])) (zxo p bf):=by
 refine z30 H 3 encZ (fun _=>zl8 cons [] false) (fun z=>zl8 cons (vf z) true) (fun _=>.ret) (zxo p bf) 24 (zn9 (.fn (.func k) [] (c::cap)) H.length) [13] zci zcd zsk zsi (fun _=>rfl) ?_ ?_ ?_ ?_
 ·rintro (q|e) <;> rfl
 ·rintro s (q|e) i o ho
  ·exact .inl ho
  ·exact .inr (ydm _ cons (vf e) true o (List.mem_of_getElem? ho))
 ·intro q hq
  simp[zn9]at hq;rcases hq with rfl|rfl|rfl|rfl
  ·exact .ptr (by omega)
  ·exact .fp (by intro a ha;simp at ha;subst ha;exact hlt.mono (by omega))
  ·exact .ptr (by omega)
  ·exact .ptr (by omega)
 ·rintro ⟨⟩ z X r hst
  refine⟨[],?_⟩;unfold zxo at hst
  split at hst
  ·rename_i hz
   have h2:=ht z hz (zl8 cons [] false++(.dfr :: .slp .busy 24 (zn9 (.fn (.func k) [] (c::cap)) H.length) [13] zci zcd::X));unfold zp4 at h2;simp only[zl8,zn9,zfi,List.cons_append,List.nil_append,zgr]at h2
   cases hb:bf z
   ·rw[hb]at hst h2
    cases hst;simp only[↓reduceIte,go_sem,zl8,zn9,h2,zfi,encZ,z4t,isL]
   ·rw[hb]at hst h2
    cases hst;simp only[↓reduceIte,go_sem,zl8,zn9,h2,zfi,encZ,z4t,isL]
  ·cases hst
theorem z8q(p:Nat)(bf:List Bool->Bool):∀(j n:Nat),∃r,zl0 (zxo p bf) (zno p n j) ()=some r/\((∃z,r = .inr z/\z∈zno p n j/\bf z=true)\/(r = .inl ()/\∀z∈zno p n j,bf z=false)):=by
 intro j
 induction j with
 |zero=>intro n;exact⟨_,rfl,.inr ⟨rfl,by simp[zno]⟩⟩
 |succ j ih=>
  intro n;obtain⟨r,h1,h2⟩:=ih (n+1);rw[zno,zl0];have e:zxo p bf () (zcx n p)=if bf (zcx n p)=true then some (.inr (zcx n p)) else some (.inl ()):=by
   unfold zxo;rw[if_pos (zgs n p)]
  rw[e]
  cases hb:bf (zcx n p)
  ·refine⟨r,by simpa using h1,?_⟩
   rcases h2 with⟨z,rfl,h3,h4⟩|⟨rfl,h3⟩
   ·exact .inl ⟨z,rfl,by simp[h3],h4⟩
   ·exact .inr ⟨rfl,by intro z hz;rcases List.mem_cons.1 hz with rfl|hz;exact hb;exact h3 z hz⟩
  ·exact⟨.inr (zcx n p),by simp,.inl ⟨_,rfl,by simp,hb⟩⟩
theorem zxv(p:Nat)(z:List Bool):∀(j n:Nat),z∈zno p n j ↔ ∃k,n<=k/\k<n+j/\z=zcx k p:=by
 intro j
 induction j with
 |zero=>intro n;simp only[zno,List.not_mem_nil,false_iff];rintro ⟨k,h1,h2,_⟩;omega
 |succ j ih=>
  intro n;rw[zno,List.mem_cons,ih];constructor
  ·rintro (rfl|⟨k,h1,h2,h3⟩)
   ·exact⟨n,by omega,by omega,rfl⟩
   ·exact⟨k,by omega,by omega,h3⟩
  ·rintro ⟨k,h1,h2,h3⟩
   by_cases h:k=n
   ·subst h;exact .inl h3
   ·exact .inr ⟨k,by omega,by omega,h3⟩
theorem ydl(cons:List Co)(k:FuncId)(c:AV)(cap:List AV)(p:Nat)(h5:p<=5)(vf:List Bool->List Int)(bf:List Bool->Bool)(H:List AO)(hlt:Lt H.length (.fn (.func k) [] (c::cap)))
  (ht:∀z:List Bool,z.length=p->∀X,cfl T (.fn (.func k) [] (c::cap)) [.agg (zp4 cons z)] (H++X)=some (.ret (.tup [.sl (zaq (vf z)),.bool (bf z)]),H++X)) :
  ∃vs is,(is=true ↔ ∃n<2 ^ p,bf (zcx n p)=true)/\F zk1 [.sl (Co.css cons),.int .i64 p,.fn (.func k) [] (c::cap)] H=some (.ret (.tup [.sl (zaq vs),.bool is]),H):=by
 obtain⟨r,h1,h2⟩:=z8q p bf (2 ^ p) 0;have hr:=yin p h5 _ _ _ _ _ _ _ (yhn cons k c cap p vf bf H hlt ht) () [] r h1;have hAl:=fun H=>AllP_ok p H
 rcases h2 with⟨z,rfl,h3,h4⟩|⟨rfl,h3⟩
 ·refine⟨vf z,true,?_,?_⟩
  ·obtain⟨n,_,h6,h7⟩:=(zxv p z _ _).1 h3
   simp only[true_iff];exact⟨n,by omega,by rw[<- h7];exact h4⟩
  have he:=zs9 (H:=H) (DR:=zl8 cons (vf z) true) (k:=3) rfl (st:=.done .ret) (nn:=24) (t:=zn9 (.fn (.func k) [] (c::cap)) H.length) (ps:=[13]) (asg:=zci) (body:=zcd);simp only[zqf,zl8,zn9,ykp,zgr,zfi,List.cons_append,List.nil_append,List.append_nil,Nat.add_assoc,Nat.reduceAdd]at hr he;rw[zrs];simp only[↓reduceIte,go_sem,hAl,ykp,hr,he,List.nodup_cons,List.nodup_nil,List.not_mem_nil,not_false_eq_true,and_self]
 ·refine⟨[],false,?_,?_⟩
  ·simp only[Bool.false_eq_true,false_iff]
   rintro ⟨n,hn,hb⟩
   have:=h3 (zcx n p) ((zxv p _ _ _).2 ⟨n,by omega,by omega,rfl⟩)
   rw[hb]at this;cases this
  have he:=zs9 (H:=H) (DR:=zl8 cons [] false) (k:=3) rfl (st:=.ready) (nn:=24) (t:=zn9 (.fn (.func k) [] (c::cap)) H.length) (ps:=[13]) (asg:=zci) (body:=zcd);simp only[ze3,zl8,zn9,ykp,zgr,zfi,List.cons_append,List.nil_append,List.append_nil,Nat.add_assoc,Nat.reduceAdd]at hr he;rw[zrs];simp only[↓reduceIte,go_sem,hAl,ykp,hr,he,zfi,List.nodup_cons,List.nodup_nil,List.not_mem_nil,not_false_eq_true,and_self]
open Classical in
theorem LeqP_ok(cons:List Co)(hcons:∀c∈cons,c.ok)(p:Nat)(a b:Lv)(ha:a.ok)(hb:b.ok)(hC:zdt cons p=true)(hA:zax a p 0=true)(hB:zax b p 0=true)(H:List AO):
  ∃vs,F zmq [.sl (Co.css cons),.int .i64 p,.agg a.cs,.agg b.cs] H=some (.ret (.tup [.bool (z0z cons p a b),.sl (zaq vs),.int .i64 0]),H):=by
 have hc:=hC;simp only[zdt,Bool.and_eq_true,decide_eq_true_eq]at hc;have h5:p<=5:=by omega
 have hr:=fun H=>zuh cons (by omega) hcons p H
 have hra:=fun H=>zgt a ha p 0 H
 have hrb:=fun H=>zgt b hb p 0 H
 have hall:∀z:List Bool,∃vb:List Int×Bool,z.length=p->(vb.2=true ↔ zmb cons a b z)/\∀(G:List AO) (A B:Nat) (hA:G[A]?=some (.box a.cs)) (hB:G[B]?=some (.box b.cs)),F zg4 [.agg (zp4 cons z),.ptr A 0,.ptr B 0] G=some (.ret (.tup [.sl (zaq vb.1),.bool vb.2]),G):=by
  intro z;by_cases hz:z.length=p
  ·obtain⟨vs,is,h1,h2⟩:=leq1_ok cons hcons hc.1.2 z (by omega) a b ha hb
   exact⟨(vs,is),fun _=>⟨h1,h2⟩⟩
  ·exact⟨([],false),fun h=>absurd h hz⟩
 let vb:List Bool->List Int×Bool:=fun z=>Classical.choose (hall z)
 have hvb:∀z,_:=fun z=>Classical.choose_spec (hall z)
 obtain⟨vs,is,h1,h2⟩:=ydl cons zg4 (.ptr H.length 0) [.ptr (H.length+1) 0] p h5 (fun z=>(vb z).1) (fun z=>(vb z).2) (H++[.box a.cs,.box b.cs]) (.fn (by simp) (by intro x hx;simp at hx;rcases hx with rfl|rfl <;> exact .ptr (by simp))) (fun z hz X=>by
  have:=(hvb z hz).2 (H++[.box a.cs,.box b.cs]++X) H.length (H.length+1) (by simp) (by simp)
  simp only[zgr,List.cons_append,List.nil_append];exact this)
 refine⟨vs,?_⟩;have hl:z0z cons p a b = !is:=by
  rcases his:is with _|_
  ·show _=true
   refine zps.2 fun n hn hbr=>?_
   have:=h1.2 ⟨n,hn,(hvb _ (zgs n p)).1.2 hbr⟩;rw[his]at this;cases this
  ·show _=false
   obtain⟨n,hn,hb2⟩:=h1.1 his;rcases hq:z0z cons p a b with _|_
   ·rfl
   ·exact absurd ((hvb _ (zgs n p)).1.1 hb2) (zps.1 hq n hn)
 rw[zvo,hl];simp only[↓reduceIte,go_sem,hr,hra,hrb,hC,hA,hB,h2]
theorem LeqP_er(cons:List Co)(hcons:∀c∈cons,c.ok)(hl:cons.length<=140737488355328)(p:Int)(a b:Lv)(ha:a.ok)(hb:b.ok)(hC:(zdt cons p && zax a p 0 && zax b p 0)=false)(H:List AO):
  F zmq [.sl (Co.css cons),.int .i64 p,.agg a.cs,.agg b.cs] H=some (.ret (.tup [.bool false,.sl [],.int .i64 1]),H):=by
 have hr:=fun H=>zuh cons hl hcons p H
 have hra:=fun H=>zgt a ha p 0 H
 have hrb:=fun H=>zgt b hb p 0 H
 rw[zvo]
 cases h1:zdt cons p
 ·simp only[↓reduceIte,go_sem,hr,hra,hrb,h1]
 cases h2:zax a p 0
 ·simp only[↓reduceIte,go_sem,hr,hra,hrb,h1,h2]
 cases h3:zax b p 0
 ·simp only[↓reduceIte,go_sem,hr,hra,hrb,h1,h2,h3]
 ·simp[h1,h2,h3]at hC
end Go.Ab
end
section
set_option linter.unusedVariables false
set_option linter.unusedSimpArgs false
set_option maxRecDepth 100000
set_option maxHeartbeats 2000000
namespace Go.Ab
open Go.RowKit Go.Proofs
theorem ybg(k n:Int)(ks:List Lv):(Lv.mk k n ks).ok=(ks.length<=140737488355328/\∀x∈ks,x.ok):=propext ⟨fun h=>⟨h.len,h.all⟩,fun h=>.mk h.1 h.2⟩
theorem ztb(k n:Int)(ls:List Lv)(ks:List Te):(Te.mk k n ls ks).ok=(ks.length<=140737488355328/\ls.length<=140737488355328/\(∀x∈ls,x.ok)/\∀x∈ks,x.ok):=propext ⟨fun h=>⟨h.len,h.len2,h.all2,h.all⟩,fun h=>.mk h.1 h.2.1 h.2.2.1 h.2.2.2⟩
theorem z58{t:Te}(h:t.ok):(zuo t).1.ok:=by
 unfold zuo
 split
 ·exact h
 ·simp[zeroT,ztb]
theorem yi2{t:Te}(h:t.ok)(f b:Int):(zh1 t f b).1.ok:=by
 unfold zh1
 split
 ·simp[zeroT,ztb]
 ·exact z58 (zyr b t h f)
theorem yiz{t u:Te}(h:t.ok)(hu:u.ok):(zlz t u).1.ok:=by
 unfold zlz
 split
 ·simp[zeroT,ztb]
 ·exact z58 (z4l u hu t h 0)
mutual
theorem lvEq_refl:∀a:Lv,lvEq a a=true
 |.mk k n ks=>by rw[lvEq,lvsEq_refl ks];simp
theorem lvsEq_refl:∀a:List Lv,lvsEq a a=true
 |[]=>rfl
 |x::r=>by rw[lvsEq,lvEq_refl x,lvsEq_refl r];rfl
end
theorem zpk(l:Lv)(H:List AO):F zfd [.agg l.cs] H=some (.ret (.agg (Te.mk 2 0 [l] []).cs),H):=by
 rw[z20];simp only[↓reduceIte,go_sem,Te.cs,Lv.css,Te.css]
theorem zpm(k:Int)(ks:List Te)(H:List AO):F zf7 [.int .i64 k,.sl (Te.css ks)] H=some (.ret (.agg (Te.mk k 0 [] ks).cs),H):=by
 rw[z21];simp only[↓reduceIte,go_sem,Te.cs,Lv.css]
end Go.Ab
end
section
set_option linter.unusedVariables false
set_option linter.unusedSimpArgs false
set_option maxRecDepth 100000
set_option maxHeartbeats 2000000
namespace Go.Ab
open Go.RowKit Go.Proofs
def zwg(env:List De)(n:Int)(ls:List Lv):Option De:=match env[n.toNat]? with
 |some d=>if d.has=true/\(ls.length:Int)=d.p then some d else none
 |none=>none
inductive Hd (env:List De):Nat->Te->Te->Nat->Prop
 |stuck {n:Nat} {k N:Int} {ls:List Lv} {ks:List Te}:k≠4->k≠7->(k=3->0<=N/\zwg env N ls=none)->Hd env n (.mk k N ls ks) (.mk k N ls ks) n
 |lett {n:Nat} {N:Int} {ls:List Lv} {s v b r t':Te} {n':Nat}:zlz b v=(r,0)->Hd env n r t' n' -> Hd env (n+1) (.mk 7 N ls [s,v,b]) t' n'
 |const {n:Nat} {N:Int} {ls:List Lv} {ks:List Te} {d:De} {r t':Te} {n':Nat}:0<=N->zwg env N ls=some d->zpj d.value ls []=(r,0)->Hd env n r t' n' -> Hd env (n+1) (.mk 3 N ls ks) t' n'
 |app {n:Nat} {N:Int} {ls:List Lv} {f a f':Te} {n':Nat}:Hd env n f f' n' -> f'.kind≠5->Hd env n (.mk 4 N ls [f,a]) (.mk 4 0 [] [f',a]) n'
 |beta {n:Nat} {N:Int} {ls:List Lv} {f a:Te} {N2:Int} {ls2:List Lv} {s b:Te} {m:Nat} {r t':Te} {n':Nat}:Hd env n f (.mk 5 N2 ls2 [s,b]) (m+1)->zlz b a=(r,0)->Hd env m r t' n' -> Hd env n (.mk 4 N ls [f,a]) t' n'
inductive He (env:List De):Nat->Te->Nat->Int->Prop
 |let0 {N:Int} {ls:List Lv} {s v b:Te}:He env 0 (.mk 7 N ls [s,v,b]) 0 40
 |let2 {n:Nat} {N:Int} {ls:List Lv} {s v b r:Te} {e:Int}:zlz b v=(r,e)->e≠0->He env (n+1) (.mk 7 N ls [s,v,b]) n e
 |letr {n:Nat} {N:Int} {ls:List Lv} {s v b r:Te} {n':Nat} {e:Int}:zlz b v=(r,0)->He env n r n' e->He env (n+1) (.mk 7 N ls [s,v,b]) n' e
 |const0 {N:Int} {ls:List Lv} {ks:List Te} {d:De}:0<=N->zwg env N ls=some d->He env 0 (.mk 3 N ls ks) 0 40
 |const2 {n:Nat} {N:Int} {ls:List Lv} {ks:List Te} {d:De} {r:Te} {e:Int}:0<=N->zwg env N ls=some d->zpj d.value ls []=(r,e)->e≠0->He env (n+1) (.mk 3 N ls ks) n e
 |constr {n:Nat} {N:Int} {ls:List Lv} {ks:List Te} {d:De} {r:Te} {n':Nat} {e:Int}:0<=N->zwg env N ls=some d->zpj d.value ls []=(r,0)->He env n r n' e->He env (n+1) (.mk 3 N ls ks) n' e
 |appf {n:Nat} {N:Int} {ls:List Lv} {f a:Te} {n':Nat} {e:Int}:He env n f n' e->He env n (.mk 4 N ls [f,a]) n' e
 |beta0 {n:Nat} {N:Int} {ls:List Lv} {f a:Te} {N2:Int} {ls2:List Lv} {s b:Te}:Hd env n f (.mk 5 N2 ls2 [s,b]) 0->He env n (.mk 4 N ls [f,a]) 0 40
 |beta2 {n:Nat} {N:Int} {ls:List Lv} {f a:Te} {N2:Int} {ls2:List Lv} {s b:Te} {m:Nat} {r:Te} {e:Int}:Hd env n f (.mk 5 N2 ls2 [s,b]) (m+1)->zlz b a=(r,e)->e≠0->He env n (.mk 4 N ls [f,a]) m e
 |betar {n:Nat} {N:Int} {ls:List Lv} {f a:Te} {N2:Int} {ls2:List Lv} {s b:Te} {m:Nat} {r:Te} {n':Nat} {e:Int}:Hd env n f (.mk 5 N2 ls2 [s,b]) (m+1)->zlz b a=(r,0)->He env m r n' e->He env n (.mk 4 N ls [f,a]) n' e
theorem He.ne{env:List De}{n:Nat}{t:Te}{n':Nat}{e:Int}(h:He env n t n' e):e≠0:=by
 induction h <;> first|decide|assumption
theorem Hd.le{env:List De}{n:Nat}{t t':Te}{n':Nat}(h:Hd env n t t' n'):n' <= n:=by
 induction h <;> omega
theorem zns{env:List De}{n:Int}{ls:List Lv}{d:De}(h:zwg env n ls=some d):env[n.toNat]?=some d/\d.has=true/\(ls.length:Int)=d.p:=by
 unfold zwg at h
 cases hg:env[n.toNat]? with
 |none=>rw[hg]at h;cases h
 |some x=>
  rw[hg]at h;dsimp only at h
  split at h
  ·cases h;rename_i h;exact⟨rfl,h⟩
  ·cases h
theorem ze6{b v r:Te}{e:Int}(h:zlz b v=(r,e))(hb:b.ok)(hv:v.ok):r.ok:=by
 have:=yiz hb hv;rw[h]at this;exact this
theorem zri:zsh []:=by intro x hx;cases hx
theorem zpz{env:List De}(he:zt5 env){n:Int}{ls:List Lv}{ks:List Te}{d:De}{r:Te}{e:Int}(ht:(Te.mk 3 n ls ks).ok)(hu:zwg env n ls=some d)(hs:zpj d.value ls []=(r,e)):r.ok:=by
 have hd:=he.2 d (List.mem_of_getElem? (zns hu).1);have:=yiu hd.2.2.2 (ps:=ls) (ms:=[]) ht.all2 zri;rw[hs]at this;exact this
theorem Hd.ok{env:List De}(he:zt5 env){n:Nat}{t t':Te}{n':Nat}(h:Hd env n t t' n'):t.ok->t'.ok:=by
 induction h with
 |stuck=>exact id
 |lett ho _ ih=>
  intro ht;exact ih (ze6 ho (ht.all _ (by simp)) (ht.all _ (by simp)))
 |const _ hu hs _ ih=>exact fun ht=>ih (zpz he ht hu hs)
 |app _ _ ih=>
  intro ht;have hf:=ih (ht.all _ (by simp))
  have ha:=ht.all _ (show _∈[_,_] from List.mem_cons_of_mem _ (List.mem_singleton.2 rfl))
  exact .mk (by simp) (by simp) (by intro x hx;cases hx) (by intro x hx;simp at hx;rcases hx with rfl|rfl <;> assumption)
 |beta _ ho _ ih1 ih2=>
  intro ht;have hf:=ih1 (ht.all _ (by simp))
  exact ih2 (ze6 ho (hf.all _ (by simp)) (ht.all _ (by simp)))
theorem decs_lt(n:Nat)(d:De):∀a∈d.cs,Lt n a:=by
 rcases d with⟨p,cons,t,h,v⟩;intro a ha;simp only[De.cs,De.p,De.cons,De.type,De.has,De.value,List.mem_append,List.mem_cons,List.not_mem_nil,or_false]at ha;rcases ha with (((rfl|rfl)|ha)|rfl)|ha
 ·exact .int _ _
 ·refine .sl fun x hx=>?_
  obtain⟨l,hl,hx⟩:=List.mem_flatten.1 hx;obtain⟨c,_,rfl⟩:=List.mem_map.1 hl;rcases List.mem_append.1 hx with hx|hx
  ·exact z82 n c.a x hx
  ·exact z82 n c.b x hx
 ·exact zs7 n t a ha
 ·exact .bool _
 ·exact zs7 n v a ha
theorem z0a(n:Nat)(env:List De):∀a∈(De.css env).flatten,Lt n a:=by
 intro a ha;obtain⟨l,hl,hx⟩:=List.mem_flatten.1 ha;obtain⟨d,_,rfl⟩:=List.mem_map.1 hl;exact decs_lt n d a hx
theorem zmg(n:Nat)(env:List De)(f e:Int)(R:List AV)(hR:∀a∈R,Lt n a):LtO n (.box (.sl (De.css env) :: .int .i64 f :: .int .i64 e::R)):=by
 intro a ha;simp at ha;rcases ha with rfl|rfl|rfl|ha
 ·exact .sl (z0a n env)
 ·exact .int _ _
 ·exact .int _ _
 ·exact hR a ha
theorem zoy(n:Nat)(env:List De)(f e:Int):LtO n (.box [.sl (De.css env),.int .i64 f,.int .i64 e]):=zmg n env f e [] (fun a ha=>by cases ha)
theorem zd6(env:List De)(n:Int)(hn:0<=n/\n<=1000000)(A X:List AO)(R:List AV)(hR:∀a∈R,Lt (A.length+(X.length+1)) a):F za7 [.ptr A.length 0] (A++(.box (.sl (De.css env) :: .int .i64 n :: .int .i64 0::R)::X)) =
  if n=0 then some (.ret (.bool false),A++(.box (.sl (De.css env) :: .int .i64 0 :: .int .i64 40::R)::X)) else some (.ret (.bool true),A++(.box (.sl (De.css env) :: .int .i64 (n - 1) :: .int .i64 0::R)::X)):=by
 have hf:=fun (o o':AO) r J (ho:LtO (A.length+(X.length+1)) o')=>zpy (A:=A) (X:=X) (J:=J) (o:=o) (o':=o') (r:=r) ho
 have hf0:=fun (o o':AO) r (ho:LtO (A.length+(X.length+1)) o')=>zfe (A:=A) (X:=X) (o:=o) (o':=o') (r:=r) ho
 have mB:=fun f e=>zmg (A.length+(X.length+1)) env f e R hR
 rw[zqb];by_cases h:n=0
 ·subst h
  simp only[↓reduceIte,go_sem,hf,hf0,mB,show (0:Int)<1 by decide]
 ·simp only[↓reduceIte,go_sem,hf,hf0,mB,h,show ¬ n<1 by omega,zam (n:=n - 1) (by omega) (by omega)]
theorem z3w(env:List De)(n e:Int)(A X:List AO)(R:List AV)(hR:∀a∈R,Lt (A.length+(X.length+1)) a):F zbv [.ptr A.length 0,.int .i64 e] (A++(.box (.sl (De.css env) :: .int .i64 n :: .int .i64 0::R)::X)) =
  some (.ret (.tup []),A++(.box (.sl (De.css env) :: .int .i64 n :: .int .i64 e::R)::X)):=by
 have hf0:=fun (o o':AO) r (ho:LtO (A.length+(X.length+1)) o')=>zfe (A:=A) (X:=X) (o:=o) (o':=o') (r:=r) ho
 have mB:=fun f e=>zmg (A.length+(X.length+1)) env f e R hR
 rw[zqa];simp only[↓reduceIte,go_sem,hf0,mB]
theorem zef(env:List De)(t:Te)(n e:Int)(A X:List AO)(R:List AV)(hR:∀a∈R,Lt (A.length+(X.length+1)) a):F zbp [.ptr A.length 0,.agg t.cs,.int .i64 e] (A++(.box (.sl (De.css env) :: .int .i64 n :: .int .i64 0::R)::X)) =
  some (.ret (.agg t.cs),A++(.box (.sl (De.css env) :: .int .i64 n :: .int .i64 e::R)::X)):=by
 have hf0:=fun (o o':AO) r (ho:LtO (A.length+(X.length+1)) o')=>zfe (A:=A) (X:=X) (o:=o) (o':=o') (r:=r) ho
 have mB:=fun f e=>zmg (A.length+(X.length+1)) env f e R hR
 rw[zqx];by_cases h:e=0
 ·subst h
  simp only[↓reduceIte,go_sem,hf0,mB]
 ·simp only[↓reduceIte,go_sem,hf0,mB,h,z3w env n e A X R hR]
theorem zei(env:List De)(n e:Int)(k N:Int)(ls:List Lv)(ks:List Te)(hN:k=3->0<=N)(A X:List AO)(R:List AV)(hR:∀a∈R,Lt (A.length+(X.length+1)) a):F zc4 [.ptr A.length 0,.agg [.int .i64 k,.int .i64 N,.sl (Lv.css ls),.sl (Te.css ks)]] (A++(.box (.sl (De.css env) :: .int .i64 n :: .int .i64 e::R)::X)) =
  some (.ret (.bool (decide (k=3) && (zwg env N ls).isSome)),A++(.box (.sl (De.css env) :: .int .i64 n :: .int .i64 e::R)::X)):=by
 have hf0:=fun (o o':AO) r (ho:LtO (A.length+(X.length+1)) o')=>zfe (A:=A) (X:=X) (o:=o) (o':=o') (r:=r) ho
 have mB:=fun f e=>zmg (A.length+(X.length+1)) env f e R hR
 rw[zn4];by_cases h:k=3
 ·subst h
  have hN:=hN rfl;obtain⟨j,rfl⟩:=Int.eq_ofNat_of_zero_le hN;unfold zwg;simp only[Int.toNat_natCast]
  cases hg:env[j]? with
  |none=>
   have hl:=List.getElem?_eq_none_iff.1 hg;simp only[↓reduceIte,go_sem,hf0,mB,show ¬ (j:Int)<(env.length:Int) by omega,Option.isSome_none]
  |some d=>
   have hl:j<env.length:=by
    rcases Nat.lt_or_ge j env.length with h|h
    ·exact h
    ·rw[List.getElem?_eq_none h]at hg;cases hg
   have hlI:(j:Int)<(env.length:Int):=by omega
   cases hh:d.has
   ·simp only[↓reduceIte,go_sem,hf0,mB,hl,hlI,hg,hh,Option.isSome_none,Option.isSome_some,Bool.false_eq_true,false_and]
   ·by_cases hp:(ls.length:Int)=d.p
    ·simp only[↓reduceIte,go_sem,hf0,mB,hl,hlI,hg,hh,hp,Option.isSome_none,Option.isSome_some]
    ·simp only[↓reduceIte,go_sem,hf0,mB,hl,hlI,hg,hh,hp,Option.isSome_none,Option.isSome_some]
 ·simp only[↓reduceIte,go_sem,hf0,mB,h]
theorem zlo(env:List De)(x:Te)(n:Int)(e:Int)(A X:List AO)(R:List AV)(hR:∀a∈R,Lt (A.length+(X.length+1)) a)(he:e≠0)(n0 e0:Int)(v4:List AV)(hv:v4=[.int .i64 0,.int .i64 0,.sl [],.sl []]):
  zad (A++(.box (.sl (De.css env) :: .int .i64 n0 :: .int .i64 e0::R)::X)) (A++(.box (.sl (De.css env) :: .int .i64 n :: .int .i64 e::R)::X)) (.ptr A.length 0) x.cs v4 =
  some (.ret (.agg x.cs),A++(.box (.sl (De.css env) :: .int .i64 n :: .int .i64 e::R)::X)):=by
 have hf0:=fun (o o':AO) r (ho:LtO (A.length+(X.length+1)) o')=>zfe (A:=A) (X:=X) (o:=o) (o':=o') (r:=r) ho
 subst hv;have mB:=fun f e=>zmg (A.length+(X.length+1)) env f e R hR
 rw[zad,zab];simp only[↓reduceIte,go_sem,hf0,mB,he]
theorem zko(env:List De)(t:Te)(n e:Int)(A X:List AO)(R:List AV):F zav [.ptr A.length 0,.agg t.cs] (A++(.box (.sl (De.css env) :: .int .i64 n :: .int .i64 e::R)::X)) =
  zad (A++(.box (.sl (De.css env) :: .int .i64 n :: .int .i64 e::R)::X)) (A++(.box (.sl (De.css env) :: .int .i64 n :: .int .i64 e::R)::X)) (.ptr A.length 0) t.cs [.int .i64 0,.int .i64 0,.sl [],.sl []]:=by
 rw[zp9];simp only[↓reduceIte,go_sem]
@[go_sem] theorem toNat_two:Int.toNat 2=2:=rfl
theorem zrq(env:List De)(hE:zt5 env){n:Nat}{t t':Te}{n':Nat}(h:Hd env n t t' n'):t.ok->n<=1000000->∀(A X:List AO) (R:List AV) (hR:∀a∈R,Lt (A.length+(X.length+1)) a) (n0 e0:Int),
  zad (A++(.box (.sl (De.css env) :: .int .i64 n0 :: .int .i64 e0::R)::X)) (A++(.box (.sl (De.css env) :: .int .i64 n :: .int .i64 0::R)::X)) (.ptr A.length 0) t.cs [.int .i64 0,.int .i64 0,.sl [],.sl []] =
  some (.ret (.agg t'.cs),A++(.box (.sl (De.css env) :: .int .i64 n' :: .int .i64 0::R)::X)):=by
 have hf0:=fun (A X:List AO) (o o':AO) r (ho:LtO (A.length+(X.length+1)) o')=>zfe (A:=A) (X:=X) (o:=o) (o':=o') (r:=r) ho
 induction h with
 |@stuck n k N ls ks h4 h7 h3=>
  intro ht hn A X R hR n0 e0;have mB:=fun f e=>zmg (A.length+(X.length+1)) env f e R hR
  have hP:=fun t n e=>zef env t n e A X R hR
  have hu:=zei env n 0 k N ls ks (fun h=>(h3 h).1) A X R hR
  have hfl:(decide (k=3) && (zwg env N ls).isSome)=false:=by
   by_cases h:k=3
   ·rw[(h3 h).2];simp
   ·simp[h]
  rw[hfl]at hu;rw[zad,zab];simp only[↓reduceIte,go_sem,Te.cs,h7,h4,hu,hf0,mB]
 |@lett n N ls s v b r t' n' ho hd ih=>
  intro ht hn A X R hR n0 e0;have mB:=fun f e=>zmg (A.length+(X.length+1)) env f e R hR
  have hP:=fun t n e=>zef env t n e A X R hR
  have hb:=ht.all b (by simp)
  have hv:=ht.all v (by simp)
  have:=ih (ze6 ho hb hv) (by omega) A X R hR n0 e0
  have hO:=fun H=>znr b v hb hv H
  simp only[ho,zjl]at hO;have hB:=zd6 env ((n+1:Nat):Int) (by omega) A X R hR
  rw[if_neg (by omega),show (((n+1:Nat):Int) - 1)=n by omega]at hB
  rw[zad,zab];simp only[↓reduceIte,go_sem,Te.cs,Te.css,hB,hO,hP,this]
 |@const n N ls ks d r t' n' hN hu hs hd ih=>
  intro ht hn A X R hR n0 e0;have mB:=fun f e=>zmg (A.length+(X.length+1)) env f e R hR
  have hP:=fun t n e=>zef env t n e A X R hR
  have hm:=zns hu;have hU:=zei env ((n+1:Nat):Int) 0 3 N ls ks (fun _=>hN) A X R hR
  rw[hu]at hU;have:=ih (zpz hE ht hu hs) (by omega) A X R hR n0 e0
  have hS:=fun H=>zwa d.value ls [] (hE.2 d (List.mem_of_getElem? hm.1)).2.2.2 ht.all2 zri ht.len2 (by simp) H
  simp only[hs,zjl,Lv.css]at hS;have hB:=zd6 env ((n+1:Nat):Int) (by omega) A X R hR
  rw[if_neg (by omega),show (((n+1:Nat):Int) - 1)=n by omega]at hB
  rw[zad,zab];simp only[↓reduceIte,go_sem,Te.cs,Te.css,hU,hB,hN,hm.1,hS,hP,this,decide_true,Bool.true_and,Option.isSome_some]
 |@app n N ls f a f' n' hd hk ih=>
  intro ht hn A X R hR n0 e0;have mB:=fun f e=>zmg (A.length+(X.length+1)) env f e R hR
  have hP:=fun t n e=>zef env t n e A X R hR
  have hf:=ht.all f (by simp)
  have:=ih hf hn A X R hR n 0;rw[<- zko]at this;have hU:=zei env n 0 4 N ls [f,a] (fun h=>absurd h (by decide)) A X R hR
  simp only[Te.css,show decide ((4:Int)=3)=false from rfl,Bool.false_and]at hU
  cases f' with
  |mk k2 n2 ls2 ks2=>
  have hk2:¬ k2=5:=hk;simp only[Te.cs]at this;rw[zad,zab];simp only[↓reduceIte,go_sem,Te.cs,Te.css,Lv.css,hU,this,hk2,hf0,mB]
 |@beta n N ls f a N2 ls2 s b m r t' n' hd ho hd2 ih1 ih2=>
  intro ht hn A X R hR n0 e0;have mB:=fun f e=>zmg (A.length+(X.length+1)) env f e R hR
  have hP:=fun t n e=>zef env t n e A X R hR
  have hf:=ht.all f (by simp)
  have ha:=ht.all a (by simp)
  have hl:=hd.ok hE hf;have hle:=hd.le;have hb:=hl.all b (by simp)
  have:=ih1 hf hn A X R hR n 0;rw[<- zko]at this;have h2:=ih2 (ze6 ho hb ha) (by omega) A X R hR n0 e0
  have hU:=zei env n 0 4 N ls [f,a] (fun h=>absurd h (by decide)) A X R hR
  simp only[Te.css,show decide ((4:Int)=3)=false from rfl,Bool.false_and]at hU
  have hO:=fun H=>znr b a hb ha H
  simp only[ho,zjl]at hO;have hB:=zd6 env ((m+1:Nat):Int) (by omega) A X R hR
  rw[if_neg (by omega),show (((m+1:Nat):Int) - 1)=m by omega]at hB
  simp only[Te.cs,Te.css]at this;rw[zad,zab];simp only[↓reduceIte,go_sem,Te.cs,Te.css,hU,this,hB,hO,hP,h2]
theorem yc9(env:List De)(hE:zt5 env){n:Nat}{t:Te}{n':Nat}{e:Int}(h:He env n t n' e):t.ok->n<=1000000->∀(A X:List AO) (R:List AV) (hR:∀a∈R,Lt (A.length+(X.length+1)) a) (n0 e0:Int),∃x:Te,x.ok /\
  zad (A++(.box (.sl (De.css env) :: .int .i64 n0 :: .int .i64 e0::R)::X)) (A++(.box (.sl (De.css env) :: .int .i64 n :: .int .i64 0::R)::X)) (.ptr A.length 0) t.cs [.int .i64 0,.int .i64 0,.sl [],.sl []] =
  some (.ret (.agg x.cs),A++(.box (.sl (De.css env) :: .int .i64 n' :: .int .i64 e::R)::X)):=by
 have hf0:=fun (A X:List AO) (o o':AO) r (ho:LtO (A.length+(X.length+1)) o')=>zfe (A:=A) (X:=X) (o:=o) (o':=o') (r:=r) ho
 induction h with
 |@let0 N ls s v b=>
  intro ht hn A X R hR n0 e0;have mB:=fun f e=>zmg (A.length+(X.length+1)) env f e R hR
  have hP:=fun t n e=>zef env t n e A X R hR
  have hB:=zd6 env 0 (by omega) A X R hR
  rw[if_pos rfl]at hB;have hi:=fun x=>zlo env x 0 40 A X R hR (by decide) n0 e0 _ rfl
  refine⟨_,ht,?_⟩;rw[zad,zab];have:=hi (.mk 7 N ls [s,v,b]);simp only[Te.cs,Te.css]at this;simp only[↓reduceIte,go_sem,Te.cs,Te.css,hB,this]
 |@let2 n N ls s v b r e ho he=>
  intro ht hn A X R hR n0 e0;have mB:=fun f e=>zmg (A.length+(X.length+1)) env f e R hR
  have hP:=fun t n e=>zef env t n e A X R hR
  have hb:=ht.all b (by simp)
  have hv:=ht.all v (by simp)
  have hO:=fun H=>znr b v hb hv H
  simp only[ho,zjl]at hO;have hB:=zd6 env ((n+1:Nat):Int) (by omega) A X R hR
  rw[if_neg (by omega),show (((n+1:Nat):Int) - 1)=n by omega]at hB
  have hi:=zlo env r n e A X R hR he n0 e0 _ rfl;refine⟨r,ze6 ho hb hv,?_⟩;rw[zad,zab];simp only[↓reduceIte,go_sem,Te.cs,Te.css,hB,hO,hP,hi]
 |@letr n N ls s v b r n' e ho hd ih=>
  intro ht hn A X R hR n0 e0;have mB:=fun f e=>zmg (A.length+(X.length+1)) env f e R hR
  have hP:=fun t n e=>zef env t n e A X R hR
  have hb:=ht.all b (by simp)
  have hv:=ht.all v (by simp)
  obtain⟨x,hx,this⟩:=ih (ze6 ho hb hv) (by omega) A X R hR n0 e0
  have hO:=fun H=>znr b v hb hv H
  simp only[ho,zjl]at hO;have hB:=zd6 env ((n+1:Nat):Int) (by omega) A X R hR
  rw[if_neg (by omega),show (((n+1:Nat):Int) - 1)=n by omega]at hB
  refine⟨x,hx,?_⟩;rw[zad,zab];simp only[↓reduceIte,go_sem,Te.cs,Te.css,hB,hO,hP,this]
 |@const0 N ls ks d hN hu=>
  intro ht hn A X R hR n0 e0;have mB:=fun f e=>zmg (A.length+(X.length+1)) env f e R hR
  have hP:=fun t n e=>zef env t n e A X R hR
  have hm:=zns hu;have hU:=zei env 0 0 3 N ls ks (fun _=>hN) A X R hR
  rw[hu]at hU;have hB:=zd6 env 0 (by omega) A X R hR
  rw[if_pos rfl]at hB;have hi:=zlo env (.mk 3 N ls ks) 0 40 A X R hR (by decide) n0 e0 _ rfl
  simp only[Te.cs]at hi;refine⟨_,ht,?_⟩;rw[zad,zab];simp only[↓reduceIte,go_sem,Te.cs,Te.css,hU,hB,hN,hm.1,hi,decide_true,Bool.true_and,Option.isSome_some]
 |@const2 n N ls ks d r e hN hu hs he=>
  intro ht hn A X R hR n0 e0;have mB:=fun f e=>zmg (A.length+(X.length+1)) env f e R hR
  have hP:=fun t n e=>zef env t n e A X R hR
  have hm:=zns hu;have hU:=zei env ((n+1:Nat):Int) 0 3 N ls ks (fun _=>hN) A X R hR
  rw[hu]at hU;have hS:=fun H=>zwa d.value ls [] (hE.2 d (List.mem_of_getElem? hm.1)).2.2.2 ht.all2 zri ht.len2 (by simp) H
  simp only[hs,zjl,Lv.css]at hS;have hB:=zd6 env ((n+1:Nat):Int) (by omega) A X R hR
  rw[if_neg (by omega),show (((n+1:Nat):Int) - 1)=n by omega]at hB
  have hi:=zlo env r n e A X R hR he n0 e0 _ rfl;refine⟨r,zpz hE ht hu hs,?_⟩;rw[zad,zab];simp only[↓reduceIte,go_sem,Te.cs,Te.css,hU,hB,hN,hm.1,hS,hP,hi,decide_true,Bool.true_and,Option.isSome_some]
 |@constr n N ls ks d r n' e hN hu hs hd ih=>
  intro ht hn A X R hR n0 e0;have mB:=fun f e=>zmg (A.length+(X.length+1)) env f e R hR
  have hP:=fun t n e=>zef env t n e A X R hR
  have hm:=zns hu;have hU:=zei env ((n+1:Nat):Int) 0 3 N ls ks (fun _=>hN) A X R hR
  rw[hu]at hU;obtain⟨x,hx,this⟩:=ih (zpz hE ht hu hs) (by omega) A X R hR n0 e0
  have hS:=fun H=>zwa d.value ls [] (hE.2 d (List.mem_of_getElem? hm.1)).2.2.2 ht.all2 zri ht.len2 (by simp) H
  simp only[hs,zjl,Lv.css]at hS;have hB:=zd6 env ((n+1:Nat):Int) (by omega) A X R hR
  rw[if_neg (by omega),show (((n+1:Nat):Int) - 1)=n by omega]at hB
  refine⟨x,hx,?_⟩;rw[zad,zab];simp only[↓reduceIte,go_sem,Te.cs,Te.css,hU,hB,hN,hm.1,hS,hP,this,decide_true,Bool.true_and,Option.isSome_some]
 |@appf n N ls f a n' e hd ih=>
  intro ht hn A X R hR n0 e0;have mB:=fun f e=>zmg (A.length+(X.length+1)) env f e R hR
  have hP:=fun t n e=>zef env t n e A X R hR
  have hf:=ht.all f (by simp)
  have ha:=ht.all a (by simp)
  have hne:=hd.ne;obtain⟨x,hx,this⟩:=ih hf hn A X R hR n 0;rw[<- zko]at this;have hU:=zei env n 0 4 N ls [f,a] (fun h=>absurd h (by decide)) A X R hR
  simp only[Te.css,show decide ((4:Int)=3)=false from rfl,Bool.false_and]at hU
  refine⟨.mk 4 0 [] [x,a],.mk (by simp) (by simp) (by intro x hx;cases hx) (by intro y hy;simp at hy;rcases hy with rfl|rfl <;> assumption),?_⟩
  cases x with
  |mk k2 n2 ls2 ks2=>
  simp only[Te.cs]at this;rw[zad,zab];simp only[↓reduceIte,go_sem,Te.cs,Te.css,Lv.css,hU,this,hne,hf0,mB]
 |@beta0 n N ls f a N2 ls2 s b hd=>
  intro ht hn A X R hR n0 e0;have mB:=fun f e=>zmg (A.length+(X.length+1)) env f e R hR
  have hP:=fun t n e=>zef env t n e A X R hR
  have hf:=ht.all f (by simp)
  have ha:=ht.all a (by simp)
  have:=zrq env hE hd hf hn A X R hR n 0;rw[<- zko]at this;have hU:=zei env n 0 4 N ls [f,a] (fun h=>absurd h (by decide)) A X R hR
  simp only[Te.css,show decide ((4:Int)=3)=false from rfl,Bool.false_and]at hU
  have hB:=zd6 env 0 (by omega) A X R hR
  rw[if_pos rfl]at hB;have hi:=zlo env (.mk 4 N ls [f,a]) 0 40 A X R hR (by decide) n0 e0 _ rfl
  simp only[Te.cs,Te.css]at hi;refine⟨_,ht,?_⟩;simp only[Te.cs,Te.css,Int.natCast_zero]at this;rw[zad,zab];simp only[↓reduceIte,go_sem,Te.cs,Te.css,hU,this,hB,hi]
 |@beta2 n N ls f a N2 ls2 s b m r e hd ho he=>
  intro ht hn A X R hR n0 e0;have mB:=fun f e=>zmg (A.length+(X.length+1)) env f e R hR
  have hP:=fun t n e=>zef env t n e A X R hR
  have hf:=ht.all f (by simp)
  have ha:=ht.all a (by simp)
  have hl:=hd.ok hE hf;have hle:=hd.le;have hb:=hl.all b (by simp)
  have:=zrq env hE hd hf hn A X R hR n 0;rw[<- zko]at this;have hU:=zei env n 0 4 N ls [f,a] (fun h=>absurd h (by decide)) A X R hR
  simp only[Te.css,show decide ((4:Int)=3)=false from rfl,Bool.false_and]at hU
  have hO:=fun H=>znr b a hb ha H
  simp only[ho,zjl]at hO;have hB:=zd6 env ((m+1:Nat):Int) (by omega) A X R hR
  rw[if_neg (by omega),show (((m+1:Nat):Int) - 1)=m by omega]at hB
  have hi:=zlo env r m e A X R hR he n0 e0 _ rfl;refine⟨r,ze6 ho hb ha,?_⟩;simp only[Te.cs,Te.css]at this;rw[zad,zab];simp only[↓reduceIte,go_sem,Te.cs,Te.css,hU,this,hB,hO,hP,hi]
 |@betar n N ls f a N2 ls2 s b m r n' e hd ho hd2 ih2=>
  intro ht hn A X R hR n0 e0;have mB:=fun f e=>zmg (A.length+(X.length+1)) env f e R hR
  have hP:=fun t n e=>zef env t n e A X R hR
  have hf:=ht.all f (by simp)
  have ha:=ht.all a (by simp)
  have hl:=hd.ok hE hf;have hle:=hd.le;have hb:=hl.all b (by simp)
  have:=zrq env hE hd hf hn A X R hR n 0;rw[<- zko]at this;obtain⟨x,hx,h2⟩:=ih2 (ze6 ho hb ha) (by omega) A X R hR n0 e0
  have hU:=zei env n 0 4 N ls [f,a] (fun h=>absurd h (by decide)) A X R hR
  simp only[Te.css,show decide ((4:Int)=3)=false from rfl,Bool.false_and]at hU
  have hO:=fun H=>znr b a hb ha H
  simp only[ho,zjl]at hO;have hB:=zd6 env ((m+1:Nat):Int) (by omega) A X R hR
  rw[if_neg (by omega),show (((m+1:Nat):Int) - 1)=m by omega]at hB
  refine⟨x,hx,?_⟩;simp only[Te.cs,Te.css]at this;rw[zad,zab];simp only[↓reduceIte,go_sem,Te.cs,Te.css,hU,this,hB,hO,hP,h2]
end Go.Ab
end
section
set_option linter.unusedVariables false
set_option linter.unusedSimpArgs false
set_option maxRecDepth 100000
set_option maxHeartbeats 2000000
namespace Go.Ab
open Go.RowKit Go.Proofs
theorem z0u(env:List De)(n e:Int)(A X:List AO):F zbj [.ptr A.length 0,.int .i64 e] (A++(.box [.sl (De.css env),.int .i64 n,.int .i64 0]::X)) =
  some (.ret (.bool false),A++(.box [.sl (De.css env),.int .i64 n,.int .i64 e]::X)):=by
 have hf0:=fun (o o':AO) r (ho:LtO (A.length+(X.length+1)) o')=>zfe (A:=A) (X:=X) (o:=o) (o':=o') (r:=r) ho
 rw[zpc];simp only[↓reduceIte,go_sem,hf0,zoy]
theorem zmd(env:List De)(n:Int)(hn:0<=n/\n<=1000000)(A X:List AO):F zai [.ptr A.length 0] (A++(.box [.sl (De.css env),.int .i64 n,.int .i64 0]::X)) =
  if n=0 then some (.ret (.bool false),A++(.box [.sl (De.css env),.int .i64 0,.int .i64 40]::X)) else some (.ret (.bool true),A++(.box [.sl (De.css env),.int .i64 (n - 1),.int .i64 0]::X)):=by
 have hf0:=fun (o o':AO) r (ho:LtO (A.length+(X.length+1)) o')=>zfe (A:=A) (X:=X) (o:=o) (o':=o') (r:=r) ho
 rw[zpd];by_cases h:n=0
 ·subst h
  simp only[↓reduceIte,go_sem,hf0,zoy,z0u]
 ·simp only[↓reduceIte,go_sem,hf0,zoy,h,zam (n:=n - 1) (by omega) (by omega)]
theorem z0r(env:List De)(t:Te)(n e:Int)(A X:List AO):F zbw [.ptr A.length 0,.agg t.cs,.int .i64 e] (A++(.box [.sl (De.css env),.int .i64 n,.int .i64 0]::X)) =
  some (.ret (.agg t.cs),A++(.box [.sl (De.css env),.int .i64 n,.int .i64 e]::X)):=by
 have hf0:=fun (o o':AO) r (ho:LtO (A.length+(X.length+1)) o')=>zfe (A:=A) (X:=X) (o:=o) (o':=o') (r:=r) ho
 rw[zqc];by_cases h:e=0
 ·subst h
  simp only[↓reduceIte,go_sem,hf0,zoy]
 ·simp only[↓reduceIte,go_sem,hf0,zoy,h,z0u]
theorem yew{A Y Z:List AO}{o1 o1' o2 o2' o3 o3':AO}{n:Nat}(h1:LtO n o1')(h2:LtO n o2')(h3:LtO n o3'):∀(id:Nat) (o:AO),(A++(o1' :: (Y++(o2' :: o3' :: Z))))[id]?=some o->(A++(o1::(Y++(o2::o3::Z))))[id]?=some o\/LtO n o:=by
 intro id o ho;by_cases hi:id<A.length
 ·rw[List.getElem?_append_left hi]at ho ⊢;exact .inl ho
 rw[List.getElem?_append_right (by omega)]at ho ⊢
 cases hj:id - A.length with
 |zero=>rw[hj]at ho;simp at ho;subst ho;exact .inr h1
 |succ j=>
  rw[hj]at ho;simp only[List.getElem?_cons_succ]at ho ⊢;by_cases hy:j<Y.length
  ·rw[List.getElem?_append_left hy]at ho ⊢;exact .inl ho
  rw[List.getElem?_append_right (by omega)]at ho ⊢
  match j - Y.length,ho with
  |0,ho=>simp at ho;subst ho;exact .inr h2
  |1,ho=>simp at ho;subst ho;exact .inr h3
  |i+2,ho=>simp at ho;exact .inl (by simpa using ho)
theorem zus{A Y Z:List AO}{env:List De}{n e n' e':Int}{ver ver':Nat}{es es':List Te}{k N k' N':Int}{ls ls':List Lv}{ks ks':List Te}{b:Bool}:
  ze4 (A++(.box [.sl (De.css env),.int .i64 n,.int .i64 e]::(Y++(.lst ver 4 (Te.css es) :: .box [.ptr A.length 0,.int .i64 k,.int .i64 N,.sl (Lv.css ls),.sl (Te.css ks),.ol (A.length+(Y.length+1)) ver]::Z)))) (.ret (.bool b))
   (A++(.box [.sl (De.css env),.int .i64 n',.int .i64 e']::(Y++(.lst ver' 4 (Te.css es') :: .box [.ptr A.length 0,.int .i64 k',.int .i64 N',.sl (Lv.css ls'),.sl (Te.css ks'),.ol (A.length+(Y.length+1)) ver']::Z)))) =
  some (.ret (.bool b),A++(.box [.sl (De.css env),.int .i64 n',.int .i64 e']::(Y++(.lst ver' 4 (Te.css es') :: .box [.ptr A.length 0,.int .i64 k',.int .i64 N',.sl (Lv.css ls'),.sl (Te.css ks'),.ol (A.length+(Y.length+1)) ver']::Z)))):=by
 refine zpx (by simp) (.bool _) (yew (zoy _ _ _ _) (fun a ha=>of_eq_true (z4r _ es') a ha) ?_)
 intro a ha;simp at ha;rcases ha with rfl|rfl|rfl|rfl|rfl|rfl
 ·exact .ptr (by simp)
 ·exact .int _ _
 ·exact .int _ _
 ·exact .sl fun a ha=>of_eq_true (z6z _ ls') a ha
 ·exact .sl fun a ha=>of_eq_true (z4r _ ks') a ha
 ·exact .ol (by simp)
theorem let_ok(env:List De)(n:Nat)(hn:n+1<=1000000)(A Y Z:List AO)(ver:Nat)(es:List Te)(N:Int)(ls:List Lv)(s v b k2:Te)(hb:b.ok)(hv:v.ok)(r:Te)(e:Int)(ho:zlz b v=(r,e)):
  F zcm [.ptr (A.length+(Y.length+2)) 0] (A++(.box [.sl (De.css env),.int .i64 (n+1:Nat),.int .i64 0]::(Y++(.lst ver 4 (Te.css es) :: .box [.ptr A.length 0,.int .i64 7,.int .i64 N,.sl (Lv.css ls),.sl (Te.css [s,v,b]),.ol (A.length+(Y.length+1)) ver]::Z)))) =
  some (.ret (.bool true),A++(.box [.sl (De.css env),.int .i64 n,.int .i64 e]::(Y++(.lst ver 4 (Te.css es) :: .box (.ptr A.length 0::(r.cs++[.ol (A.length+(Y.length+1)) ver]))::Z)))):=by
 have hO:=fun H=>z7v b v hb hv H
 simp only[ho,zjl]at hO;have hB:∀X,F zai [.ptr A.length 0] (A++(.box [.sl (De.css env),.int .i64 (n+1:Nat),.int .i64 0]::X))=some (.ret (.bool true),A++(.box [.sl (De.css env),.int .i64 n,.int .i64 0]::X)):=by
  intro X;have hB:=zmd env ((n+1:Nat):Int) (by omega) A X
  rwa [if_neg (by omega),show (((n+1:Nat):Int) - 1)=n by omega]at hB
 cases r with
 |mk k' n' ls' ks'=>
 have hP:=fun e X=>z0r env (.mk k' n' ls' ks') n e A X
 simp only[Te.cs]at hP hO;rw[zl9];simp only[↓reduceIte,go_sem,Te.cs,hB,hO,hP,zus]
theorem let0_ok(env:List De)(A Y Z:List AO)(ver:Nat)(es:List Te)(N:Int)(ls:List Lv)(ks:List Te):
  F zcm [.ptr (A.length+(Y.length+2)) 0] (A++(.box [.sl (De.css env),.int .i64 0,.int .i64 0]::(Y++(.lst ver 4 (Te.css es) :: .box [.ptr A.length 0,.int .i64 7,.int .i64 N,.sl (Lv.css ls),.sl (Te.css ks),.ol (A.length+(Y.length+1)) ver]::Z)))) =
  some (.ret (.bool true),A++(.box [.sl (De.css env),.int .i64 0,.int .i64 40]::(Y++(.lst ver 4 (Te.css es) :: .box [.ptr A.length 0,.int .i64 7,.int .i64 N,.sl (Lv.css ls),.sl (Te.css ks),.ol (A.length+(Y.length+1)) ver]::Z)))):=by
 have hB:∀X,F zai [.ptr A.length 0] (A++(.box [.sl (De.css env),.int .i64 0,.int .i64 0]::X))=some (.ret (.bool false),A++(.box [.sl (De.css env),.int .i64 0,.int .i64 40]::X)):=by
  intro X;have hB:=zmd env 0 (by omega) A X
  rwa [if_pos rfl]at hB
 rw[zl9];simp only[↓reduceIte,go_sem,hB,zus]
theorem yah{env:List De}{j:Nat}{ls:List Lv}(h:zwg env (j:Int) ls=none):(env.length<=j)\/∃d,env[j]?=some d/\j<env.length/\(d.has=false\/d.has=true/\¬ (ls.length:Int)=d.p):=by
 unfold zwg at h;simp only[Int.toNat_natCast]at h
 cases hg:env[j]? with
 |none=>exact .inl (List.getElem?_eq_none_iff.1 hg)
 |some d=>
  have hl:j<env.length:=by
   rcases Nat.lt_or_ge j env.length with h|h
   ·exact h
   ·rw[List.getElem?_eq_none h]at hg;cases hg
  rw[hg]at h;dsimp only at h;refine .inr ⟨d,rfl,hl,?_⟩
  split at h
  ·cases h
  ·rename_i hn
   cases hh:d.has
   ·exact .inl rfl
   ·exact .inr ⟨rfl,fun hp=>hn ⟨hh,hp⟩⟩
theorem yd8(env:List De)(n e:Int)(A Y Z:List AO)(ver:Nat)(es:List Te)(N:Int)(hN:0<=N)(ls:List Lv)(ks:List Te)(hu:zwg env N ls=none):
  F za2 [.ptr (A.length+(Y.length+2)) 0] (A++(.box [.sl (De.css env),.int .i64 n,.int .i64 e]::(Y++(.lst ver 4 (Te.css es) :: .box [.ptr A.length 0,.int .i64 3,.int .i64 N,.sl (Lv.css ls),.sl (Te.css ks),.ol (A.length+(Y.length+1)) ver]::Z)))) =
  some (.ret (.bool false),A++(.box [.sl (De.css env),.int .i64 n,.int .i64 e]::(Y++(.lst ver 4 (Te.css es) :: .box [.ptr A.length 0,.int .i64 3,.int .i64 N,.sl (Lv.css ls),.sl (Te.css ks),.ol (A.length+(Y.length+1)) ver]::Z)))):=by
 obtain⟨j,rfl⟩:=Int.eq_ofNat_of_zero_le hN;rw[zey];rcases yah hu with h|⟨d,hg,hl,hh|⟨hh,hp⟩⟩
 ·simp only[↓reduceIte,go_sem,show (env.length:Int)<=(j:Int) by omega,zus]
 ·simp only[↓reduceIte,go_sem,show ¬ (env.length:Int)<=(j:Int) by omega,hg,hh,zus]
 ·simp only[↓reduceIte,go_sem,show ¬ (env.length:Int)<=(j:Int) by omega,hg,hh,hp,zus]
theorem yd7(env:List De)(hE:zt5 env)(n:Nat)(hn:n+1<=1000000)(A Y Z:List AO)(ver:Nat)(es:List Te)(N:Int)(hN:0<=N)(ls:List Lv)(hls:zsh ls)(hll:ls.length<=140737488355328)(ks:List Te)(d:De)(hu:zwg env N ls=some d)(r:Te)(e:Int)(hs:zpj d.value ls []=(r,e)):
  F za2 [.ptr (A.length+(Y.length+2)) 0] (A++(.box [.sl (De.css env),.int .i64 (n+1:Nat),.int .i64 0]::(Y++(.lst ver 4 (Te.css es) :: .box [.ptr A.length 0,.int .i64 3,.int .i64 N,.sl (Lv.css ls),.sl (Te.css ks),.ol (A.length+(Y.length+1)) ver]::Z)))) =
  some (.ret (.bool true),A++(.box [.sl (De.css env),.int .i64 n,.int .i64 e]::(Y++(.lst ver 4 (Te.css es) :: .box (.ptr A.length 0::(r.cs++[.ol (A.length+(Y.length+1)) ver]))::Z)))):=by
 have hm:=zns hu;obtain⟨j,rfl⟩:=Int.eq_ofNat_of_zero_le hN;simp only[Int.toNat_natCast]at hm;have hS:=fun H=>TSub_ok d.value ls [] (hE.2 d (List.mem_of_getElem? hm.1)).2.2.2 hls zri hll (by simp) H
 simp only[hs,zjl,Lv.css]at hS;have hl:(j:Int)<(env.length:Int):=by
  have:=(List.getElem?_eq_some_iff.1 hm.1).1;omega
 have hB:∀X,F zai [.ptr A.length 0] (A++(.box [.sl (De.css env),.int .i64 (n+1:Nat),.int .i64 0]::X))=some (.ret (.bool true),A++(.box [.sl (De.css env),.int .i64 n,.int .i64 0]::X)):=by
  intro X;have hB:=zmd env ((n+1:Nat):Int) (by omega) A X
  rwa [if_neg (by omega),show (((n+1:Nat):Int) - 1)=n by omega]at hB
 cases r with
 |mk k' n' ls' ks'=>
 have hP:=fun e X=>z0r env (.mk k' n' ls' ks') n e A X
 simp only[Te.cs]at hP hS;rw[zey];simp only[↓reduceIte,go_sem,Te.cs,show ¬ (env.length:Int)<=(j:Int) by omega,hl,hm.1,hm.2.1,hm.2.2,hB,hS,hP,zus]
theorem yd9(env:List De)(A Y Z:List AO)(ver:Nat)(es:List Te)(N:Int)(hN:0<=N)(ls:List Lv)(ks:List Te)(d:De)(hu:zwg env N ls=some d):
  F za2 [.ptr (A.length+(Y.length+2)) 0] (A++(.box [.sl (De.css env),.int .i64 0,.int .i64 0]::(Y++(.lst ver 4 (Te.css es) :: .box [.ptr A.length 0,.int .i64 3,.int .i64 N,.sl (Lv.css ls),.sl (Te.css ks),.ol (A.length+(Y.length+1)) ver]::Z)))) =
  some (.ret (.bool true),A++(.box [.sl (De.css env),.int .i64 0,.int .i64 40]::(Y++(.lst ver 4 (Te.css es) :: .box [.ptr A.length 0,.int .i64 3,.int .i64 N,.sl (Lv.css ls),.sl (Te.css ks),.ol (A.length+(Y.length+1)) ver]::Z)))):=by
 have hm:=zns hu;obtain⟨j,rfl⟩:=Int.eq_ofNat_of_zero_le hN;simp only[Int.toNat_natCast]at hm;have hl:(j:Int)<(env.length:Int):=by
  have:=(List.getElem?_eq_some_iff.1 hm.1).1;omega
 have hB:∀X,F zai [.ptr A.length 0] (A++(.box [.sl (De.css env),.int .i64 0,.int .i64 0]::X))=some (.ret (.bool false),A++(.box [.sl (De.css env),.int .i64 0,.int .i64 40]::X)):=by
  intro X;have hB:=zmd env 0 (by omega) A X
  rwa [if_pos rfl]at hB
 rw[zey];simp only[↓reduceIte,go_sem,show ¬ (env.length:Int)<=(j:Int) by omega,hl,hm.1,hm.2.1,hm.2.2,hB,zus]
theorem lamN_ok(env:List De)(n e:Int)(A Y Z:List AO)(ver:Nat)(k N:Int)(ls:List Lv)(ks:List Te):
  F zba [.ptr (A.length+(Y.length+2)) 0] (A++(.box [.sl (De.css env),.int .i64 n,.int .i64 e]::(Y++(.lst ver 4 (Te.css []) :: .box [.ptr A.length 0,.int .i64 k,.int .i64 N,.sl (Lv.css ls),.sl (Te.css ks),.ol (A.length+(Y.length+1)) ver]::Z)))) =
  some (.ret (.bool false),A++(.box [.sl (De.css env),.int .i64 n,.int .i64 e]::(Y++(.lst ver 4 (Te.css []) :: .box [.ptr A.length 0,.int .i64 k,.int .i64 N,.sl (Lv.css ls),.sl (Te.css ks),.ol (A.length+(Y.length+1)) ver]::Z)))):=by
 rw[zfx];simp only[↓reduceIte,go_sem,List.length_nil,Int.natCast_zero,show IntKind.i64.wrap (-1) = -1 from by decide,show ((-1:Int)<0) from by decide,zus]
theorem lam_ok(env:List De)(n:Nat)(hn:n+1<=1000000)(A Y Z:List AO)(ver:Nat)(es:List Te)(hes:es.length<=1073741824)(a:Te)(ha:a.ok)(k N:Int)(ls:List Lv)(s b:Te)(hb:b.ok)(r:Te)(e:Int)(ho:zlz b a=(r,e)):
  F zba [.ptr (A.length+(Y.length+2)) 0] (A++(.box [.sl (De.css env),.int .i64 (n+1:Nat),.int .i64 0]::(Y++(.lst ver 4 (Te.css (es++[a])) :: .box [.ptr A.length 0,.int .i64 k,.int .i64 N,.sl (Lv.css ls),.sl (Te.css [s,b]),.ol (A.length+(Y.length+1)) ver]::Z)))) =
  some (.ret (.bool true),A++(.box [.sl (De.css env),.int .i64 n,.int .i64 e]::(Y++(.lst (ver+1) 4 (Te.css es) :: .box (.ptr A.length 0::(r.cs++[.ol (A.length+(Y.length+1)) (ver+1)]))::Z)))):=by
 have hO:=fun H=>z7v b a hb ha H
 simp only[ho,zjl]at hO;have hB:∀X,F zai [.ptr A.length 0] (A++(.box [.sl (De.css env),.int .i64 (n+1:Nat),.int .i64 0]::X))=some (.ret (.bool true),A++(.box [.sl (De.css env),.int .i64 n,.int .i64 0]::X)):=by
  intro X;have hB:=zmd env ((n+1:Nat):Int) (by omega) A X
  rwa [if_neg (by omega),show (((n+1:Nat):Int) - 1)=n by omega]at hB
 simp only[Int.natCast_add,Int.natCast_one]at hB;have htk:(Te.css (es++[a])).take es.length=Te.css es:=by simp[Te.css_eq]
 cases r with
 |mk k' n' ls' ks'=>
 have hP:=fun e X=>z0r env (.mk k' n' ls' ks') n e A X
 simp only[Te.cs]at hP hO;rw[zfx];simp only[↓reduceIte,go_sem,Te.cs,zf6,Int.natCast_add,Int.natCast_one,zam (n:=(es.length:Int)) (by omega) (by omega),show ¬ (es.length:Int)<0 by omega,show es.length<es.length+1 by omega,show (es.length:Int)<=(es.length:Int)+1 by omega,Int.add_sub_cancel,hB,hO,hP,htk,zus]
theorem lam0_ok(env:List De)(A Y Z:List AO)(ver:Nat)(es:List Te)(hes:es.length<=1073741824)(a:Te)(k N:Int)(ls:List Lv)(ks:List Te):
  F zba [.ptr (A.length+(Y.length+2)) 0] (A++(.box [.sl (De.css env),.int .i64 0,.int .i64 0]::(Y++(.lst ver 4 (Te.css (es++[a])) :: .box [.ptr A.length 0,.int .i64 k,.int .i64 N,.sl (Lv.css ls),.sl (Te.css ks),.ol (A.length+(Y.length+1)) ver]::Z)))) =
  some (.ret (.bool true),A++(.box [.sl (De.css env),.int .i64 0,.int .i64 40]::(Y++(.lst (ver+1) 4 (Te.css es) :: .box [.ptr A.length 0,.int .i64 k,.int .i64 N,.sl (Lv.css ls),.sl (Te.css ks),.ol (A.length+(Y.length+1)) (ver+1)]::Z)))):=by
 have hB:∀X,F zai [.ptr A.length 0] (A++(.box [.sl (De.css env),.int .i64 0,.int .i64 0]::X))=some (.ret (.bool false),A++(.box [.sl (De.css env),.int .i64 0,.int .i64 40]::X)):=by
  intro X;have hB:=zmd env 0 (by omega) A X
  rwa [if_pos rfl]at hB
 have htk:(Te.css (es++[a])).take es.length=Te.css es:=by simp[Te.css_eq]
 rw[zfx];simp only[↓reduceIte,go_sem,Te.cs,zf6,Int.natCast_add,Int.natCast_one,zam (n:=(es.length:Int)) (by omega) (by omega),show ¬ (es.length:Int)<0 by omega,show es.length<es.length+1 by omega,show (es.length:Int)<=(es.length:Int)+1 by omega,Int.add_sub_cancel,hB,htk,zus]
theorem ygb(es:List Te)(z:List AV)(x:Te):(Te.css es++[z]).set es.length x.cs=Te.css (es++[x]):=by
 rw[List.set_append_right _ _ (by rw[zq4];exact Nat.le_refl _),zq4,Nat.sub_self]
 simp[Te.css_eq]
theorem z27(es:List Te)(z:List AV):(Te.css es++[z]).length=es.length+1:=by rw[List.length_append,zq4];rfl
theorem z28(es:List Te)(z:List AV):(Te.css es++[z])[es.length]?=some z:=by rw[List.getElem?_append_right (by rw[zq4];exact Nat.le_refl _),zq4,Nat.sub_self];rfl
theorem yf8(env:List De)(n e:Int)(A Y Z:List AO)(ver:Nat)(es:List Te)(hes:es.length<1073741824)(k N:Int)(ls:List Lv)(f a:Te):
  F zdc [.ptr (A.length+(Y.length+2)) 0] (A++(.box [.sl (De.css env),.int .i64 n,.int .i64 e]::(Y++(.lst ver 4 (Te.css es) :: .box [.ptr A.length 0,.int .i64 k,.int .i64 N,.sl (Lv.css ls),.sl (Te.css [f,a]),.ol (A.length+(Y.length+1)) ver]::Z)))) =
  some (.ret (.bool true),A++(.box [.sl (De.css env),.int .i64 n,.int .i64 e]::(Y++(.lst (ver+1) 4 (Te.css (es++[a])) :: .box (.ptr A.length 0::(f.cs++[.ol (A.length+(Y.length+1)) (ver+1)]))::Z)))):=by
 cases f with
 |mk k' n' ls' ks'=>
 rw[zrw];simp only[↓reduceIte,go_sem,Te.cs,z27,z28,ygb,show es.length<es.length+1 by omega,show es.length+(0+1)<=1073741824 by omega,zus]
def zqe:List (AV×AV):=[(.int .i64 7,.fn (.func zcm) [] []),(.int .i64 3,.fn (.func za2) [] []),(.int .i64 5,.fn (.func zba) [] []),(.int .i64 4,.fn (.func zdc) [] [])]
theorem yf5(H:List AO):F zjp [] H=some (.ret (.fmap zqe),H):=by
 rw[zwq];simp only[↓reduceIte,go_sem,zmh,zgq,zqe]
theorem zfa:zmh .i64 zqe=true:=rfl
theorem z7z(k:Int)(h:k≠7/\k≠3/\k≠5/\k≠4):zgq k zqe=some none:=by
 simp only[zgq,zqe,if_neg h.1,if_neg h.2.1,if_neg h.2.2.1,if_neg h.2.2.2]
theorem yan:zgq 7 zqe=some (some (.fn (.func zcm) [] [])):=rfl
theorem z39:zgq 3 zqe=some (some (.fn (.func za2) [] [])):=rfl
theorem z38:zgq 5 zqe=some (some (.fn (.func zba) [] [])):=rfl
theorem steps_4:zgq 4 zqe=some (some (.fn (.func zdc) [] [])):=rfl
abbrev encP(p:Int×Te):List AV:=[.int .i64 p.1,.agg p.2.cs]
def bkr:List Te->List (Int×Te)
 |[]=>[]
 |x::r=>(r.length,x)::bkr r
def z9e(id ver:Nat):AV:=.fn (.func zbe) [] [.fp [.ol id ver]]
theorem back_ok(id ver:Nat)(H:List AO)(hi:id<H.length):F zdj [.ol id ver] H=some (.ret (z9e id ver),H):=by
 rw[zof];have h:Lt H.length (.fn (.func zbe) [] [.fp [.ol id ver]])=True:=by
  simp only[eq_iff_iff,iff_true];refine .fn (by simp) ?_
  intro x hx;simp at hx;subst hx;exact .fp (by intro a ha;simp at ha;subst ha;exact .ol hi)
 simp only[↓reduceIte,go_sem,z9e,h]
theorem yia{S E:Type}{y:AV}{m:Nat}{W:S->List AO}{WE:E->List AO}{stp:S->Int×Te->Option (S ⊕ E)}(hy:Ys y m encP W WE stp)(id ver:Nat)(es:List Te)(hes:es.length<=1073741824)(hW:∀s,(W s)[id]?=some (.lst ver 4 (Te.css es)))
  (s:S) (X:List AO) (r:S ⊕ E) (hr:zl0 stp (bkr es.reverse) s=some r):F zbe [y,.fp [.ol id ver]] (W s++X)=some (.ret (.tup []),hp W WE r++X):=by
 have hone:=hy.one;have hcell:y.cells=[y]:=by cases y <;> first|rfl|(simp[AV.one]at hone)
 unfold AV.cells at hcell;unfold AV.one at hone;have l1:∀s,(W s).length=m:=fun s=>hy.len (.inl s)
 have hid:id<m:=by
  have:=hW s;have:=(List.getElem?_eq_some_iff.1 this).1;rw[l1 s]at this;exact this
 have hWX:∀s,(W s++X)[id]?=some (.lst ver 4 (Te.css es)):=fun s=>by rw[List.getElem?_append_left (by rw[l1];exact hid),hW s]
 have hfin:∀r:S ⊕ E,ze4 (W s++X) (.ret (.tup [])) (hp W WE r++X)=some (.ret (.tup []),hp W WE r++X):=fun r=>by
  have hf:=zy6 (H:=W s) (A:=hp W WE r) (X:=X) (J:=[]) (r:=.ret (.tup [])) (by rw[hy.len r];exact (l1 s).symm) (by rw[l1 s];exact hy.fr s r) (show Lt _ _ from .tup (by simp))
  rwa [List.append_nil]at hf
 have loop:∀(rev post:List Te) (a:S),es=rev.reverse++post->zl0 stp (bkr rev) a=some r ->
   zcp (W s++X) (W a++X) y (.fp [.ol id ver]) (.int .i64 ((rev.length:Int) - 1))=some (.ret (.tup []),hp W WE r++X):=by
  intro rev
  induction rev with
  |nil=>
   intro post a e hq;simp only[bkr,zl0]at hq;cases hq;have:=hfin (.inl a);simp only[ze3]at this;rw[zcp,zab];simp only[↓reduceIte,go_sem,List.length_nil,Int.natCast_zero,show ¬ (0:Int) <= -1 by decide,this]
  |cons x rev ih=>
   intro post a e hq;have hl:rev.length<es.length:=by rw[e];simp
   have hg:es[rev.length]?=some x:=by
    rw[e];simp
   rw[bkr,zl0]at hq;obtain⟨q,hst⟩:∃q,stp a (rev.length,x)=some q:=by
    cases h:stp a (rev.length,x) with
    |none=>rw[h]at hq;cases hq
    |some q=>exact⟨q,rfl⟩
   rw[hst]at hq;have hc:=hy.call a (rev.length,x) X q hst;simp only[encP]at hc;rw[zcp,zab]
   cases q with
   |inl a'=>
    have:=ih (x::post) a' (by rw[e];simp) hq
    simp only[ze3]at hc;simp only[↓reduceIte,go_sem,List.length_cons,Int.natCast_add,Int.natCast_one,Int.add_sub_cancel,show (0:Int)<=(rev.length:Int) by omega,hWX,hg,hl,hc,isL,hone,hcell,zam (n:=(rev.length:Int) - 1) (by omega) (by omega),this]
   |inr e=>
    dsimp only at hq;cases hq;simp only[zqf]at hc;have:=hfin (.inr e);simp only[zqf]at this;simp only[↓reduceIte,go_sem,List.length_cons,Int.natCast_add,Int.natCast_one,Int.add_sub_cancel,show (0:Int)<=(rev.length:Int) by omega,hWX,hg,hl,hc,isL,hone,hcell,this]
 have:=loop es.reverse [] s (by simp) hr
 simp only[List.length_reverse]at this;rw[zng];simp only[↓reduceIte,go_sem,hWX,zam (n:=(es.length:Int) - 1) (by omega) (by omega),this]
def z4z(p:AV)(n ver:Nat)(es:List Te)(s:Te):List AO:=[.lst 0 3 [],.lst 0 4 [],.lst ver 4 (Te.css es),.box (p::(s.cs++[.ol (n+2) ver])),.box [.ptr (n+3) 0]]
def yhf(s:Te)(x:Int×Te):Option (Te ⊕ Empty):=some (.inl (.mk 4 0 [] [s,x.2]))
theorem yhg(p:AV)(n ver:Nat)(es:List Te)(N:Nat)(hp:Lt N p)(hn:n+3<N)(s:Te):∀o∈z4z p n ver es s,LtO N o:=by
 intro o ho;simp only[z4z,List.mem_cons,List.not_mem_nil,or_false]at ho;rcases ho with rfl|rfl|rfl|rfl|rfl
 ·intro a ha;simp at ha
 ·intro a ha;simp at ha
 ·exact fun a ha=>of_eq_true (z4r _ es) a ha
 ·intro a ha
  rcases List.mem_cons.1 ha with rfl|ha
  ·exact hp
  ·rcases List.mem_append.1 ha with ha|ha
   ·exact zs7 _ s a ha
   ·simp at ha;subst ha;exact .ol (by omega)
 ·intro a ha
  simp at ha;subst ha;exact .ptr (by omega)
theorem head_ys(H:List AO)(p:AV)(hp:Lt H.length p)(ver:Nat)(es:List Te):Ys (.yd (H.length+5+1)) (H.length+5+2) encP (fun s=>H++(z4z p H.length ver es s++[.dfr,.slp .ready 60 [(5,.ptr (H.length+4) 0)] [44,45] za0 zay])) (fun e:Empty=>H++(noE e++[.dfr,.slp (.done (noE e)) 60 [(5,.ptr (H.length+4) 0)] [44,45] za0 zay])) yhf:=by
 refine z30 H 5 encP (z4z p H.length ver es) noE noE yhf 60 [(5,.ptr (H.length+4) 0)] [44,45] za0 zay zmf zme (fun _=>rfl) ?_ ?_ ?_ ?_
 ·rintro (s|e)
  ·rfl
  ·exact e.elim
 ·rintro s (s' | e) i o ho
  ·exact .inr (yhg p H.length ver es _ (hp.mono (by omega)) (by omega) s' o (List.mem_of_getElem? ho))
  ·exact e.elim
 ·intro q hq;simp at hq;subst hq;exact .ptr (by omega)
 ·rintro ⟨k,n,ls,ks⟩ ⟨i,a⟩ X r hst
  refine⟨[],?_⟩;unfold yhf at hst;cases hst;rcases a with⟨k2,n2,ls2,ks2⟩;simp only[↓reduceIte,go_sem,z4z,encP,Te.cs,Te.css,Lv.css,z4t,isL]
def reb:Te->List (Int×Te)->Te
 |t,[]=>t
 |t,x::r=>reb (.mk 4 0 [] [t,x.2]) r
theorem z13:∀(xs:List (Int×Te)) (t:Te),zl0 yhf xs t=some (.inl (reb t xs))
 |[],t=>rfl
 |x::r,t=>by rw[zl0,reb];exact z13 r _
def znx(t:Te)(es:List Te):Te:=reb t (bkr es.reverse)
theorem z4h(t:Te):znx t []=t:=rfl
theorem z1m(t a:Te)(es:List Te):znx t (es++[a])=znx (.mk 4 0 [] [t,a]) es:=by
 rw[znx,List.reverse_append,List.reverse_cons,List.reverse_nil,List.nil_append,List.cons_append,List.nil_append,bkr,reb];rfl
end Go.Ab
end
section
set_option linter.unusedVariables false
set_option linter.unusedSimpArgs false
set_option maxRecDepth 100000
set_option maxHeartbeats 2000000
namespace Go.Ab
open Go.RowKit Go.Proofs
def hdH(A X:List AO)(env:List De)(n e:Int)(ver:Nat)(es:List Te)(t:Te):List AO :=
 A++(.box [.sl (De.css env),.int .i64 n,.int .i64 e]::(X++[.lst 0 3 [],.lst 0 4 [],.lst ver 4 (Te.css es),.box (.ptr A.length 0::(t.cs++[.ol (A.length+(X.length+3)) ver])),.box [.ptr (A.length+(X.length+4)) 0]]))
noncomputable def Lh(A X:List AO)(env:List De)(n0 e0 n e:Int)(ver:Nat)(es:List Te)(t:Te):Option RH :=
 zan (A++(.box [.sl (De.css env),.int .i64 n0,.int .i64 e0]::X)) (hdH A X env n e ver es t) [] (.ptr A.length 0) (.ptr (A.length+(X.length+5)) 0) (.fmap zqe) [.int .i64 0,.int .i64 0,.sl [],.sl []]
theorem z53(env:List De)(t:Te)(n e:Int)(A X:List AO):F zaw [.ptr A.length 0,.agg t.cs] (A++(.box [.sl (De.css env),.int .i64 n,.int .i64 e]::X))=Lh A X env n e n e 0 [] t:=by
 rw[zpb,Lh,hdH];rcases t with⟨k,N,ls,ks⟩;simp only[↓reduceIte,go_sem,yf5,Te.cs,Te.css]
theorem yfb(A X:List AO)(env:List De)(n0 e0 n e:Int)(ver:Nat)(es:List Te)(hes:es.length<=1073741824)(k N:Int)(ls:List Lv)(ks:List Te)
  (hst:e≠0\/e=0/\(k≠7/\k≠3/\k≠5/\k≠4\/k=3/\0<=N/\zwg env N ls=none\/k=5/\es=[])) :
  Lh A X env n0 e0 n e ver es (.mk k N ls ks)=some (.ret (.agg (znx (.mk k N ls ks) es).cs),A++(.box [.sl (De.css env),.int .i64 n,.int .i64 e]::X)):=by
 have hl:(A++(.box [.sl (De.css env),.int .i64 n,.int .i64 e]::X)).length=A.length+(X.length+1):=by simp
 have hr:=yia (head_ys (A++(.box [.sl (De.css env),.int .i64 n,.int .i64 e]::X)) (.ptr A.length 0) (.ptr (by simp)) ver es) (A.length+(X.length+3)) ver es hes (fun s=>by
  rw[show A.length+(X.length+3)=(A++(AO.box [.sl (De.css env),.int .i64 n,.int .i64 e]::X)).length+2 by rw[hl];omega,z0l];rfl) (.mk k N ls ks) [] _ (z13 _ _)
 have he:=zs9 (H:=A++(.box [.sl (De.css env),.int .i64 n,.int .i64 e]::X)) (DR:=z4z (.ptr A.length 0) (A++(.box [.sl (De.css env),.int .i64 n,.int .i64 e]::X)).length ver es (znx (.mk k N ls ks) es)) (k:=5) rfl (st:=.ready) (nn:=60) (t:=[(5,.ptr (A.length+(X.length+5)) 0)]) (ps:=[44,45]) (asg:=za0) (body:=zay);rw[show reb (.mk k N ls ks) (bkr es.reverse)=znx (.mk k N ls ks) es from rfl]at hr
 simp only[hl]at hr he;have hf:=fun (o o':AO) r J (ho:LtO (A.length+(X.length+1)) o')=>zpy (A:=A) (X:=X) (J:=J) (o:=o) (o':=o') (r:=r) ho
 have hb:=fun c1 c2 c3 c4=>back_ok (A.length+(X.length+3)) ver (A++(.box [.sl (De.css env),.int .i64 n,.int .i64 e]::(X++[.lst 0 3 [],.lst 0 4 [],.lst ver 4 (Te.css es),.box [.ptr A.length 0,c1,c2,c3,c4,.ol (A.length+(X.length+3)) ver],.box [.ptr (A.length+(X.length+4)) 0]]))) (by simp)
 rcases hq:znx (.mk k N ls ks) es with⟨k2,N2,ls2,ks2⟩;simp only[hq,ze3,z4z,Te.cs,zgr,List.cons_append,List.nil_append,List.append_nil,List.append_assoc,Nat.add_assoc,Nat.reduceAdd]at hr he;rw[Lh,zan,zab,hdH];have hc:=fun (h:0<=N) (hu:zwg env N ls=none)=>yd8 env n 0 A (X++[.lst 0 3 [],.lst 0 4 []]) [.box [.ptr (A.length+(X.length+4)) 0]] ver es N h ls ks hu
 have hm:=lamN_ok env n 0 A (X++[.lst 0 3 [],.lst 0 4 []]) [.box [.ptr (A.length+(X.length+4)) 0]] ver 5 N ls ks;simp only[List.append_assoc,List.cons_append,List.nil_append,List.length_append,List.length_cons,List.length_nil,Nat.add_assoc,Nat.reduceAdd]at hc hm;rcases hst with h|⟨rfl,h|⟨rfl,h2,h3⟩|⟨rfl,rfl⟩⟩
 ·simp only[↓reduceIte,go_sem,Te.cs,h,hb,z9e,hr,he,hf,zoy,Nat.add_le_add_iff_left,Nat.reduceLeDiff,List.nodup_cons,List.not_mem_nil,not_false_eq_true,List.nodup_nil,and_self]
 ·simp only[↓reduceIte,go_sem,Te.cs,zfa,z7z k h,hb,z9e,hr,he,hf,zoy,Nat.add_le_add_iff_left,Nat.reduceLeDiff,List.nodup_cons,List.not_mem_nil,not_false_eq_true,List.nodup_nil,and_self]
 ·have hc:=hc h2 h3
  simp only[↓reduceIte,go_sem,Te.cs,zfa,z39,hc,hb,z9e,hr,he,hf,zoy,Nat.add_le_add_iff_left,Nat.reduceLeDiff,List.nodup_cons,List.not_mem_nil,not_false_eq_true,List.nodup_nil,and_self]
 ·simp only[↓reduceIte,go_sem,Te.cs,zfa,z38,hm,hb,z9e,hr,he,hf,zoy,Nat.add_le_add_iff_left,Nat.reduceLeDiff,List.nodup_cons,List.not_mem_nil,not_false_eq_true,List.nodup_nil,and_self]
variable (A X : List AO) (env : List De) (n0 e0 : Int)
theorem ye9(n:Nat)(hn:n+1<=1000000)(ver:Nat)(es:List Te)(N:Int)(ls:List Lv)(s v b:Te)(hb:b.ok)(hv:v.ok)(r:Te)(e:Int)(ho:zlz b v=(r,e)):
  Lh A X env n0 e0 (n+1:Nat) 0 ver es (.mk 7 N ls [s,v,b])=Lh A X env n0 e0 n e ver es r:=by
 have h:=let_ok env n hn A (X++[.lst 0 3 [],.lst 0 4 []]) [.box [.ptr (A.length+(X.length+4)) 0]] ver es N ls s v b s hb hv r e ho;simp only[List.append_assoc,List.cons_append,List.nil_append,List.length_append,List.length_cons,List.length_nil,Nat.add_assoc,Nat.reduceAdd]at h;rcases r with⟨k',n',ls',ks'⟩;simp only[Te.cs,List.cons_append,List.nil_append]at h
 conv=>lhs;rw[Lh,zan,zab,hdH]
 simp only[↓reduceIte,go_sem,Te.cs,zfa,yan,h,Lh,hdH]
theorem Lh_let0(ver:Nat)(es:List Te)(N:Int)(ls:List Lv)(ks:List Te):
  Lh A X env n0 e0 0 0 ver es (.mk 7 N ls ks)=Lh A X env n0 e0 0 40 ver es (.mk 7 N ls ks):=by
 have h:=let0_ok env A (X++[.lst 0 3 [],.lst 0 4 []]) [.box [.ptr (A.length+(X.length+4)) 0]] ver es N ls ks;simp only[List.append_assoc,List.cons_append,List.nil_append,List.length_append,List.length_cons,List.length_nil,Nat.add_assoc,Nat.reduceAdd]at h
 conv=>lhs;rw[Lh,zan,zab,hdH]
 simp only[↓reduceIte,go_sem,Te.cs,zfa,yan,h,Lh,hdH]
theorem z0s(hE:zt5 env)(n:Nat)(hn:n+1<=1000000)(ver:Nat)(es:List Te)(N:Int)(hN:0<=N)(ls:List Lv)(hls:zsh ls)(hll:ls.length<=140737488355328)(ks:List Te)(d:De)(hu:zwg env N ls=some d)(r:Te)(e:Int)(hs:zpj d.value ls []=(r,e)):
  Lh A X env n0 e0 (n+1:Nat) 0 ver es (.mk 3 N ls ks)=Lh A X env n0 e0 n e ver es r:=by
 have h:=yd7 env hE n hn A (X++[.lst 0 3 [],.lst 0 4 []]) [.box [.ptr (A.length+(X.length+4)) 0]] ver es N hN ls hls hll ks d hu r e hs;simp only[List.append_assoc,List.cons_append,List.nil_append,List.length_append,List.length_cons,List.length_nil,Nat.add_assoc,Nat.reduceAdd]at h;rcases r with⟨k',n',ls',ks'⟩;simp only[Te.cs,List.cons_append,List.nil_append]at h
 conv=>lhs;rw[Lh,zan,zab,hdH]
 simp only[↓reduceIte,go_sem,Te.cs,zfa,z39,h,Lh,hdH]
theorem yfc(ver:Nat)(es:List Te)(N:Int)(hN:0<=N)(ls:List Lv)(ks:List Te)(d:De)(hu:zwg env N ls=some d):
  Lh A X env n0 e0 0 0 ver es (.mk 3 N ls ks)=Lh A X env n0 e0 0 40 ver es (.mk 3 N ls ks):=by
 have h:=yd9 env A (X++[.lst 0 3 [],.lst 0 4 []]) [.box [.ptr (A.length+(X.length+4)) 0]] ver es N hN ls ks d hu;simp only[List.append_assoc,List.cons_append,List.nil_append,List.length_append,List.length_cons,List.length_nil,Nat.add_assoc,Nat.reduceAdd]at h
 conv=>lhs;rw[Lh,zan,zab,hdH]
 simp only[↓reduceIte,go_sem,Te.cs,zfa,z39,h,Lh,hdH]
theorem yfa(n:Nat)(hn:n+1<=1000000)(ver:Nat)(es:List Te)(hes:es.length<=1073741824)(a:Te)(ha:a.ok)(N:Int)(ls:List Lv)(s b:Te)(hb:b.ok)(r:Te)(e:Int)(ho:zlz b a=(r,e)):
  Lh A X env n0 e0 (n+1:Nat) 0 ver (es++[a]) (.mk 5 N ls [s,b])=Lh A X env n0 e0 n e (ver+1) es r:=by
 have h:=lam_ok env n hn A (X++[.lst 0 3 [],.lst 0 4 []]) [.box [.ptr (A.length+(X.length+4)) 0]] ver es hes a ha 5 N ls s b hb r e ho;simp only[List.append_assoc,List.cons_append,List.nil_append,List.length_append,List.length_cons,List.length_nil,Nat.add_assoc,Nat.reduceAdd]at h;rcases r with⟨k',n',ls',ks'⟩;simp only[Te.cs,List.cons_append,List.nil_append]at h
 conv=>lhs;rw[Lh,zan,zab,hdH]
 simp only[↓reduceIte,go_sem,Te.cs,zfa,z38,h,Lh,hdH]
theorem Lh_lam0(ver:Nat)(es:List Te)(hes:es.length<=1073741824)(a:Te)(N:Int)(ls:List Lv)(ks:List Te):
  Lh A X env n0 e0 0 0 ver (es++[a]) (.mk 5 N ls ks)=Lh A X env n0 e0 0 40 (ver+1) es (.mk 5 N ls ks):=by
 have h:=lam0_ok env A (X++[.lst 0 3 [],.lst 0 4 []]) [.box [.ptr (A.length+(X.length+4)) 0]] ver es hes a 5 N ls ks;simp only[List.append_assoc,List.cons_append,List.nil_append,List.length_append,List.length_cons,List.length_nil,Nat.add_assoc,Nat.reduceAdd]at h
 conv=>lhs;rw[Lh,zan,zab,hdH]
 simp only[↓reduceIte,go_sem,Te.cs,zfa,z38,h,Lh,hdH]
theorem zto(n:Int)(ver:Nat)(es:List Te)(hes:es.length<1073741824)(N:Int)(ls:List Lv)(f a:Te):
  Lh A X env n0 e0 n 0 ver es (.mk 4 N ls [f,a])=Lh A X env n0 e0 n 0 (ver+1) (es++[a]) f:=by
 have h:=yf8 env n 0 A (X++[.lst 0 3 [],.lst 0 4 []]) [.box [.ptr (A.length+(X.length+4)) 0]] ver es hes 4 N ls f a;simp only[List.append_assoc,List.cons_append,List.nil_append,List.length_append,List.length_cons,List.length_nil,Nat.add_assoc,Nat.reduceAdd]at h;rcases f with⟨k',n',ls',ks'⟩;simp only[Te.cs,List.cons_append,List.nil_append]at h
 conv=>lhs;rw[Lh,zan,zab,hdH]
 simp only[↓reduceIte,go_sem,Te.cs,zfa,steps_4,h,Lh,hdH]
end Go.Ab
end
section
set_option linter.unusedVariables false
set_option linter.unusedSimpArgs false
set_option maxRecDepth 100000
set_option maxHeartbeats 2000000
namespace Go.Ab
open Go.RowKit Go.Proofs
def sz(t:Te):Nat:=(subs t).length
theorem zyd{t:Te}(h:zcc t=true):sz t<=600:=by
 have:parts t 601<=600:=by unfold zcc zc6 at h;simp at h;exact h.1
 have:=subs_parts t 601 (by omega)
 unfold sz;omega
theorem zuk{b v r:Te}(h:zlz b v=(r,0)):zcc b=true/\zcc v=true/\r=openT v b 0/\zcc r=true:=by
 unfold zlz at h
 split at h
 ·simp at h
 ·rename_i hh
  simp only[not_or,Bool.not_eq_false]at hh;unfold zuo at h
  split at h
  ·rename_i hs
   simp only[Prod.mk.injEq,and_true]at h;subst h;exact⟨hh.1,hh.2,rfl,hs⟩
  ·simp at h
mutual
theorem subs_subT(ps ms:List Lv):∀t:Te,(subs (subT ps ms t)).length=(subs t).length
 |.mk k n ls ks=>by rw[subT,subs,subs,List.length_cons,List.length_cons,subss_subT ps ms ks]
theorem subss_subT(ps ms:List Lv):∀ks:List Te,(subss (subTs ps ms ks)).length=(subss ks).length
 |[]=>rfl
 |x::r=>by rw[subTs,subss,subss,List.length_append,List.length_append,subs_subT ps ms x,subss_subT ps ms r]
end
theorem z0q{t r:Te}{ps ms:List Lv}(h:zpj t ps ms=(r,0)):zcc t=true/\r=subT ps ms t/\okTm ps ms t=true:=by
 unfold zpj at h
 split at h
 ·simp at h
 ·rename_i hh
  simp only[not_or,Bool.not_eq_false]at hh
  split at h
  ·rename_i hs
   simp only[Prod.mk.injEq,and_true]at h;exact⟨hh.1,h.symm,hs⟩
  ·simp at h
theorem zp2{b v r:Te}(h:zlz b v=(r,0)):sz r<=600:=zyd (zuk h).2.2.2
theorem z0p{t r:Te}{ps ms:List Lv}(h:zpj t ps ms=(r,0)):sz r<=600:=by
 obtain⟨h1,rfl,_⟩:=z0q h;have:=zyd h1;unfold sz at *;rw[subs_subT];exact this
theorem zqd(N:Int)(ls:List Lv)(f a:Te):sz (.mk 4 N ls [f,a])=sz f+sz a+1:=by
 simp[sz,subs,subss]
theorem Hd.sz{env:List De}{n:Nat}{t t':Te}{n':Nat}(h:Hd env n t t' n'):sz t' + 600*n' <= sz t+600*n:=by
 induction h with
 |stuck=>exact Nat.le_refl _
 |lett ho _ ih=>have:=zp2 ho;omega
 |const _ _ hs _ ih=>have:=z0p hs;omega
 |app _ _ ih=>rw[zqd,zqd];omega
 |beta h1 ho _ ih1 ih2=>have:=zp2 ho;have:=h1.le;rw[zqd];omega
variable (A X : List AO) (env : List De) (n0 e0 : Int)
theorem z67(hE:zt5 env){n:Nat}{t t':Te}{n':Nat}(h:Hd env n t t' n'):t.ok->n<=1000000->∀(ver:Nat) (es:List Te),es.length+sz t+600*n<=1073741823->∃ver',ver<=ver' /\ Lh A X env n0 e0 n 0 ver es t=Lh A X env n0 e0 n' 0 ver' es t':=by
 induction h with
 |stuck=>exact fun _ _ ver es _=>⟨ver,Nat.le_refl _,rfl⟩
 |@lett n N ls s v b r t' n' ho hd ih=>
  intro ht hn ver es hs;have hb:=ht.all b (by simp)
  have hv:=ht.all v (by simp)
  have hz:=zp2 ho;obtain⟨w,h1,h2⟩:=ih (ze6 ho hb hv) (by omega) ver es (by omega)
  exact⟨w,h1,by rw[ye9 A X env n0 e0 n hn ver es N ls s v b hb hv r 0 ho,h2]⟩
 |@const n N ls ks d r t' n' hN hu hs hd ih=>
  intro ht hn ver es hz;have hz:=z0p hs;obtain⟨w,h1,h2⟩:=ih (zpz hE ht hu hs) (by omega) ver es (by omega)
  exact⟨w,h1,by rw[z0s A X env n0 e0 hE n hn ver es N hN ls ht.all2 ht.len2 ks d hu r 0 hs,h2]⟩
 |@app n N ls f a f' n' hd hk ih=>
  intro ht hn ver es hs;rw[zqd]at hs;obtain⟨w,h1,h2⟩:=ih (ht.all f (by simp)) hn (ver+1) (es++[a]) (by simp;omega)
  obtain⟨w,rfl⟩:∃u,w=u+1:=⟨w - 1,by omega⟩
  exact⟨w,by omega,by rw[zto A X env n0 e0 n ver es (by omega) N ls f a,h2,zto A X env n0 e0 n' w es (by omega) 0 [] f' a]⟩
 |@beta n N ls f a N2 ls2 s b m r t' n' hd ho hd2 ih1 ih2=>
  intro ht hn ver es hs;rw[zqd]at hs;have hf:=ht.all f (by simp)
  have ha:=ht.all a (by simp)
  have hl:=hd.ok hE hf;have hle:=hd.le;have hb:=hl.all b (by simp)
  have hz:=zp2 ho;obtain⟨w,h1,h2⟩:=ih1 hf hn (ver+1) (es++[a]) (by simp;omega)
  obtain⟨u,h3,h4⟩:=ih2 (ze6 ho hb ha) (by omega) (w+1) es (by omega)
  exact⟨u,by omega,by rw[zto A X env n0 e0 n ver es (by omega) N ls f a,h2,yfa A X env n0 e0 m (by omega) w es (by omega) a ha N2 ls2 s b hb r 0 ho,h4]⟩
theorem nfP_ok{n:Nat}{t t':Te}{n':Nat}(h:Hd env n t t' n'):∀(m:Nat) (ver:Nat) (es:List Te),(t'.kind=5->es=[])->es.length+sz t' <= 1073741823->Lh A X env n0 e0 m 0 ver es t' = some (.ret (.agg (znx t' es).cs),A++(.box [.sl (De.css env),.int .i64 m,.int .i64 0]::X)):=by
 induction h with
 |@stuck n k N ls ks h4 h7 h3=>
  intro m ver es h5 hs;refine yfb A X env n0 e0 m 0 ver es (by omega) k N ls ks (.inr ⟨rfl,?_⟩)
  by_cases k3:k=3
  ·exact .inr (.inl ⟨k3,h3 k3⟩)
  ·by_cases k5:k=5
   ·exact .inr (.inr ⟨k5,h5 k5⟩)
   ·exact .inl ⟨h7,k3,k5,h4⟩
 |lett _ _ ih=>exact ih
 |const _ _ _ _ ih=>exact ih
 |@app n N ls f a f' n' hd hk ih=>
  intro m ver es _ hs;rw[zqd]at hs;rw[zto A X env n0 e0 m ver es (by omega) 0 [] f' a,ih m (ver+1) (es++[a]) (fun h=>absurd h hk) (by simp;omega),z1m]
 |beta _ _ _ _ ih=>exact ih
theorem heP_ok(hE:zt5 env){n:Nat}{t:Te}{n':Nat}{e:Int}(h:He env n t n' e):t.ok->n<=1000000->∀(ver:Nat) (es:List Te),es.length+sz t+600*n<=1073741823 ->
  ∃x:Te,Lh A X env n0 e0 n 0 ver es t=some (.ret (.agg x.cs),A++(.box [.sl (De.css env),.int .i64 n',.int .i64 e]::X)):=by
 have fin:∀(m e:Int) (ver:Nat) (es:List Te) (x:Te),e≠0->es.length<=1073741824->∃y:Te,Lh A X env n0 e0 m e ver es x=some (.ret (.agg y.cs),A++(.box [.sl (De.css env),.int .i64 m,.int .i64 e]::X)):=by
  intro m e ver es x he hes;rcases x with⟨k,N,ls,ks⟩;exact⟨_,yfb A X env n0 e0 m e ver es hes k N ls ks (.inl he)⟩
 induction h with
 |@let0 N ls s v b=>
  intro ht hn ver es hs;have:=Lh_let0 A X env n0 e0 ver es N ls [s,v,b];rw[Int.natCast_zero,this];exact fin 0 40 ver es _ (by decide) (by omega)
 |@let2 n N ls s v b r e ho he=>
  intro ht hn ver es hs;rw[ye9 A X env n0 e0 n hn ver es N ls s v b (ht.all b (by simp)) (ht.all v (by simp)) r e ho]
  exact fin n e ver es r he (by omega)
 |@letr n N ls s v b r n' e ho hd ih=>
  intro ht hn ver es hs;have hb:=ht.all b (by simp)
  have hv:=ht.all v (by simp)
  have hz:=zp2 ho;rw[ye9 A X env n0 e0 n hn ver es N ls s v b hb hv r 0 ho];exact ih (ze6 ho hb hv) (by omega) ver es (by omega)
 |@const0 N ls ks d hN hu=>
  intro ht hn ver es hs;have:=yfc A X env n0 e0 ver es N hN ls ks d hu;rw[Int.natCast_zero,this];exact fin 0 40 ver es _ (by decide) (by omega)
 |@const2 n N ls ks d r e hN hu hs he=>
  intro ht hn ver es hz;rw[z0s A X env n0 e0 hE n hn ver es N hN ls ht.all2 ht.len2 ks d hu r e hs];exact fin n e ver es r he (by omega)
 |@constr n N ls ks d r n' e hN hu hs hd ih=>
  intro ht hn ver es hz;have hz:=z0p hs;rw[z0s A X env n0 e0 hE n hn ver es N hN ls ht.all2 ht.len2 ks d hu r 0 hs];exact ih (zpz hE ht hu hs) (by omega) ver es (by omega)
 |@appf n N ls f a n' e hd ih=>
  intro ht hn ver es hs;rw[zqd]at hs;rw[zto A X env n0 e0 n ver es (by omega) N ls f a]
  exact ih (ht.all f (by simp)) hn (ver+1) (es++[a]) (by simp;omega)
 |@beta0 n N ls f a N2 ls2 s b hd=>
  intro ht hn ver es hs;rw[zqd]at hs;obtain⟨w,h1,h2⟩:=z67 A X env n0 e0 hE hd (ht.all f (by simp)) hn (ver+1) (es++[a]) (by simp;omega)
  rw[zto A X env n0 e0 n ver es (by omega) N ls f a,h2,Int.natCast_zero,Lh_lam0 A X env n0 e0 w es (by omega) a N2 ls2 [s,b]]
  exact fin 0 40 _ es _ (by decide) (by omega)
 |@beta2 n N ls f a N2 ls2 s b m r e hd ho he=>
  intro ht hn ver es hs;rw[zqd]at hs;have hf:=ht.all f (by simp)
  have ha:=ht.all a (by simp)
  have hl:=hd.ok hE hf;have hle:=hd.le;have hb:=hl.all b (by simp)
  obtain⟨w,h1,h2⟩:=z67 A X env n0 e0 hE hd hf hn (ver+1) (es++[a]) (by simp;omega)
  rw[zto A X env n0 e0 n ver es (by omega) N ls f a,h2,yfa A X env n0 e0 m (by omega) w es (by omega) a ha N2 ls2 s b hb r e ho]
  exact fin m e _ es r he (by omega)
 |@betar n N ls f a N2 ls2 s b m r n' e hd ho hd2 ih2=>
  intro ht hn ver es hs;rw[zqd]at hs;have hf:=ht.all f (by simp)
  have ha:=ht.all a (by simp)
  have hl:=hd.ok hE hf;have hle:=hd.le;have hb:=hl.all b (by simp)
  have hz:=zp2 ho;obtain⟨w,h1,h2⟩:=z67 A X env n0 e0 hE hd hf hn (ver+1) (es++[a]) (by simp;omega)
  rw[zto A X env n0 e0 n ver es (by omega) N ls f a,h2,yfa A X env n0 e0 m (by omega) w es (by omega) a ha N2 ls2 s b hb r 0 ho]
  exact ih2 (ze6 ho hb ha) (by omega) (w+1) es (by omega)
theorem yi6(hE:zt5 env){n:Nat}{t t':Te}{n':Nat}(h:Hd env n t t' n')(ht:t.ok)(hs:sz t+600*n<=500000000):
  F zaw [.ptr A.length 0,.agg t.cs] (A++(.box [.sl (De.css env),.int .i64 n,.int .i64 0]::X))=some (.ret (.agg t'.cs),A++(.box [.sl (De.css env),.int .i64 n',.int .i64 0]::X)):=by
 obtain⟨w,_,h2⟩:=z67 A X env n 0 hE h ht (by omega) 0 [] (by simp;omega)
 have:=h.sz;rw[z53,h2,nfP_ok A X env n 0 h n' w [] (fun _=>rfl) (by simp;omega),z4h]
theorem yi7(hE:zt5 env){n:Nat}{t:Te}{n':Nat}{e:Int}(h:He env n t n' e)(ht:t.ok)(hs:sz t+600*n<=500000000):
  ∃x:Te,F zaw [.ptr A.length 0,.agg t.cs] (A++(.box [.sl (De.css env),.int .i64 n,.int .i64 0]::X))=some (.ret (.agg x.cs),A++(.box [.sl (De.css env),.int .i64 n',.int .i64 e]::X)):=by
 rw[z53];exact heP_ok A X env n 0 hE h ht (by omega) 0 [] (by simp;omega)
theorem z9r(R:List AV)(hR:∀a∈R,Lt (A.length+(X.length+1)) a)(hE:zt5 env){n:Nat}{t t':Te}{n':Nat}(h:Hd env n t t' n')(ht:t.ok)(hn:n<=1000000):
  F zav [.ptr A.length 0,.agg t.cs] (A++(.box (.sl (De.css env) :: .int .i64 n :: .int .i64 0::R)::X))=some (.ret (.agg t'.cs),A++(.box (.sl (De.css env) :: .int .i64 n' :: .int .i64 0::R)::X)):=by
 rw[zko];exact zrq env hE h ht hn A X R hR n 0
theorem z9s(R:List AV)(hR:∀a∈R,Lt (A.length+(X.length+1)) a)(hE:zt5 env){n:Nat}{t:Te}{n':Nat}{e:Int}(h:He env n t n' e)(ht:t.ok)(hn:n<=1000000):
  ∃x:Te,F zav [.ptr A.length 0,.agg t.cs] (A++(.box (.sl (De.css env) :: .int .i64 n :: .int .i64 0::R)::X))=some (.ret (.agg x.cs),A++(.box (.sl (De.css env) :: .int .i64 n' :: .int .i64 e::R)::X)):=by
 obtain⟨x,_,h⟩:=yc9 env hE h ht hn A X R hR n 0;exact⟨x,by rw[zko];exact h⟩
mutual
def wfT:Te->Bool
 |.mk k n ls ks=>decide ((ks.length:Int)=zft k) && (decide (k≠3) || decide (0<=n)) && wfTs ks
def wfTs:List Te->Bool
 |[]=>true
 |x::r=>wfT x && wfTs r
end
mutual
theorem right_wf{p m:Int}:∀{t:Te} {v d:Int},rightT p m t v d=true->wfT t=true
 |.mk k n ls ks,v,d,h=>by
  have hi:=zf3 h;obtain⟨h1,h2,h3,h4,h5⟩:=hi;rw[wfT];have:=right_wfs h5;simp only[this,Bool.and_true,Bool.and_eq_true,decide_eq_true_eq,Bool.or_eq_true];refine⟨h2,?_⟩;by_cases k3:k=3
  ·right
   subst k3;unfold zl4 at h4;simp at h4;exact h4.1.1
  ·exact .inl k3
theorem right_wfs{p m k:Int}:∀{ks:List Te} {i v d:Int},rightTs p m k ks i v d=true->wfTs ks=true
 |[],_,_,_,_=>rfl
 |x::r,i,v,d,h=>by
  rw[rightTs]at h;simp at h;rw[wfTs,right_wf h.1,right_wfs h.2];rfl
end
theorem zyc{t:Te}(h:zcc t=true):wfT t=true:=right_wf (zfp h)
mutual
theorem sub_wf(ps ms:List Lv):∀t:Te,wfT (subT ps ms t)=wfT t
 |.mk k n ls ks=>by
  rw[subT,wfT,wfT,subs_wf ps ms ks,zt1,List.length_map]
theorem subs_wf(ps ms:List Lv):∀ks:List Te,wfTs (subTs ps ms ks)=wfTs ks
 |[]=>rfl
 |x::r=>by rw[subTs,wfTs,wfTs,sub_wf ps ms x,subs_wf ps ms r]
end
theorem z7u{t r:Te}{ps ms:List Lv}(h:zpj t ps ms=(r,0)):wfT r=true:=by
 obtain⟨h1,rfl,_⟩:=z0q h;rw[sub_wf];exact zyc h1
theorem zuj{b v r:Te}(h:zlz b v=(r,0)):wfT r=true:=zyc (zuk h).2.2.2
theorem zx9{ks:List Te}(h:(ks.length:Int)=2):∃a b,ks=[a,b]:=by
 match ks,h with
 |[a,b],_=>exact⟨a,b,rfl⟩
 |[],h=>simp at h
 |[_],h=>simp at h
 |_::_::_::_,h=>simp at h;omega
theorem z7x{ks:List Te}(h:(ks.length:Int)=3):∃a b c,ks=[a,b,c]:=by
 match ks,h with
 |[a,b,c],_=>exact⟨a,b,c,rfl⟩
 |[],h=>simp at h
 |[_],h=>simp at h
 |[_,_],h=>simp at h
 |_::_::_::_::_,h=>simp at h;omega
theorem zxk(env:List De):∀(n:Nat) (t:Te),wfT t=true->(∃t' n',Hd env n t t' n' /\ wfT t' = true)\/∃n' e,He env n t n' e:=by
 intro n
 induction n using Nat.strongRecOn with
 |ind n ihn=>
 intro t
 induction t using Te.ind with
 |h k N ls ks iht=>
 intro hw;have hw0:=hw;rw[wfT]at hw;simp only[Bool.and_eq_true,decide_eq_true_eq,Bool.or_eq_true]at hw;obtain⟨⟨hk,hN⟩,hks⟩:=hw;by_cases k7:k=7
 ·subst k7
  obtain⟨s,v,b,rfl⟩:=z7x hk;rcases n with _|n
  ·exact .inr ⟨0,40,.let0⟩
  rcases ho:zlz b v with⟨r,e⟩;by_cases he:e=0
  ·subst he
   rcases ihn n (by omega) r (zuj ho) with⟨t',n',h1,h2⟩|⟨n',e,h1⟩
   ·exact .inl ⟨t',n',.lett ho h1,h2⟩
   ·exact .inr ⟨n',e,.letr ho h1⟩
  ·exact .inr ⟨n,e,.let2 ho he⟩
 by_cases k4:k=4
 ·subst k4
  obtain⟨f,a,rfl⟩:=zx9 hk;simp only[wfTs,Bool.and_eq_true]at hks;rcases iht f (by simp) hks.1 with⟨f',m,h1,h2⟩|⟨n',e,h1⟩
  ·rcases f' with⟨k2,N2,ls2,ks2⟩
   by_cases k5:k2=5
   ·subst k5
    have h3:=h2;rw[wfT]at h3;simp only[Bool.and_eq_true,decide_eq_true_eq]at h3;obtain⟨s,b,rfl⟩:=zx9 h3.1.1;rcases m with _|m
    ·exact .inr ⟨0,40,.beta0 h1⟩
    have hle:=h1.le;rcases ho:zlz b a with⟨r,e⟩;by_cases he:e=0
    ·subst he
     rcases ihn m (by omega) r (zuj ho) with⟨t',n',h4,h5⟩|⟨n',e,h4⟩
     ·exact .inl ⟨t',n',.beta h1 ho h4,h5⟩
     ·exact .inr ⟨n',e,.betar h1 ho h4⟩
    ·exact .inr ⟨m,e,.beta2 h1 ho he⟩
   ·refine .inl ⟨_,m,.app h1 k5,?_⟩
    rw[wfT];simp[wfTs,hks.2.1,h2,zft]
  ·exact .inr ⟨n',e,.appf h1⟩
 by_cases k3:k=3
 ·subst k3
  have hN:0<=N:=by simpa using hN
  cases hu:zwg env N ls with
  |none=>exact .inl ⟨_,n,.stuck (by decide) (by decide) (fun _=>⟨hN,hu⟩),hw0⟩
  |some d=>
   rcases n with _|n
   ·exact .inr ⟨0,40,.const0 hN hu⟩
   rcases hs:zpj d.value ls [] with⟨r,e⟩;by_cases he:e=0
   ·subst he
    rcases ihn n (by omega) r (z7u hs) with⟨t',n',h1,h2⟩|⟨n',e,h1⟩
    ·exact .inl ⟨t',n',.const hN hu hs h1,h2⟩
    ·exact .inr ⟨n',e,.constr hN hu hs h1⟩
   ·exact .inr ⟨n,e,.const2 hN hu hs he⟩
 ·exact .inl ⟨_,n,.stuck k4 k7 (fun h=>absurd h k3),hw0⟩
end Go.Ab
end
section
set_option linter.unusedVariables false
set_option linter.unusedSimpArgs false
set_option maxRecDepth 100000
set_option maxHeartbeats 2000000
namespace Go.Ab
open Go.RowKit Go.Proofs
structure Gr where
 env:List De
 params:Int
 metas:Int
 cons:List Co
 mode:Int
def Gr.cs(g:Gr):List AV:=[.sl (De.css g.env),.int .i64 g.params,.int .i64 g.metas,.sl (Co.css g.cons),.int .i64 g.mode]
noncomputable def zgj(g:Gr)(s:Int×List Co)(a b:Lv):Bool×Int×List Co :=
 if s.1≠0 then (false,s)
 else if g.mode=2 then (if 100<=s.2.length then (false,2,s.2) else (true,0,s.2++[.mk a b]))
 else if (zdt g.cons g.params && zax a g.params 0 && zax b g.params 0)=true then (z0z g.cons g.params.toNat a b,s)
 else (false,1,s.2)
def zjx(A:List AO)(g:Gr)(n e:Int)(ver:Nat)(out:List Co)(X:List AO):List AO :=
 A++(.lst ver 6 (Co.css out) :: .box ([.sl (De.css g.env),.int .i64 n,.int .i64 e]++(g.cs++[.ol A.length ver]))::X)
def zhn(A:List AO)(g:Gr)(n e:Int)(ver:Nat)(out:List Co)(X:List AO):List AO :=
 A++(.box [.sl (De.css g.env),.int .i64 n,.int .i64 e] :: .lst 0 11 [] :: .lst 0 6 [] :: .lst ver 6 (Co.css out) :: .box (.ptr A.length 0::(g.cs++[.ol (A.length+3) ver]))::X)
theorem yi0(g:Gr)(f:Int)(H:List AO):F zoq [.agg g.cs,.int .i64 f] H=some (.ret (.ptr (H.length+4) 0),zjx (H++[.lst 0 11 [],.lst 0 11 [],.lst 0 6 []]) g f 0 0 [] []):=by
 have e:Co.css []=[]:=rfl;rw[z5e];simp only[↓reduceIte,go_sem,Gr.cs,zjx,e,List.append_assoc,List.cons_append,List.nil_append,List.length_append,List.length_cons,List.length_nil]
theorem NewP_ok(g:Gr)(f:Int)(H:List AO):F zrz [.agg g.cs,.int .i64 f] H=some (.ret (.ptr (H.length+4) 0),zhn H g f 0 0 [] []):=by
 have e:Co.css []=[]:=rfl;rw[z8z];simp only[↓reduceIte,go_sem,Gr.cs,zhn,e,List.append_assoc,List.cons_append,List.nil_append,List.length_append,List.length_cons,List.length_nil]
theorem gr_lt(N:Nat)(g:Gr):∀a∈g.cs,Lt N a:=by
 intro a ha;simp[Gr.cs]at ha;rcases ha with rfl|rfl|rfl|rfl|rfl
 ·exact .sl (z0a N g.env)
 ·exact .int _ _
 ·exact .int _ _
 ·exact .sl (zr1 N g.cons)
 ·exact .int _ _
theorem zq0(A X:List AO)(g:Gr)(ver:Nat)(out:List Co):∀a∈g.cs++[.ol A.length ver],Lt ((A++[AO.lst ver 6 (Co.css out)]).length+(X.length+1)) a:=by
 intro a ha;rcases List.mem_append.1 ha with h|h
 ·exact gr_lt _ g a h
 ·simp at h;subst h;exact .ol (by simp;omega)
theorem zga(A X:List AO)(g:Gr)(n e:Int)(ver:Nat)(out:List Co):zjx A g n e ver out X=(A++[.lst ver 6 (Co.css out)])++(.box (.sl (De.css g.env) :: .int .i64 n :: .int .i64 e::(g.cs++[.ol A.length ver]))::X):=by
 simp[zjx]
theorem z3v(g:Gr)(e:Int)(A X:List AO)(n:Int)(ver:Nat)(out:List Co):F zbv [.ptr (A.length+1) 0,.int .i64 e] (zjx A g n 0 ver out X)=some (.ret (.tup []),zjx A g n e ver out X):=by
 have h:=z3w g.env n e (A++[.lst ver 6 (Co.css out)]) X (g.cs++[.ol A.length ver]) (zq0 A X g ver out);have hl:(A++[AO.lst ver 6 (Co.css out)]).length=A.length+1:=by simp
 rw[<- zga,<- zga,hl]at h;exact h
theorem app_two{A Z:List AO}{o1 o1' o2 o2':AO}{n:Nat}(h1:LtO n o1')(h2:LtO n o2'):∀(id:Nat) (o:AO),(A++(o1' :: o2' :: Z))[id]?=some o->(A++(o1::o2::Z))[id]?=some o\/LtO n o:=by
 intro id o ho;by_cases hi:id<A.length
 ·rw[List.getElem?_append_left hi]at ho ⊢;exact .inl ho
 rw[List.getElem?_append_right (by omega)]at ho ⊢
 match hj:id - A.length,ho with
 |0,ho=>simp at ho;subst ho;exact .inr h1
 |1,ho=>simp at ho;subst ho;exact .inr h2
 |j+2,ho=>exact .inl ho
theorem z7g(n ver:Nat)(out:List Co):LtO n (.lst ver 6 (Co.css out)):=zr1 n out
theorem z7f(A X:List AO)(g:Gr)(n e:Int)(ver:Nat)(out:List Co)(n' e':Int)(ver':Nat)(out':List Co)(r:Res)(hr:LtR (zjx A g n e ver out X).length r):ze4 (zjx A g n e ver out X) r (zjx A g n' e' ver' out' X)=some (r,zjx A g n' e' ver' out' X):=by
 refine zpx (by simp[zjx]) hr ?_
 unfold zjx;refine app_two (z7g _ _ _) fun a ha=>?_
 rcases List.mem_append.1 ha with h|h
 ·simp at h
  rcases h with rfl|rfl|rfl
  ·exact .sl (z0a _ g.env)
  ·exact .int _ _
  ·exact .int _ _
 ·rcases List.mem_append.1 h with h|h
  ·exact gr_lt _ g a h
  ·simp at h;subst h;exact .ol (by simp)
theorem zep(A X:List AO)(g:Gr)(n e:Int)(ver:Nat)(out:List Co)(n' e':Int)(ver':Nat)(out':List Co)(b:Bool):ze4 (zjx A g n e ver out X) (.ret (.bool b)) (zjx A g n' e' ver' out' X)=some (.ret (.bool b),zjx A g n' e' ver' out' X) :=
 z7f A X g n e ver out n' e' ver' out' _ (.bool b)
theorem z0t(g:Gr)(hcons:∀c∈g.cons,c.ok)(hl:g.cons.length<=1000)(hmode:g.mode=1\/g.mode=2)(a b:Lv)(ha:a.ok)(hb:b.ok)(A X:List AO)(n e:Int)(ver:Nat)(out:List Co)(ho:out.length<=100):
  ∃ver',F zcu [.ptr (A.length+1) 0,.agg a.cs,.agg b.cs] (zjx A g n e ver out X)=some (.ret (.bool (zgj g (e,out) a b).1),zjx A g n (zgj g (e,out) a b).2.1 ver' (zgj g (e,out) a b).2.2 X):=by
 rw[zqw];by_cases h1:e=0
 ·subst h1
  rcases hmode with h2|h2
  ·have hm:¬ g.mode=2:=by omega
   by_cases h3:(zdt g.cons g.params && zax a g.params 0 && zax b g.params 0)=true
   ·have e1:zgj g (0,out) a b=(z0z g.cons g.params.toNat a b,0,out):=by
     unfold zgj;rw[if_neg (by simp),if_neg hm,if_pos h3]
    simp only[Bool.and_eq_true]at h3;have hp:g.params=(g.params.toNat:Int):=by
     have:=h3.1.1;simp only[zdt,Bool.and_eq_true,decide_eq_true_eq]at this;omega
    obtain⟨vs,hL⟩:=yi4 g.cons hcons g.params.toNat a b ha hb (by rw[<- hp];exact h3.1.1) (by rw[<- hp];exact h3.1.2) (by rw[<- hp];exact h3.2) (zjx A g n 0 ver out X)
    rw[<- hp]at hL;rw[e1];refine⟨ver,?_⟩;have hfin:=fun b=>zep A X g n 0 ver out n 0 ver out b
    simp only[zjx,Gr.cs,List.cons_append,List.nil_append,h2]at hL hfin;simp only[↓reduceIte,go_sem,zjx,Gr.cs,h2,hL,show ¬ (1:Int)=2 by omega]
    cases z0z g.cons g.params.toNat a b
    ·simp
    ·simp
   ·have e1:zgj g (0,out) a b=(false,1,out):=by
     unfold zgj;rw[if_neg (by simp),if_neg hm,if_neg h3]
    have hL:=yi5 g.cons hcons (by omega) g.params a b ha hb (by simpa using h3) (zjx A g n 0 ver out X)
    have hF:=z3v g 1 A X n ver out;have hfin:=zep A X g n 0 ver out n 1 ver out false;rw[e1];refine⟨ver,?_⟩;simp only[zjx,Gr.cs,List.cons_append,List.nil_append,h2]at hL hfin hF;simp only[↓reduceIte,go_sem,zjx,Gr.cs,h2,hL,hF,show ¬ (1:Int)=2 by omega]
    exact hfin
  ·have e1:zgj g (0,out) a b=if 100<=out.length then (false,2,out) else (true,0,out++[.mk a b]):=by
    unfold zgj;rw[if_neg (by simp),if_pos h2]
   rw[e1];by_cases h3:100<=out.length
   ·simp only[if_pos h3]
    have hF:=z3v g 2 A X n ver out;simp only[zjx,Gr.cs,List.cons_append,List.nil_append,h2]at hF;refine⟨ver,?_⟩;simp only[↓reduceIte,go_sem,zjx,Gr.cs,h2,show (100:Int)<=out.length by omega,hF]
    have hfin:=zep A X g n 0 ver out n 2 ver out false;simp only[zjx,Gr.cs,List.cons_append,List.nil_append,h2]at hfin;exact hfin
   ·simp only[if_neg h3]
    rcases a with⟨k1,n1,ks1⟩;rcases b with⟨k2,n2,ks2⟩;have hcs:Co.css out++[[.int .i64 k1,.int .i64 n1,.sl (Lv.css ks1),.int .i64 k2,.int .i64 n2,.sl (Lv.css ks2)]]=Co.css (out++[.mk (.mk k1 n1 ks1) (.mk k2 n2 ks2)]):=by simp[Co.css,Co.cs,Co.a,Co.b,Lv.cs]
    refine⟨ver+1,?_⟩;simp only[↓reduceIte,go_sem,zjx,Gr.cs,Lv.cs,h2,show ¬ (100:Int)<=out.length by omega,show out.length<=1073741823 by omega,hcs]
    have hfin:=zep A X g n 0 ver out n 0 (ver+1) (out++[.mk (.mk k1 n1 ks1) (.mk k2 n2 ks2)]) true;simp only[zjx,Gr.cs,List.cons_append,List.nil_append,h2]at hfin;exact hfin
 ·have e1:zgj g (e,out) a b=(false,e,out):=by unfold zgj;rw[if_pos h1]
  rw[e1];refine⟨ver,?_⟩;simp only[↓reduceIte,go_sem,zjx,Gr.cs,h1]
theorem yih{A Z:List AO}{o1 o1' o4 o4' o5 o5' b2 b3:AO}{n:Nat}(h1:LtO n o1')(h4:LtO n o4')(h5:LtO n o5'):∀(id:Nat) (o:AO),(A++(o1' :: b2::b3::o4' :: o5' :: Z))[id]?=some o->(A++(o1::b2::b3::o4::o5::Z))[id]?=some o\/LtO n o:=by
 intro id o ho;by_cases hi:id<A.length
 ·rw[List.getElem?_append_left hi]at ho ⊢;exact .inl ho
 rw[List.getElem?_append_right (by omega)]at ho ⊢
 match hj:id - A.length,ho with
 |0,ho=>simp at ho;subst ho;exact .inr h1
 |1,ho=>exact .inl ho
 |2,ho=>exact .inl ho
 |3,ho=>simp at ho;subst ho;exact .inr h4
 |4,ho=>simp at ho;subst ho;exact .inr h5
 |j+5,ho=>exact .inl ho
theorem z6o(A X:List AO)(g:Gr)(n e:Int)(ver:Nat)(out:List Co)(n' e':Int)(ver':Nat)(out':List Co)(r:Res)(hr:LtR (zhn A g n e ver out X).length r):ze4 (zhn A g n e ver out X) r (zhn A g n' e' ver' out' X)=some (r,zhn A g n' e' ver' out' X):=by
 refine zpx (by simp[zhn]) hr ?_
 unfold zhn;refine yih (zoy _ _ _ _) (z7g _ _ _) fun a ha=>?_
 rcases List.mem_cons.1 ha with rfl|h
 ·exact .ptr (by simp)
 ·rcases List.mem_append.1 h with h|h
  ·exact gr_lt _ g a h
  ·simp at h;subst h;exact .ol (by simp)
theorem zc5(A X:List AO)(g:Gr)(n e:Int)(ver:Nat)(out:List Co)(n' e':Int)(ver':Nat)(out':List Co)(b:Bool):ze4 (zhn A g n e ver out X) (.ret (.bool b)) (zhn A g n' e' ver' out' X)=some (.ret (.bool b),zhn A g n' e' ver' out' X) :=
 z6o A X g n e ver out n' e' ver' out' _ (.bool b)
theorem zwc(g:Gr)(hcons:∀c∈g.cons,c.ok)(hl:g.cons.length<=1000)(hmode:g.mode=1\/g.mode=2)(a b:Lv)(ha:a.ok)(hb:b.ok)(A X:List AO)(n e:Int)(ver:Nat)(out:List Co)(ho:out.length<=100):
  ∃ver',F zdf [.ptr (A.length+4) 0,.agg a.cs,.agg b.cs] (zhn A g n e ver out X)=some (.ret (.bool (zgj g (e,out) a b).1),zhn A g n (zgj g (e,out) a b).2.1 ver' (zgj g (e,out) a b).2.2 X):=by
 have hF:=fun e=>z0u g.env n e A (.lst 0 11 [] :: .lst 0 6 [] :: .lst ver 6 (Co.css out) :: .box (.ptr A.length 0::(g.cs++[.ol (A.length+3) ver]))::X)
 rw[zrx];by_cases h1:e=0
 ·subst h1
  rcases hmode with h2|h2
  ·have hm:¬ g.mode=2:=by omega
   by_cases h3:(zdt g.cons g.params && zax a g.params 0 && zax b g.params 0)=true
   ·have e1:zgj g (0,out) a b=(z0z g.cons g.params.toNat a b,0,out):=by
     unfold zgj;rw[if_neg (by simp),if_neg hm,if_pos h3]
    simp only[Bool.and_eq_true]at h3;have hp:g.params=(g.params.toNat:Int):=by
     have:=h3.1.1;simp only[zdt,Bool.and_eq_true,decide_eq_true_eq]at this;omega
    obtain⟨vs,hL⟩:=LeqP_ok g.cons hcons g.params.toNat a b ha hb (by rw[<- hp];exact h3.1.1) (by rw[<- hp];exact h3.1.2) (by rw[<- hp];exact h3.2) (zhn A g n 0 ver out X)
    rw[<- hp]at hL;rw[e1];refine⟨ver,?_⟩;have hfin:=fun b=>zc5 A X g n 0 ver out n 0 ver out b
    simp only[zhn,Gr.cs,List.cons_append,List.nil_append,h2]at hL hfin;simp only[↓reduceIte,go_sem,zhn,Gr.cs,h2,hL,hfin,show ¬ (1:Int)=2 by omega]
   ·have e1:zgj g (0,out) a b=(false,1,out):=by
     unfold zgj;rw[if_neg (by simp),if_neg hm,if_neg h3]
    have hL:=LeqP_er g.cons hcons (by omega) g.params a b ha hb (by simpa using h3) (zhn A g n 0 ver out X)
    have hfin:=zc5 A X g n 0 ver out n 1 ver out false;rw[e1];refine⟨ver,?_⟩;simp only[zhn,Gr.cs,List.cons_append,List.nil_append,h2]at hL hfin hF;simp only[↓reduceIte,go_sem,zhn,Gr.cs,h2,hL,hF,hfin,show ¬ (1:Int)=2 by omega]
  ·have e1:zgj g (0,out) a b=if 100<=out.length then (false,2,out) else (true,0,out++[.mk a b]):=by
    unfold zgj;rw[if_neg (by simp),if_pos h2]
   rw[e1];by_cases h3:100<=out.length
   ·have h4:out.length=100:=by omega
    simp only[if_pos h3];have hfin:=zc5 A X g n 0 ver out n 2 ver out false;simp only[zhn,Gr.cs,List.cons_append,List.nil_append,h2]at hF hfin;refine⟨ver,?_⟩;simp only[↓reduceIte,go_sem,zhn,Gr.cs,h2,h4,hF,hfin,show ¬ (2:Int)=1 by omega]
   ·simp only[if_neg h3]
    rcases a with⟨k1,n1,ks1⟩;rcases b with⟨k2,n2,ks2⟩;have hcs:Co.css out++[[.int .i64 k1,.int .i64 n1,.sl (Lv.css ks1),.int .i64 k2,.int .i64 n2,.sl (Lv.css ks2)]]=Co.css (out++[.mk (.mk k1 n1 ks1) (.mk k2 n2 ks2)]):=by simp[Co.css,Co.cs,Co.a,Co.b,Lv.cs]
    have hfin:=zc5 A X g n 0 ver out n 0 (ver+1) (out++[.mk (.mk k1 n1 ks1) (.mk k2 n2 ks2)]) true;simp only[zhn,Gr.cs,List.cons_append,List.nil_append,h2]at hfin;refine⟨ver+1,?_⟩;simp only[↓reduceIte,go_sem,zhn,Gr.cs,Lv.cs,h2,show ¬ (out.length:Int)=100 by omega,show out.length<=1073741823 by omega,hcs,hfin,show ¬ (2:Int)=1 by omega]
 ·have e1:zgj g (e,out) a b=(false,e,out):=by unfold zgj;rw[if_pos h1]
  rw[e1];refine⟨ver,?_⟩;simp only[↓reduceIte,go_sem,zhn,Gr.cs,h1]
end Go.Ab
end
section
set_option linter.unusedVariables false
set_option linter.unusedSimpArgs false
set_option maxRecDepth 100000
set_option maxHeartbeats 2000000
namespace Go.Ab
open Go.RowKit Go.Proofs
theorem zn0(g:Gr)(s:Int×List Co)(a b:Lv)(h:s.2.length<=100):(zgj g s a b).2.2.length<=100:=by
 unfold zgj
 split
 ·exact h
 split
 ·split
  ·exact h
  ·simp;omega
 split <;> exact h
noncomputable def zog(g:Gr)(s:Int×List Co)(a b:Lv):Bool×Int×List Co :=
 if (zgj g s a b).1=true then zgj g (zgj g s a b).2 b a else (false,(zgj g s a b).2)
noncomputable def zka(g:Gr):Int×List Co->List Lv->List Lv->Bool×Int×List Co
 |s,a::xs,b::ys=>if (zog g s a b).1=true then zka g (zog g s a b).2 xs ys else (false,(zog g s a b).2)
 |s,_,_=>(true,s)
theorem z3g(g:Gr)(s:Int×List Co)(a b:Lv)(h:s.2.length<=100):(zog g s a b).2.2.length<=100:=by
 have h1:=zn0 g s a b h;unfold zog
 split
 ·exact zn0 g _ b a h1
 ·exact h1
theorem yei(g:Gr)(hcons:∀c∈g.cons,c.ok)(hl:g.cons.length<=1000)(hmode:g.mode=1\/g.mode=2)(a b:Lv)(ha:a.ok)(hb:b.ok)(A X:List AO)(n e:Int)(ver:Nat)(out:List Co)(ho:out.length<=100):
  ∃ver',F zd4 [.ptr (A.length+1) 0,.agg a.cs,.agg b.cs] (zjx A g n e ver out X)=some (.ret (.bool (zog g (e,out) a b).1),zjx A g n (zog g (e,out) a b).2.1 ver' (zog g (e,out) a b).2.2 X):=by
 obtain⟨v1,h1⟩:=z0t g hcons hl hmode a b ha hb A X n e ver out ho;obtain⟨v2,h2⟩:=z0t g hcons hl hmode b a hb ha A X n (zgj g (e,out) a b).2.1 v1 (zgj g (e,out) a b).2.2 (zn0 g _ a b ho);have hfin:=fun n' e' ver' out' b=>zep A X g n e ver out n' e' ver' out' b
 rw[zp8];unfold zog
 cases hc:(zgj g (e,out) a b).1
 ·rw[hc]at h1
  refine⟨v1,?_⟩;simp only[↓reduceIte,go_sem,h1,hfin]
 ·rw[hc]at h1
  refine⟨v2,?_⟩;simp only[↓reduceIte,go_sem,h1,h2,hfin]
theorem yio(g:Gr)(hcons:∀c∈g.cons,c.ok)(hl:g.cons.length<=1000)(hmode:g.mode=1\/g.mode=2)(P Q:List Lv)(hP:∀x∈P,x.ok)(hQ:∀x∈Q,x.ok)(hlen:P.length=Q.length)(hb:P.length<=140737488355328)(A X:List AO)(n e:Int)(ver:Nat)(out:List Co)(ho:out.length<=100):
  ∃ver',F zen [.ptr (A.length+1) 0,.sl (Lv.css P),.sl (Lv.css Q)] (zjx A g n e ver out X)=some (.ret (.bool (zka g (e,out) P Q).1),zjx A g n (zka g (e,out) P Q).2.1 ver' (zka g (e,out) P Q).2.2 X):=by
 have hfin:=fun n' e' ver' out' b=>zep A X g n e ver out n' e' ver' out' b
 have loop:∀(p q ps qs:List Lv),P=ps++p->Q=qs++q->ps.length=qs.length->∀(v1:Nat) (s:Int×List Co),s.2.length<=100->∃ver',
   zc7 (zjx A g n e ver out X) (zjx A g n s.1 v1 s.2 X) (.ptr (A.length+1) 0) (.sl (Lv.css P)) (.sl (Lv.css Q)) (.int .i64 ps.length)=some (.ret (.bool (zka g s p q).1),zjx A g n (zka g s p q).2.1 ver' (zka g s p q).2.2 X):=by
  intro p
  induction p with
  |nil=>
   intro q ps qs h1 h2 h3 v1 s hs;rw[List.append_nil]at h1;subst h1;refine⟨v1,?_⟩;rw[zc7,zab];simp only[↓reduceIte,go_sem,hfin,zka]
  |cons a p ih=>
   intro q ps qs h1 h2 h3 v1 s hs
   cases q with
   |nil=>rw[h1,h2]at hlen;simp at hlen;omega
   |cons b q=>
   have ha:=hP a (by rw[h1];simp)
   have hbb:=hQ b (by rw[h2];simp)
   have hga:P[ps.length]?=some a:=by rw[h1];simp
   have hgb:Q[ps.length]?=some b:=by rw[h2,h3];simp
   have hpl:ps.length<P.length:=by rw[h1];simp
   obtain⟨v2,hB⟩:=yei g hcons hl hmode a b ha hbb A X n s.1 v1 s.2 hs;obtain⟨v3,h4⟩:=ih q (ps++[a]) (qs++[b]) (by rw[h1];simp) (by rw[h2];simp) (by simp[h3]) v2 (zog g s a b).2 (z3g g s a b hs)
   simp only[zaf]at h4;rw[zka]
   cases hc:(zog g s a b).1
   ·rw[show ((s.1,s.2):Int×List Co)=s from rfl,hc]at hB
    refine⟨v2,?_⟩;rw[zc7,zab];simp only[↓reduceIte,go_sem,show (ps.length:Int)<(P.length:Int) by omega,hga,hgb,hB,hfin]
   ·rw[show ((s.1,s.2):Int×List Co)=s from rfl,hc]at hB
    refine⟨v3,?_⟩;rw[zc7,zab];simp only[↓reduceIte,go_sem,show (ps.length:Int)<(P.length:Int) by omega,hga,hgb,hB,hfin,zac (n:=ps.length) (by omega),h4]
 obtain⟨v,h⟩:=loop P Q [] [] rfl rfl rfl ver (e,out) ho;refine⟨v,?_⟩;rw[zqv];simp only[↓reduceIte,go_sem];exact h
theorem zvd(g:Gr)(hcons:∀c∈g.cons,c.ok)(hl:g.cons.length<=1000)(hmode:g.mode=1\/g.mode=2)(P Q:List Lv)(hP:∀x∈P,x.ok)(hQ:∀x∈Q,x.ok)(hlen:P.length=Q.length)(hb:P.length<=140737488355328)(k1 n1 k2 n2:Int)(ks1 ks2:List Te)(m:AV)(A X:List AO)(n e:Int)(ver:Nat)(out:List Co)(ho:out.length<=100):
  ∃ver',F zbk [.ptr (A.length+4) 0,.agg (Te.mk k1 n1 P ks1).cs,.agg (Te.mk k2 n2 Q ks2).cs,m] (zhn A g n e ver out X)=some (.ret (.bool (zka g (e,out) P Q).1),zhn A g n (zka g (e,out) P Q).2.1 ver' (zka g (e,out) P Q).2.2 X):=by
 have hfin:=fun n' e' ver' out' b=>zc5 A X g n e ver out n' e' ver' out' b
 have loop:∀(p q ps qs:List Lv),P=ps++p->Q=qs++q->ps.length=qs.length->∀(v1:Nat) (s:Int×List Co),s.2.length<=100->∃ver',
   zbq (zhn A g n e ver out X) (zhn A g n s.1 v1 s.2 X) (.ptr (A.length+4) 0) (.sl (Lv.css P)) (.int .i64 P.length) (.int .i64 ps.length) (Te.mk k2 n2 Q ks2).cs=some (.ret (.bool (zka g s p q).1),zhn A g n (zka g s p q).2.1 ver' (zka g s p q).2.2 X):=by
  intro p
  induction p with
  |nil=>
   intro q ps qs h1 h2 h3 v1 s hs;rw[List.append_nil]at h1;subst h1;refine⟨v1,?_⟩;rw[zbq,zab];simp only[↓reduceIte,go_sem,Te.cs,hfin,zka]
  |cons a p ih=>
   intro q ps qs h1 h2 h3 v1 s hs
   cases q with
   |nil=>rw[h1,h2]at hlen;simp at hlen;omega
   |cons b q=>
   have ha:=hP a (by rw[h1];simp)
   have hbb:=hQ b (by rw[h2];simp)
   have hga:P[ps.length]?=some a:=by rw[h1];simp
   have hgb:Q[ps.length]?=some b:=by rw[h2,h3];simp
   have hpl:ps.length<P.length:=by rw[h1];simp
   obtain⟨v2,hB⟩:=zwc g hcons hl hmode a b ha hbb A X n s.1 v1 s.2 hs;obtain⟨v3,hC⟩:=zwc g hcons hl hmode b a hbb ha A X n (zgj g s a b).2.1 v2 (zgj g s a b).2.2 (zn0 g s a b hs);obtain⟨v4,h4⟩:=ih q (ps++[a]) (qs++[b]) (by rw[h1];simp) (by rw[h2];simp) (by simp[h3]) v3 (zgj g (zgj g s a b).2 b a).2 (zn0 g _ b a (zn0 g s a b hs))
   simp only[zaf,Te.cs]at h4;rw[show ((s.1,s.2):Int×List Co)=s from rfl]at hB
   rw[show (((zgj g s a b).2.1,(zgj g s a b).2.2):Int×List Co)=(zgj g s a b).2 from rfl]at hC
   rw[zka,zog]
   cases hc:(zgj g s a b).1
   ·rw[hc]at hB
    refine⟨v2,?_⟩;rw[zbq,zab];simp only[↓reduceIte,go_sem,Te.cs,show (ps.length:Int)<(P.length:Int) by omega,hga,hgb,hB,hfin]
   ·rw[hc]at hB
    cases hd:(zgj g (zgj g s a b).2 b a).1
    ·rw[hd]at hC
     refine⟨v3,?_⟩;rw[zbq,zab];simp only[↓reduceIte,go_sem,Te.cs,show (ps.length:Int)<(P.length:Int) by omega,hga,hgb,hB,hC,hd,hfin]
    ·rw[hd]at hC
     refine⟨v4,?_⟩;rw[zbq,zab];simp only[↓reduceIte,go_sem,Te.cs,show (ps.length:Int)<(P.length:Int) by omega,hga,hgb,hB,hC,hd,hfin,zac (n:=ps.length) (by omega),h4]
 obtain⟨v,h⟩:=loop P Q [] [] rfl rfl rfl ver (e,out) ho;refine⟨v,?_⟩;simp only[Te.cs,List.length_nil,Int.natCast_zero]at h;rw[zpe];simp only[↓reduceIte,go_sem,Te.cs];exact h
end Go.Ab
end
section
set_option linter.unusedVariables false
set_option linter.unusedSimpArgs false
set_option maxRecDepth 100000
set_option maxHeartbeats 2000000
namespace Go.Ab
open Go.RowKit Go.Proofs
def zwe(t:Te):Te:=.mk 4 0 [] [(zh1 t 0 1).1,.mk 1 0 [] []]
theorem yiy(g:Gr)(t:Te)(e:Int)(A X:List AO)(n:Int)(ver:Nat)(out:List Co):F zbp [.ptr (A.length+1) 0,.agg t.cs,.int .i64 e] (zjx A g n 0 ver out X)=some (.ret (.agg t.cs),zjx A g n e ver out X):=by
 have h:=zef g.env t n e (A++[.lst ver 6 (Co.css out)]) X (g.cs++[.ol A.length ver]) (zq0 A X g ver out);have hl:(A++[AO.lst ver 6 (Co.css out)]).length=A.length+1:=by simp
 rw[<- zga,<- zga,hl]at h;exact h
theorem zuf(g:Gr)(t:Te)(ht:t.ok)(A X:List AO)(n:Int)(ver:Nat)(out:List Co):F zdo [.ptr (A.length+1) 0,.agg t.cs] (zjx A g n 0 ver out X)=some (.ret (.agg (zwe t).cs),zjx A g n (zh1 t 0 1).2 ver out X):=by
 have hL:=fun H=>ye8 t ht 0 1 H
 rcases hq:zh1 t 0 1 with⟨u,e⟩;rw[hq]at hL;have hP:=yiy g u e A X n ver out;have hfin:=fun r hr=>z7f A X g n 0 ver out n e ver out r hr
 rw[zqu,zwe,hq];rcases u with⟨k,N,ls,ks⟩;simp only[Te.cs]at hP;simp only[zjl,Te.cs]at hL;simp only[↓reduceIte,go_sem,hL,hP,Te.cs,Te.css];exact hfin _ (.agg (zs7 _ (.mk 4 0 [] [.mk k N ls ks,.mk 1 0 [] []])))
theorem zr4(g:Gr)(t:Te)(ht:t.ok)(hk:t.kind≠5)(A X:List AO)(n:Int)(ver:Nat)(out:List Co):F zcv [.ptr (A.length+4) 0,.agg t.cs] (zhn A g n 0 ver out X)=some (.ret (.agg (zwe t).cs),zhn A g n (zh1 t 0 1).2 ver out X):=by
 have hL:=fun H=>yi3 t ht 0 1 H
 rcases hq:zh1 t 0 1 with⟨u,e⟩;rw[hq]at hL;have hP:=z0r g.env u n e A (.lst 0 11 [] :: .lst 0 6 [] :: .lst ver 6 (Co.css out) :: .box (.ptr A.length 0::(g.cs++[.ol (A.length+3) ver]))::X);have hfin:=fun r hr=>z6o A X g n 0 ver out n e ver out r hr
 rcases t with⟨k,N,ls,ks⟩;rcases u with⟨k2,N2,ls2,ks2⟩;have hk:¬ k=5:=hk;rw[zls,zwe,hq];simp only[Te.cs,Gr.cs,List.cons_append,List.nil_append]at hP;simp only[zjl,Te.cs]at hL;simp only[↓reduceIte,go_sem,zhn,Gr.cs,hk,hL,hP,Te.cs,Te.css];have h:=hfin (.ret (.agg (Te.mk 4 0 [] [.mk k2 N2 ls2 ks2,.mk 1 0 [] []]).cs)) (Lt.agg (zs7 _ (.mk 4 0 [] [.mk k2 N2 ls2 ks2,.mk 1 0 [] []])));simp only[zhn,Gr.cs,Te.cs,Te.css,List.cons_append,List.nil_append]at h;exact h
theorem zp1(g:Gr)(N:Int)(ls:List Lv)(s b:Te)(A X:List AO)(n e:Int)(ver:Nat)(out:List Co):F zcv [.ptr (A.length+4) 0,.agg (Te.mk 5 N ls [s,b]).cs] (zhn A g n e ver out X)=some (.ret (.agg b.cs),zhn A g n e ver out X):=by
 rw[zls];simp only[↓reduceIte,go_sem,Te.cs,Te.css]
end Go.Ab
end
section
set_option linter.unusedVariables false
set_option linter.unusedSimpArgs false
set_option maxRecDepth 100000
set_option maxHeartbeats 2000000
namespace Go.Ab
open Go.RowKit Go.Proofs
inductive Al (g:Gr):Nat->List Co->Te->Te->Bool->Bool->Nat->Int->List Co->Prop
 |burn0 {out:List Co} {a b:Te} {most:Bool}:Al g 0 out a b most false 0 40 out
 |headA {n:Nat} {out:List Co} {a b:Te} {most:Bool} {n':Nat} {e:Int}:He g.env n a n' e->Al g (n+1) out a b most false n' e out
 |headB {n:Nat} {out:List Co} {a b a':Te} {most:Bool} {n1 n':Nat} {e:Int}:Hd g.env n a a' n1->He g.env n1 b n' e->Al g (n+1) out a b most false n' e out
 |lam2 {n:Nat} {out:List Co} {a b s x s' y:Te} {N N':Int} {ls ls':List Lv} {most r:Bool} {n1 n2 n':Nat} {e:Int} {out':List Co}:Hd g.env n a (.mk 5 N ls [s,x]) n1->Hd g.env n1 b (.mk 5 N' ls' [s',y]) n2->Al g n2 out x y false r n' e out' -> Al g (n+1) out a b most r n' e out'
 |lamL {n:Nat} {out:List Co} {a b b' s x:Te} {N:Int} {ls:List Lv} {most r:Bool} {n1 n2 n':Nat} {e:Int} {out':List Co}:Hd g.env n a (.mk 5 N ls [s,x]) n1->Hd g.env n1 b b' n2->b'.kind≠5->(zh1 b' 0 1).2=0->Al g n2 out x (zwe b') false r n' e out' -> Al g (n+1) out a b most r n' e out'
 |lamLe {n:Nat} {out:List Co} {a b b' s x:Te} {N:Int} {ls:List Lv} {most:Bool} {n1 n2:Nat}:Hd g.env n a (.mk 5 N ls [s,x]) n1->Hd g.env n1 b b' n2->b'.kind≠5->(zh1 b' 0 1).2≠0->Al g (n+1) out a b most false n2 (zh1 b' 0 1).2 out
 |lamR {n:Nat} {out:List Co} {a b a' s y:Te} {N:Int} {ls:List Lv} {most r:Bool} {n1 n2 n':Nat} {e:Int} {out':List Co}:Hd g.env n a a' n1->a'.kind≠5->Hd g.env n1 b (.mk 5 N ls [s,y]) n2->(zh1 a' 0 1).2=0->Al g n2 out (zwe a') y false r n' e out' -> Al g (n+1) out a b most r n' e out'
 |lamRe {n:Nat} {out:List Co} {a b a' s y:Te} {N:Int} {ls:List Lv} {most:Bool} {n1 n2:Nat}:Hd g.env n a a' n1->a'.kind≠5->Hd g.env n1 b (.mk 5 N ls [s,y]) n2->(zh1 a' 0 1).2≠0->Al g (n+1) out a b most false n2 (zh1 a' 0 1).2 out
 |other {n:Nat} {out:List Co} {a b:Te} {k N k' N':Int} {ls ls':List Lv} {ks ks':List Te} {most:Bool} {n1 n2:Nat}:Hd g.env n a (.mk k N ls ks) n1->k≠5->Hd g.env n1 b (.mk k' N' ls' ks') n2->k' ≠ 5->(k≠k' \/ N≠N' \/ ls.length≠ls'.length)->Al g (n+1) out a b most false n2 0 out
 |var {n:Nat} {out:List Co} {a b:Te} {N:Int} {ls ls':List Lv} {ks ks':List Te} {most:Bool} {n1 n2:Nat}:Hd g.env n a (.mk 1 N ls ks) n1->Hd g.env n1 b (.mk 1 N ls' ks') n2->ls.length=ls'.length->Al g (n+1) out a b most true n2 0 out
 |sortM {n:Nat} {out:List Co} {a b:Te} {N:Int} {x y:Lv} {ks ks':List Te} {n1 n2:Nat}:Hd g.env n a (.mk 2 N [x] ks) n1->Hd g.env n1 b (.mk 2 N [y] ks') n2->Al g (n+1) out a b true (zgj g (0,out) x y).1 n2 (zgj g (0,out) x y).2.1 (zgj g (0,out) x y).2.2
 |lvls {n:Nat} {out:List Co} {a b:Te} {k N:Int} {ls ls':List Lv} {ks ks':List Te} {most:Bool} {n1 n2:Nat}:(k=2/\most=false\/k=3)->Hd g.env n a (.mk k N ls ks) n1->Hd g.env n1 b (.mk k N ls' ks') n2->ls.length=ls'.length->Al g (n+1) out a b most (zka g (0,out) ls ls').1 n2 (zka g (0,out) ls ls').2.1 (zka g (0,out) ls ls').2.2
 |two1 {n:Nat} {out:List Co} {a b f x f' x':Te} {k N:Int} {ls ls':List Lv} {most:Bool} {n1 n2 n':Nat} {e:Int} {out':List Co}:(k=4\/k=6)->Hd g.env n a (.mk k N ls [f,x]) n1->Hd g.env n1 b (.mk k N ls' [f',x']) n2->ls.length=ls'.length->Al g n2 out f f' false false n' e out' -> Al g (n+1) out a b most false n' e out'
 |two2 {n:Nat} {out:List Co} {a b f x f' x':Te} {k N:Int} {ls ls':List Lv} {most r:Bool} {n1 n2 n3 n':Nat} {e:Int} {out1 out':List Co}:(k=4\/k=6)->Hd g.env n a (.mk k N ls [f,x]) n1->Hd g.env n1 b (.mk k N ls' [f',x']) n2->ls.length=ls'.length->Al g n2 out f f' false true n3 0 out1->Al g n3 out1 x x' (decide (k=6) && most) r n' e out' -> Al g (n+1) out a b most r n' e out'
end Go.Ab
end
section
set_option linter.unusedVariables false
set_option linter.unusedSimpArgs false
set_option maxRecDepth 100000
set_option maxHeartbeats 2000000
namespace Go.Ab
open Go.RowKit Go.Proofs
theorem zry(A:List AO)(ver:Nat)(out:List Co):(A++[AO.lst ver 6 (Co.css out)]).length=A.length+1:=by simp
theorem zes(g:Gr)(A X:List AO)(n:Nat)(hn:n+1<=1000000)(ver:Nat)(out:List Co):F za7 [.ptr (A.length+1) 0] (zjx A g (n+1:Nat) 0 ver out X)=some (.ret (.bool true),zjx A g n 0 ver out X):=by
 have h:=zd6 g.env (n+1:Nat) (by omega) (A++[.lst ver 6 (Co.css out)]) X (g.cs++[.ol A.length ver]) (zq0 A X g ver out)
 rw[<- zga,zry,if_neg (by omega),show ((n+1:Nat):Int) - 1=(n:Int) by omega,<- zga]at h
 exact h
theorem yi8(g:Gr)(A X:List AO)(ver:Nat)(out:List Co):F za7 [.ptr (A.length+1) 0] (zjx A g 0 0 ver out X)=some (.ret (.bool false),zjx A g 0 40 ver out X):=by
 have h:=zd6 g.env 0 (by omega) (A++[.lst ver 6 (Co.css out)]) X (g.cs++[.ol A.length ver]) (zq0 A X g ver out)
 rw[<- zga,zry,if_pos rfl,<- zga]at h;exact h
theorem zbn(g:Gr)(hE:zt5 g.env){n:Nat}{t t':Te}{n':Nat}(h:Hd g.env n t t' n')(ht:t.ok)(hn:n<=1000000)(A X:List AO)(ver:Nat)(out:List Co):
  F zav [.ptr (A.length+1) 0,.agg t.cs] (zjx A g n 0 ver out X)=some (.ret (.agg t'.cs),zjx A g n' 0 ver out X):=by
 have h:=z9r (A++[.lst ver 6 (Co.css out)]) X g.env (g.cs++[.ol A.length ver]) (zq0 A X g ver out) hE h ht hn;rw[<- zga,zry,<- zga]at h;exact h
theorem z3u(g:Gr)(hE:zt5 g.env){n:Nat}{t:Te}{n':Nat}{e:Int}(h:He g.env n t n' e)(ht:t.ok)(hn:n<=1000000)(A X:List AO)(ver:Nat)(out:List Co):
  ∃x:Te,F zav [.ptr (A.length+1) 0,.agg t.cs] (zjx A g n 0 ver out X)=some (.ret (.agg x.cs),zjx A g n' e ver out X):=by
 obtain⟨x,h⟩:=z9s (A++[.lst ver 6 (Co.css out)]) X g.env (g.cs++[.ol A.length ver]) (zq0 A X g ver out) hE h ht hn;rw[<- zga,zry,<- zga]at h;exact⟨x,h⟩
end Go.Ab
end
section
set_option linter.unusedVariables false
set_option linter.unusedSimpArgs false
set_option maxRecDepth 100000
set_option maxHeartbeats 2000000
namespace Go.Ab
open Go.RowKit Go.Proofs
mutual
def w2:Te->Bool
 |.mk k n ls ks=>(decide (k≠2) || decide (ls.length=1)) && w2s ks
def w2s:List Te->Bool
 |[]=>true
 |x::r=>w2 x && w2s r
end
mutual
theorem right_w2{p m:Int}:∀{t:Te} {v d:Int},rightT p m t v d=true->w2 t=true
 |.mk k n ls ks,v,d,h=>by
  obtain⟨h1,h2,h3,h4,h5⟩:=zf3 h;rw[w2,right_w2s h5,Bool.and_true];by_cases k2:k=2
  ·subst k2;unfold zl4 at h4;simp at h4;simp[h4]
  ·simp[k2]
theorem right_w2s{p m k:Int}:∀{ks:List Te} {i v d:Int},rightTs p m k ks i v d=true->w2s ks=true
 |[],_,_,_,_=>rfl
 |x::r,i,v,d,h=>by
  rw[rightTs]at h;simp at h;rw[w2s,right_w2 h.1,right_w2s h.2];rfl
end
theorem zt2{t:Te}(h:zcc t=true):w2 t=true:=right_w2 (zfp h)
mutual
theorem sub_w2(ps ms:List Lv):∀t:Te,w2 (subT ps ms t)=w2 t
 |.mk k n ls ks=>by
  rw[subT,w2,w2,subs_w2 ps ms ks,List.length_map]
theorem subs_w2(ps ms:List Lv):∀ks:List Te,w2s (subTs ps ms ks)=w2s ks
 |[]=>rfl
 |x::r=>by rw[subTs,w2s,w2s,sub_w2 ps ms x,subs_w2 ps ms r]
end
theorem Hd.w2{env:List De}{n:Nat}{t t':Te}{n':Nat}(h:Hd env n t t' n'):w2 t=true->Go.Ab.w2 t' = true:=by
 induction h with
 |stuck=>exact id
 |lett ho _ ih=>exact fun _=>ih (zt2 (zuk ho).2.2.2)
 |const _ _ hs _ ih=>exact fun _=>ih (by obtain⟨h1,rfl,_⟩:=z0q hs;rw[sub_w2];exact zt2 h1)
 |app _ _ ih=>
  intro h;simp only[Go.Ab.w2,w2s,Bool.and_eq_true,Bool.and_true]at h ⊢;exact⟨by simp,ih h.2.1,h.2.2⟩
 |beta _ ho _ _ ih=>exact fun _=>ih (zt2 (zuk ho).2.2.2)
theorem Hd.wf{env:List De}{n:Nat}{t t':Te}{n':Nat}(h:Hd env n t t' n'):wfT t=true->wfT t' = true:=by
 induction h with
 |stuck=>exact id
 |lett ho _ ih=>exact fun _=>ih (zuj ho)
 |const _ _ hs _ ih=>exact fun _=>ih (z7u hs)
 |app _ _ ih=>
  intro h;simp only[wfT,wfTs,Bool.and_eq_true,Bool.and_true]at h ⊢;exact⟨by simp[zft],ih h.2.1,h.2.2⟩
 |beta _ ho _ _ ih=>exact fun _=>ih (zuj ho)
theorem Hd.k7{env:List De}{n:Nat}{t t':Te}{n':Nat}(h:Hd env n t t' n'):t'.kind≠7:=by
 induction h with
 |stuck _ h _=>exact h
 |lett _ _ ih=>exact ih
 |const _ _ _ _ ih=>exact ih
 |app=>exact (show ¬ (4:Int)=7 by decide)
 |beta _ _ _ _ ih=>exact ih
def wg(t:Te):Bool:=wfT t && w2 t
theorem yga{t:Te}(h:zcc t=true):wg t=true:=by simp[wg,zyc h,zt2 h]
theorem Hd.wg{env:List De}{n:Nat}{t t':Te}{n':Nat}(h:Hd env n t t' n')(hw:wg t=true):Go.Ab.wg t' = true:=by
 simp only[Go.Ab.wg,Bool.and_eq_true]at hw ⊢;exact⟨h.wf hw.1,h.w2 hw.2⟩
theorem zdr{k N:Int}{ls:List Lv}{ks:List Te}(h:wg (.mk k N ls ks)=true):(ks.length:Int)=zft k/\(k=2->ls.length=1)/\∀x∈ks,wg x=true:=by
 simp only[wg,wfT,w2,Bool.and_eq_true,decide_eq_true_eq,Bool.or_eq_true]at h;obtain⟨⟨⟨h1,h2⟩,h3⟩,h4,h5⟩:=h;refine⟨h1,fun hk=>by simpa [hk] using h4,?_⟩
 clear h1 h2 h4
 induction ks with
 |nil=>intro x hx;cases hx
 |cons y r ih=>
  simp only[wfTs,w2s,Bool.and_eq_true]at h3 h5;intro x hx;rcases List.mem_cons.1 hx with rfl|hx
  ·simp[wg,h3.1,h5.1]
  ·exact ih h3.2 h5.2 x hx
theorem z05{k N:Int}{ls:List Lv}{ks:List Te}(h:wg (.mk k N ls ks)=true)(hk:k=4\/k=5\/k=6):∃a b,ks=[a,b]/\wg a=true/\wg b=true:=by
 obtain⟨h1,_,h2⟩:=zdr h;obtain⟨a,b,rfl⟩:=zx9 (ks:=ks) (by rw[h1];rcases hk with rfl|rfl|rfl <;> rfl)
 exact⟨a,b,rfl,h2 a (by simp),h2 b (by simp)⟩
theorem wg_kind{k N:Int}{ls:List Lv}{ks:List Te}(h:wg (.mk k N ls ks)=true)(h7:k≠7):k=1\/k=2\/k=3\/k=4\/k=5\/k=6:=by
 have h1:=(zdr h).1;unfold zft at h1;omega
theorem zs0{t:Te}(h:(zh1 t 0 1).2=0):wg (zwe t)=true:=by
 have:zcc (zh1 t 0 1).1=true:=by
  revert h;unfold zh1 zuo
  split
  ·intro h;cases h
  ·split
   ·intro _;assumption
   ·intro h;cases h
 have hw:=yga this;simp only[wg,Bool.and_eq_true]at hw;simp[wg,zwe,wfT,wfTs,w2,w2s,hw.1,hw.2,zft]
theorem zs1{t:Te}(h:t.ok):(zwe t).ok:=by
 have:=yi2 h 0 1;simp[zwe,ztb,this]
theorem Al.le{g:Gr}{n:Nat}{out:List Co}{a b:Te}{most r:Bool}{n':Nat}{e:Int}{out':List Co}(h:Al g n out a b most r n' e out'):n' <= n:=by
 have hE:∀{n:Nat} {t:Te} {n':Nat} {e:Int},He g.env n t n' e->n' <= n:=by
  intro n t n' e h
  induction h with
  |let0=>omega
  |let2=>omega
  |letr _ _ ih=>omega
  |const0=>omega
  |const2=>omega
  |constr _ _ _ _ ih=>omega
  |appf _ ih=>exact ih
  |beta0 h1=>omega
  |beta2 h1=>have:=h1.le;omega
  |betar h1 _ _ ih=>have:=h1.le;omega
 induction h with
 |burn0=>omega
 |headA h=>have:=hE h;omega
 |headB h1 h2=>have:=h1.le;have:=hE h2;omega
 |lam2 h1 h2 _ ih=>have:=h1.le;have:=h2.le;omega
 |lamL h1 h2 _ _ _ ih=>have:=h1.le;have:=h2.le;omega
 |lamLe h1 h2=>have:=h1.le;have:=h2.le;omega
 |lamR h1 _ h2 _ _ ih=>have:=h1.le;have:=h2.le;omega
 |lamRe h1 _ h2=>have:=h1.le;have:=h2.le;omega
 |other h1 _ h2=>have:=h1.le;have:=h2.le;omega
 |var h1 h2=>have:=h1.le;have:=h2.le;omega
 |sortM h1 h2=>have:=h1.le;have:=h2.le;omega
 |lvls _ h1 h2=>have:=h1.le;have:=h2.le;omega
 |two1 _ h1 h2 _ _ ih=>have:=h1.le;have:=h2.le;omega
 |two2 _ h1 h2 _ _ _ ih1 ih2=>have:=h1.le;have:=h2.le;omega
theorem z7t(g:Gr):∀(s:Int×List Co) (p q:List Lv),s.2.length<=100->(zka g s p q).2.2.length<=100
 |s,a::xs,b::ys,h=>by
  rw[zka];have h1:=z3g g s a b h
  split
  ·exact z7t g _ xs ys h1
  ·exact h1
 |s,[],_,h=>by simpa [zka] using h
 |s,_::_,[],h=>by simpa [zka] using h
theorem Al.len{g:Gr}{n:Nat}{out:List Co}{a b:Te}{most r:Bool}{n':Nat}{e:Int}{out':List Co}(h:Al g n out a b most r n' e out'):out.length<=100->out'.length<=100:=by
 induction h with
 |lam2 _ _ _ ih=>exact ih
 |lamL _ _ _ _ _ ih=>exact ih
 |lamR _ _ _ _ _ ih=>exact ih
 |sortM=>exact fun h=>zn0 g _ _ _ h
 |lvls=>exact fun h=>z7t g _ _ _ h
 |two1 _ _ _ _ _ ih=>exact ih
 |two2 _ _ _ _ _ _ ih1 ih2=>exact fun h=>ih2 (ih1 h)
 |_=>exact id
theorem zvf{g:Gr}{s:Int×List Co}{a b:Lv}(h:(zgj g s a b).1=true):s.1=0/\(zgj g s a b).2.1=0:=by
 unfold zgj at h ⊢
 split at h
 ·cases h
 rename_i h1;have h1:s.1=0:=by simpa using h1
 rw[if_neg (by simp[h1])]
 split at h
 ·rename_i h2
  rw[if_pos h2]
  split at h
  ·cases h
  ·rename_i h3
   rw[if_neg h3];exact⟨h1,rfl⟩
 ·rename_i h2
  rw[if_neg h2]
  split at h
  ·rename_i h3
   rw[if_pos h3];exact⟨h1,h1⟩
  ·cases h
theorem z9c{g:Gr}{s:Int×List Co}{a b:Lv}(h:(zog g s a b).1=true):s.1=0/\(zog g s a b).2.1=0:=by
 unfold zog at h ⊢
 split at h
 ·rename_i h1
  rw[if_pos h1];exact⟨(zvf h1).1,(zvf h).2⟩
 ·cases h
theorem z3o{g:Gr}:∀{s:Int×List Co} {p q:List Lv},s.1=0->(zka g s p q).1=true->(zka g s p q).2.1=0
 |s,a::xs,b::ys,hs,h=>by
  rw[zka]at h ⊢
  split at h
  ·rename_i h1
   rw[if_pos h1];exact z3o (z9c h1).2 h
  ·cases h
 |s,[],_,hs,h=>by simpa [zka] using hs
 |s,_::_,[],hs,h=>by simpa [zka] using hs
theorem Al.yes{g:Gr}{n:Nat}{out:List Co}{a b:Te}{most r:Bool}{n':Nat}{e:Int}{out':List Co}(h:Al g n out a b most r n' e out'):r=true->e=0:=by
 induction h with
 |lam2 _ _ _ ih=>exact ih
 |lamL _ _ _ _ _ ih=>exact ih
 |lamR _ _ _ _ _ ih=>exact ih
 |var=>exact fun _=>rfl
 |sortM=>exact fun h=>(zvf h).2
 |lvls=>exact fun h=>z3o rfl h
 |two2 _ _ _ _ _ _ ih1 ih2=>exact ih2
 |_=>exact fun h=>by cases h
theorem yip(g:Gr):∀(n:Nat) (out:List Co) (a b:Te) (most:Bool),wg a=true->wg b=true->∃r n' e out',Al g n out a b most r n' e out':=by
 intro n
 induction n using Nat.strongRecOn with
 |ind n ihn=>
 intro out a b most ha hb;rcases n with _|n
 ·exact⟨_,_,_,_,.burn0⟩
 have hwf:∀{t:Te},wg t=true->wfT t=true:=by
  intro t h;simp only[wg,Bool.and_eq_true]at h;exact h.1
 rcases zxk g.env n a (hwf ha) with⟨a',n1,hda,_⟩|⟨n',e,hea⟩
 case inr=>exact⟨_,_,_,_,.headA hea⟩
 rcases zxk g.env n1 b (hwf hb) with⟨b',n2,hdb,_⟩|⟨n',e,heb⟩
 case inr=>exact⟨_,_,_,_,.headB hda heb⟩
 have hle:n2<=n:=Nat.le_trans hdb.le hda.le;have hwa:=hda.wg ha;have hwb:=hdb.wg hb;have h7a:=hda.k7;have h7b:=hdb.k7;rcases a' with⟨k,N,ls,ks⟩;rcases b' with⟨k',N',ls',ks'⟩;by_cases k5:k=5
 ·subst k5
  obtain⟨s,x,rfl,hs,hx⟩:=z05 hwa (by omega)
  by_cases k5':k' = 5
  ·subst k5'
   obtain⟨s',y,rfl,hs',hy⟩:=z05 hwb (by omega)
   obtain⟨r,n',e,out',h⟩:=ihn n2 (by omega) out x y false hx hy
   exact⟨_,_,_,_,.lam2 hda hdb h⟩
  ·by_cases hL:(zh1 (.mk k' N' ls' ks') 0 1).2=0
   ·obtain⟨r,n',e,out',h⟩:=ihn n2 (by omega) out x (zwe (.mk k' N' ls' ks')) false hx (zs0 hL)
    exact⟨_,_,_,_,.lamL hda hdb k5' hL h⟩
   ·exact⟨_,_,_,_,.lamLe hda hdb k5' hL⟩
 by_cases k5':k' = 5
 ·subst k5'
  obtain⟨s',y,rfl,hs',hy⟩:=z05 hwb (by omega)
  by_cases hL:(zh1 (.mk k N ls ks) 0 1).2=0
  ·obtain⟨r,n',e,out',h⟩:=ihn n2 (by omega) out (zwe (.mk k N ls ks)) y false (zs0 hL) hy
   exact⟨_,_,_,_,.lamR hda k5 hdb hL h⟩
  ·exact⟨_,_,_,_,.lamRe hda k5 hdb hL⟩
 by_cases ho:k≠k' \/ N≠N' \/ ls.length≠ls'.length
 ·exact⟨_,_,_,_,.other hda k5 hdb k5' ho⟩
 simp only[not_or,ne_eq,Decidable.not_not]at ho;obtain⟨rfl,rfl,hl⟩:=ho;rcases wg_kind hwa h7a with rfl|rfl|rfl|h46
 ·exact⟨_,_,_,_,.var hda hdb hl⟩
 ·cases most
  ·exact⟨_,_,_,_,.lvls (.inl ⟨rfl,rfl⟩) hda hdb hl⟩
  ·have l1:=(zdr hwa).2.1 rfl
   obtain⟨x,rfl⟩:=List.length_eq_one_iff.1 l1;obtain⟨y,rfl⟩:=List.length_eq_one_iff.1 (hl.symm.trans l1);exact⟨_,_,_,_,.sortM hda hdb⟩
 ·exact⟨_,_,_,_,.lvls (.inr rfl) hda hdb hl⟩
 ·have h46:k=4\/k=6:=by omega
  obtain⟨f,x,rfl,hf,hx⟩:=z05 hwa (by omega)
  obtain⟨f',x',rfl,hf',hx'⟩:=z05 hwb (by omega)
  obtain⟨r,n3,e,out1,h⟩:=ihn n2 (by omega) out f f' false hf hf'
  cases r
  ·exact⟨_,_,_,_,.two1 h46 hda hdb hl h⟩
  ·have he:=h.yes rfl
   subst he;have:=h.le;obtain⟨r,n',e,out',h2⟩:=ihn n3 (by omega) out1 x x' (decide (k=6) && most) hx hx'
   exact⟨_,_,_,_,.two2 h46 hda hdb hl h h2⟩
end Go.Ab
end
section
set_option linter.unusedVariables false
set_option linter.unusedSimpArgs false
set_option maxRecDepth 100000
set_option maxHeartbeats 4000000
namespace Go.Ab
open Go.RowKit Go.Proofs
theorem zf9(A:List AO)(g:Gr)(n e:Int)(ver:Nat)(out:List Co)(X:List AO):zjx A g n e ver out X=A++(.lst ver 6 (Co.css out) :: .box [.sl (De.css g.env),.int .i64 n,.int .i64 e,.sl (De.css g.env),.int .i64 g.params,.int .i64 g.metas,.sl (Co.css g.cons),.int .i64 g.mode,.ol A.length ver]::X):=rfl
theorem yfe(g:Gr)(x:Te)(n e:Int)(he:e≠0)(A X:List AO)(ver:Nat)(out:List Co):
  F zav [.ptr (A.length+1) 0,.agg x.cs] (zjx A g n e ver out X)=some (.ret (.agg x.cs),zjx A g n e ver out X):=by
 have h:=zlo g.env x n e (A++[.lst ver 6 (Co.css out)]) X (g.cs++[.ol A.length ver]) (zq0 A X g ver out) he n e _ rfl;rw[<- zko,<- zga,zry]at h;exact h
theorem Hd.oks{g:Gr}(hE:zt5 g.env){n:Nat}{t:Te}{k N:Int}{ls:List Lv}{ks:List Te}{n':Nat}(h:Hd g.env n t (.mk k N ls ks) n')(ht:t.ok):(Te.mk k N ls ks).ok:=h.ok hE ht
theorem yff(g:Gr)(hE:zt5 g.env)(hcons:∀c∈g.cons,c.ok)(hcl:g.cons.length<=1000)(hmode:g.mode=1\/g.mode=2){n:Nat}{out:List Co}{a b:Te}{most r:Bool}{n':Nat}{e:Int}{out':List Co}(h:Al g n out a b most r n' e out'):
  a.ok->b.ok->wg a=true->wg b=true->n<=1000000->out.length<=100->∀(A X:List AO) (ver:Nat),∃ver',F za6 [.ptr (A.length+1) 0,.agg a.cs,.agg b.cs,.bool most] (zjx A g n 0 ver out X)=some (.ret (.bool r),zjx A g n' e ver' out' X):=by
 induction h with
 |@burn0 out a b most=>
  intro ha hb hwa hwb hn ho A X ver;have hB:=yi8 g A X ver out;have hfin:=zep A X g 0 0 ver out 0 40 ver out false;refine⟨ver,?_⟩;rcases a with⟨k,N,ls,ks⟩;rcases b with⟨k',N',ls',ks'⟩;rw[zal];simp only[zf9]at hB hfin;simp only[↓reduceIte,go_sem,zf9,Int.natCast_zero,Te.cs,hB];exact hfin
 |@headA n out a b most n' e hda=>
  intro ha hb hwa hwb hn ho A X ver;have hB:=zes g A X n hn ver out;obtain⟨⟨kx,Nx,lx,kx2⟩,hH1⟩:=z3u g hE hda ha (by omega) A X ver out
  have hne:=hda.ne;have hH2:=yfe g b n' e hne A X ver out;have hfin:=zep A X g (n+1:Nat) 0 ver out n' e ver out false;refine⟨ver,?_⟩;rcases a with⟨k,N,ls,ks⟩;rcases b with⟨k',N',ls',ks'⟩;rw[zal];simp only[zf9,Te.cs]at hB hfin hH1 hH2;simp only[↓reduceIte,go_sem,zf9,Te.cs,hB,hH1,hH2,hne];exact hfin
 |@headB n out a b a' most n1 n' e hda heb=>
  intro ha hb hwa hwb hn ho A X ver;have hB:=zes g A X n hn ver out;have hH1:=zbn g hE hda ha (by omega) A X ver out
  obtain⟨⟨kx,Nx,lx,kx2⟩,hH2⟩:=z3u g hE heb hb (by have:=hda.le;omega) A X ver out
  have hne:=heb.ne;have hfin:=zep A X g (n+1:Nat) 0 ver out n' e ver out false;refine⟨ver,?_⟩;rcases a with⟨k,N,ls,ks⟩;rcases b with⟨k',N',ls',ks'⟩;rcases a' with⟨k3,N3,ls3,ks3⟩;rw[zal];simp only[zf9,Te.cs]at hB hfin hH1 hH2;simp only[↓reduceIte,go_sem,zf9,Te.cs,hB,hH1,hH2,hne];exact hfin
 |@lam2 n out a b s x s' y N N' ls ls' most r n1 n2 n' e out' hda hdb hal ih=>
  intro ha hb hwa hwb hn ho A X ver;have hB:=zes g A X n hn ver out;have hH1:=zbn g hE hda ha (by omega) A X ver out
  have hH2:=zbn g hE hdb hb (by have:=hda.le;omega) A X ver out
  have hoa:=hda.ok hE ha;have hob:=hdb.ok hE hb;have hwa':=hda.wg hwa;have hwb':=hdb.wg hwb;have hle1:=hda.le;have hle2:=hdb.le;obtain⟨v1,hI⟩:=ih (hoa.all x (by simp)) (hob.all y (by simp)) ((zdr hwa').2.2 x (by simp)) ((zdr hwb').2.2 y (by simp)) (by omega) ho A X ver
  have hfin:=zep A X g (n+1:Nat) 0 ver out n' e v1 out' r;refine⟨v1,?_⟩;rcases a with⟨ka,Na,lsa,ksa⟩;rcases b with⟨kb,Nb,lsb,ksb⟩;rw[zal];simp only[zf9,Te.cs,Te.css,Lv.css]at hB hfin hH1 hH2 hI;simp only[↓reduceIte,go_sem,zf9,Te.cs,Te.css,Lv.css,hB,hH1,hH2,hI];exact hfin
 |@lamL n out a b b' s x N ls most r n1 n2 n' e out' hda hdb hk hL hal ih=>
  intro ha hb hwa hwb hn ho A X ver;have hB:=zes g A X n hn ver out;have hH1:=zbn g hE hda ha (by omega) A X ver out
  have hH2:=zbn g hE hdb hb (by have:=hda.le;omega) A X ver out
  have hoa:=hda.ok hE ha;have hob:=hdb.ok hE hb;have hwa':=hda.wg hwa;have hwb':=hdb.wg hwb;have hle1:=hda.le;have hle2:=hdb.le;obtain⟨v1,hI⟩:=ih (hoa.all x (by simp)) (zs1 hob) ((zdr hwa').2.2 x (by simp)) (zs0 hL) (by omega) ho A X ver
  have hT:=zuf g b' hob A X n2 ver out;rw[hL]at hT;rcases b' with⟨k',N',ls',ks'⟩;have hk:¬ k' = 5:=hk;rcases hq:zwe (.mk k' N' ls' ks') with⟨k3,N3,ls3,ks3⟩;rw[hq]at hI hT;have hfin:=zep A X g (n+1:Nat) 0 ver out n' e v1 out' r;refine⟨v1,?_⟩;rcases a with⟨ka,Na,lsa,ksa⟩;rcases b with⟨kb,Nb,lsb,ksb⟩;rw[zal];simp only[zf9,Te.cs,Te.css,Lv.css]at hB hfin hH1 hH2 hI hT;simp only[↓reduceIte,go_sem,zf9,Te.cs,Te.css,Lv.css,hB,hH1,hH2,hI,hT,hk];exact hfin
 |@lamLe n out a b b' s x N ls most n1 n2 hda hdb hk hL=>
  intro ha hb hwa hwb hn ho A X ver;have hB:=zes g A X n hn ver out;have hH1:=zbn g hE hda ha (by omega) A X ver out
  have hH2:=zbn g hE hdb hb (by have:=hda.le;omega) A X ver out
  have hoa:=hda.ok hE ha;have hob:=hdb.ok hE hb;have hwa':=hda.wg hwa;have hwb':=hdb.wg hwb;have hle1:=hda.le;have hle2:=hdb.le;have hT:=zuf g b' hob A X n2 ver out;generalize (zh1 b' 0 1).2=e at *;rcases b' with⟨k',N',ls',ks'⟩;have hk:¬ k' = 5:=hk;rcases hq:zwe (.mk k' N' ls' ks') with⟨k3,N3,ls3,ks3⟩;rw[hq]at hT;have hfin:=zep A X g (n+1:Nat) 0 ver out n2 e ver out false;refine⟨ver,?_⟩;rcases a with⟨ka,Na,lsa,ksa⟩;rcases b with⟨kb,Nb,lsb,ksb⟩;rw[zal];simp only[zf9,Te.cs,Te.css,Lv.css]at hB hfin hH1 hH2 hT;simp only[↓reduceIte,go_sem,zf9,Te.cs,Te.css,Lv.css,hB,hH1,hH2,hT,hk,hL];exact hfin
 |@lamR n out a b a' s y N ls most r n1 n2 n' e out' hda hk hdb hL hal ih=>
  intro ha hb hwa hwb hn ho A X ver;have hB:=zes g A X n hn ver out;have hH1:=zbn g hE hda ha (by omega) A X ver out
  have hH2:=zbn g hE hdb hb (by have:=hda.le;omega) A X ver out
  have hoa:=hda.ok hE ha;have hob:=hdb.ok hE hb;have hwa':=hda.wg hwa;have hwb':=hdb.wg hwb;have hle1:=hda.le;have hle2:=hdb.le;obtain⟨v1,hI⟩:=ih (zs1 hoa) (hob.all y (by simp)) (zs0 hL) ((zdr hwb').2.2 y (by simp)) (by omega) ho A X ver
  have hT:=zuf g a' hoa A X n2 ver out;rw[hL]at hT;rcases a' with⟨k',N',ls',ks'⟩;have hk:¬ k' = 5:=hk;rcases hq:zwe (.mk k' N' ls' ks') with⟨k3,N3,ls3,ks3⟩;rw[hq]at hI hT;have hfin:=zep A X g (n+1:Nat) 0 ver out n' e v1 out' r;refine⟨v1,?_⟩;rcases a with⟨ka,Na,lsa,ksa⟩;rcases b with⟨kb,Nb,lsb,ksb⟩;rw[zal];simp only[zf9,Te.cs,Te.css,Lv.css]at hB hfin hH1 hH2 hI hT;simp only[↓reduceIte,go_sem,zf9,Te.cs,Te.css,Lv.css,hB,hH1,hH2,hI,hT,hk];exact hfin
 |@lamRe n out a b a' s y N ls most n1 n2 hda hk hdb hL=>
  intro ha hb hwa hwb hn ho A X ver;have hB:=zes g A X n hn ver out;have hH1:=zbn g hE hda ha (by omega) A X ver out
  have hH2:=zbn g hE hdb hb (by have:=hda.le;omega) A X ver out
  have hoa:=hda.ok hE ha;have hob:=hdb.ok hE hb;have hwa':=hda.wg hwa;have hwb':=hdb.wg hwb;have hle1:=hda.le;have hle2:=hdb.le;have hT:=zuf g a' hoa A X n2 ver out;generalize (zh1 a' 0 1).2=e at *;rcases a' with⟨k',N',ls',ks'⟩;have hk:¬ k' = 5:=hk;rcases hq:zwe (.mk k' N' ls' ks') with⟨k3,N3,ls3,ks3⟩;rw[hq]at hT;have hfin:=zep A X g (n+1:Nat) 0 ver out n2 e ver out false;refine⟨ver,?_⟩;rcases a with⟨ka,Na,lsa,ksa⟩;rcases b with⟨kb,Nb,lsb,ksb⟩;rw[zal];simp only[zf9,Te.cs,Te.css,Lv.css]at hB hfin hH1 hH2 hT;simp only[↓reduceIte,go_sem,zf9,Te.cs,Te.css,Lv.css,hB,hH1,hH2,hT,hk,hL];exact hfin
 |@other n out a b k N k' N' ls ls' ks ks' most n1 n2 hda hk5 hdb hk5' hne=>
  intro ha hb hwa hwb hn ho A X ver;have hB:=zes g A X n hn ver out;have hH1:=zbn g hE hda ha (by omega) A X ver out
  have hH2:=zbn g hE hdb hb (by have:=hda.le;omega) A X ver out
  have hoa:=hda.ok hE ha;have hob:=hdb.ok hE hb;have hwa':=hda.wg hwa;have hwb':=hdb.wg hwb;have hle1:=hda.le;have hle2:=hdb.le;have hfin:=zep A X g (n+1:Nat) 0 ver out n2 0 ver out false;refine⟨ver,?_⟩;rcases a with⟨ka,Na,lsa,ksa⟩;rcases b with⟨kb,Nb,lsb,ksb⟩;rw[zal];simp only[zf9,Te.cs]at hB hfin hH1 hH2;by_cases c1:k=k'
  ·by_cases c2:N=N'
   ·have c3:¬ (ls.length:Int)=(ls'.length:Int):=by rcases hne with h|h|h <;> omega
    simp only[↓reduceIte,go_sem,zf9,Te.cs,hB,hH1,hH2,hk5,hk5',c1,c2,c3];exact hfin
   ·simp only[↓reduceIte,go_sem,zf9,Te.cs,hB,hH1,hH2,hk5,hk5',c1,c2]
    exact hfin
  ·simp only[↓reduceIte,go_sem,zf9,Te.cs,hB,hH1,hH2,hk5,hk5',c1]
   exact hfin
 |@var n out a b N ls ls' ks ks' most n1 n2 hda hdb hl=>
  intro ha hb hwa hwb hn ho A X ver;have hB:=zes g A X n hn ver out;have hH1:=zbn g hE hda ha (by omega) A X ver out
  have hH2:=zbn g hE hdb hb (by have:=hda.le;omega) A X ver out
  have hoa:=hda.ok hE ha;have hob:=hdb.ok hE hb;have hwa':=hda.wg hwa;have hwb':=hdb.wg hwb;have hle1:=hda.le;have hle2:=hdb.le;have hlI:(ls.length:Int)=(ls'.length:Int):=by omega
  have hfin:=zep A X g (n+1:Nat) 0 ver out n2 0 ver out true;refine⟨ver,?_⟩;rcases a with⟨ka,Na,lsa,ksa⟩;rcases b with⟨kb,Nb,lsb,ksb⟩;rw[zal];simp only[zf9,Te.cs,Te.css,Lv.css]at hB hfin hH1 hH2;simp only[↓reduceIte,go_sem,zf9,Te.cs,Te.css,Lv.css,hB,hH1,hH2,hlI];exact hfin
 |@sortM n out a b N x y ks ks' n1 n2 hda hdb=>
  intro ha hb hwa hwb hn ho A X ver;have hB:=zes g A X n hn ver out;have hH1:=zbn g hE hda ha (by omega) A X ver out
  have hH2:=zbn g hE hdb hb (by have:=hda.le;omega) A X ver out
  have hoa:=hda.ok hE ha;have hob:=hdb.ok hE hb;have hwa':=hda.wg hwa;have hwb':=hdb.wg hwb;have hle1:=hda.le;have hle2:=hdb.le;obtain⟨v1,hI⟩:=z0t g hcons hcl hmode x y (hoa.all2 x (by simp)) (hob.all2 y (by simp)) A X n2 0 ver out ho
  have hfin:=zep A X g (n+1:Nat) 0 ver out n2 (zgj g (0,out) x y).2.1 v1 (zgj g (0,out) x y).2.2 (zgj g (0,out) x y).1;refine⟨v1,?_⟩;rcases a with⟨ka,Na,lsa,ksa⟩;rcases b with⟨kb,Nb,lsb,ksb⟩;rw[zal];simp only[zf9,Te.cs,Te.css,Lv.css]at hB hfin hH1 hH2 hI;simp only[↓reduceIte,go_sem,zf9,Te.cs,Te.css,Lv.css,hB,hH1,hH2,hI,List.length_cons,List.length_nil];exact hfin
 |@lvls n out a b k N ls ls' ks ks' most n1 n2 hk hda hdb hl=>
  intro ha hb hwa hwb hn ho A X ver;have hB:=zes g A X n hn ver out;have hH1:=zbn g hE hda ha (by omega) A X ver out
  have hH2:=zbn g hE hdb hb (by have:=hda.le;omega) A X ver out
  have hoa:=hda.ok hE ha;have hob:=hdb.ok hE hb;have hwa':=hda.wg hwa;have hwb':=hdb.wg hwb;have hle1:=hda.le;have hle2:=hdb.le;obtain⟨v1,hI⟩:=yio g hcons hcl hmode ls ls' hoa.all2 hob.all2 hl hoa.len2 A X n2 0 ver out ho;have hlI:(ls.length:Int)=(ls'.length:Int):=by omega
  have hfin:=zep A X g (n+1:Nat) 0 ver out n2 (zka g (0,out) ls ls').2.1 v1 (zka g (0,out) ls ls').2.2 (zka g (0,out) ls ls').1;refine⟨v1,?_⟩;rcases a with⟨ka,Na,lsa,ksa⟩;rcases b with⟨kb,Nb,lsb,ksb⟩;rw[zal];simp only[zf9,Te.cs]at hB hfin hH1 hH2 hI;rcases hk with⟨rfl,rfl⟩|rfl
  ·simp only[↓reduceIte,go_sem,zf9,Te.cs,hB,hH1,hH2,hI,hlI]
   exact hfin
  ·simp only[↓reduceIte,go_sem,zf9,Te.cs,hB,hH1,hH2,hI,hlI]
   exact hfin
 |@two1 n out a b f x f' x' k N ls ls' most n1 n2 n' e out' hk hda hdb hl hal ih=>
  intro ha hb hwa hwb hn ho A X ver;have hB:=zes g A X n hn ver out;have hH1:=zbn g hE hda ha (by omega) A X ver out
  have hH2:=zbn g hE hdb hb (by have:=hda.le;omega) A X ver out
  have hoa:=hda.ok hE ha;have hob:=hdb.ok hE hb;have hwa':=hda.wg hwa;have hwb':=hdb.wg hwb;have hle1:=hda.le;have hle2:=hdb.le;obtain⟨v1,hI⟩:=ih (hoa.all f (by simp)) (hob.all f' (by simp)) ((zdr hwa').2.2 f (by simp)) ((zdr hwb').2.2 f' (by simp)) (by omega) ho A X ver
  have hlI:(ls.length:Int)=(ls'.length:Int):=by omega
  have hfin:=zep A X g (n+1:Nat) 0 ver out n' e v1 out' false;refine⟨v1,?_⟩;rcases a with⟨ka,Na,lsa,ksa⟩;rcases b with⟨kb,Nb,lsb,ksb⟩;rw[zal];simp only[zf9,Te.cs,Te.css]at hB hfin hH1 hH2 hI;rcases hk with rfl|rfl
  ·simp only[↓reduceIte,go_sem,zf9,Te.cs,Te.css,hB,hH1,hH2,hI,hlI]
   exact hfin
  ·simp only[↓reduceIte,go_sem,zf9,Te.cs,Te.css,hB,hH1,hH2,hI,hlI]
   exact hfin
 |@two2 n out a b f x f' x' k N ls ls' most r n1 n2 n3 n' e out1 out' hk hda hdb hl hal hal2 ih1 ih2=>
  intro ha hb hwa hwb hn ho A X ver;have hB:=zes g A X n hn ver out;have hH1:=zbn g hE hda ha (by omega) A X ver out
  have hH2:=zbn g hE hdb hb (by have:=hda.le;omega) A X ver out
  have hoa:=hda.ok hE ha;have hob:=hdb.ok hE hb;have hwa':=hda.wg hwa;have hwb':=hdb.wg hwb;have hle1:=hda.le;have hle2:=hdb.le;have hle3:=hal.le;obtain⟨v1,hI⟩:=ih1 (hoa.all f (by simp)) (hob.all f' (by simp)) ((zdr hwa').2.2 f (by simp)) ((zdr hwb').2.2 f' (by simp)) (by omega) ho A X ver
  obtain⟨v2,hJ⟩:=ih2 (hoa.all x (by simp)) (hob.all x' (by simp)) ((zdr hwa').2.2 x (by simp)) ((zdr hwb').2.2 x' (by simp)) (by omega) (hal.len ho) A X v1
  have hlI:(ls.length:Int)=(ls'.length:Int):=by omega
  have hfin:=zep A X g (n+1:Nat) 0 ver out n' e v2 out' r;refine⟨v2,?_⟩;rcases a with⟨ka,Na,lsa,ksa⟩;rcases b with⟨kb,Nb,lsb,ksb⟩;rw[zal];simp only[zf9,Te.cs,Te.css]at hB hfin hH1 hH2 hI hJ;rcases hk with rfl|rfl
  ·simp only[show decide ((4:Int)=6)=false from rfl,Bool.false_and]at hJ
   simp only[↓reduceIte,go_sem,zf9,Te.cs,Te.css,hB,hH1,hH2,hI,hJ,hlI];exact hfin
  ·simp only[decide_true,Bool.true_and]at hJ
   cases most <;>
   ·simp only[↓reduceIte,go_sem,zf9,Te.cs,Te.css,hB,hH1,hH2,hI,hJ,hlI]
    exact hfin
end Go.Ab
end
section
set_option linter.unusedVariables false
set_option linter.unusedSimpArgs false
set_option maxRecDepth 100000
set_option maxHeartbeats 4000000
namespace Go.Ab
open Go.RowKit Go.Proofs
def zv9:List (AV×AV):=[(.agg [.int .i64 1,.int .i64 1],.fn (.func zbg) [] []),(.agg [.int .i64 2,.int .i64 2],.fn (.func zbx) [] []),(.agg [.int .i64 3,.int .i64 3],.fn (.func zbk) [] []),(.agg [.int .i64 4,.int .i64 4],.fn (.func zb6) [] []),(.agg [.int .i64 6,.int .i64 6],.fn (.func zcn) [] [])]
theorem zez(H:List AO):F zpf [] H=some (.ret (.fmap zv9),H):=by
 rw[z5o];simp only[↓reduceIte,go_sem,zua,zyx,zde,zoh,ltL,zv9,List.length_cons,List.length_nil,List.cons.injEq,and_false,false_and]
theorem z0j(k k':Int):∃o,zde 2 [k,k'] zv9=some o:=by
 simp only[zv9,zde,zua,zyx,List.length_cons,List.length_nil,↓reduceIte];exact⟨_,rfl⟩
theorem yeo{k k':Int}(h:k≠k'):zde 2 [k,k'] zv9=some none:=by
 simp only[zv9,zde,zua,zyx,List.length_cons,List.length_nil,↓reduceIte];have:∀c:Int,¬ ([c,c]=[k,k']):=by intro c hc;simp at hc;omega
 simp only[this,↓reduceIte]
theorem asks_1:zde 2 [1,1] zv9=some (some (.fn (.func zbg) [] [])):=rfl
theorem ykn:zde 2 [2,2] zv9=some (some (.fn (.func zbx) [] [])):=rfl
theorem asks_3:zde 2 [3,3] zv9=some (some (.fn (.func zbk) [] [])):=rfl
theorem ykm:zde 2 [4,4] zv9=some (some (.fn (.func zb6) [] [])):=rfl
theorem ykl:zde 2 [6,6] zv9=some (some (.fn (.func zcn) [] [])):=rfl
theorem zdl(k k':Int):zua 2 (.agg [.int .i64 k,.int .i64 k'])=some [k,k']:=rfl
theorem zff(A:List AO)(g:Gr)(n e:Int)(ver:Nat)(out:List Co)(X:List AO):zhn A g n e ver out X=A++(.box [.sl (De.css g.env),.int .i64 n,.int .i64 e] :: .lst 0 11 [] :: .lst 0 6 [] :: .lst ver 6 (Co.css out) :: .box [.ptr A.length 0,.sl (De.css g.env),.int .i64 g.params,.int .i64 g.metas,.sl (Co.css g.cons),.int .i64 g.mode,.ol (A.length+3) ver]::X):=rfl
theorem zdq(g:Gr)(A X:List AO)(n:Nat)(hn:n+1<=1000000)(ver:Nat)(out:List Co):F zai [.ptr A.length 0] (zhn A g (n+1:Nat) 0 ver out X)=some (.ret (.bool true),zhn A g n 0 ver out X):=by
 have h:=zmd g.env (n+1:Nat) (by omega) A (.lst 0 11 [] :: .lst 0 6 [] :: .lst ver 6 (Co.css out) :: .box (.ptr A.length 0::(g.cs++[.ol (A.length+3) ver]))::X)
 rw[if_neg (by omega),show ((n+1:Nat):Int) - 1=(n:Int) by omega]at h
 exact h
theorem yfi(g:Gr)(A X:List AO)(ver:Nat)(out:List Co):F zai [.ptr A.length 0] (zhn A g 0 0 ver out X)=some (.ret (.bool false),zhn A g 0 40 ver out X):=by
 have h:=zmd g.env 0 (by omega) A (.lst 0 11 [] :: .lst 0 6 [] :: .lst ver 6 (Co.css out) :: .box (.ptr A.length 0::(g.cs++[.ol (A.length+3) ver]))::X)
 rw[if_pos rfl]at h;exact h
theorem za5(g:Gr)(hE:zt5 g.env){n:Nat}{t t':Te}{n':Nat}(h:Hd g.env n t t' n')(ht:t.ok)(hs:sz t+600*n<=500000000)(A X:List AO)(ver:Nat)(out:List Co):
  F zaw [.ptr A.length 0,.agg t.cs] (zhn A g n 0 ver out X)=some (.ret (.agg t'.cs),zhn A g n' 0 ver out X) :=
 yi6 A (.lst 0 11 [] :: .lst 0 6 [] :: .lst ver 6 (Co.css out) :: .box (.ptr A.length 0::(g.cs++[AV.ol (A.length+3) ver]))::X) g.env hE h ht hs
theorem zx4(g:Gr)(hE:zt5 g.env){n:Nat}{t:Te}{n':Nat}{e:Int}(h:He g.env n t n' e)(ht:t.ok)(hs:sz t+600*n<=500000000)(A X:List AO)(ver:Nat)(out:List Co):
  ∃x:Te,F zaw [.ptr A.length 0,.agg t.cs] (zhn A g n 0 ver out X)=some (.ret (.agg x.cs),zhn A g n' e ver out X) :=
 yi7 A (.lst 0 11 [] :: .lst 0 6 [] :: .lst ver 6 (Co.css out) :: .box (.ptr A.length 0::(g.cs++[AV.ol (A.length+3) ver]))::X) g.env hE h ht hs
theorem z9q(g:Gr)(x:Te)(n e:Int)(he:e≠0)(A X:List AO)(ver:Nat)(out:List Co):
  F zaw [.ptr A.length 0,.agg x.cs] (zhn A g n e ver out X)=some (.ret (.agg x.cs),zhn A g n e ver out X):=by
 rcases x with⟨k,N,ls,ks⟩;have h:=yfb A (.lst 0 11 [] :: .lst 0 6 [] :: .lst ver 6 (Co.css out) :: .box (.ptr A.length 0::(g.cs++[AV.ol (A.length+3) ver]))::X) g.env n e n e 0 [] (by simp) k N ls ks (.inl he)
 rw[<- z53]at h;exact h
theorem zx8(p m:AV)(k N:Int)(ls:List Lv)(ks:List Te)(k' N':Int)(ls':List Lv)(ks':List Te)(H:List AO):F zbg [p,.agg [.int .i64 k,.int .i64 N,.sl (Lv.css ls),.sl (Te.css ks)],.agg [.int .i64 k',.int .i64 N',.sl (Lv.css ls'),.sl (Te.css ks')],m] H=some (.ret (.bool true),H):=by
 rw[znh];simp only[↓reduceIte,go_sem]
theorem zsc{k N:Int}{ls:List Lv}{x y:Te}:sz (.mk k N ls [x,y])=sz x+sz y+1:=by simp[sz,subs,subss]
theorem ykd{t:Te}(h:(zh1 t 0 1).2=0):sz (zwe t)<=602:=by
 have:zcc (zh1 t 0 1).1=true:=by
  revert h;unfold zh1 zuo
  split
  ·intro h;cases h
  ·split
   ·intro _;assumption
   ·intro h;cases h
 have:=zyd this;rw[zwe,zsc];have:sz (.mk 1 0 [] [])=1:=rfl;omega
section
variable (g : Gr) (hcons : ∀ c ∈ g.cons, c.ok) (hcl : g.cons.length ≤ 1000) (hmode : g.mode = 1 ∨ g.mode = 2)
include hcons hcl hmode
theorem yao(x y:Lv)(hx:x.ok)(hy:y.ok)(k N k' N':Int)(ks ks':List Te)(A X:List AO)(n:Int)(ver:Nat)(out:List Co)(ho:out.length<=100):∃ver',
  F zbx [.ptr (A.length+4) 0,.agg [.int .i64 k,.int .i64 N,.sl (Lv.css [x]),.sl (Te.css ks)],.agg [.int .i64 k',.int .i64 N',.sl (Lv.css [y]),.sl (Te.css ks')],.bool true] (zhn A g n 0 ver out X)=some (.ret (.bool (zgj g (0,out) x y).1),zhn A g n (zgj g (0,out) x y).2.1 ver' (zgj g (0,out) x y).2.2 X):=by
 obtain⟨v1,hI⟩:=zwc g hcons hcl hmode x y hx hy A X n 0 ver out ho;have hfin:=zc5 A X g n 0 ver out n (zgj g (0,out) x y).2.1 v1 (zgj g (0,out) x y).2.2 (zgj g (0,out) x y).1;refine⟨v1,?_⟩;rw[zj8];simp only[↓reduceIte,go_sem,Lv.css,hI,hfin]
theorem yap(P Q:List Lv)(hP:∀x∈P,x.ok)(hQ:∀x∈Q,x.ok)(hlen:P.length=Q.length)(hb:P.length<=140737488355328)(k N k' N':Int)(ks ks':List Te)(A X:List AO)(n:Int)(ver:Nat)(out:List Co)(ho:out.length<=100):∃ver',
  F zbx [.ptr (A.length+4) 0,.agg [.int .i64 k,.int .i64 N,.sl (Lv.css P),.sl (Te.css ks)],.agg [.int .i64 k',.int .i64 N',.sl (Lv.css Q),.sl (Te.css ks')],.bool false] (zhn A g n 0 ver out X)=some (.ret (.bool (zka g (0,out) P Q).1),zhn A g n (zka g (0,out) P Q).2.1 ver' (zka g (0,out) P Q).2.2 X):=by
 obtain⟨v1,hI⟩:=zvd g hcons hcl hmode P Q hP hQ hlen hb k N k' N' ks ks' (.bool false) A X n 0 ver out ho;have hfin:=zc5 A X g n 0 ver out n (zka g (0,out) P Q).2.1 v1 (zka g (0,out) P Q).2.2 (zka g (0,out) P Q).1;refine⟨v1,?_⟩;simp only[Te.cs]at hI;rw[zj8];simp only[↓reduceIte,go_sem,hI,hfin]
end
theorem yfk(g:Gr)(hE:zt5 g.env)(hcons:∀c∈g.cons,c.ok)(hcl:g.cons.length<=1000)(hmode:g.mode=1\/g.mode=2){n:Nat}{out:List Co}{a b:Te}{most r:Bool}{n':Nat}{e:Int}{out':List Co}(h:Al g n out a b most r n' e out'):
  a.ok->b.ok->wg a=true->wg b=true->sz a+600*n<=400000000->sz b+600*n<=400000000->n<=500000->out.length<=100->∀(A X:List AO) (ver:Nat),∃ver',F za8 [.ptr (A.length+4) 0,.agg a.cs,.agg b.cs,.bool most] (zhn A g n 0 ver out X)=some (.ret (.bool r),zhn A g n' e ver' out' X):=by
 induction h with
 |@burn0 out a b most=>
  intro ha hb hwa hwb hsa hsb hn ho A X ver;have hB:=yfi g A X ver out;have hfin:=zc5 A X g 0 0 ver out 0 40 ver out false;refine⟨ver,?_⟩;rcases a with⟨ka,Na,lsa,ksa⟩;rcases b with⟨kb,Nb,lsb,ksb⟩;rw[zaj];simp only[zff]at hB hfin;simp only[↓reduceIte,go_sem,zff,zez,zdl,Int.natCast_zero,Te.cs,hB,hfin]
 |@headA n out a b most n' e hda=>
  intro ha hb hwa hwb hsa hsb hn ho A X ver;have hB:=zdq g A X n (by omega) ver out
  obtain⟨⟨kx,Nx,lx,kx2⟩,hH1⟩:=zx4 g hE hda ha (by omega) A X ver out
  have hne:=hda.ne;have hH2:=z9q g b n' e hne A X ver out;have hfin:=zc5 A X g (n+1:Nat) 0 ver out n' e ver out false;refine⟨ver,?_⟩;rcases a with⟨ka,Na,lsa,ksa⟩;rcases b with⟨kb,Nb,lsb,ksb⟩;rw[zaj];simp only[zff,Te.cs]at hB hfin hH1 hH2;obtain⟨o,hany⟩:=z0j kx kb
  cases o <;>
  ·simp only[↓reduceIte,go_sem,zff,zez,zdl,Te.cs,hB,hH1,hH2,hne,hany,hfin]
 |@headB n out a b a' most n1 n' e hda heb=>
  intro ha hb hwa hwb hsa hsb hn ho A X ver;have hB:=zdq g A X n (by omega) ver out
  have hH1:=za5 g hE hda ha (by omega) A X ver out
  obtain⟨⟨kx,Nx,lx,kx2⟩,hH2⟩:=zx4 g hE heb hb (by have:=hda.le;omega) A X ver out
  have hne:=heb.ne;have hfin:=zc5 A X g (n+1:Nat) 0 ver out n' e ver out false;refine⟨ver,?_⟩;rcases a with⟨ka,Na,lsa,ksa⟩;rcases b with⟨kb,Nb,lsb,ksb⟩;rw[zaj];rcases a' with⟨k3,N3,ls3,ks3⟩;simp only[zff,Te.cs]at hB hfin hH1 hH2;obtain⟨o,hany⟩:=z0j k3 kx
  cases o <;>
  ·simp only[↓reduceIte,go_sem,zff,zez,zdl,Te.cs,hB,hH1,hH2,hne,hany,hfin]
 |@lam2 n out a b s x s' y N N' ls ls' most r n1 n2 n' e out' hda hdb hal ih=>
  intro ha hb hwa hwb hsa hsb hn ho A X ver;have hB:=zdq g A X n (by omega) ver out
  have hH1:=za5 g hE hda ha (by omega) A X ver out
  have hH2:=za5 g hE hdb hb (by have:=hda.le;omega) A X ver out
  have hoa:=hda.ok hE ha;have hob:=hdb.ok hE hb;have hwa':=hda.wg hwa;have hwb':=hdb.wg hwb;have hle1:=hda.le;have hle2:=hdb.le;have hz1:=hda.sz;have hz2:=hdb.sz;rw[zsc]at hz1 hz2;obtain⟨v1,hI⟩:=ih (hoa.all x (by simp)) (hob.all y (by simp)) ((zdr hwa').2.2 x (by simp)) ((zdr hwb').2.2 y (by simp)) (by omega) (by omega) (by omega) ho A X ver
  have hT1:=zp1 g N ls s x A X n2 0 ver out;have hT2:=zp1 g N' ls' s' y A X n2 0 ver out;rcases x with⟨k3,N3,ls3,ks3⟩;rcases y with⟨k4,N4,ls4,ks4⟩;have hfin:=zc5 A X g (n+1:Nat) 0 ver out n' e v1 out' r;refine⟨v1,?_⟩;rcases a with⟨ka,Na,lsa,ksa⟩;rcases b with⟨kb,Nb,lsb,ksb⟩;rw[zaj];simp only[zff,Te.cs,Te.css,Lv.css]at hB hfin hH1 hH2 hI hT1 hT2;simp only[↓reduceIte,go_sem,zff,zez,zdl,Te.cs,Te.css,Lv.css,hB,hH1,hH2,hI,hT1,hT2,hfin]
 |@lamL n out a b b' s x N ls most r n1 n2 n' e out' hda hdb hk hL hal ih=>
  intro ha hb hwa hwb hsa hsb hn ho A X ver;have hB:=zdq g A X n (by omega) ver out
  have hH1:=za5 g hE hda ha (by omega) A X ver out
  have hH2:=za5 g hE hdb hb (by have:=hda.le;omega) A X ver out
  have hoa:=hda.ok hE ha;have hob:=hdb.ok hE hb;have hwa':=hda.wg hwa;have hwb':=hdb.wg hwb;have hle1:=hda.le;have hle2:=hdb.le;have hz1:=hda.sz;have hz2:=hdb.sz;rw[zsc]at hz1;have hz3:=ykd hL;obtain⟨v1,hI⟩:=ih (hoa.all x (by simp)) (zs1 hob) ((zdr hwa').2.2 x (by simp)) (zs0 hL) (by omega) (by omega) (by omega) ho A X ver
  have hT1:=zp1 g N ls s x A X n2 0 ver out;have hT2:=zr4 g b' hob hk A X n2 ver out;rw[hL]at hT2;rcases b' with⟨k',N',ls',ks'⟩;rcases x with⟨k4,N4,ls4,ks4⟩;rcases hq:zwe (.mk k' N' ls' ks') with⟨k3,N3,ls3,ks3⟩;rw[hq]at hI hT2;have hfin:=zc5 A X g (n+1:Nat) 0 ver out n' e v1 out' r;refine⟨v1,?_⟩;rcases a with⟨ka,Na,lsa,ksa⟩;rcases b with⟨kb,Nb,lsb,ksb⟩;rw[zaj];simp only[zff,Te.cs,Te.css,Lv.css]at hB hfin hH1 hH2 hI hT1 hT2;simp only[↓reduceIte,go_sem,zff,zez,zdl,Te.cs,Te.css,Lv.css,hB,hH1,hH2,hI,hT1,hT2,hfin]
 |@lamLe n out a b b' s x N ls most n1 n2 hda hdb hk hL=>
  intro ha hb hwa hwb hsa hsb hn ho A X ver;have hB:=zdq g A X n (by omega) ver out
  have hH1:=za5 g hE hda ha (by omega) A X ver out
  have hH2:=za5 g hE hdb hb (by have:=hda.le;omega) A X ver out
  have hoa:=hda.ok hE ha;have hob:=hdb.ok hE hb;have hwa':=hda.wg hwa;have hwb':=hdb.wg hwb;have hle1:=hda.le;have hle2:=hdb.le;have hz1:=hda.sz;have hz2:=hdb.sz;have hT1:=zp1 g N ls s x A X n2 0 ver out;have hT2:=zr4 g b' hob hk A X n2 ver out;generalize (zh1 b' 0 1).2=e at *;rcases b' with⟨k',N',ls',ks'⟩;rcases x with⟨k4,N4,ls4,ks4⟩;rcases hq:zwe (.mk k' N' ls' ks') with⟨k3,N3,ls3,ks3⟩;rw[hq]at hT2;have hfin:=zc5 A X g (n+1:Nat) 0 ver out n2 e ver out false;refine⟨ver,?_⟩;rcases a with⟨ka,Na,lsa,ksa⟩;rcases b with⟨kb,Nb,lsb,ksb⟩;rw[zaj];simp only[zff,Te.cs,Te.css,Lv.css]at hB hfin hH1 hH2 hT1 hT2;simp only[↓reduceIte,go_sem,zff,zez,zdl,Te.cs,Te.css,Lv.css,hB,hH1,hH2,hT1,hT2,hL,hfin]
 |@lamR n out a b a' s y N ls most r n1 n2 n' e out' hda hk hdb hL hal ih=>
  intro ha hb hwa hwb hsa hsb hn ho A X ver;have hB:=zdq g A X n (by omega) ver out
  have hH1:=za5 g hE hda ha (by omega) A X ver out
  have hH2:=za5 g hE hdb hb (by have:=hda.le;omega) A X ver out
  have hoa:=hda.ok hE ha;have hob:=hdb.ok hE hb;have hwa':=hda.wg hwa;have hwb':=hdb.wg hwb;have hle1:=hda.le;have hle2:=hdb.le;have hz1:=hda.sz;have hz2:=hdb.sz;rw[zsc]at hz2;have hz3:=ykd hL;obtain⟨v1,hI⟩:=ih (zs1 hoa) (hob.all y (by simp)) (zs0 hL) ((zdr hwb').2.2 y (by simp)) (by omega) (by omega) (by omega) ho A X ver
  have hT1:=zr4 g a' hoa hk A X n2 ver out;have hT2:=zp1 g N ls s y A X n2 0 ver out;rw[hL]at hT1;rcases a' with⟨k',N',ls',ks'⟩;rcases y with⟨k4,N4,ls4,ks4⟩;have hk:¬ k' = 5:=hk;rcases hq:zwe (.mk k' N' ls' ks') with⟨k3,N3,ls3,ks3⟩;rw[hq]at hI hT1;have hfin:=zc5 A X g (n+1:Nat) 0 ver out n' e v1 out' r;refine⟨v1,?_⟩;rcases a with⟨ka,Na,lsa,ksa⟩;rcases b with⟨kb,Nb,lsb,ksb⟩;rw[zaj];simp only[zff,Te.cs,Te.css,Lv.css]at hB hfin hH1 hH2 hI hT1 hT2;simp only[↓reduceIte,go_sem,zff,zez,zdl,Te.cs,Te.css,Lv.css,hB,hH1,hH2,hI,hT1,hT2,hk,hfin]
 |@lamRe n out a b a' s y N ls most n1 n2 hda hk hdb hL=>
  intro ha hb hwa hwb hsa hsb hn ho A X ver;have hB:=zdq g A X n (by omega) ver out
  have hH1:=za5 g hE hda ha (by omega) A X ver out
  have hH2:=za5 g hE hdb hb (by have:=hda.le;omega) A X ver out
  have hoa:=hda.ok hE ha;have hob:=hdb.ok hE hb;have hwa':=hda.wg hwa;have hwb':=hdb.wg hwb;have hle1:=hda.le;have hle2:=hdb.le;have hz1:=hda.sz;have hz2:=hdb.sz;have hT1:=zr4 g a' hoa hk A X n2 ver out;generalize (zh1 a' 0 1).2=e at *;have hT2:=zp1 g N ls s y A X n2 e ver out;rcases a' with⟨k',N',ls',ks'⟩;rcases y with⟨k4,N4,ls4,ks4⟩;have hk:¬ k' = 5:=hk;rcases hq:zwe (.mk k' N' ls' ks') with⟨k3,N3,ls3,ks3⟩;rw[hq]at hT1;have hfin:=zc5 A X g (n+1:Nat) 0 ver out n2 e ver out false;refine⟨ver,?_⟩;rcases a with⟨ka,Na,lsa,ksa⟩;rcases b with⟨kb,Nb,lsb,ksb⟩;rw[zaj];simp only[zff,Te.cs,Te.css,Lv.css]at hB hfin hH1 hH2 hT1 hT2;simp only[↓reduceIte,go_sem,zff,zez,zdl,Te.cs,Te.css,Lv.css,hB,hH1,hH2,hT1,hT2,hk,hL,hfin]
 |@other n out a b k N k' N' ls ls' ks ks' most n1 n2 hda hk5 hdb hk5' hne=>
  intro ha hb hwa hwb hsa hsb hn ho A X ver;have hB:=zdq g A X n (by omega) ver out
  have hH1:=za5 g hE hda ha (by omega) A X ver out
  have hH2:=za5 g hE hdb hb (by have:=hda.le;omega) A X ver out
  have hoa:=hda.ok hE ha;have hob:=hdb.ok hE hb;have hwa':=hda.wg hwa;have hwb':=hdb.wg hwb;have hle1:=hda.le;have hle2:=hdb.le;have hz1:=hda.sz;have hz2:=hdb.sz;have hfin:=zc5 A X g (n+1:Nat) 0 ver out n2 0 ver out false;refine⟨ver,?_⟩;rcases a with⟨ka,Na,lsa,ksa⟩;rcases b with⟨kb,Nb,lsb,ksb⟩;rw[zaj];simp only[zff,Te.cs]at hB hfin hH1 hH2;by_cases c1:k=k'
  ·obtain⟨o,hany⟩:=z0j k k'
   subst c1;by_cases c2:N=N'
   ·have c3:¬ (ls.length:Int)=(ls'.length:Int):=by rcases hne with h|h|h <;> omega
    cases o <;>
    ·simp only[↓reduceIte,go_sem,zff,zez,zdl,Te.cs,hB,hH1,hH2,hk5,hany,c2,c3,hfin]
   ·cases o <;>
    ·simp only[↓reduceIte,go_sem,zff,zez,zdl,Te.cs,hB,hH1,hH2,hk5,hany,c2,hfin]
  ·simp only[↓reduceIte,go_sem,zff,zez,zdl,Te.cs,hB,hH1,hH2,hk5,hk5',yeo c1,hfin]
 |@var n out a b N ls ls' ks ks' most n1 n2 hda hdb hl=>
  intro ha hb hwa hwb hsa hsb hn ho A X ver;have hB:=zdq g A X n (by omega) ver out
  have hH1:=za5 g hE hda ha (by omega) A X ver out
  have hH2:=za5 g hE hdb hb (by have:=hda.le;omega) A X ver out
  have hoa:=hda.ok hE ha;have hob:=hdb.ok hE hb;have hwa':=hda.wg hwa;have hwb':=hdb.wg hwb;have hle1:=hda.le;have hle2:=hdb.le;have hz1:=hda.sz;have hz2:=hdb.sz;have hlI:(ls.length:Int)=(ls'.length:Int):=by omega
  have hfin:=zc5 A X g (n+1:Nat) 0 ver out n2 0 ver out true;refine⟨ver,?_⟩;rcases a with⟨ka,Na,lsa,ksa⟩;rcases b with⟨kb,Nb,lsb,ksb⟩;rw[zaj];simp only[zff,Te.cs]at hB hfin hH1 hH2;simp only[↓reduceIte,go_sem,zff,zez,zdl,asks_1,zx8,Te.cs,hB,hH1,hH2,hlI,hfin]
 |@sortM n out a b N x y ks ks' n1 n2 hda hdb=>
  intro ha hb hwa hwb hsa hsb hn ho A X ver;have hB:=zdq g A X n (by omega) ver out
  have hH1:=za5 g hE hda ha (by omega) A X ver out
  have hH2:=za5 g hE hdb hb (by have:=hda.le;omega) A X ver out
  have hoa:=hda.ok hE ha;have hob:=hdb.ok hE hb;have hwa':=hda.wg hwa;have hwb':=hdb.wg hwb;have hle1:=hda.le;have hle2:=hdb.le;have hz1:=hda.sz;have hz2:=hdb.sz;obtain⟨v1,hI⟩:=yao g hcons hcl hmode x y (hoa.all2 x (by simp)) (hob.all2 y (by simp)) 2 N 2 N ks ks' A X n2 ver out ho
  have hfin:=zc5 A X g (n+1:Nat) 0 ver out n2 (zgj g (0,out) x y).2.1 v1 (zgj g (0,out) x y).2.2 (zgj g (0,out) x y).1;refine⟨v1,?_⟩;rcases a with⟨ka,Na,lsa,ksa⟩;rcases b with⟨kb,Nb,lsb,ksb⟩;rw[zaj];simp only[zff,Te.cs,Lv.css]at hB hfin hH1 hH2 hI;simp only[↓reduceIte,go_sem,zff,zez,zdl,ykn,Te.cs,Lv.css,List.length_cons,List.length_nil,hB,hH1,hH2,hI,hfin]
 |@lvls n out a b k N ls ls' ks ks' most n1 n2 hk hda hdb hl=>
  intro ha hb hwa hwb hsa hsb hn ho A X ver;have hB:=zdq g A X n (by omega) ver out
  have hH1:=za5 g hE hda ha (by omega) A X ver out
  have hH2:=za5 g hE hdb hb (by have:=hda.le;omega) A X ver out
  have hoa:=hda.ok hE ha;have hob:=hdb.ok hE hb;have hwa':=hda.wg hwa;have hwb':=hdb.wg hwb;have hle1:=hda.le;have hle2:=hdb.le;have hz1:=hda.sz;have hz2:=hdb.sz;have hlI:(ls.length:Int)=(ls'.length:Int):=by omega
  rcases hk with⟨rfl,rfl⟩|rfl
  ·obtain⟨v1,hI⟩:=yap g hcons hcl hmode ls ls' hoa.all2 hob.all2 hl hoa.len2 2 N 2 N ks ks' A X n2 ver out ho
   have hfin:=zc5 A X g (n+1:Nat) 0 ver out n2 (zka g (0,out) ls ls').2.1 v1 (zka g (0,out) ls ls').2.2 (zka g (0,out) ls ls').1;refine⟨v1,?_⟩;rcases a with⟨ka,Na,lsa,ksa⟩;rcases b with⟨kb,Nb,lsb,ksb⟩;rw[zaj];simp only[zff,Te.cs]at hB hfin hH1 hH2 hI;simp only[↓reduceIte,go_sem,zff,zez,zdl,ykn,Te.cs,hB,hH1,hH2,hI,hlI,hfin]
  ·obtain⟨v1,hI⟩:=zvd g hcons hcl hmode ls ls' hoa.all2 hob.all2 hl hoa.len2 3 N 3 N ks ks' (.bool most) A X n2 0 ver out ho
   have hfin:=zc5 A X g (n+1:Nat) 0 ver out n2 (zka g (0,out) ls ls').2.1 v1 (zka g (0,out) ls ls').2.2 (zka g (0,out) ls ls').1;refine⟨v1,?_⟩;rcases a with⟨ka,Na,lsa,ksa⟩;rcases b with⟨kb,Nb,lsb,ksb⟩;rw[zaj];simp only[zff,Te.cs]at hB hfin hH1 hH2 hI;simp only[↓reduceIte,go_sem,zff,zez,zdl,asks_3,Te.cs,hB,hH1,hH2,hI,hlI,hfin]
 |@two1 n out a b f x f' x' k N ls ls' most n1 n2 n' e out' hk hda hdb hl hal ih=>
  intro ha hb hwa hwb hsa hsb hn ho A X ver;have hB:=zdq g A X n (by omega) ver out
  have hH1:=za5 g hE hda ha (by omega) A X ver out
  have hH2:=za5 g hE hdb hb (by have:=hda.le;omega) A X ver out
  have hoa:=hda.ok hE ha;have hob:=hdb.ok hE hb;have hwa':=hda.wg hwa;have hwb':=hdb.wg hwb;have hle1:=hda.le;have hle2:=hdb.le;have hz1:=hda.sz;have hz2:=hdb.sz;have hlI:(ls.length:Int)=(ls'.length:Int):=by omega
  rw[zsc]at hz1 hz2;obtain⟨v1,hI⟩:=ih (hoa.all f (by simp)) (hob.all f' (by simp)) ((zdr hwa').2.2 f (by simp)) ((zdr hwb').2.2 f' (by simp)) (by omega) (by omega) (by omega) ho A X ver
  have hfin:=zc5 A X g (n+1:Nat) 0 ver out n' e v1 out' false;refine⟨v1,?_⟩;rcases a with⟨ka,Na,lsa,ksa⟩;rcases b with⟨kb,Nb,lsb,ksb⟩;rw[zaj];simp only[Te.cs,Te.css]at hH1 hH2;rcases hk with rfl|rfl
  ·have hQ:F zb6 [.ptr (A.length+4) 0,.agg [.int .i64 4,.int .i64 N,.sl (Lv.css ls),.sl [f.cs,x.cs]],.agg [.int .i64 4,.int .i64 N,.sl (Lv.css ls'),.sl [f'.cs,x'.cs]],.bool most] (zhn A g n2 0 ver out X)=some (.ret (.bool false),zhn A g n' e v1 out' X):=by
    have hfin:=zc5 A X g n2 0 ver out n' e v1 out' false;rcases f with⟨k3,N3,ls3,ks3⟩;rcases x with⟨k4,N4,ls4,ks4⟩;rcases f' with⟨k5,N5,ls5,ks5⟩;rcases x' with⟨k6,N6,ls6,ks6⟩;rw[zlt];simp only[Te.cs]at hI;simp only[↓reduceIte,go_sem,Te.cs,hI,hfin]
   simp only[zff]at hB hfin hH1 hH2 hQ;simp only[↓reduceIte,go_sem,zff,zez,zdl,ykm,Te.cs,Te.css,hB,hH1,hH2,hQ,hlI,hfin]
  ·have hQ:F zcn [.ptr (A.length+4) 0,.agg [.int .i64 6,.int .i64 N,.sl (Lv.css ls),.sl [f.cs,x.cs]],.agg [.int .i64 6,.int .i64 N,.sl (Lv.css ls'),.sl [f'.cs,x'.cs]],.bool most] (zhn A g n2 0 ver out X)=some (.ret (.bool false),zhn A g n' e v1 out' X):=by
    have hfin:=zc5 A X g n2 0 ver out n' e v1 out' false;rcases f with⟨k3,N3,ls3,ks3⟩;rcases x with⟨k4,N4,ls4,ks4⟩;rcases f' with⟨k5,N5,ls5,ks5⟩;rcases x' with⟨k6,N6,ls6,ks6⟩;rw[zma];simp only[Te.cs]at hI;simp only[↓reduceIte,go_sem,Te.cs,hI,hfin]
   simp only[zff]at hB hfin hH1 hH2 hQ;simp only[↓reduceIte,go_sem,zff,zez,zdl,ykl,Te.cs,Te.css,hB,hH1,hH2,hQ,hlI,hfin]
 |@two2 n out a b f x f' x' k N ls ls' most r n1 n2 n3 n' e out1 out' hk hda hdb hl hal hal2 ih1 ih2=>
  intro ha hb hwa hwb hsa hsb hn ho A X ver;have hB:=zdq g A X n (by omega) ver out
  have hH1:=za5 g hE hda ha (by omega) A X ver out
  have hH2:=za5 g hE hdb hb (by have:=hda.le;omega) A X ver out
  have hoa:=hda.ok hE ha;have hob:=hdb.ok hE hb;have hwa':=hda.wg hwa;have hwb':=hdb.wg hwb;have hle1:=hda.le;have hle2:=hdb.le;have hz1:=hda.sz;have hz2:=hdb.sz;have hlI:(ls.length:Int)=(ls'.length:Int):=by omega
  rw[zsc]at hz1 hz2;have hle3:=hal.le;obtain⟨v1,hI⟩:=ih1 (hoa.all f (by simp)) (hob.all f' (by simp)) ((zdr hwa').2.2 f (by simp)) ((zdr hwb').2.2 f' (by simp)) (by omega) (by omega) (by omega) ho A X ver
  obtain⟨v2,hJ⟩:=ih2 (hoa.all x (by simp)) (hob.all x' (by simp)) ((zdr hwa').2.2 x (by simp)) ((zdr hwb').2.2 x' (by simp)) (by omega) (by omega) (by omega) (hal.len ho) A X v1
  have hfin:=zc5 A X g (n+1:Nat) 0 ver out n' e v2 out' r;refine⟨v2,?_⟩;rcases a with⟨ka,Na,lsa,ksa⟩;rcases b with⟨kb,Nb,lsb,ksb⟩;rw[zaj];simp only[Te.cs,Te.css]at hH1 hH2;rcases hk with rfl|rfl
  ·simp only[show decide ((4:Int)=6)=false from rfl,Bool.false_and]at hJ
   have hQ:F zb6 [.ptr (A.length+4) 0,.agg [.int .i64 4,.int .i64 N,.sl (Lv.css ls),.sl [f.cs,x.cs]],.agg [.int .i64 4,.int .i64 N,.sl (Lv.css ls'),.sl [f'.cs,x'.cs]],.bool most] (zhn A g n2 0 ver out X)=some (.ret (.bool r),zhn A g n' e v2 out' X):=by
    have hfin:=zc5 A X g n2 0 ver out n' e v2 out' r;rcases f with⟨k3,N3,ls3,ks3⟩;rcases x with⟨k4,N4,ls4,ks4⟩;rcases f' with⟨k5,N5,ls5,ks5⟩;rcases x' with⟨k6,N6,ls6,ks6⟩;rw[zlt];simp only[Te.cs]at hI hJ;simp only[↓reduceIte,go_sem,Te.cs,hI,hJ,hfin]
   simp only[zff]at hB hfin hH1 hH2 hQ;simp only[↓reduceIte,go_sem,zff,zez,zdl,ykm,Te.cs,Te.css,hB,hH1,hH2,hQ,hlI,hfin]
  ·simp only[decide_true,Bool.true_and]at hJ
   have hQ:F zcn [.ptr (A.length+4) 0,.agg [.int .i64 6,.int .i64 N,.sl (Lv.css ls),.sl [f.cs,x.cs]],.agg [.int .i64 6,.int .i64 N,.sl (Lv.css ls'),.sl [f'.cs,x'.cs]],.bool most] (zhn A g n2 0 ver out X)=some (.ret (.bool r),zhn A g n' e v2 out' X):=by
    have hfin:=zc5 A X g n2 0 ver out n' e v2 out' r;rcases f with⟨k3,N3,ls3,ks3⟩;rcases x with⟨k4,N4,ls4,ks4⟩;rcases f' with⟨k5,N5,ls5,ks5⟩;rcases x' with⟨k6,N6,ls6,ks6⟩;rw[zma];simp only[Te.cs]at hI hJ;simp only[↓reduceIte,go_sem,Te.cs,hI,hJ,hfin]
   simp only[zff]at hB hfin hH1 hH2 hQ;simp only[↓reduceIte,go_sem,zff,zez,zdl,ykl,Te.cs,Te.css,hB,hH1,hH2,hQ,hlI,hfin]
end Go.Ab
end
section
set_option linter.unusedVariables false
set_option linter.unusedSimpArgs false
set_option maxRecDepth 100000
set_option maxHeartbeats 2000000
namespace Go.Ab
open Go.RowKit Go.Proofs
theorem yg0:zt5 []:=⟨by simp,by intro d hd;cases hd⟩
end Go.Ab
end
section
set_option linter.unusedVariables false
set_option linter.unusedSimpArgs false
set_option maxRecDepth 100000
set_option maxHeartbeats 4000000
namespace Go.Ab
open Go.RowKit Go.Proofs
def okCs(l:List Co):Prop:=l.length<=140737488355328/\∀c∈l,c.ok
def okG(g:Gr):Prop:=zt5 g.env/\okCs g.cons
def yg2(g:Gr):Bool:=(decide (g.mode=1) && decide (g.metas=0)) || (decide (g.mode=2) && decide (0<=g.metas) && decide (g.metas<=10))
def zjz(g:Gr):Bool:=yg2 g && (zqm g.env && zdt g.cons g.params)
theorem zs5(g:Gr)(hg:okG g)(H:List AO):F ziq [.agg g.cs] H=some (.ret (.bool (zjz g)),H):=by
 have h1:=fun H=>z9o g.env hg.1 H
 have h2:=fun H=>zr0 g.cons hg.2.1 hg.2.2 g.params H
 rw[zzg,zjz,yg2];rcases g with⟨env,p,m,cons,mode⟩;dsimp only[Gr.cs]at h1 h2 ⊢;by_cases c1:mode=1
 ·subst c1
  by_cases c2:m=0
  ·subst c2
   cases c3:zqm env <;> rw[c3]at h1 <;> simp only[↓reduceIte,go_sem,h1,h2] <;> simp
  ·simp only[↓reduceIte,go_sem,c2]
   simp[c2]
 ·by_cases c4:mode=2
  ·subst c4
   by_cases c5:m<0
   ·simp only[↓reduceIte,go_sem,c5,show ¬ (2:Int)=1 by decide]
    simp;omega
   ·by_cases c6:10<m
    ·simp only[↓reduceIte,go_sem,c5,c6,show ¬ (2:Int)=1 by decide]
     simp;omega
    ·have e1:(decide (0<=m))=true:=by simp;omega
     have e2:(decide (m<=10))=true:=by simp;omega
     cases c3:zqm env <;> rw[c3]at h1 <;> simp only[↓reduceIte,go_sem,h1,h2,c5,c6,show ¬ (2:Int)=1 by decide,e1,e2] <;> simp
  ·simp only[↓reduceIte,go_sem,c1,c4]
   simp
theorem zly(g:Gr)(hg:okG g)(H:List AO):F zhm [.agg g.cs] H=some (.ret (.bool (zjz g)),H):=by
 have h1:=fun H=>z9n g.env hg.1 H
 have h2:=fun H=>zuh g.cons hg.2.1 hg.2.2 g.params H
 rw[z24,zjz,yg2];rcases g with⟨env,p,m,cons,mode⟩;dsimp only[Gr.cs]at h1 h2 ⊢;by_cases c1:mode=1
 ·subst c1
  by_cases c2:m=0
  ·subst c2
   cases c3:zqm env <;> rw[c3]at h1 <;> simp only[↓reduceIte,go_sem,h1,h2] <;> simp
  ·simp only[↓reduceIte,go_sem,c2]
   simp[c2]
 ·by_cases c4:mode=2
  ·subst c4
   by_cases c5:m<0
   ·simp only[↓reduceIte,go_sem,c5,show ¬ (2:Int)=1 by decide]
    simp;omega
   ·by_cases c6:10<m
    ·simp only[↓reduceIte,go_sem,c5,c6,show ¬ (2:Int)=1 by decide]
     simp;omega
    ·have e1:(decide (0<=m))=true:=by simp;omega
     have e2:(decide (m<=10))=true:=by simp;omega
     cases c3:zqm env <;> rw[c3]at h1 <;> simp only[↓reduceIte,go_sem,h1,h2,c5,c6,show ¬ (2:Int)=1 by decide,e1,e2] <;> simp
  ·simp only[↓reduceIte,go_sem,c1,c4]
   simp
theorem zx2{g:Gr}(h:zjz g=true):(g.mode=1\/g.mode=2)/\zqm g.env=true/\zdt g.cons g.params=true/\g.cons.length<=8:=by
 unfold zjz yg2 at h;simp only[Bool.and_eq_true,Bool.or_eq_true,decide_eq_true_eq]at h;obtain⟨h1,h2,h3⟩:=h;refine⟨by omega,h2,h3,?_⟩
 unfold zdt at h3;simp only[Bool.and_eq_true,decide_eq_true_eq]at h3;exact h3.1.2
theorem zt8{g:Gr}{s:Int×List Co}{a b:Lv}(ha:a.ok)(hb:b.ok)(h:∀c∈s.2,c.ok):∀c∈(zgj g s a b).2.2,c.ok:=by
 unfold zgj
 split
 ·exact h
 split
 ·split
  ·exact h
  ·intro c hc
   simp only[List.mem_append,List.mem_singleton]at hc;rcases hc with hc|rfl
   ·exact h c hc
   ·exact⟨ha,hb⟩
 split <;> exact h
theorem yeh{g:Gr}{s:Int×List Co}{a b:Lv}(ha:a.ok)(hb:b.ok)(h:∀c∈s.2,c.ok):∀c∈(zog g s a b).2.2,c.ok:=by
 unfold zog
 split
 ·exact zt8 hb ha (zt8 ha hb h)
 ·exact zt8 ha hb h
theorem z7s{g:Gr}:∀{s:Int×List Co} {p q:List Lv},(∀x∈p,x.ok)->(∀x∈q,x.ok)->(∀c∈s.2,c.ok)->∀c∈(zka g s p q).2.2,c.ok
 |s,a::xs,b::ys,hp,hq,h=>by
  rw[zka];have h1:=yeh (g:=g) (hp a (by simp)) (hq b (by simp)) h
  split
  ·exact z7s (fun x hx=>hp x (by simp[hx])) (fun x hx=>hq x (by simp[hx])) h1
  ·exact h1
 |s,[],_,_,_,h=>by simpa [zka] using h
 |s,_::_,[],_,_,h=>by simpa [zka] using h
theorem Al.oks{g:Gr}(hE:zt5 g.env){n:Nat}{out:List Co}{a b:Te}{most r:Bool}{n':Nat}{e:Int}{out':List Co}(h:Al g n out a b most r n' e out'):a.ok->b.ok->(∀c∈out,c.ok)->∀c∈out',c.ok:=by
 induction h with
 |lam2 h1 h2 _ ih=>exact fun ha hb=>ih ((h1.ok hE ha).all _ (by simp)) ((h2.ok hE hb).all _ (by simp))
 |lamL h1 h2 _ _ _ ih=>exact fun ha hb=>ih ((h1.ok hE ha).all _ (by simp)) (zs1 (h2.ok hE hb))
 |lamR h1 _ h2 _ _ ih=>exact fun ha hb=>ih (zs1 (h1.ok hE ha)) ((h2.ok hE hb).all _ (by simp))
 |sortM h1 h2=>exact fun ha hb h=>zt8 ((h1.ok hE ha).all2 _ (by simp)) ((h2.ok hE hb).all2 _ (by simp)) h
 |lvls _ h1 h2=>exact fun ha hb h=>z7s (h1.ok hE ha).all2 (h2.ok hE hb).all2 h
 |two1 _ h1 h2 _ _ ih=>exact fun ha hb=>ih ((h1.ok hE ha).all _ (by simp)) ((h2.ok hE hb).all _ (by simp))
 |two2 _ h1 h2 _ _ _ ih1 ih2=>exact fun ha hb h=>ih2 ((h1.ok hE ha).all _ (by simp)) ((h2.ok hE hb).all _ (by simp)) (ih1 ((h1.ok hE ha).all _ (by simp)) ((h2.ok hE hb).all _ (by simp)) h)
 |_=>exact fun _ _ h=>h
def zv2:List Co->List Co->Bool
 |[],[]=>true
 |x::l,y::m=>lvEq x.a y.a && lvEq x.b y.b && zv2 l m
 |_,_=>false
theorem zv1:∀l:List Co,zv2 l l=true
 |[]=>rfl
 |x::l=>by rw[zv2,lvEq_refl,lvEq_refl,zv1 l];rfl
theorem z4b(P Q:List Co)(hP:okCs P)(H:List AO):F zgk [.sl (Co.css P),.sl (Co.css Q)] H=some (.ret (.bool (decide (P.length=Q.length) && zv2 P Q)),H):=by
 have loop:P.length=Q.length->∀(p q ps qs:List Co),P=ps++p->Q=qs++q->ps.length=qs.length ->
   zfj H H (.sl (Co.css P)) (.sl (Co.css Q)) (.int .i64 ps.length)=some (.ret (.bool (zv2 p q)),H):=by
  intro hlen p
  induction p with
  |nil=>
   intro q ps qs h1 h2 h3;rw[List.append_nil]at h1;subst h1
   cases q with
   |cons y q=>rw[h2]at hlen;simp at hlen;omega
   |nil=>
   rw[zfj,zab];simp only[↓reduceIte,go_sem,zv2]
  |cons x p ih=>
   intro q ps qs h1 h2 h3
   cases q with
   |nil=>rw[h1,h2]at hlen;simp at hlen;omega
   |cons y q=>
   have hx:=hP.2 x (by rw[h1];simp)
   have hga:P[ps.length]?=some x:=by rw[h1];simp
   have hgb:Q[ps.length]?=some y:=by rw[h2,h3];simp
   have hpl:ps.length<P.length:=by rw[h1];simp
   have hP1:=hP.1;have h4:=ih q (ps++[x]) (qs++[y]) (by rw[h1];simp) (by rw[h2];simp) (by simp[h3])
   have q1:=fun H=>zuu x.a hx.1 y.a H
   have q2:=fun H=>zuu x.b hx.2 y.b H
   simp only[zaf]at h4;rw[zfj,zab,zv2];rcases x with⟨⟨k1,n1,l1⟩,⟨k2,n2,l2⟩⟩;rcases y with⟨⟨k3,n3,l3⟩,⟨k4,n4,l4⟩⟩;simp only[Co.a,Co.b,Lv.cs]at q1 q2 ⊢
   cases c1:lvEq (.mk k1 n1 l1) (.mk k3 n3 l3) <;> rw[c1]at q1
   ·simp only[↓reduceIte,go_sem,show (ps.length:Int)<(P.length:Int) by omega,hga,hgb,Co.cs,Co.a,Co.b,Lv.cs,List.cons_append,List.nil_append,q1,Bool.false_and]
   cases c2:lvEq (.mk k2 n2 l2) (.mk k4 n4 l4) <;> rw[c2]at q2
   ·simp only[↓reduceIte,go_sem,show (ps.length:Int)<(P.length:Int) by omega,hga,hgb,Co.cs,Co.a,Co.b,Lv.cs,List.cons_append,List.nil_append,q1,q2,Bool.and_false,Bool.false_and]
   ·simp only[↓reduceIte,go_sem,show (ps.length:Int)<(P.length:Int) by omega,hga,hgb,Co.cs,Co.a,Co.b,Lv.cs,List.cons_append,List.nil_append,q1,q2,Bool.true_and,zac (n:=ps.length) (by omega),h4]
 rw[ztw];by_cases hl:P.length=Q.length
 ·have:=loop hl P Q [] [] rfl rfl rfl
  simp only[List.length_nil,Int.natCast_zero]at this;simp only[↓reduceIte,go_sem,hl,this,decide_true,Bool.true_and]
 ·have:¬ (P.length:Int)=(Q.length:Int):=by omega
  simp only[↓reduceIte,go_sem,this,hl,decide_false,Bool.false_and]
inductive ConvS (g:Gr) (a b:Te) (most:Bool) (f:Int):Bool×List Co×Int×Int->Prop
 |arg:(zjz g=false\/zc6 a 1000 g.params g.metas=false\/zc6 b 1000 g.params g.metas=false\/f<0\/5000<f)->ConvS g a b most f (false,[],0,1)
 |er {n n':Nat} {r:Bool} {e:Int} {out:List Co}:zjz g=true->zc6 a 1000 g.params g.metas=true->zc6 b 1000 g.params g.metas=true->f=n->n<=5000->Al g n [] a b most r n' e out->e≠0->ConvS g a b most f (false,[],0,e)
 |ok {n n':Nat} {r:Bool} {out:List Co}:zjz g=true->zc6 a 1000 g.params g.metas=true->zc6 b 1000 g.params g.metas=true->f=n->n<=5000->Al g n [] a b most r n' 0 out->ConvS g a b most f (r,out,n',0)
theorem zeu{t:Te}{v p m:Int}(h:zc6 t v p m=true):wg t=true/\sz t<=600:=by
 unfold zc6 at h;simp only[Bool.and_eq_true,decide_eq_true_eq]at h;refine⟨by simp[wg,right_wf h.2,right_w2 h.2],?_⟩
 have h1:=subs_parts t 601 (by omega)
 have:=h.1.2;unfold sz;omega
theorem z84(g:Gr)(a b:Te)(most:Bool)(f:Int):∃r,ConvS g a b most f r:=by
 cases h1:zjz g
 ·exact⟨_,.arg (.inl h1)⟩
 cases h2:zc6 a 1000 g.params g.metas
 ·exact⟨_,.arg (.inr (.inl h2))⟩
 cases h3:zc6 b 1000 g.params g.metas
 ·exact⟨_,.arg (.inr (.inr (.inl h3)))⟩
 by_cases h4:f<0
 ·exact⟨_,.arg (.inr (.inr (.inr (.inl h4))))⟩
 by_cases h5:5000<f
 ·exact⟨_,.arg (.inr (.inr (.inr (.inr h5))))⟩
 obtain⟨n,rfl⟩:=Int.eq_ofNat_of_zero_le (show 0<=f by omega)
 obtain⟨r,n',e,out,h⟩:=yip g n [] a b most (zeu h2).1 (zeu h3).1;by_cases he:e=0
 ·subst he;exact⟨_,.ok h1 h2 h3 rfl (by omega) h⟩
 ·exact⟨_,.er h1 h2 h3 rfl (by omega) h he⟩
abbrev z1k(x:Bool×List Co×Int×Int):AV:=.tup [.bool x.1,.sl (Co.css x.2.1),.int .i64 x.2.2.1,.int .i64 x.2.2.2]
theorem ya0(n:Nat)(x:Bool×List Co×Int×Int):Lt n (z1k x):=by
 refine .tup ?_;intro a ha;simp at ha;rcases ha with rfl|rfl|rfl|rfl
 ·exact .bool _
 ·exact .sl (zr1 _ _)
 ·exact .int _ _
 ·exact .int _ _
theorem zx5(g:Gr)(hg:okG g)(a b:Te)(ha:a.ok)(hb:b.ok)(most:Bool)(n n':Nat)(hn:n<=5000)(r:Bool)(e:Int)(out:List Co)(h1:zjz g=true)(h2:zc6 a 1000 g.params g.metas=true)(h3:zc6 b 1000 g.params g.metas=true)(h:Al g n [] a b most r n' e out)(H:List AO):
  F zkq [.agg g.cs,.agg a.cs,.agg b.cs,.bool most,.int .i64 n] H=some (.ret (z1k (if e≠0 then (false,[],0,e) else (r,out,(n':Int),0))),H):=by
 obtain⟨hm,_,_,hl⟩:=zx2 h1;have k1:=fun H=>zs5 g hg H
 have k2:=fun H=>zha a ha 1000 g.params g.metas H
 have k3:=fun H=>zha b hb 1000 g.params g.metas H
 have k4:=fun H=>yi0 g n H
 obtain⟨v,k5⟩:=yff g hg.1 hg.2.2 (by omega) hm h ha hb (zeu h2).1 (zeu h3).1 (by omega) (by simp) (H++[.lst 0 11 [],.lst 0 11 [],.lst 0 6 []]) [] 0
 rw[h1]at k1;rw[h2]at k2;rw[h3]at k3;rcases a with⟨ka,Na,lsa,ksa⟩;rcases b with⟨kb,Nb,lsb,ksb⟩;have e0:Co.css []=[]:=rfl;rw[zte];simp only[zf9,Te.cs,Gr.cs,e0,List.length_append,List.length_cons,List.length_nil,Nat.add_assoc,Nat.reduceAdd,List.append_assoc,List.cons_append,List.nil_append]at k1 k2 k3 k4 k5;by_cases he:e=0
 ·subst he
  simp only[↓reduceIte,go_sem,Te.cs,Gr.cs,k1,k2,k3,k4,k5,show ¬ (n:Int)<0 by omega,show ¬ (5000:Int)<(n:Int) by omega,e0,not_true_eq_false,ne_eq]
  exact if_pos (ya0 _ (r,out,(n':Int),0))
 ·simp only[↓reduceIte,go_sem,Te.cs,Gr.cs,k1,k2,k3,k4,k5,show ¬ (n:Int)<0 by omega,show ¬ (5000:Int)<(n:Int) by omega,he,ne_eq,not_false_eq_true,e0]
  rfl
theorem zwd(g:Gr)(hg:okG g)(a b:Te)(ha:a.ok)(hb:b.ok)(most:Bool)(n n':Nat)(hn:n<=5000)(r:Bool)(e:Int)(out:List Co)(h1:zjz g=true)(h2:zc6 a 1000 g.params g.metas=true)(h3:zc6 b 1000 g.params g.metas=true)(h:Al g n [] a b most r n' e out)(H:List AO):
  F zfy [.agg g.cs,.agg a.cs,.agg b.cs,.bool most,.int .i64 n] H=some (.ret (z1k (if e≠0 then (false,[],0,e) else (r,out,(n':Int),0))),H):=by
 obtain⟨hm,_,_,hl⟩:=zx2 h1;have k1:=fun H=>zly g hg H
 have k2:=fun H=>zk0 a ha 1000 g.params g.metas H
 have k3:=fun H=>zk0 b hb 1000 g.params g.metas H
 have k4:=fun H=>NewP_ok g n H
 have z1:=(zeu h2).2;have z2:=(zeu h3).2;obtain⟨v,k5⟩:=yfk g hg.1 hg.2.2 (by omega) hm h ha hb (zeu h2).1 (zeu h3).1 (by omega) (by omega) (by omega) (by simp) H [] 0
 rw[h1]at k1;rw[h2]at k2;rw[h3]at k3;rcases a with⟨ka,Na,lsa,ksa⟩;rcases b with⟨kb,Nb,lsb,ksb⟩;have e0:Co.css []=[]:=rfl;rw[zvu];simp only[zff,Te.cs,Gr.cs,e0,List.length_append,List.length_cons,List.length_nil,Nat.add_assoc,Nat.reduceAdd,List.append_assoc,List.cons_append,List.nil_append]at k1 k2 k3 k4 k5;by_cases he:e=0
 ·subst he
  simp only[↓reduceIte,go_sem,Te.cs,Gr.cs,k1,k2,k3,k4,k5,show ¬ (n:Int)<0 by omega,show ¬ (5000:Int)<(n:Int) by omega,e0,not_true_eq_false,ne_eq]
  exact if_pos (ya0 _ (r,out,(n':Int),0))
 ·simp only[↓reduceIte,go_sem,Te.cs,Gr.cs,k1,k2,k3,k4,k5,show ¬ (n:Int)<0 by omega,show ¬ (5000:Int)<(n:Int) by omega,he,ne_eq,not_false_eq_true,e0]
  rfl
theorem z9u(g:Gr)(hg:okG g)(a b:Te)(ha:a.ok)(hb:b.ok)(most:Bool)(f:Int)(r:Bool×List Co×Int×Int)(h:ConvS g a b most f r)(H:List AO):
  F zkq [.agg g.cs,.agg a.cs,.agg b.cs,.bool most,.int .i64 f] H=some (.ret (z1k r),H):=by
 cases h with
 |arg hq=>
  have k1:=fun H=>zs5 g hg H
  have k2:=fun H=>zha a ha 1000 g.params g.metas H
  have k3:=fun H=>zha b hb 1000 g.params g.metas H
  have e0:Co.css []=[]:=rfl;rcases a with⟨ka,Na,lsa,ksa⟩;rcases b with⟨kb,Nb,lsb,ksb⟩;rw[zte];simp only[Te.cs,Gr.cs]at k1 k2 k3
  cases c1:zjz g <;> rw[c1]at k1
  ·simp only[↓reduceIte,go_sem,Te.cs,Gr.cs,k1,z1k,e0]
  cases c2:zc6 (.mk ka Na lsa ksa) 1000 g.params g.metas <;> rw[c2]at k2
  ·simp only[↓reduceIte,go_sem,Te.cs,Gr.cs,k1,k2,z1k,e0]
  cases c3:zc6 (.mk kb Nb lsb ksb) 1000 g.params g.metas <;> rw[c3]at k3
  ·simp only[↓reduceIte,go_sem,Te.cs,Gr.cs,k1,k2,k3,z1k,e0]
  rw[c1,c2,c3]at hq;by_cases c4:f<0
  ·simp only[↓reduceIte,go_sem,Te.cs,Gr.cs,k1,k2,k3,c4,z1k,e0]
  ·have c5:5000<f:=by simp at hq;omega
   simp only[↓reduceIte,go_sem,Te.cs,Gr.cs,k1,k2,k3,c4,c5,z1k,e0]
 |@er n n' r e out h1 h2 h3 hf hn hA he=>
  subst hf;have:=zx5 g hg a b ha hb most n n' hn r e out h1 h2 h3 hA H
  rwa [if_pos he]at this
 |@ok n n' r out h1 h2 h3 hf hn hA=>
  subst hf;have:=zx5 g hg a b ha hb most n n' hn r 0 out h1 h2 h3 hA H
  rwa [if_neg (by simp)]at this
theorem zi7(g:Gr)(hg:okG g)(a b:Te)(ha:a.ok)(hb:b.ok)(most:Bool)(f:Int)(r:Bool×List Co×Int×Int)(h:ConvS g a b most f r)(H:List AO):
  F zfy [.agg g.cs,.agg a.cs,.agg b.cs,.bool most,.int .i64 f] H=some (.ret (z1k r),H):=by
 cases h with
 |arg hq=>
  have k1:=fun H=>zly g hg H
  have k2:=fun H=>zk0 a ha 1000 g.params g.metas H
  have k3:=fun H=>zk0 b hb 1000 g.params g.metas H
  have e0:Co.css []=[]:=rfl;rcases a with⟨ka,Na,lsa,ksa⟩;rcases b with⟨kb,Nb,lsb,ksb⟩;rw[zvu];simp only[Te.cs,Gr.cs]at k1 k2 k3
  cases c1:zjz g <;> rw[c1]at k1
  ·simp only[↓reduceIte,go_sem,Te.cs,Gr.cs,k1,z1k,e0]
  cases c2:zc6 (.mk ka Na lsa ksa) 1000 g.params g.metas <;> rw[c2]at k2
  ·simp only[↓reduceIte,go_sem,Te.cs,Gr.cs,k1,k2,z1k,e0]
  cases c3:zc6 (.mk kb Nb lsb ksb) 1000 g.params g.metas <;> rw[c3]at k3
  ·simp only[↓reduceIte,go_sem,Te.cs,Gr.cs,k1,k2,k3,z1k,e0]
  rw[c1,c2,c3]at hq;by_cases c4:f<0
  ·simp only[↓reduceIte,go_sem,Te.cs,Gr.cs,k1,k2,k3,c4,z1k,e0]
  ·have c5:5000<f:=by simp at hq;omega
   simp only[↓reduceIte,go_sem,Te.cs,Gr.cs,k1,k2,k3,c4,c5,z1k,e0]
 |@er n n' r e out h1 h2 h3 hf hn hA he=>
  subst hf;have:=zwd g hg a b ha hb most n n' hn r e out h1 h2 h3 hA H
  rwa [if_pos he]at this
 |@ok n n' r out h1 h2 h3 hf hn hA=>
  subst hf;have:=zwd g hg a b ha hb most n n' hn r 0 out h1 h2 h3 hA H
  rwa [if_neg (by simp)]at this
theorem ConvS.oks{g:Gr}(hg:okG g){a b:Te}(ha:a.ok)(hb:b.ok){most:Bool}{f:Int}{r:Bool×List Co×Int×Int}(h:ConvS g a b most f r):okCs r.2.1:=by
 have h0:okCs []:=⟨by simp,by intro c hc;cases hc⟩
 cases h with
 |arg=>exact h0
 |er=>exact h0
 |ok _ _ _ _ _ hA=>
  have:=hA.len (by simp)
  exact⟨by dsimp only;omega,hA.oks hg.1 ha hb (by intro c hc;cases hc)⟩
theorem yas(g:Gr)(hg:okG g)(a b:Te)(ha:a.ok)(hb:b.ok)(most:Bool)(f:Int)(H:List AO):F zkx [.agg g.cs,.agg a.cs,.agg b.cs,.bool most,.int .i64 f] H=some (.ret (.bool true),H):=by
 obtain⟨r,hr⟩:=z84 g a b most f;have k1:=fun H=>z9u g hg a b ha hb most f r hr H
 have k2:=fun H=>zi7 g hg a b ha hb most f r hr H
 have k3:=hr.oks hg ha hb;have k4:=fun H=>zs5 g hg H
 have k5:=fun H=>zly g hg H
 rcases r with⟨r,out,n,e⟩;have k6:=fun H=>z4b out out k3 H
 rw[zv1]at k6;simp only[decide_true,Bool.and_self]at k6;rcases a with⟨ka,Na,lsa,ksa⟩;rcases b with⟨kb,Nb,lsb,ksb⟩;simp only[Te.cs,Gr.cs,z1k]at k1 k2 k4 k5;rw[z2z]
 cases r <;> cases c1:zjz g <;> simp only[c1]at k4 k5 <;>
  simp only[↓reduceIte,go_sem,Te.cs,Gr.cs,k1,k2,k4,k5,k6,beq_self_eq_true]
end Go.Ab
end
section
set_option linter.unusedVariables false
set_option linter.unusedSimpArgs false
set_option maxRecDepth 100000
set_option maxHeartbeats 4000000
namespace Go.Ab
open Go.RowKit Go.Proofs
def runB:Nat->List Cl->Int->List Int->Option Bool
 |0,_,_,_=>none
 |n+1,l,most,m=>if (za1 l m).any (fun x=>decide (most<x))=true then some false else if za1 l m=m then (if m.all (fun x=>decide (x<=most))=true then some true else none) else runB n l most (za1 l m)
theorem z4d:∀(n:Nat) {l:List Cl} {most:Int} {m:List Int} {b:Bool},runB n l most m=some b->∃r k,RunS l most m r k/\r.isSome=b
 |0,l,most,m,b,h=>by cases h
 |n+1,l,most,m,b,h=>by
  rw[runB]at h
  split at h
  ·rename_i h1
   cases h;obtain⟨x,hx,hlt⟩:=List.any_eq_true.1 h1
   exact⟨none,1,.over ⟨x,hx,by simpa using hlt⟩,rfl⟩
  ·rename_i h1
   split at h
   ·rename_i h2
    split at h
    ·rename_i h3
     cases h;exact⟨some m,1,.fix h2 (fun x hx=>by simpa using List.all_eq_true.1 h3 x hx),rfl⟩
    ·cases h
   ·rename_i h2
    obtain⟨r,k,h3,h4⟩:=z4d n h;refine⟨r,k+1,.more h2 (fun x hx=>?_) h3,h4⟩
    simp only[List.any_eq_true,decide_eq_true_eq,not_exists,not_and]at h1;have:=h1 x hx;omega
def brkB(f:Nat)(cons:List Co)(p:Nat)(b:Lv)(n:Nat)(x:At):Option Bool:=runB f (zsn cons (zcx n p) b x) (zhf ((p+1:Nat):Int) (zsn cons (zcx n p) b x)) (List.replicate (p+1) 0)
theorem yg4(f:Nat){cons:List Co}{p:Nat}{a b:Lv}(h:((List.range (2 ^ p)).all fun n=>(zap (za3 a (zcx n p))).all fun x=>brkB f cons p b n x == some false)=true):z0z cons p a b=true:=by
 refine zps.2 fun n hn hb=>?_
 obtain⟨x,hx,m,k,hr⟩:=hb;have h1:=List.all_eq_true.1 (List.all_eq_true.1 h n (by simpa using hn)) x hx
 have h1:brkB f cons p b n x=some false:=by simpa using h1
 obtain⟨r,k',h2,h3⟩:=z4d f h1;rw[zgs]at hr;have:=(hr.det h2).1;subst this;cases h3
theorem leqB_no(f:Nat){cons:List Co}{p:Nat}{a b:Lv}(h:((List.range (2 ^ p)).any fun n=>(zap (za3 a (zcx n p))).any fun x=>brkB f cons p b n x == some true)=true):z0z cons p a b=false:=by
 rcases hb:z0z cons p a b with _|_
 ·rfl
 exfalso;obtain⟨n,hn,h1⟩:=List.any_eq_true.1 h;obtain⟨x,hx,h2⟩:=List.any_eq_true.1 h1;have h2:brkB f cons p b n x=some true:=by simpa using h2
 obtain⟨r,k,h3,h4⟩:=z4d f h2;refine zps.1 hb n (by simpa using hn) ⟨x,hx,?_⟩
 cases r with
 |none=>cases h4
 |some m=>exact⟨m,k,by rw[zgs];exact h3⟩
def pL:Lv:=.mk 5 0 []
def spL:Lv:=.mk 2 0 [pL]
def sP:Te:=.mk 2 0 [pL] []
def sS:Te:=.mk 2 0 [spL] []
def g1:Gr:=⟨[],1,0,[],1⟩
def g2:Gr:=⟨[],1,0,[],2⟩
def g0:Gr:=⟨[],0,0,[],0⟩
theorem yj8(p m mode:Int):okG ⟨[],p,m,[],mode⟩:=⟨yg0,by simp,by intro c hc;cases hc⟩
theorem yav:sP.ok:=by simp[sP,pL,ztb,ybg]
theorem yau:sS.ok:=by simp[sS,spL,pL,ztb,ybg]
theorem leq1:zgj g1 (0,[]) pL spL=(true,0,[]):=by
 unfold zgj;rw[if_neg (by simp),if_neg (show ¬ g1.mode=2 by decide),if_pos (by rfl)]
 rw[show z0z g1.cons g1.params.toNat pL spL=true from yg4 20 (by decide +kernel)]
theorem leq2:zgj g1 (0,[]) spL pL=(false,0,[]):=by
 unfold zgj;rw[if_neg (by simp),if_neg (show ¬ g1.mode=2 by decide),if_pos (by rfl)]
 rw[show z0z g1.cons g1.params.toNat spL pL=false from leqB_no 20 (by decide +kernel)]
theorem zst(g:Gr)(n:Nat)(l:Lv):Hd g.env n (.mk 2 0 [l] []) (.mk 2 0 [l] []) n:=.stuck (by decide) (by decide) (fun h=>absurd h (by decide))
theorem aw1:ConvS g1 sP sS true 5 (true,[],4,0):=by
 have h:Al g1 (4+1) [] sP sS true _ 4 _ _:=.sortM (zst g1 4 pL) (zst g1 4 spL);rw[leq1]at h;exact .ok (by rfl) (by rfl) (by rfl) rfl (by decide) h
theorem aw2:ConvS g1 sS sP true 5 (false,[],4,0):=by
 have h:Al g1 (4+1) [] sS sP true _ 4 _ _:=.sortM (zst g1 4 spL) (zst g1 4 pL);rw[leq2]at h;exact .ok (by rfl) (by rfl) (by rfl) rfl (by decide) h
theorem aw3:ConvS g1 sP sS true 0 (false,[],0,40) :=
 .er (by rfl) (by rfl) (by rfl) rfl (by decide) (.burn0 (g:=g1)) (by decide)
theorem aw4:ConvS g2 sS sP false 5 (true,[.mk spL pL,.mk pL spL],4,0):=by
 have h:Al g2 (4+1) [] sS sP false _ 4 _ _:=.lvls (.inl ⟨rfl,rfl⟩) (zst g2 4 spL) (zst g2 4 pL) rfl;have e:zka g2 (0,[]) [spL] [pL]=(true,0,[.mk spL pL,.mk pL spL]):=by
  simp[zka,zog,zgj,g2]
 rw[e]at h;exact .ok (by rfl) (by rfl) (by rfl) rfl (by decide) h
theorem z9f(H:List AO):F zll [] H=some (.ret (.bool true),H):=by
 have hS0:=fun H=>zpk pL H
 have hS1:=fun H=>zpk spL H
 have r1:=fun H=>zi7 g1 (yj8 _ _ _) sP sS yav yau true 5 _ aw1 H
 have r2:=fun H=>zi7 g1 (yj8 _ _ _) sS sP yau yav true 5 _ aw2 H
 have r3:=fun H=>zi7 g1 (yj8 _ _ _) sP sS yav yau true 0 _ aw3 H
 have r4:=fun H=>zi7 g2 (yj8 _ _ _) sS sP yau yav false 5 _ aw4 H
 have r5:=fun H=>zi7 g0 (yj8 _ _ _) sP sS yav yau true 5 (false,[],0,1) (.arg (.inl (by rfl))) H
 have r6:=fun H=>zly g2 (yj8 _ _ _) H
 have r7:=fun H=>zly g0 (yj8 _ _ _) H
 rw[show zjz g2=true from rfl]at r6
 rw[show zjz g0=false from rfl]at r7
 have e1:De.css []=[]:=rfl;have e2:Co.css []=[]:=rfl;have e3:Co.css [.mk spL pL,.mk pL spL]=[spL.cs++pL.cs,pL.cs++spL.cs]:=rfl;simp only[z1k,e1,e2,e3,g0,g1,g2,Gr.cs,sP,sS,pL,spL,Te.cs,Te.css,Lv.cs,Lv.css,List.cons_append,List.nil_append]at hS0 hS1 r1 r2 r3 r4 r5 r6 r7;rw[zz6];simp only[↓reduceIte,go_sem,hS0,hS1,r1,r2,r3,r4,r5,r6,r7,List.length_cons,List.length_nil,Nat.reduceAdd,Int.cast_ofNat_Int]
end Go.Ab
end
section
set_option linter.unusedVariables false
set_option linter.unusedSimpArgs false
set_option maxRecDepth 100000
set_option maxHeartbeats 4000000
namespace Go.Ab
open Go.RowKit Go.Proofs
def mL:Lv:=.mk 6 0 []
def sM:Te:=.mk 2 0 [mL] []
theorem yaw:sM.ok:=by simp[sM,mL,ztb,ybg]
theorem z07{k n:Int}{a b:Te}(ha:a.ok)(hb:b.ok):(Te.mk k n [] [a,b]).ok:=by simp[ztb,ha,hb]
theorem wide_ok:∀(n:Nat),n<=1000->∃w:Te,w.ok/\∀H,F zi1 [.int .i64 n] H=some (.ret (.agg w.cs),H):=by
 intro n
 induction n using Nat.strongRecOn with
 |ind n ih=>
 intro hn;have hS:=fun H=>zpk mL H
 simp only[mL,Te.cs,Te.css,Lv.cs,Lv.css]at hS;by_cases h1:n<1
 ·refine⟨sM,yaw,fun H=>?_⟩
  rw[ztf];simp only[↓reduceIte,go_sem,hS,show (n:Int)<1 by omega,sM,mL,Te.cs,Te.css,Lv.cs,Lv.css]
 ·obtain⟨w1,o1,k1⟩:=ih ((n - 1) / 2) (by omega) (by omega)
  obtain⟨w2,o2,k2⟩:=ih ((n - 1) - (n - 1) / 2) (by omega) (by omega)
  refine⟨.mk 4 0 [] [w1,w2],z07 o1 o2,fun H=>?_⟩
  have hB:=fun H=>zpm 4 [w1,w2] H
  have e1:((n:Int) - 1).tdiv 2=((n - 1) / 2:Nat):=by
   rw[Int.tdiv_eq_ediv_of_nonneg (by omega)];omega
  have e2:(n:Int) - 1 - ((n - 1) / 2:Nat)=((n - 1) - (n - 1) / 2:Nat):=by omega
  rcases w1 with⟨k3,n3,l3,s3⟩;rcases w2 with⟨k4,n4,l4,s4⟩;simp only[Te.cs,Te.css]at hB k1 k2;rw[ztf];simp only[↓reduceIte,go_sem,hS,show ¬ (n:Int)<1 by omega,zam (n:=(n:Int) - 1) (by omega) (by omega),e1,zam (n:=(((n - 1) / 2:Nat):Int)) (by omega) (by omega),k1,e2,zam (n:=(((n - 1) - (n - 1) / 2:Nat):Int)) (by omega) (by omega),k2,hB,Te.cs,Te.css,Lv.css]
section
variable (n : Int) (hn : 0 ≤ n ∧ n < 256) (most : Bool) (H : List AO)
include hn
theorem many_1(t:Te)(ht:t.ok):∀(m i:Nat) (u:Te),u.ok->i+m=5 ->
  zfk H H (.int .u8 n) (.bool most) (.int .i64 i) [.sl [],.int .i64 0,.int .i64 1,.sl [],.int .i64 2] t.cs u.cs=some (.ret (.bool true),H):=by
 have hs:=fun a ha H=>yas ⟨[],0,1,[],2⟩ (yj8 _ _ _) a a ha ha most 5000 H
 have e1:De.css []=[]:=rfl;have e2:Co.css []=[]:=rfl;simp only[Gr.cs,e1,e2]at hs;intro m
 induction m with
 |zero=>
  intro i u hu hi;have h0:0<=n.tmod 24:=Int.tmod_nonneg 24 hn.1;have h1:n.tmod 24<24:=Int.tmod_lt_of_pos _ (by decide)
  obtain⟨k,hk⟩:=Int.eq_ofNat_of_zero_le h0;obtain⟨w,ow,kw⟩:=wide_ok k (by omega)
  have hB:=fun H=>zpm 4 [u,w] H
  have s1:=fun H=>hs t ht H
  have s2:=fun H=>hs (.mk 4 0 [] [u,w]) (z07 hu ow) H
  rcases t with⟨k3,n3,l3,s3⟩;rcases u with⟨k4,n4,l4,s4⟩;rcases w with⟨k5,n5,l5,s5⟩;simp only[Te.cs,Te.css,Lv.css]at hB kw s1 s2;have e5:¬ (i:Int)<5:=by omega
  rw[zfk,zab];simp only[↓reduceIte,go_sem,e5,Te.cs,Te.css,Lv.css,zam (n:=n) (by omega) (by omega),hk,kw,hB,s1,s2,z9f]
 |succ m ih=>
  intro i u hu hi;have hB:=fun H=>zpm 6 [u,u] H
  have:=ih (i+1) (.mk 6 0 [] [u,u]) (z07 hu hu) (by omega)
  have e5:(i:Int)<5:=by omega
  rcases t with⟨k3,n3,l3,s3⟩;rcases u with⟨k4,n4,l4,s4⟩;simp only[Te.cs,Te.css,Lv.css,Int.natCast_add,Int.natCast_one]at hB this;rw[zfk,zab];simp only[↓reduceIte,go_sem,e5,Te.cs,Te.css,Lv.css,hB,zac (n:=i) (by omega),this]
theorem many_0:∀(m i:Nat) (t:Te),t.ok->(i:Int)+m=44+n.tmod 10 ->
  zfl H H (.int .u8 n) (.bool most) (.int .i64 i) [.sl [],.int .i64 0,.int .i64 1,.sl [],.int .i64 2] t.cs=some (.ret (.bool true),H):=by
 have h0:0<=n.tmod 10:=Int.tmod_nonneg 10 hn.1;have h1:n.tmod 10<10:=Int.tmod_lt_of_pos _ (by decide)
 have hS:=fun H=>zpk mL H
 simp only[mL,Te.cs,Te.css,Lv.cs,Lv.css]at hS;intro m
 induction m with
 |zero=>
  intro i t ht hi;have e5:¬ (i:Int)<44+n.tmod 10:=by omega
  have:=many_1 n hn most H t ht 5 0 sM yaw rfl;rcases t with⟨k3,n3,l3,s3⟩;simp only[Te.cs,Te.css,Lv.cs,Lv.css,sM,mL,Int.natCast_zero]at this;rw[zfl,zab];simp only[↓reduceIte,go_sem,e5,Te.cs,zam (n:=n) (by omega) (by omega),zam (n:=44+n.tmod 10) (by omega) (by omega),hS,this]
 |succ m ih=>
  intro i t ht hi;have e5:(i:Int)<44+n.tmod 10:=by omega
  have k1:=ih (i+1) (.mk 4 0 [] [t,sM]) (z07 ht yaw) (by omega)
  have k2:=ih (i+1) (.mk 4 0 [] [sM,t]) (z07 yaw ht) (by omega)
  have b1:=fun H=>zpm 4 [t,sM] H
  have b2:=fun H=>zpm 4 [sM,t] H
  rcases t with⟨k3,n3,l3,s3⟩;simp only[Te.cs,Te.css,Lv.cs,Lv.css,sM,mL,Int.natCast_add,Int.natCast_one]at b1 b2 k1 k2;rw[zfl,zab];have r2:(i:Int).tmod 2=0\/¬ (i:Int).tmod 2=0:=by omega
  have r3:(i:Int) > 50\/¬ (50:Int)<(i:Int):=by omega
  have r4:(i:Int).tmod 20=19\/¬ (i:Int).tmod 20=19:=by omega
  rcases r2 with r2|r2 <;> rcases r3 with r3|r3 <;> rcases r4 with r4|r4 <;>
   simp only[↓reduceIte,go_sem,e5,r2,r3,r4,Te.cs,Te.css,Lv.css,zam (n:=n) (by omega) (by omega),zam (n:=44+n.tmod 10) (by omega) (by omega),hS,b1,b2,zac (n:=i) (by omega),k1,k2]
theorem z55:F zgn [.int .u8 n,.bool most] H=some (.ret (.bool true),H):=by
 have h0:0<=n.tmod 10:=Int.tmod_nonneg 10 hn.1;obtain⟨k,hk⟩:=Int.eq_ofNat_of_zero_le h0;have hS:=fun H=>zpk mL H
 have:=many_0 n hn most H (44+k) 0 sM yaw (by omega)
 simp only[mL,sM,Te.cs,Te.css,Lv.cs,Lv.css,Int.natCast_zero]at hS this;rw[ztx];simp only[↓reduceIte,go_sem,hS,this]
end
theorem z3x(n:Int)(hn:0<=n/\n<256)(most:Bool)(H:List AO):F zgn [.int .u8 n,.bool most] H=some (.ret (.bool true),H):=z55 n hn most H
end Go.Ab
end
