/- What the law ConvMade of layer 17 comes to, part 26. Conditions: none. -/
import Derived.Test.YthebfdakjfnpeaaGreatZaay
import Derived.Test.YthebfdakjfnpeaaGreatZaaw
section
set_option linter.unusedVariables false
set_option linter.unusedSimpArgs false
set_option maxRecDepth 100000
set_option maxHeartbeats 2000000
namespace Go.Ab
open Go.RowKit Go.Proofs
def z26(l:List Cl)(fr:List Int)(most:Int)(out:List (List AV))(is:Bool)(looks:Int)(last cur:List Int):List AO :=
 [.box [.sl (Cl.css l)],.box [.sl (zav fr)],.box [.int .i64 most],.box [.sl out],.box [.bool is],.box [.int .i64 looks],.box (zmt last),.box (zmt cur)]
abbrev encM(m:List Int):List AV:=[.agg (zmt m)]
structure RunSt where
 looks:Int
 last:List Int
 cur:List Int
structure RunEn where
 out:Option (List Int)
 looks:Int
 last:List Int
 cur:List Int
def z3q(n:Nat):List (Nat×AV):=[(3,.ptr n 0),(4,.ptr (n+1) 0),(5,.ptr (n+2) 0),(6,.ptr (n+3) 0),(7,.ptr (n+4) 0),(8,.ptr (n+5) 0),(9,.ptr (n+6) 0)]
def runJ(l:List Cl)(fr:List Int)(most:Int)(s:RunSt)(m:List Int):Option (RunSt ⊕ RunEn) :=
 if m.length=16/\s.last.length=16/\0<=s.looks/\s.looks<=1000000000000000/\l.length<=1000/\fr.length<=16 then
  if (m.any fun x=>decide (most<x))=true then some (.inr ⟨none,s.looks+l.length,s.last,s.cur⟩)
  else if m=s.last then some (.inr ⟨some (m.take fr.length),s.looks+l.length,s.last,s.cur⟩)
  else some (.inl ⟨s.looks+l.length,m,s.cur⟩)
 else none
def yis(l:List Cl)(fr:List Int)(most:Int)(s:RunSt):List AO:=z26 l fr most [] false s.looks s.last s.cur
def z3p(l:List Cl)(fr:List Int)(most:Int)(e:RunEn):List AO:=z26 l fr most (z31 e.out) e.out.isSome e.looks e.last e.cur
theorem z6x(n:Nat)(l:List Cl)(fr:List Int)(most:Int)(out:Option (List Int))(is:Bool)(looks:Int)(last cur:List Int):∀o∈z26 l fr most (z31 out) is looks last cur,LtO n o:=by
 intro o ho;have hm:=lt_modL n out;simp[z26]at ho;rcases ho with rfl|rfl|rfl|rfl|rfl|rfl|rfl|rfl
 ·intro a ha;simp at ha;subst ha;exact .sl (z2r n l)
 ·intro a ha;simp at ha;subst ha;exact .sl (ztc n fr)
 ·intro a ha;simp at ha;subst ha;exact .int _ _
 ·intro a ha;simp at ha;subst ha;exact .sl (of_eq_true hm)
 ·intro a ha;simp at ha;subst ha;exact .bool _
 ·intro a ha;simp at ha;subst ha;exact .int _ _
 ·exact z7h n last
 ·exact z7h n cur
theorem yhi(H:List AO)(id ver n:Nat)(l:List Int)(hl:l.length=16)(hn:n<=16)(hH:H[id]?=some (.lst ver 1 (zav l))):F za0 [.ov id ver 1 0 n] H=some (.ret (.sl (zav (l.take n))),H):=by
 have he:zk0 H (.ov id ver 1 0 n)=some (zav (l.take n)):=by
  simp only[zk0,hH];rw[if_pos (by simp[zav];omega)]
  simp[zav,List.map_take]
 rw[ztj];unfold zx7;dsimp only;rw[he];dsimp only;rw[if_pos ⟨by omega,by omega,by rw[zq9];simp;omega,z1d _,ztc _ _⟩]
theorem run_ys(H:List AO)(l:List Cl)(fr:List Int)(most:Int):Ys (.yd (H.length+8+1)) (H.length+8+2) encM (fun s=>H++(yis l fr most s++[.dfr,.slp .ready 38 (z3q H.length) [16] zcg zcf])) (fun e=>H++(z3p l fr most e++[.dfr,.slp (.done .ret) 38 (z3q H.length) [16] zcg zcf])) (runJ l fr most):=by
 refine z6k H 8 encM (yis l fr most) (z3p l fr most) (fun _=>.ret) (runJ l fr most) 38 (z3q H.length) [16] zcg zcf zw2 zw0 (fun _=>rfl) ?_ ?_ ?_ ?_
 ·rintro (p|e) <;> rfl
 ·rintro s (p|e) i o ho
  ·exact .inr (z6x _ l fr most none _ _ _ _ o (List.mem_of_getElem? ho))
  ·exact .inr (z6x _ l fr most e.out _ _ _ _ o (List.mem_of_getElem? ho))
 ·intro p hp;simp[z3q]at hp;rcases hp with rfl|rfl|rfl|rfl|rfl|rfl|rfl <;> exact .ptr (by omega)
 ·rintro ⟨looks,last,cur⟩ m X r hst
  unfold runJ at hst;dsimp only at hst
  split at hst
  ·rename_i hc
   obtain⟨hm,hl,h0,h1,hll,hf⟩:=hc;obtain⟨x,q,e⟩:∃x q,m=x::q:=by
    cases m with
    |nil=>simp at hm
    |cons x q=>exact⟨x,q,rfl⟩
   have hA:(H++(z26 l fr most [] false (looks+l.length) last cur++(.dfr :: .slp .busy 38 (z3q H.length) [16] zcg zcf::X))).length=H.length+(X.length+10):=by simp[z26]
   have hmax:=MaxV_ok (H++(z26 l fr most [] false (looks+l.length) last cur++(.dfr :: .slp .busy 38 (z3q H.length) [16] zcg zcf::X))++[.lst 0 1 (zav m)]) (H.length+(X.length+10)) 0 x q (by rw[<- e];exact hm) (by rw[<- hA,<- e,List.getElem?_append_right (Nat.le_refl _),Nat.sub_self];rfl)
   have hcl:=yhi (H++(z26 l fr most [] false (looks+l.length) last cur++(.dfr :: .slp .busy 38 (z3q H.length) [16] zcg zcf::X))++[.lst 0 1 (zav m)]) (H.length+(X.length+10)) 0 fr.length m hm hf (by rw[<- hA,List.getElem?_append_right (Nat.le_refl _),Nat.sub_self];rfl)
   simp only[z26,z3q,List.append_assoc,List.cons_append,List.nil_append]at hmax hcl;have h01:¬ H.length=H.length+1:=by omega
   have h02:¬ H.length=H.length+2:=by omega
   have hwl:=zam (n:=looks+l.length) (by omega) (by omega)
   have hq:=z93 m last (by omega)
   have hov:(∃y∈m,most<y) ↔ most<zpl q x:=by rw[zv0,e];simp
   have hrl:rd 16 true (zmt last)=some (.v (.agg (zmt last))):=zog (by rw[ziu];omega)
   have hol:over (zmt last) 0 (zmt m)=zmt m:=zs3 _ _ (by rw[ziu,ziu];omega)
   have hz16:zwh.length=16:=rfl;refine⟨[.lst 0 1 (zav m)],?_⟩;simp only[↓reduceIte,go_sem,yis,z26,z3q,encM,hm,z1b,z3b,hz16,hwl,hmax,hcl,zq9,zxl,hl,hq,hrl,hol,h01,h02];by_cases c1:(m.any fun x=>decide (most<x))=true
   ·have c1':most<zpl q x:=hov.1 (by simpa using c1)
    rw[if_pos c1]at hst;cases hst;simp only[↓reduceIte,go_sem,c1',h01,h02,z7e,isL,z3p,z26,z3q,z31,Option.isSome]
   ·have c1':¬ most<zpl q x:=fun k=>c1 (by simpa using hov.2 k)
    rw[if_neg c1]at hst;by_cases c2:m=last
    ·rw[if_pos c2]at hst
     cases hst;subst c2
     simp only[↓reduceIte,go_sem,c1',h01,h02,hf,hcl,zq9,z7e,isL,z3p,z26,z3q,z31,Option.isSome]
    ·rw[if_neg c2]at hst
     cases hst;simp only[↓reduceIte,go_sem,c1',c2,z7e,isL,yis,z26,z3q]
  ·cases hst
def z86(H:List AO)(l:List Cl)(fr:List Int)(most:Int)(s:RunSt):List AO:=H++(yis l fr most s++[.dfr,.slp .ready 38 (z3q H.length) [16] zcg zcf])
def z0t(H:List AO)(l:List Cl)(fr:List Int)(most:Int)(e:RunEn):List AO:=H++(z3p l fr most e++[.dfr,.slp (.done .ret) 38 (z3q H.length) [16] zcg zcf])
theorem run_fin(H:List AO)(l:List Cl)(fr:List Int)(most:Int)(s:RunSt)(e:RunEn):ze0 (z86 H l fr most s) (.ret (.tup [])) (z0t H l fr most e)=some (.ret (.tup []),z0t H l fr most e):=by
 have hlen:(z86 H l fr most s).length=H.length+10:=by simp[z86,yis,z26]
 refine zrb (by simp[z86,z0t,yis,z3p,z26]) (.tup (by simp)) fun id o ho=>?_
 by_cases h:id<H.length
 ·left
  unfold z0t at ho;unfold z86;rw[List.getElem?_append_left h]at ho ⊢;exact ho
 ·right
  unfold z0t at ho;rw[List.getElem?_append_right (by omega)]at ho
  rw[hlen];rcases List.mem_append.1 (List.mem_of_getElem? ho) with hm|hm
  ·exact z6x _ l fr most e.out _ _ _ _ o hm
  ·simp at hm
   rcases hm with rfl|rfl
   ·trivial
   ·intro p hp
    simp[z3q]at hp;rcases hp with rfl|rfl|rfl|rfl|rfl|rfl|rfl <;> exact .ptr (by omega)
theorem ya0(l:List Cl)(fr:List Int)(vars:Nat)(most:Int)(hl:∀c∈l,c.ok vars)(hb:l.length<=1000)(hv:vars<=16)(hv1:1<=vars)(hfr:fr.length=vars)(hm0:0<=most)(hm1:most<=1000000)(H:List AO)(s0:RunSt){m:List Int}{r:Option (List Int)}{n:Nat}(hr:RunS l most m r n):
  ∀(looks:Int),bdM vars most m->0<=looks->looks+n*l.length<=100000000000000 ->
  ∃e:RunEn,e.out=r/\e.looks=looks+n*l.length/\zcm (z86 H l fr most s0) (z86 H l fr most ⟨looks,zhd m,zhd m⟩) (.yd (H.length+9)) (.ptr (H.length+7) 0) (.fp [.sl (Cl.css l)])=some (.ret (.tup []),z0t H l fr most e):=by
 have hy:=run_ys H l fr most;have step:∀(looks:Int) (m:List Int),bdM vars most m->0<=looks->looks<=100000000000000->∀q,runJ l fr most ⟨looks,zhd m,za7 l (zhd m)⟩ (za7 l (zhd m))=some q ->
   zcm (z86 H l fr most s0) (z86 H l fr most ⟨looks,zhd m,zhd m⟩) (.yd (H.length+9)) (.ptr (H.length+7) 0) (.fp [.sl (Cl.css l)])=match q with
    |.inl s=>zcm (z86 H l fr most s0) (z86 H l fr most s) (.yd (H.length+9)) (.ptr (H.length+7) 0) (.fp [.sl (Cl.css l)])
    |.inr e=>some (.ret (.tup []),z0t H l fr most e):=by
  intro looks m hbd h0 h1 q hq;have hp16:=zpa m (by rw[hbd.1];exact hv)
  have hR:=fun H=>yjt l (fun c hc=>ok16 (hl c hc) hv) hb (zhd m) most (pad_bd hbd hv hm0) hm0 (by omega) H
  have hlr:(za7 l (zhd m)).length=16:=by rw[zn4];exact hp16
  have hc:=hy.call ⟨looks,zhd m,za7 l (zhd m)⟩ (za7 l (zhd m)) [] q hq;have hrd:rd 16 true (zmt (zhd m))=some (.v (.agg (zmt (zhd m)))):=zog (by rw[ziu];omega)
  have hrd2:rd 16 true (zmt (za7 l (zhd m)))=some (.v (.agg (zmt (za7 l (zhd m))))):=zog (by rw[ziu];omega)
  have hov:over (zmt (zhd m)) 0 (zmt (za7 l (zhd m)))=zmt (za7 l (zhd m)):=zs3 _ _ (by rw[ziu,ziu];omega)
  simp only[yis,z26,encM,List.append_nil,List.append_assoc,List.cons_append,List.nil_append,Nat.add_assoc,Nat.reduceAdd]at hc;rw[zcm,zab]
  conv=>lhs;arg 4;rw[z86,yis,z26]
  simp only[↓reduceIte,go_sem,hR,hrd,hrd2,hov,hc,hp16,hlr]
  cases q with
  |inl s=>rfl
  |inr e=>exact run_fin H l fr most s0 e
 have any_iff:∀m:List Int,m.length<=16->(((zhd m).any fun x=>decide (most<x))=true ↔ ∃x∈m,most<x):=by
  intro m hm;obtain⟨x,q,e⟩:∃x q,zhd m=x::q:=by
   cases h:zhd m with
   |nil=>have:=zpa m hm;rw[h]at this;simp at this
   |cons x q=>exact⟨x,q,rfl⟩
  rw[<- pad_max e most hm0,zv0,e];simp
 have jeq:∀(looks:Int) (m:List Int),bdM vars most m->0<=looks->looks<=100000000000000->∀c,runJ l fr most ⟨looks,zhd m,c⟩ (zhd (za7 l m)) =
   if (∃x∈za7 l m,most<x) then some (.inr ⟨none,looks+l.length,zhd m,c⟩)
   else if za7 l m=m then some (.inr ⟨some m,looks+l.length,zhd m,c⟩)
   else some (.inl ⟨looks+l.length,zhd (za7 l m),c⟩):=by
  intro looks m hbd h0 h1 c;have hlr:(za7 l m).length=m.length:=zn4 l m;have hml:=hbd.1;unfold runJ;dsimp only;rw[if_pos ⟨zpa _ (by omega),zpa _ (by omega),h0,by omega,hb,by omega⟩]
  by_cases c1:∃x∈za7 l m,most<x
  ·rw[if_pos c1,if_pos ((any_iff _ (by omega)).2 c1)]
  ·rw[if_neg c1,if_neg (fun k=>c1 ((any_iff _ (by omega)).1 k))]
   by_cases c2:za7 l m=m
   ·rw[if_pos c2,if_pos ((yef hlr).2 c2),c2]
    have:(zhd m).take fr.length=m:=by unfold zhd;rw[hfr,<- hml];simp
    rw[this]
   ·rw[if_neg c2,if_neg (fun k=>c2 ((yef hlr).1 k))]
 induction hr with
 |over h=>
  intro looks hbd h0 h1;rename_i m;have hj:=jeq looks m hbd h0 (by omega) (za7 l (zhd m))
  rw[if_pos h]at hj;have hs:=step looks m hbd h0 (by omega) _ (by rw[zs2 vars l m hl hbd.1]at hj ⊢;exact hj)
  exact⟨_,rfl,by simp,hs⟩
 |fix h hb2=>
  intro looks hbd h0 h1;rename_i m;have hj:=jeq looks m hbd h0 (by omega) (za7 l (zhd m))
  rw[if_neg (by rw[h];rintro ⟨x,hx,hlt⟩;have:=hb2 x hx;omega),if_pos h]at hj
  have hs:=step looks m hbd h0 (by omega) _ (by rw[zs2 vars l m hl hbd.1]at hj ⊢;exact hj)
  exact⟨_,rfl,by simp,hs⟩
 |more h hb2 hr ih=>
  intro looks hbd h0 h1;rename_i m r n;have e:looks+l.length+n*(l.length:Int)=looks+((n+1:Nat):Int)*l.length:=by
   rw[Int.natCast_add,Int.add_mul];simp;omega
  have hn0:0<=n*(l.length:Int):=Int.mul_nonneg (by omega) (by omega)
  have hj:=jeq looks m hbd h0 (by omega) (za7 l (zhd m))
  rw[if_neg (by rintro ⟨x,hx,hlt⟩;have:=hb2 x hx;omega),if_neg h]at hj
  have hs:=step looks m hbd h0 (by omega) _ (by rw[zs2 vars l m hl hbd.1]at hj ⊢;exact hj)
  have hrb:=hbd.round l hl hm0;obtain⟨en,h2,h3,h4⟩:=ih (looks+l.length) ⟨hrb.1,fun x hx=>⟨(hrb.2 x hx).1,hb2 x hx⟩⟩ (by omega) (by omega)
  refine⟨en,h2,by rw[h3,e],?_⟩
  rw[hs];exact h4
theorem yaz(m:List Int)(hm:m.length=16)(l:List Cl)(H:List AO):FK zcw [.agg (zmt m),.sl (Cl.css l)] H=some (.ret (.fn (.func zb8) [] [.ptr H.length 0,.fp [.sl (Cl.css l)]]),H++[.box (zmt m)]):=by
 rw[zql];simp only[↓reduceIte,go_sem,hm]
theorem runP_ok(l:List Cl)(fr:List Int)(vars:Nat)(most:Int)(hl:∀c∈l,c.ok vars)(hb:l.length<=1000)(hv:vars<=16)(hv1:1<=vars)(hm0:0<=most)(hm1:most<=1000000)(H:List AO){r:Option (List Int)}{n:Nat}(hr:RunS l most fr r n)(hbd:bdM vars most fr)(hn:(n:Int)*l.length<=100000000000000):
  F zpz [.sl (Cl.css l),.sl (zav fr),.int .i64 most] H=some (.ret (.tup [.sl (z31 r),.bool r.isSome,.int .i64 (n*l.length)]),H):=by
 have hof:=fun H=>of_ok fr (by rw[hbd.1];exact hv) H
 have hp16:=zpa fr (by rw[hbd.1];exact hv)
 obtain⟨e,h1,h2,h3⟩:=ya0 l fr vars most hl hb hv hv1 hbd.1 hm0 hm1 H ⟨0,zhd fr,zhd fr⟩ hr 0 hbd (by omega) (by omega)
 rw[Int.zero_add]at h2;have hov:∀z,z.length=16->over z 0 (zmt (zhd fr))=zmt (zhd fr):=fun z hz=>zs3 _ _ (by rw[ziu];omega)
 have hrd:rd 16 true (zmt (zhd fr))=some (.v (.agg (zmt (zhd fr)))):=zog (by rw[ziu];omega)
 have hK:=fun H=>yaz (zhd fr) hp16 l H
 have he:=zuz (H:=H) (DR:=z3p l fr most e) (k:=8) rfl (st:=.done .ret) (nn:=38) (t:=z3q H.length) (ps:=[16]) (asg:=zcg) (body:=zcf);have h4:F zb8 [.yd (H.length+9),.ptr (H.length+7) 0,.fp [.sl (Cl.css l)]] (z86 H l fr most ⟨0,zhd fr,zhd fr⟩)=some (.ret (.tup []),z0t H l fr most e):=by
  rw[zpp];simp only[↓reduceIte,go_sem];exact h3
 simp only[z86,z0t,yis,z3p,z26,z3q,List.append_nil,List.append_assoc,List.cons_append,List.nil_append,Nat.add_assoc,Nat.reduceAdd]at h4 he;rw[z7y];simp only[↓reduceIte,go_sem,hof,hp16,hov,hrd,hK,h4,he,h1,h2,List.nodup_cons,List.nodup_nil,List.not_mem_nil,not_false_eq_true,and_self]
theorem z6b(vars:Nat)(l:List Cl)(h:ziw vars l=true){r:Option (List Int)}{k:Nat}(hr:RunS l (zh7 vars l) (List.replicate vars 0) r k)(H:List AO):F zmd [.int .i64 vars,.sl (Cl.css l)] H=some (.ret (.tup [.sl (z31 r),.bool r.isSome,.int .i64 (k*l.length),.int .i64 0]),H):=by
 have hR:=zg1.1 h;have hb:=ztb vars l h;obtain⟨r',k',h1,h2⟩:=run0 vars l h;obtain⟨_,e⟩:=hr.det h1;have hk:(k:Int)*l.length<=300001*60:=Int.mul_le_mul (by omega) (by omega) (by omega) (by omega)
 have hro:=fun H=>runP_ok l (List.replicate vars 0) vars (zh7 vars l) hR.2.2.2 (by omega) (by omega) hR.1 hb.1 (by omega) H hr ⟨by simp,fun x hx=>by simp at hx;omega⟩ (by omega)
 have hri:=fun H=>zyf vars l (by omega) (fun c hc=>by have:=(hR.2.2.2 c hc).len;omega) H
 have hrep:List.replicate vars [AV.int .i64 0]=zav (List.replicate vars 0):=by simp[zav]
 rw[z1s];simp only[↓reduceIte,go_sem,hri,h,yew vars l h,show (vars:Int)<=1073741824 by omega,hro,hrep]
end Go.Ab
end
section
set_option linter.unusedVariables false
set_option linter.unusedSimpArgs false
set_option maxRecDepth 100000
set_option maxHeartbeats 2000000
namespace Go.Ab
open Go.RowKit Go.Proofs
@[go_sem] theorem cocs_over(a b c d e f:AV)(x:Co):over [a,b,c,d,e,f] 0 x.cs=x.cs:=by rcases x with⟨⟨k,n,ks⟩,⟨k2,n2,ks2⟩⟩;rfl
theorem zrf(n:Nat)(l:List Co):∀a∈(Co.css l).flatten,Lt n a:=by
 intro a ha;obtain⟨e,he,h2⟩:=List.mem_flatten.1 ha;obtain⟨x,_,rfl⟩:=List.mem_map.1 he;rcases List.mem_append.1 h2 with h|h
 ·exact yb3 n x.a a h
 ·exact yb3 n x.b a h
def zrm(cons:List Co)(z:List Bool):List AV:=[.sl (Co.css cons),.sl (bls z)]
theorem ztu(cons:List Co)(z:List Bool)(l:Lv)(hl:l.ok)(H:List AO):F zbf [.agg (zrm cons z),.agg l.cs] H=some (.ret (.sl (At.css (zas (za9 l z)))),H):=by
 have hF:=fun H=>z8r l hl z H
 have hg:=zj1 l z;have loop:∀(so po:List Int) (ver:Nat),(za9 l z).o=po++so->zdg H (H++[.lst 0 2 [],.lst ver 2 (At.css (⟨0,(za9 l z).c⟩::zfv po 1))]) (.ol (H.length+1) ver) (.sl (zav (za9 l z).o)) (.int .i64 (za9 l z).o.length) (.int .i64 po.length)=some (.ret (.sl (At.css (zas (za9 l z)))),H):=by
  generalize za9 l z=f at hg ⊢;intro so
  induction so with
  |nil=>
   intro po ver h;rw[List.append_nil]at h;subst h;rw[zdg,zab];simp only[↓reduceIte,go_sem,Fl.cs,zas]
  |cons x so ih=>
   intro po ver h;have hga:f.o[po.length]?=some x:=by rw[h];simp
   have hp:po.length<f.o.length:=by rw[h];simp
   have hlen:=zus po 1;rw[zdg,zab];by_cases hx:0<=x
   ·have h1:=ih (po++[x]) (ver+1) (by rw[h];simp)
    rw[zpi,if_pos hx]at h1;have hs:At.css ({ v:=0,o:=f.c } :: zfv po 1)++[[.int .i64 ((po.length:Int)+1),.int .i64 x]]=At.css ({ v:=0,o:=f.c } :: (zfv po 1++[⟨1+po.length,x⟩])):=by
     rw[<- List.cons_append,<- zz9,Int.add_comm];rfl
    simp only[zag,Fl.cs]at h1;simp only[↓reduceIte,go_sem,Fl.cs,show (po.length:Int)<(f.o.length:Int) by omega,hga,hx,zac (n:=po.length) (by omega),hs,List.length_cons,show (zfv po 1).length<=1073741822 by omega,h1]
   ·have h1:=ih (po++[x]) ver (by rw[h];simp)
    rw[zpi,if_neg hx,List.append_nil]at h1;simp only[zag,Fl.cs]at h1;simp only[↓reduceIte,go_sem,Fl.cs,show (po.length:Int)<(f.o.length:Int) by omega,hga,hx,zac (n:=po.length) (by omega),h1]
 have h1:=loop (za9 l z).o [] 0 rfl;have e:At.css [⟨0,(za9 l z).c⟩]=[[.int .i64 0,.int .i64 (za9 l z).c]]:=rfl;simp only[List.length_nil,Int.natCast_zero,zfv,e]at h1;rw[zpf];simp only[↓reduceIte,go_sem,zrm,hF];exact h1
abbrev encC(c:Cl):List AV:=[.agg c.cs]
def clV(cons:List Co)(z:List Bool):AV:=.fn (.func zay) [] [.fp (zrm cons z)]
theorem zx8(cons:List Co)(z:List Bool)(H:List AO):F zct [.agg (zrm cons z)] H=some (.ret (clV cons z),H):=by
 have hcs:∀n,∀a∈(Co.css cons).flatten,Lt n a:=fun n=>zrf n cons
 rw[znr];simp only[↓reduceIte,go_sem,clV,zrm];exact if_pos (.fn (by simp) (by intro x hx;simp at hx;subst hx;exact .fp (by intro a ha;simp at ha;rcases ha with rfl|rfl;exact .sl (hcs _);exact .sl (yn8 _ z))))
theorem yn5(cons:List Co)(hcons:∀c∈cons,c.ok)(hcl:cons.length<=60)(z:List Bool)(hz:z.length<=5):yik (clV cons z) encC (zcp cons z):=by
 intro S E y m W WE stp hy s X r hr;have hone:=hy.one;have hcell:y.cells=[y]:=by cases y <;> first|rfl|(simp[AV.one]at hone)
 unfold AV.cells at hcell;unfold AV.one at hone;have fin:=fun r=>z0q hy s r X []
 simp only[List.append_nil]at fin;have loop1:∀(i:Nat) (fb:Fl) (L:List At) (rest:List Cl),i<1000->L.length<=1000 ->
   (∀a:S,zm8 stp rest a=some r->zbj (W s++X) (W a++X) y (.fp (zrm cons z)) (.sl (Co.css cons)) (.int .i64 cons.length) (.int .i64 (i+1))=some (.ret (.tup []),hp W WE r++X)) ->
   ∀(t p:List At),L=p++t->∀(a:S),zm8 stp (t.map (fun a=>(⟨zas fb,a⟩:Cl))++rest) a=some r->zch (W s++X) (W a++X) y (.fp (zrm cons z)) (.sl (At.css (zas fb))) (.sl (Co.css cons)) (.int .i64 cons.length) (.int .i64 i) (.sl (At.css L)) (.int .i64 L.length) (.int .i64 p.length)=some (.ret (.tup []),hp W WE r++X):=by
  intro i fb L rest hi hL hrest t
  induction t with
  |nil=>
   intro p h a hq;rw[List.append_nil]at h;subst h;have h1:=hrest a (by simpa using hq)
   rw[zch,zab];simp only[↓reduceIte,go_sem,zac (n:=i) (by omega),h1]
  |cons x t ih=>
   intro p h a hq;have hga:L[p.length]?=some x:=by rw[h];simp
   have hpl:p.length<L.length:=by rw[h];simp
   rw[List.map_cons,List.cons_append,zm8]at hq
   cases hst:stp a ⟨zas fb,x⟩ with
   |none=>rw[hst]at hq;cases hq
   |some q=>
   rw[hst]at hq;have hc:=hy.call a ⟨zas fb,x⟩ X q hst;simp only[encC,Cl.cs]at hc;rw[zch,zab]
   cases q with
   |inl b=>
    have ih:=ih (p++[x]) (by rw[h];simp) b hq
    simp only[zfu,zag]at hc ih;simp only[↓reduceIte,go_sem,At.cs,show (p.length:Int)<(L.length:Int) by omega,hga,hc,isL,zac (n:=p.length) (by omega),ih]
   |inr e=>
    cases hq;simp only[zry]at hc
    simp only[↓reduceIte,go_sem,At.cs,show (p.length:Int)<(L.length:Int) by omega,hga,hc,isL]
    exact fin (.inr e)
 have loop2:∀(t p:List Co),cons=p++t->∀(a:S),zm8 stp (t.flatMap (yc6 z)) a=some r->zbj (W s++X) (W a++X) y (.fp (zrm cons z)) (.sl (Co.css cons)) (.int .i64 cons.length) (.int .i64 p.length)=some (.ret (.tup []),hp W WE r++X):=by
  intro t
  induction t with
  |nil=>
   intro p h a hq;rw[List.append_nil]at h;subst h;rw[List.flatMap_nil,zm8]at hq;cases hq;rw[zbj,zab];simp only[↓reduceIte,go_sem];exact fin (.inl a)
  |cons c t ih=>
   intro p h a hq;have hga:cons[p.length]?=some c:=by rw[h];simp
   have hpl:p.length<cons.length:=by rw[h];simp
   have hx:=hcons c (by rw[h];simp)
   have hA:=fun H=>ztu cons z c.a hx.1 H
   have hB:=fun H=>ztu cons z c.b hx.2 H
   have h0:=loop1 p.length (za9 c.b z) (zas (za9 c.a z)) (t.flatMap (yc6 z)) (by omega) (by have:=zg0 c.a z;omega) (fun b hb=>by
    have:=ih (p++[c]) (by rw[h];simp) b hb
    simpa only[zag] using this) (zas (za9 c.a z)) [] rfl a (by rw[List.flatMap_cons,yc6]at hq;exact hq)
   simp only[List.length_nil,Int.natCast_zero]at h0;unfold zrm at hA hB h0 ⊢;rw[zbj,zab];simp only[↓reduceIte,go_sem,show (p.length:Int)<(cons.length:Int) by omega,hga,hA,hB,h0]
 have loop0:∀(t p:List Bool),z=p++t->∀(a:S),zm8 stp (zu0 t ((p.length:Int)+1)++cons.flatMap (yc6 z)) a=some r->zbk (W s++X) (W a++X) y (.fp (zrm cons z)) (.sl (bls z)) (.int .i64 z.length) (.int .i64 p.length)=some (.ret (.tup []),hp W WE r++X):=by
  intro t
  induction t with
  |nil=>
   intro p h a hq;rw[List.append_nil]at h;have h2:=loop2 cons [] rfl a (by simpa [zu0] using hq)
   simp only[List.length_nil,Int.natCast_zero]at h2;unfold zrm at h2 ⊢;rw[zbk,zab,h];rw[h]at h2;simp only[↓reduceIte,go_sem,h2]
  |cons b t ih=>
   intro p h a hq;have hga:z[p.length]?=some b:=by rw[h];simp
   have hpl:p.length<z.length:=by rw[h];simp
   have e1:(((p++[b]).length:Int)+1)=(p.length:Int)+1+1:=by simp
   rw[zu0]at hq;cases b
   ·rw[if_neg (by simp),List.cons_append,zm8]at hq
    cases hst:stp a ⟨[⟨(p.length:Int)+1,0⟩],⟨0,1⟩⟩ with
    |none=>rw[hst]at hq;cases hq
    |some q=>
    rw[hst]at hq;have hc:=hy.call a ⟨[⟨(p.length:Int)+1,0⟩],⟨0,1⟩⟩ X q hst;simp only[encC,Cl.cs,At.css,List.map_cons,List.map_nil,At.cs]at hc;unfold zrm at ih ⊢;rw[zbk,zab]
    cases q with
    |inl c=>
     have ih:=ih (p++[false]) (by rw[h];simp) c (by rw[e1];exact hq)
     simp only[zfu,zag]at hc ih;simp only[↓reduceIte,go_sem,show (p.length:Int)<(z.length:Int) by omega,hga,hc,isL,zac (n:=p.length) (by omega),ih]
    |inr e=>
     cases hq;simp only[zry]at hc
     simp only[↓reduceIte,go_sem,show (p.length:Int)<(z.length:Int) by omega,hga,hc,isL,zac (n:=p.length) (by omega)]
     exact fin (.inr e)
   ·rw[if_pos rfl]at hq
    have ih:=ih (p++[true]) (by rw[h];simp) a (by rw[e1];exact hq)
    unfold zrm at ih ⊢;simp only[zag]at ih;rw[zbk,zab];simp only[↓reduceIte,go_sem,show (p.length:Int)<(z.length:Int) by omega,hga,zac (n:=p.length) (by omega),ih]
 simp only[clV,zhh,List.cons_append,List.nil_append];show F zay _ _=_;rw[zmw];have:=loop0 z [] rfl s hr;unfold zrm at this ⊢;simp only[↓reduceIte,go_sem];exact this
end Go.Ab
end
section
set_option linter.unusedVariables false
set_option linter.unusedSimpArgs false
set_option maxRecDepth 100000
set_option maxHeartbeats 2000000
namespace Go.Ab
open Go.RowKit Go.Proofs
def yod(n:Nat)(p:Nat×List Cl):List AO:=[.lst p.1 3 (Cl.css p.2),.box [.ol n p.1]]
def appJ(p:Nat×List Cl)(x:Cl):Option ((Nat×List Cl) ⊕ Empty):=if p.2.length<1073741823 then some (.inl (p.1+1,p.2++[x])) else none
theorem app_ys(H:List AO):Ys (.yd (H.length+2+1)) (H.length+2+2) encC (fun p=>H++(yod H.length p++[.dfr,.slp .ready 13 [(2,.ptr (H.length+1) 0)] [7] zax zaw])) (fun e:Empty=>H++(noE e++[.dfr,.slp (.done (noE e)) 13 [(2,.ptr (H.length+1) 0)] [7] zax zaw])) appJ:=by
 refine z6k H 2 encC (yod H.length) noE noE appJ 13 [(2,.ptr (H.length+1) 0)] [7] zax zaw zkv zku (fun _=>rfl) ?_ ?_ ?_ ?_
 ·rintro (p|e)
  ·rfl
  ·exact e.elim
 ·rintro s (p|e) i o ho
  ·match i,ho with
   |0,ho=>simp[zfu,yod]at ho;subst ho;exact .inr fun a ha=>z2r _ _ a ha
   |1,ho=>simp[zfu,yod]at ho;subst ho;exact .inr fun a ha=>by simp at ha;subst ha;exact .ol (by omega)
   |j+2,ho=>simp[zfu,yod]at ho
  ·exact e.elim
 ·intro p hp;simp at hp;subst hp;exact .ptr (by omega)
 ·rintro ⟨ver,es⟩ x X r hst
  refine⟨[],?_⟩;unfold appJ at hst;dsimp only at hst
  split at hst
  ·rename_i h2
   cases hst;simp only[↓reduceIte,go_sem,yod,encC,z7e,isL,show es.length<=1073741823 by omega,zox]
  ·cases hst
theorem yaj:∀(xs:List Cl) (ver:Nat) (es:List Cl),es.length+xs.length<=1073741823->∃v,zm8 appJ xs (ver,es)=some (.inl (v,es++xs))
 |[],ver,es,_=>⟨ver,by simp[zm8]⟩
 |x::r,ver,es,h=>by
  simp at h;obtain⟨v,hv⟩:=yaj r (ver+1) (es++[x]) (by simp;omega)
  refine⟨v,?_⟩;rw[zm8];unfold appJ;dsimp only;rw[if_pos (by omega)]
  rw[List.append_assoc]at hv;exact hv
theorem zx6(k:FuncId)(c:AV)(cap:List AV)(xs:List Cl)(hs:yik (.fn (.func k) [] (c::cap)) encC xs)(hx:xs.length<=1073741823)(H:List AO):
  ∃v J,FK zbv [.fn (.func k) [] (c::cap)] H=some (.ret (.ol H.length v),H++(.lst v 3 (Cl.css xs)::J)):=by
 obtain⟨v,hv⟩:=yaj xs 0 [] (by simpa using hx)
 have hr:=hs _ _ _ _ _ _ _ (app_ys H) (0,[]) [] _ hv;have he:=zuz (H:=H) (DR:=yod H.length (v,xs)) (k:=2) rfl (st:=.ready) (nn:=13) (t:=[(2,.ptr (H.length+1) 0)]) (ps:=[7]) (asg:=zax) (body:=zaw);have e0:Cl.css []=[]:=rfl;simp only[zfu,yod,zhh,List.cons_append,List.nil_append,List.append_nil,Nat.add_assoc,Nat.reduceAdd,e0]at hr he;have hA:∃J,FK za5 [.nils 3,.fn (.func k) [] (c::cap)] H=some (.ret (.ol H.length v),H++(.lst v 3 (Cl.css xs)::J)):=by
  rw[zm9];simp only[↓reduceIte,go_sem,hr,he,List.mem_cons,List.not_mem_nil,or_false,forall_eq,List.nodup_cons,List.nodup_nil,not_false_eq_true,and_self];exact⟨_,rfl⟩
 obtain⟨J,hA⟩:=hA;refine⟨v,J,?_⟩;rw[zoq];simp only[↓reduceIte,go_sem,hA]
theorem z3g(z:List Bool)(hz:z.length<=5)(m:List Int)(hm:m.length=z.length+1)(hb:okM (z.length+1) m):∀(s p:List Bool),z=p++s->∀(o:List Int),o.length=z.length->∃vs,∀(H K:List AO),
  zb6 H (H++(K++[.lst 0 1 (zav o)])) (.sl (zav m)) (.ol (H.length+K.length) 0) (.sl (bls z)) (.int .i64 z.length) (.int .i64 p.length)=some (.ret (.tup [.sl (zav vs),.bool true]),H):=by
 have g0:=hb.get (v:=0) (by omega) (by omega)
 have e0:m[0]?=some (gI m 0):=g0.1;have lX:∀(H K:List AO) o,(H++(K++[o]))[H.length+K.length]?=some o:=fun H K o=>by
  rw[List.getElem?_append_right (by omega),List.getElem?_append_right (by omega)];simp
 have lS:∀(H K:List AO) o o',(H++(K++[o])).set (H.length+K.length) o' = H++(K++[o']):=fun H K o o'=>by
  rw[List.set_append_right _ _ (by omega),List.set_append_right _ _ (by omega)];simp
 intro s
 induction s with
 |nil=>
  intro p h o ho;rw[List.append_nil]at h;subst h;refine⟨o,fun H K=>?_⟩
  rw[zb6,zab];simp only[↓reduceIte,go_sem,lX,lS]
 |cons x s ih=>
  intro p h o ho;have hga:z[p.length]?=some x:=by rw[h];simp
  have hp:p.length<z.length:=by rw[h];simp
  have g1:=hb.get (v:=(p.length:Int)+1) (by omega) (by omega)
  have hnn:(0:Int)<=(p.length:Int)+1:=by omega
  have hpo:p.length<o.length:=by omega
  cases x
  ·obtain⟨vs,h1⟩:=ih (p++[false]) (by rw[h];simp) (o.set p.length (gI m 0 - gI m ((p.length:Int)+1))) (by simpa using ho)
   refine⟨vs,fun H K=>?_⟩
   have h1:=h1 H K;have hset:(zav o).set p.length [.int .i64 (gI m 0 - gI m ((p.length:Int)+1))]=zav (o.set p.length (gI m 0 - gI m ((p.length:Int)+1))):=by simp[zav,List.map_set]
   obtain⟨w,hw⟩:∃w,o[p.length]?=some w:=⟨o[p.length],by simp[hpo]⟩
   simp only[zag]at h1;rw[zb6,zab];simp only[↓reduceIte,go_sem,lX,lS,show (p.length:Int)<(z.length:Int) by omega,hga,e0,hnn,g1.1,hpo,hw,zac (n:=p.length) (by omega),zam (n:=gI m 0 - gI m ((p.length:Int)+1)) (by omega) (by omega),hset,h1]
  ·obtain⟨vs,h1⟩:=ih (p++[true]) (by rw[h];simp) o ho
   refine⟨vs,fun H K=>?_⟩
   have h1:=h1 H K;simp only[zag]at h1;rw[zb6,zab];simp only[↓reduceIte,go_sem,show (p.length:Int)<(z.length:Int) by omega,hga,zac (n:=p.length) (by omega),h1]
theorem yar(cons:List Co)(hcons:∀c∈cons,c.ok)(hcl:cons.length<=8)(z:List Bool)(hz:z.length<=5)(more:List Cl)(hm:more.length<=1000)(hR:ziw ((z.length+1:Nat):Int) (zcp cons z++more)=true){r:Option (List Int)}{k:Nat}(hr:RunS (zcp cons z++more) (zh7 ((z.length+1:Nat):Int) (zcp cons z++more)) (List.replicate (z.length+1) 0) r k):
  ∃vs,∀(H:List AO),F zc7 [.agg (zrm cons z),.sl (Cl.css more)] H=some (.ret (.tup [.sl (zav vs),.bool r.isSome]),H):=by
 have hlen:=zqw cons z
 cases r with
 |none=>
  refine⟨[],fun H=>?_⟩
  obtain⟨v,J,hC⟩:=zx6 zay (.fp (zrm cons z)) [] (zcp cons z) (yn5 cons hcons (by omega) z hz) (by omega) (H++[.lst 0 1 []])
  simp only[List.append_assoc,List.cons_append,List.nil_append,List.length_append,List.length_cons,List.length_nil,Nat.zero_add]at hC;have hcl:=fun H=>zx8 cons z H
  have hS:=fun H=>z6b (z.length+1) (zcp cons z++more) hR hr H
  simp only[Int.natCast_add,Int.natCast_one]at hS;rw[zie];unfold clV at hcl;unfold zrm at hC hcl ⊢;have hap:Cl.css (zcp cons z)++Cl.css more=Cl.css (zcp cons z++more):=by simp[Cl.css]
  have h3:(∀x:List AV,x∈Cl.css more->x.length=3)=True:=eq_true (by intro x hx;obtain⟨z,_,rfl⟩:=List.mem_map.1 hx;rfl)
  simp only[↓reduceIte,go_sem,hcl,hC,hap,h3,show (zcp cons z).length+more.length<=1073741824 by omega,zac (n:=z.length) (by omega),hS,Option.isSome,z31,zgb]
 |some m=>
  have hmo:=yd0 hR hr;obtain⟨vs,hL⟩:=z3g z hz m hmo.1 hmo z [] rfl (List.replicate z.length 0) (by simp)
  have hrep:List.replicate z.length [AV.int .i64 0]=zav (List.replicate z.length 0):=by simp[zav]
  refine⟨vs,fun H=>?_⟩
  obtain⟨v,J,hC⟩:=zx6 zay (.fp (zrm cons z)) [] (zcp cons z) (yn5 cons hcons (by omega) z hz) (by omega) (H++[.lst 0 1 []])
  simp only[List.append_assoc,List.cons_append,List.nil_append,List.length_append,List.length_cons,List.length_nil,Nat.zero_add]at hC;have hcl:=fun H=>zx8 cons z H
  have hS:=fun H=>z6b (z.length+1) (zcp cons z++more) hR hr H
  simp only[Int.natCast_add,Int.natCast_one]at hS;rw[zie];unfold clV at hcl;unfold zrm at hC hcl ⊢;have hap:Cl.css (zcp cons z)++Cl.css more=Cl.css (zcp cons z++more):=by simp[Cl.css]
  have h3:(∀x:List AV,x∈Cl.css more->x.length=3)=True:=eq_true (by intro x hx;obtain⟨z,_,rfl⟩:=List.mem_map.1 hx;rfl)
  have hL:=hL H (AO.lst 0 1 [] :: .dead::J);simp only[List.append_assoc,List.cons_append,List.nil_append,List.length_append,List.length_cons,List.length_nil,Nat.zero_add,Nat.add_assoc,Nat.reduceAdd,Int.natCast_zero]at hL;simp only[↓reduceIte,go_sem,hcl,hC,hap,h3,show (zcp cons z).length+more.length<=1073741824 by omega,zac (n:=z.length) (by omega),hS,Option.isSome,z31,show (z.length:Int)<=1073741824 by omega,hrep]
  exact hL
theorem leq1_in(cons:List Co)(hcons:∀c∈cons,c.ok)(hcl:cons.length<=8)(z:List Bool)(hz:z.length<=5)(a b:Lv)(x:At)(hx:x∈zas (za9 a z)):
  ∃vs is,(is=true ↔ zlg (z.length+1) (zua cons z b x))/\∀(G:List AO) (B:AV) (q:Nat) (hq:q<1000) (J:List AO) (t p:List At),zas (za9 b z)=p++t->∀ver,
   zix G (G++(J++[.lst ver 3 (Cl.css (zli x p))])) B (.ol (G.length+J.length) ver) (.sl (At.css (zas (za9 a z)))) (.int .i64 (zas (za9 a z)).length) (.int .i64 q) (.sl (At.css (zas (za9 b z)))) (.int .i64 (zas (za9 b z)).length) (.int .i64 p.length) (zrm cons z) x.cs =
   if is=true then some (.ret (.tup [.sl (zav vs),.bool true]),G) else zee G (G++(J++[.dead])) B (.sl (At.css (zas (za9 a z)))) (.int .i64 (zas (za9 a z)).length) (.int .i64 (q+1)) (zrm cons z):=by
 have hright:=zw6 cons hcl z hz a b x hx;obtain⟨r,k,hr,_⟩:=run0 (z.length+1) _ hright;have hbl:=zg0 b z;obtain⟨vs,hV⟩:=yar cons hcons hcl z hz (zli x (zas (za9 b z))) (by simp only[zli,List.length_map];omega) hright hr
 refine⟨vs,r.isSome,?_,?_⟩
 ·constructor
  ·intro h
   cases r with
   |none=>cases h
   |some m=>exact⟨m,k,hr⟩
  ·rintro ⟨m,k',h2⟩
   rw[(hr.det h2).1];rfl
 intro G B q hq J t;have hV:=hV (G++(J++[.dead]))
 induction t with
 |nil=>
  intro p h ver;rw[List.append_nil]at h;rw[h]at hV ⊢;have lX:∀o,(G++(J++[o]))[G.length+J.length]?=some o:=fun o=>by
   rw[List.getElem?_append_right (by omega),List.getElem?_append_right (by omega)];simp
  have lS:∀o o',(G++(J++[o])).set (G.length+J.length) o' = G++(J++[o']):=fun o o'=>by
   rw[List.set_append_right _ _ (by omega),List.set_append_right _ _ (by omega)];simp
  unfold zrm at hV ⊢;rw[zix,zab];simp only[↓reduceIte,go_sem,lX,lS,hV,zac (n:=q) (by omega)]
 |cons y t ih=>
  intro p h ver;have hga:(zas (za9 b z))[p.length]?=some y:=by rw[h];simp
  have hpl:p.length<(zas (za9 b z)).length:=by rw[h];simp
  have hy:=zo0 b z y (by rw[h];simp)
  have ih:=ih (p++[y]) (by rw[h];simp) (ver+1)
  have lX:∀o,(G++(J++[o]))[G.length+J.length]?=some o:=fun o=>by
   rw[List.getElem?_append_right (by omega),List.getElem?_append_right (by omega)];simp
  have lS:∀o o',(G++(J++[o])).set (G.length+J.length) o' = G++(J++[o']):=fun o o'=>by
   rw[List.set_append_right _ _ (by omega),List.set_append_right _ _ (by omega)];simp
  have hml:(zli x p).length<=1073741823:=by simp only[zli,List.length_map];omega
  rw[zzm,<- zox]at ih;simp only[zag]at ih;rw[zix,zab];simp only[↓reduceIte,go_sem,At.cs,lX,lS,show (p.length:Int)<((zas (za9 b z)).length:Int) by omega,hga,zac (n:=p.length) (by omega),hml,zam (n:=y.o+1) (by omega) (by omega)]
  exact ih
theorem leq1_ok(cons:List Co)(hcons:∀c∈cons,c.ok)(hcl:cons.length<=8)(z:List Bool)(hz:z.length<=5)(a b:Lv)(ha:a.ok)(hb:b.ok):
  ∃vs is,(is=true ↔ zni cons a b z)/\∀(G:List AO) (A B:Nat) (hA:G[A]?=some (.box a.cs)) (hB:G[B]?=some (.box b.cs)),F zhw [.agg (zrm cons z),.ptr A 0,.ptr B 0] G=some (.ret (.tup [.sl (zav vs),.bool is]),G):=by
 have hat:=fun H=>ztu cons z a ha H
 have hbt:=fun H=>ztu cons z b hb H
 have hla:=zg0 a z;have loop:∀(s q:List At),zas (za9 a z)=q++s->∃vs is,(is=true ↔ ∃x∈s,zlg (z.length+1) (zua cons z b x))/\∀(G:List AO) (B:Nat) (hB:G[B]?=some (.box b.cs)) (J:List AO),
   zee G (G++J) (.ptr B 0) (.sl (At.css (zas (za9 a z)))) (.int .i64 (zas (za9 a z)).length) (.int .i64 q.length) (zrm cons z)=some (.ret (.tup [.sl (zav vs),.bool is]),G):=by
  intro s
  induction s with
  |nil=>
   intro q h;rw[List.append_nil]at h;refine⟨[],false,by simp,fun G B hB J=>?_⟩
   unfold zrm;rw[zee,zab,h];simp only[↓reduceIte,go_sem,zgb]
  |cons x s ih=>
   intro q h;have hga:(zas (za9 a z))[q.length]?=some x:=by rw[h];simp
   have hql:q.length<(zas (za9 a z)).length:=by rw[h];simp
   obtain⟨vs,is,h1,h2⟩:=leq1_in cons hcons hcl z hz a b x (by rw[h];simp)
   obtain⟨vs',is',h4,h5⟩:=ih (q++[x]) (by rw[h];simp)
   simp only[zag]at h5;have key:∀(G:List AO) (B:Nat) (hB:G[B]?=some (.box b.cs)) (J:List AO),zee G (G++J) (.ptr B 0) (.sl (At.css (zas (za9 a z)))) (.int .i64 (zas (za9 a z)).length) (.int .i64 q.length) (zrm cons z)=if is=true then some (.ret (.tup [.sl (zav vs),.bool true]),G) else zee G (G++(J++[.dead])) (.ptr B 0) (.sl (At.css (zas (za9 a z)))) (.int .i64 (zas (za9 a z)).length) (.int .i64 (q.length+1)) (zrm cons z):=by
    intro G B hB J;have hBl:=(List.getElem?_eq_some_iff.1 hB).1;have h3:=h2 G (.ptr B 0) q.length (by omega) J (zas (za9 b z)) [] rfl 0
    have em:Cl.css (zli x [])=[]:=rfl;simp only[em,List.length_nil,Int.natCast_zero]at h3;have hBJ:(G++J)[B]?=some (.box b.cs):=by rw[List.getElem?_append_left hBl];exact hB
    have hBK:∀o,(G++(J++[o]))[B]?=some (.box b.cs):=fun o=>by rw[List.getElem?_append_left hBl];exact hB
    rw[<- h3];unfold zrm at hbt ⊢;rw[zee,zab];simp only[↓reduceIte,go_sem,show (q.length:Int)<((zas (za9 a z)).length:Int) by omega,hga,hbt,hBJ,hBK]
   cases is with
   |true=>exact⟨vs,true,by simp[h1.1 rfl],fun G B hB J=>by rw[key G B hB J];simp⟩
   |false=>
    refine⟨vs',is',?_,fun G B hB J=>by rw[key G B hB J];simpa using h5 G B hB (J++[.dead])⟩
    rw[h4];have hn:¬ zlg (z.length+1) (zua cons z b x):=fun k=>by have:=h1.2 k;cases this
    simp[hn]
 obtain⟨vs,is,h1,h2⟩:=loop (zas (za9 a z)) [] rfl;refine⟨vs,is,h1,fun G A B hA hB=>?_⟩
 have h2:=h2 G B hB [];simp only[List.append_nil,List.length_nil,Int.natCast_zero]at h2;unfold zrm at hat h2 ⊢;rw[z1m];simp only[↓reduceIte,go_sem,hA,hat];exact h2
end Go.Ab
end
section
set_option linter.unusedVariables false
set_option linter.unusedSimpArgs false
set_option maxRecDepth 100000
set_option maxHeartbeats 2000000
namespace Go.Ab
open Go.RowKit Go.Proofs
def znf(cons:List Co)(out:List Int)(is:Bool):List AO:=[.box [.sl (Co.css cons)],.box [.sl (zav out)],.box [.bool is]]
def zpm(tf:AV)(n:Nat):List (Nat×AV):=[(3,.ptr n 0),(5,.fp [tf]),(6,.ptr (n+1) 0),(7,.ptr (n+2) 0)]
def zzy(p:Nat)(bf:List Bool->Bool)(_:Unit)(z:List Bool):Option (Unit ⊕ List Bool):=if z.length=p then (if bf z=true then some (.inr z) else some (.inl ())) else none
theorem ygt(n:Nat)(cons:List Co)(out:List Int)(is:Bool):∀o∈znf cons out is,LtO n o:=by
 intro o ho;simp[znf]at ho;rcases ho with rfl|rfl|rfl
 ·intro a ha;simp at ha;subst ha;exact .sl (zrf n cons)
 ·intro a ha;simp at ha;subst ha;exact .sl (ztc n out)
 ·intro a ha;simp at ha;subst ha;exact .bool _
theorem yk4(cons:List Co)(k:FuncId)(c:AV)(cap:List AV)(p:Nat)(vf:List Bool->List Int)(bf:List Bool->Bool)(H:List AO)(hlt:Lt H.length (.fn (.func k) [] (c::cap)))
  (ht:∀z:List Bool,z.length=p->∀X,cfl T (.fn (.func k) [] (c::cap)) [.agg (zrm cons z)] (H++X)=some (.ret (.tup [.sl (zav (vf z)),.bool (bf z)]),H++X)) :
  Ys (.yd (H.length+3+1)) (H.length+3+2) encZ (fun _=>H++(znf cons [] false++[.dfr,.slp .ready 24 (zpm (.fn (.func k) [] (c::cap)) H.length) [13] zcz zcs])) (fun z=>H++(znf cons (vf z) true++[.dfr,.slp (.done .ret) 24 (zpm (.fn (.func k) [] (c::cap)) H.length) [13] zcz zcs])) (zzy p bf):=by
 refine z6k H 3 encZ (fun _=>znf cons [] false) (fun z=>znf cons (vf z) true) (fun _=>.ret) (zzy p bf) 24 (zpm (.fn (.func k) [] (c::cap)) H.length) [13] zcz zcs zt7 zt5 (fun _=>rfl) ?_ ?_ ?_ ?_
 ·rintro (q|e) <;> rfl
 ·rintro s (q|e) i o ho
  ·exact .inl ho
  ·exact .inr (ygt _ cons (vf e) true o (List.mem_of_getElem? ho))
 ·intro q hq
  simp[zpm]at hq;rcases hq with rfl|rfl|rfl|rfl
  ·exact .ptr (by omega)
  ·exact .fp (by intro a ha;simp at ha;subst ha;exact hlt.mono (by omega))
  ·exact .ptr (by omega)
  ·exact .ptr (by omega)
 ·rintro ⟨⟩ z X r hst
  refine⟨[],?_⟩;unfold zzy at hst
  split at hst
  ·rename_i hz
   have h2:=ht z hz (znf cons [] false++(.dfr :: .slp .busy 24 (zpm (.fn (.func k) [] (c::cap)) H.length) [13] zcz zcs::X));unfold zrm at h2;simp only[znf,zpm,zgb,List.cons_append,List.nil_append,zhh]at h2
   cases hb:bf z
   ·rw[hb]at hst h2
    cases hst;simp only[↓reduceIte,go_sem,znf,zpm,h2,zgb,encZ,z7e,isL]
   ·rw[hb]at hst h2
    cases hst;simp only[↓reduceIte,go_sem,znf,zpm,h2,zgb,encZ,z7e,isL]
  ·cases hst
theorem ybo(p:Nat)(bf:List Bool->Bool):∀(j n:Nat),∃r,zm8 (zzy p bf) (zoz p n j) ()=some r/\((∃z,r = .inr z/\z∈zoz p n j/\bf z=true)\/(r = .inl ()/\∀z∈zoz p n j,bf z=false)):=by
 intro j
 induction j with
 |zero=>intro n;exact⟨_,rfl,.inr ⟨rfl,by simp[zoz]⟩⟩
 |succ j ih=>
  intro n;obtain⟨r,h1,h2⟩:=ih (n+1);rw[zoz,zm8];have e:zzy p bf () (zde n p)=if bf (zde n p)=true then some (.inr (zde n p)) else some (.inl ()):=by
   unfold zzy;rw[if_pos (zhi n p)]
  rw[e]
  cases hb:bf (zde n p)
  ·refine⟨r,by simpa using h1,?_⟩
   rcases h2 with⟨z,rfl,h3,h4⟩|⟨rfl,h3⟩
   ·exact .inl ⟨z,rfl,by simp[h3],h4⟩
   ·exact .inr ⟨rfl,by intro z hz;rcases List.mem_cons.1 hz with rfl|hz;exact hb;exact h3 z hz⟩
  ·exact⟨.inr (zde n p),by simp,.inl ⟨_,rfl,by simp,hb⟩⟩
theorem zz5(p:Nat)(z:List Bool):∀(j n:Nat),z∈zoz p n j ↔ ∃k,n<=k/\k<n+j/\z=zde k p:=by
 intro j
 induction j with
 |zero=>intro n;simp only[zoz,List.not_mem_nil,false_iff];rintro ⟨k,h1,h2,_⟩;omega
 |succ j ih=>
  intro n;rw[zoz,List.mem_cons,ih];constructor
  ·rintro (rfl|⟨k,h1,h2,h3⟩)
   ·exact⟨n,by omega,by omega,rfl⟩
   ·exact⟨k,by omega,by omega,h3⟩
  ·rintro ⟨k,h1,h2,h3⟩
   by_cases h:k=n
   ·subst h;exact .inl h3
   ·exact .inr ⟨k,by omega,by omega,h3⟩
theorem ygs(cons:List Co)(k:FuncId)(c:AV)(cap:List AV)(p:Nat)(h5:p<=5)(vf:List Bool->List Int)(bf:List Bool->Bool)(H:List AO)(hlt:Lt H.length (.fn (.func k) [] (c::cap)))
  (ht:∀z:List Bool,z.length=p->∀X,cfl T (.fn (.func k) [] (c::cap)) [.agg (zrm cons z)] (H++X)=some (.ret (.tup [.sl (zav (vf z)),.bool (bf z)]),H++X)) :
  ∃vs is,(is=true ↔ ∃n<2 ^ p,bf (zde n p)=true)/\F zl7 [.sl (Co.css cons),.int .i64 p,.fn (.func k) [] (c::cap)] H=some (.ret (.tup [.sl (zav vs),.bool is]),H):=by
 obtain⟨r,h1,h2⟩:=ybo p bf (2 ^ p) 0;have hr:=ymb p h5 _ _ _ _ _ _ _ (yk4 cons k c cap p vf bf H hlt ht) () [] r h1;have hAl:=fun H=>AllP_ok p H
 rcases h2 with⟨z,rfl,h3,h4⟩|⟨rfl,h3⟩
 ·refine⟨vf z,true,?_,?_⟩
  ·obtain⟨n,_,h6,h7⟩:=(zz5 p z _ _).1 h3
   simp only[true_iff];exact⟨n,by omega,by rw[<- h7];exact h4⟩
  have he:=zuz (H:=H) (DR:=znf cons (vf z) true) (k:=3) rfl (st:=.done .ret) (nn:=24) (t:=zpm (.fn (.func k) [] (c::cap)) H.length) (ps:=[13]) (asg:=zcz) (body:=zcs);simp only[zry,znf,zpm,yoe,zhh,zgb,List.cons_append,List.nil_append,List.append_nil,Nat.add_assoc,Nat.reduceAdd]at hr he;rw[ztg];simp only[↓reduceIte,go_sem,hAl,yoe,hr,he,List.nodup_cons,List.nodup_nil,List.not_mem_nil,not_false_eq_true,and_self]
 ·refine⟨[],false,?_,?_⟩
  ·simp only[Bool.false_eq_true,false_iff]
   rintro ⟨n,hn,hb⟩
   have:=h3 (zde n p) ((zz5 p _ _ _).2 ⟨n,by omega,by omega,rfl⟩)
   rw[hb]at this;cases this
  have he:=zuz (H:=H) (DR:=znf cons [] false) (k:=3) rfl (st:=.ready) (nn:=24) (t:=zpm (.fn (.func k) [] (c::cap)) H.length) (ps:=[13]) (asg:=zcz) (body:=zcs);simp only[zfu,znf,zpm,yoe,zhh,zgb,List.cons_append,List.nil_append,List.append_nil,Nat.add_assoc,Nat.reduceAdd]at hr he;rw[ztg];simp only[↓reduceIte,go_sem,hAl,yoe,hr,he,zgb,List.nodup_cons,List.nodup_nil,List.not_mem_nil,not_false_eq_true,and_self]
open Classical in
theorem LeqP_ok(cons:List Co)(hcons:∀c∈cons,c.ok)(p:Nat)(a b:Lv)(ha:a.ok)(hb:b.ok)(hC:zed cons p=true)(hA:zaz a p 0=true)(hB:zaz b p 0=true)(H:List AO):
  ∃vs,F znz [.sl (Co.css cons),.int .i64 p,.agg a.cs,.agg b.cs] H=some (.ret (.tup [.bool (z29 cons p a b),.sl (zav vs),.int .i64 0]),H):=by
 have hc:=hC;simp only[zed,Bool.and_eq_true,decide_eq_true_eq]at hc;have h5:p<=5:=by omega
 have hr:=fun H=>zwa cons (by omega) hcons p H
 have hra:=fun H=>zhj a ha p 0 H
 have hrb:=fun H=>zhj b hb p 0 H
 have hall:∀z:List Bool,∃vb:List Int×Bool,z.length=p->(vb.2=true ↔ zni cons a b z)/\∀(G:List AO) (A B:Nat) (hA:G[A]?=some (.box a.cs)) (hB:G[B]?=some (.box b.cs)),F zhw [.agg (zrm cons z),.ptr A 0,.ptr B 0] G=some (.ret (.tup [.sl (zav vb.1),.bool vb.2]),G):=by
  intro z;by_cases hz:z.length=p
  ·obtain⟨vs,is,h1,h2⟩:=leq1_ok cons hcons hc.1.2 z (by omega) a b ha hb
   exact⟨(vs,is),fun _=>⟨h1,h2⟩⟩
  ·exact⟨([],false),fun h=>absurd h hz⟩
 let vb:List Bool->List Int×Bool:=fun z=>Classical.choose (hall z)
 have hvb:∀z,_:=fun z=>Classical.choose_spec (hall z)
 obtain⟨vs,is,h1,h2⟩:=ygs cons zhw (.ptr H.length 0) [.ptr (H.length+1) 0] p h5 (fun z=>(vb z).1) (fun z=>(vb z).2) (H++[.box a.cs,.box b.cs]) (.fn (by simp) (by intro x hx;simp at hx;rcases hx with rfl|rfl <;> exact .ptr (by simp))) (fun z hz X=>by
  have:=(hvb z hz).2 (H++[.box a.cs,.box b.cs]++X) H.length (H.length+1) (by simp) (by simp)
  simp only[zhh,List.cons_append,List.nil_append];exact this)
 refine⟨vs,?_⟩;have hl:z29 cons p a b = !is:=by
  rcases his:is with _|_
  ·show _=true
   refine zq6.2 fun n hn hbr=>?_
   have:=h1.2 ⟨n,hn,(hvb _ (zhi n p)).1.2 hbr⟩;rw[his]at this;cases this
  ·show _=false
   obtain⟨n,hn,hb2⟩:=h1.1 his;rcases hq:z29 cons p a b with _|_
   ·rfl
   ·exact absurd ((hvb _ (zhi n p)).1.1 hb2) (zq6.1 hq n hn)
 rw[zxp,hl];simp only[↓reduceIte,go_sem,hr,hra,hrb,hC,hA,hB,h2]
theorem LeqP_er(cons:List Co)(hcons:∀c∈cons,c.ok)(hl:cons.length<=140737488355328)(p:Int)(a b:Lv)(ha:a.ok)(hb:b.ok)(hC:(zed cons p && zaz a p 0 && zaz b p 0)=false)(H:List AO):
  F znz [.sl (Co.css cons),.int .i64 p,.agg a.cs,.agg b.cs] H=some (.ret (.tup [.bool false,.sl [],.int .i64 1]),H):=by
 have hr:=fun H=>zwa cons hl hcons p H
 have hra:=fun H=>zhj a ha p 0 H
 have hrb:=fun H=>zhj b hb p 0 H
 rw[zxp]
 cases h1:zed cons p
 ·simp only[↓reduceIte,go_sem,hr,hra,hrb,h1]
 cases h2:zaz a p 0
 ·simp only[↓reduceIte,go_sem,hr,hra,hrb,h1,h2]
 cases h3:zaz b p 0
 ·simp only[↓reduceIte,go_sem,hr,hra,hrb,h1,h2,h3]
 ·simp[h1,h2,h3]at hC
end Go.Ab
end
section
set_option linter.unusedVariables false
set_option linter.unusedSimpArgs false
set_option maxRecDepth 100000
set_option maxHeartbeats 2000000
namespace Go.Ab
open Go.RowKit Go.Proofs
theorem zwz(k n:Int)(ks:List Lv):(Lv.mk k n ks).ok=(ks.length<=140737488355328/\∀x∈ks,x.ok):=propext ⟨fun h=>⟨h.len,h.all⟩,fun h=>.mk h.1 h.2⟩
theorem zkt(k n:Int)(ls:List Lv)(ks:List Te):(Te.mk k n ls ks).ok=(ks.length<=140737488355328/\ls.length<=140737488355328/\(∀x∈ls,x.ok)/\∀x∈ks,x.ok):=propext ⟨fun h=>⟨h.len,h.len2,h.all2,h.all⟩,fun h=>.mk h.1 h.2.1 h.2.2.1 h.2.2.2⟩
theorem zuw(x y:Te):AV.sl [x.cs,y.cs]=AV.sl (Te.css [x,y]):=rfl
theorem zuv(x y z:Te):AV.sl [x.cs,y.cs,z.cs]=AV.sl (Te.css [x,y,z]):=rfl
theorem z8v{t:Te}(h:t.ok):(zwj t).1.ok:=by
 unfold zwj
 split
 ·exact h
 ·simp[zeroT,zkt]
theorem yaq{t:Te}(h:t.ok)(f b:Int):(zhk t f b).1.ok:=by
 unfold zhk
 split
 ·simp[zeroT,zkt]
 ·exact z8v (z04 b t h f)
theorem ymn{t u:Te}(h:t.ok)(hu:u.ok):(zm7 t u).1.ok:=by
 unfold zm7
 split
 ·simp[zeroT,zkt]
 ·exact z8v (z66 u hu t h 0)
mutual
theorem lvEq_refl:∀a:Lv,lvEq a a=true
 |.mk k n ks=>by rw[lvEq,lvsEq_refl ks];simp
theorem lvsEq_refl:∀a:List Lv,lvsEq a a=true
 |[]=>rfl
 |x::r=>by rw[lvsEq,lvEq_refl x,lvsEq_refl r];rfl
end
theorem zes(n:Int)(H:List AO):F zms [.int .i64 n] H=some (.ret (.agg (Te.mk 1 n [] []).cs),H):=by
 rw[z78];simp only[↓reduceIte,go_sem,Te.cs,Lv.css,Te.css]
theorem zcl(l:Lv)(H:List AO):F zf4 [.agg l.cs] H=some (.ret (.agg (Te.mk 2 0 [l] []).cs),H):=by
 rw[z5g];simp only[↓reduceIte,go_sem,Te.cs,Lv.css,Te.css]
theorem zef(k:Int)(ks:List Te)(H:List AO):F zf5 [.int .i64 k,.sl (Te.css ks)] H=some (.ret (.agg (Te.mk k 0 [] ks).cs),H):=by
 rw[z5h];simp only[↓reduceIte,go_sem,Te.cs,Lv.css]
end Go.Ab
end
section
set_option linter.unusedVariables false
set_option linter.unusedSimpArgs false
set_option maxRecDepth 100000
set_option maxHeartbeats 2000000
namespace Go.Ab
open Go.RowKit Go.Proofs
def zyk(env:List De)(n:Int)(ls:List Lv):Option De:=match env[n.toNat]? with
 |some d=>if d.has=true/\(ls.length:Int)=d.p then some d else none
 |none=>none
inductive Hd (env:List De):Nat->Te->Te->Nat->Prop
 |stuck {n:Nat} {k N:Int} {ls:List Lv} {ks:List Te}:k≠4->k≠7->(k=3->0<=N/\zyk env N ls=none)->Hd env n (.mk k N ls ks) (.mk k N ls ks) n
 |lett {n:Nat} {N:Int} {ls:List Lv} {s v b r t':Te} {n':Nat}:zm7 b v=(r,0)->Hd env n r t' n' -> Hd env (n+1) (.mk 7 N ls [s,v,b]) t' n'
 |const {n:Nat} {N:Int} {ls:List Lv} {ks:List Te} {d:De} {r t':Te} {n':Nat}:0<=N->zyk env N ls=some d->zqy d.value ls []=(r,0)->Hd env n r t' n' -> Hd env (n+1) (.mk 3 N ls ks) t' n'
 |app {n:Nat} {N:Int} {ls:List Lv} {f a f':Te} {n':Nat}:Hd env n f f' n' -> f'.kind≠5->Hd env n (.mk 4 N ls [f,a]) (.mk 4 0 [] [f',a]) n'
 |beta {n:Nat} {N:Int} {ls:List Lv} {f a:Te} {N2:Int} {ls2:List Lv} {s b:Te} {m:Nat} {r t':Te} {n':Nat}:Hd env n f (.mk 5 N2 ls2 [s,b]) (m+1)->zm7 b a=(r,0)->Hd env m r t' n' -> Hd env n (.mk 4 N ls [f,a]) t' n'
inductive He (env:List De):Nat->Te->Nat->Int->Prop
 |let0 {N:Int} {ls:List Lv} {s v b:Te}:He env 0 (.mk 7 N ls [s,v,b]) 0 40
 |let2 {n:Nat} {N:Int} {ls:List Lv} {s v b r:Te} {e:Int}:zm7 b v=(r,e)->e≠0->He env (n+1) (.mk 7 N ls [s,v,b]) n e
 |letr {n:Nat} {N:Int} {ls:List Lv} {s v b r:Te} {n':Nat} {e:Int}:zm7 b v=(r,0)->He env n r n' e->He env (n+1) (.mk 7 N ls [s,v,b]) n' e
 |const0 {N:Int} {ls:List Lv} {ks:List Te} {d:De}:0<=N->zyk env N ls=some d->He env 0 (.mk 3 N ls ks) 0 40
 |const2 {n:Nat} {N:Int} {ls:List Lv} {ks:List Te} {d:De} {r:Te} {e:Int}:0<=N->zyk env N ls=some d->zqy d.value ls []=(r,e)->e≠0->He env (n+1) (.mk 3 N ls ks) n e
 |constr {n:Nat} {N:Int} {ls:List Lv} {ks:List Te} {d:De} {r:Te} {n':Nat} {e:Int}:0<=N->zyk env N ls=some d->zqy d.value ls []=(r,0)->He env n r n' e->He env (n+1) (.mk 3 N ls ks) n' e
 |appf {n:Nat} {N:Int} {ls:List Lv} {f a:Te} {n':Nat} {e:Int}:He env n f n' e->He env n (.mk 4 N ls [f,a]) n' e
 |beta0 {n:Nat} {N:Int} {ls:List Lv} {f a:Te} {N2:Int} {ls2:List Lv} {s b:Te}:Hd env n f (.mk 5 N2 ls2 [s,b]) 0->He env n (.mk 4 N ls [f,a]) 0 40
 |beta2 {n:Nat} {N:Int} {ls:List Lv} {f a:Te} {N2:Int} {ls2:List Lv} {s b:Te} {m:Nat} {r:Te} {e:Int}:Hd env n f (.mk 5 N2 ls2 [s,b]) (m+1)->zm7 b a=(r,e)->e≠0->He env n (.mk 4 N ls [f,a]) m e
 |betar {n:Nat} {N:Int} {ls:List Lv} {f a:Te} {N2:Int} {ls2:List Lv} {s b:Te} {m:Nat} {r:Te} {n':Nat} {e:Int}:Hd env n f (.mk 5 N2 ls2 [s,b]) (m+1)->zm7 b a=(r,0)->He env m r n' e->He env n (.mk 4 N ls [f,a]) n' e
theorem He.ne{env:List De}{n:Nat}{t:Te}{n':Nat}{e:Int}(h:He env n t n' e):e≠0:=by
 induction h <;> first|decide|assumption
theorem Hd.le{env:List De}{n:Nat}{t t':Te}{n':Nat}(h:Hd env n t t' n'):n' <= n:=by
 induction h <;> omega
theorem zo3{env:List De}{n:Int}{ls:List Lv}{d:De}(h:zyk env n ls=some d):env[n.toNat]?=some d/\d.has=true/\(ls.length:Int)=d.p:=by
 unfold zyk at h
 cases hg:env[n.toNat]? with
 |none=>rw[hg]at h;cases h
 |some x=>
  rw[hg]at h;dsimp only at h
  split at h
  ·cases h;rename_i h;exact⟨rfl,h⟩
  ·cases h
theorem zfw{b v r:Te}{e:Int}(h:zm7 b v=(r,e))(hb:b.ok)(hv:v.ok):r.ok:=by
 have:=ymn hb hv;rw[h]at this;exact this
theorem zs5:zt4 []:=by intro x hx;cases hx
theorem zre{env:List De}(he:zvi env){n:Int}{ls:List Lv}{ks:List Te}{d:De}{r:Te}{e:Int}(ht:(Te.mk 3 n ls ks).ok)(hu:zyk env n ls=some d)(hs:zqy d.value ls []=(r,e)):r.ok:=by
 have hd:=he.2 d (List.mem_of_getElem? (zo3 hu).1);have:=ymi hd.2.2.2 (ps:=ls) (ms:=[]) ht.all2 zs5;rw[hs]at this;exact this
theorem Hd.ok{env:List De}(he:zvi env){n:Nat}{t t':Te}{n':Nat}(h:Hd env n t t' n'):t.ok->t'.ok:=by
 induction h with
 |stuck=>exact id
 |lett ho _ ih=>
  intro ht;exact ih (zfw ho (ht.all _ (by simp)) (ht.all _ (by simp)))
 |const _ hu hs _ ih=>exact fun ht=>ih (zre he ht hu hs)
 |app _ _ ih=>
  intro ht;have hf:=ih (ht.all _ (by simp))
  have ha:=ht.all _ (show _∈[_,_] from List.mem_cons_of_mem _ (List.mem_singleton.2 rfl))
  exact .mk (by simp) (by simp) (by intro x hx;cases hx) (by intro x hx;simp at hx;rcases hx with rfl|rfl <;> assumption)
 |beta _ ho _ ih1 ih2=>
  intro ht;have hf:=ih1 (ht.all _ (by simp))
  exact ih2 (zfw ho (hf.all _ (by simp)) (ht.all _ (by simp)))
theorem decs_lt(n:Nat)(d:De):∀a∈d.cs,Lt n a:=by
 rcases d with⟨p,cons,t,h,v⟩;intro a ha;simp only[De.cs,De.p,De.cons,De.type,De.has,De.value,List.mem_append,List.mem_cons,List.not_mem_nil,or_false]at ha;rcases ha with (((rfl|rfl)|ha)|rfl)|ha
 ·exact .int _ _
 ·refine .sl fun x hx=>?_
  obtain⟨l,hl,hx⟩:=List.mem_flatten.1 hx;obtain⟨c,_,rfl⟩:=List.mem_map.1 hl;rcases List.mem_append.1 hx with hx|hx
  ·exact yb3 n c.a x hx
  ·exact yb3 n c.b x hx
 ·exact zux n t a ha
 ·exact .bool _
 ·exact zux n v a ha
theorem zv9(n:Nat)(env:List De):∀a∈(De.css env).flatten,Lt n a:=by
 intro a ha;obtain⟨l,hl,hx⟩:=List.mem_flatten.1 ha;obtain⟨d,_,rfl⟩:=List.mem_map.1 hl;exact decs_lt n d a hx
@[go_sem] theorem lt_decss(n:Nat)(env:List De):(∀a∈(De.css env).flatten,Lt n a)=True:=eq_true (zv9 n env)
theorem znn(n:Nat)(env:List De)(f e:Int)(R:List AV)(hR:∀a∈R,Lt n a):LtO n (.box (.sl (De.css env) :: .int .i64 f :: .int .i64 e::R)):=by
 intro a ha;simp at ha;rcases ha with rfl|rfl|rfl|ha
 ·exact .sl (zv9 n env)
 ·exact .int _ _
 ·exact .int _ _
 ·exact hR a ha
theorem zqb(n:Nat)(env:List De)(f e:Int):LtO n (.box [.sl (De.css env),.int .i64 f,.int .i64 e]):=znn n env f e [] (fun a ha=>by cases ha)
theorem zet(env:List De)(n:Int)(hn:0<=n/\n<=1000000)(A X:List AO)(R:List AV)(hR:∀a∈R,Lt (A.length+(X.length+1)) a):F zbd [.ptr A.length 0] (A++(.box (.sl (De.css env) :: .int .i64 n :: .int .i64 0::R)::X)) =
  if n=0 then some (.ret (.bool false),A++(.box (.sl (De.css env) :: .int .i64 0 :: .int .i64 40::R)::X)) else some (.ret (.bool true),A++(.box (.sl (De.css env) :: .int .i64 (n - 1) :: .int .i64 0::R)::X)):=by
 have hf:=fun (o o':AO) r J (ho:LtO (A.length+(X.length+1)) o')=>zrc (A:=A) (X:=X) (J:=J) (o:=o) (o':=o') (r:=r) ho
 have hf0:=fun (o o':AO) r (ho:LtO (A.length+(X.length+1)) o')=>zf6 (A:=A) (X:=X) (o:=o) (o':=o') (r:=r) ho
 have mB:=fun f e=>znn (A.length+(X.length+1)) env f e R hR
 rw[zrt];by_cases h:n=0
 ·subst h
  simp only[↓reduceIte,go_sem,hf,hf0,mB,show (0:Int)<1 by decide]
 ·simp only[↓reduceIte,go_sem,hf,hf0,mB,h,show ¬ n<1 by omega,zam (n:=n - 1) (by omega) (by omega)]
theorem z6h(env:List De)(n e:Int)(A X:List AO)(R:List AV)(hR:∀a∈R,Lt (A.length+(X.length+1)) a):F zb9 [.ptr A.length 0,.int .i64 e] (A++(.box (.sl (De.css env) :: .int .i64 n :: .int .i64 0::R)::X)) =
  some (.ret (.tup []),A++(.box (.sl (De.css env) :: .int .i64 n :: .int .i64 e::R)::X)):=by
 have hf0:=fun (o o':AO) r (ho:LtO (A.length+(X.length+1)) o')=>zf6 (A:=A) (X:=X) (o:=o) (o':=o') (r:=r) ho
 have mB:=fun f e=>znn (A.length+(X.length+1)) env f e R hR
 rw[zrs];simp only[↓reduceIte,go_sem,hf0,mB]
theorem ze4(env:List De)(t:Te)(n e:Int)(A X:List AO)(R:List AV)(hR:∀a∈R,Lt (A.length+(X.length+1)) a):F zb2 [.ptr A.length 0,.agg t.cs,.int .i64 e] (A++(.box (.sl (De.css env) :: .int .i64 n :: .int .i64 0::R)::X)) =
  some (.ret (.agg t.cs),A++(.box (.sl (De.css env) :: .int .i64 n :: .int .i64 e::R)::X)):=by
 have hf0:=fun (o o':AO) r (ho:LtO (A.length+(X.length+1)) o')=>zf6 (A:=A) (X:=X) (o:=o) (o':=o') (r:=r) ho
 have mB:=fun f e=>znn (A.length+(X.length+1)) env f e R hR
 rw[zsi];by_cases h:e=0
 ·subst h
  simp only[↓reduceIte,go_sem,hf0,mB]
 ·simp only[↓reduceIte,go_sem,hf0,mB,h,z6h env n e A X R hR]
theorem ze7(env:List De)(n e:Int)(k N:Int)(ls:List Lv)(ks:List Te)(hN:k=3->0<=N)(A X:List AO)(R:List AV)(hR:∀a∈R,Lt (A.length+(X.length+1)) a):F zdl [.ptr A.length 0,.agg [.int .i64 k,.int .i64 N,.sl (Lv.css ls),.sl (Te.css ks)]] (A++(.box (.sl (De.css env) :: .int .i64 n :: .int .i64 e::R)::X)) =
  some (.ret (.bool (decide (k=3) && (zyk env N ls).isSome)),A++(.box (.sl (De.css env) :: .int .i64 n :: .int .i64 e::R)::X)):=by
 have hf0:=fun (o o':AO) r (ho:LtO (A.length+(X.length+1)) o')=>zf6 (A:=A) (X:=X) (o:=o) (o':=o') (r:=r) ho
 have mB:=fun f e=>znn (A.length+(X.length+1)) env f e R hR
 rw[zph];by_cases h:k=3
 ·subst h
  have hN:=hN rfl;obtain⟨j,rfl⟩:=Int.eq_ofNat_of_zero_le hN;unfold zyk;simp only[Int.toNat_natCast]
  cases hg:env[j]? with
  |none=>
   have hl:=List.getElem?_eq_none_iff.1 hg;simp only[↓reduceIte,go_sem,hf0,mB,show ¬ (j:Int)<(env.length:Int) by omega,Option.isSome_none]
  |some d=>
   have hl:j<env.length:=by
    rcases Nat.lt_or_ge j env.length with h|h
    ·exact h
    ·rw[List.getElem?_eq_none h]at hg;cases hg
   have hlI:(j:Int)<(env.length:Int):=by omega
   cases hh:d.has
   ·simp only[↓reduceIte,go_sem,hf0,mB,hl,hlI,hg,hh,Option.isSome_none,Option.isSome_some,Bool.false_eq_true,false_and]
   ·by_cases hp:(ls.length:Int)=d.p
    ·simp only[↓reduceIte,go_sem,hf0,mB,hl,hlI,hg,hh,hp,Option.isSome_none,Option.isSome_some]
    ·simp only[↓reduceIte,go_sem,hf0,mB,hl,hlI,hg,hh,hp,Option.isSome_none,Option.isSome_some]
 ·simp only[↓reduceIte,go_sem,hf0,mB,h]
theorem zmv(env:List De)(x:Te)(n:Int)(e:Int)(A X:List AO)(R:List AV)(hR:∀a∈R,Lt (A.length+(X.length+1)) a)(he:e≠0)(n0 e0:Int)(v4:List AV)(hv:v4=[.int .i64 0,.int .i64 0,.sl [],.sl []]):
  zae (A++(.box (.sl (De.css env) :: .int .i64 n0 :: .int .i64 e0::R)::X)) (A++(.box (.sl (De.css env) :: .int .i64 n :: .int .i64 e::R)::X)) (.ptr A.length 0) x.cs v4 =
  some (.ret (.agg x.cs),A++(.box (.sl (De.css env) :: .int .i64 n :: .int .i64 e::R)::X)):=by
 have hf0:=fun (o o':AO) r (ho:LtO (A.length+(X.length+1)) o')=>zf6 (A:=A) (X:=X) (o:=o) (o':=o') (r:=r) ho
 subst hv;have mB:=fun f e=>znn (A.length+(X.length+1)) env f e R hR
 rw[zae,zab];simp only[↓reduceIte,go_sem,hf0,mB,he]
theorem zls(env:List De)(t:Te)(n e:Int)(A X:List AO)(R:List AV):F za1 [.ptr A.length 0,.agg t.cs] (A++(.box (.sl (De.css env) :: .int .i64 n :: .int .i64 e::R)::X)) =
  zae (A++(.box (.sl (De.css env) :: .int .i64 n :: .int .i64 e::R)::X)) (A++(.box (.sl (De.css env) :: .int .i64 n :: .int .i64 e::R)::X)) (.ptr A.length 0) t.cs [.int .i64 0,.int .i64 0,.sl [],.sl []]:=by
 rw[zrr];simp only[↓reduceIte,go_sem]
@[go_sem] theorem toNat_two:Int.toNat 2=2:=rfl
theorem ztd(env:List De)(hE:zvi env){n:Nat}{t t':Te}{n':Nat}(h:Hd env n t t' n'):t.ok->n<=1000000->∀(A X:List AO) (R:List AV) (hR:∀a∈R,Lt (A.length+(X.length+1)) a) (n0 e0:Int),
  zae (A++(.box (.sl (De.css env) :: .int .i64 n0 :: .int .i64 e0::R)::X)) (A++(.box (.sl (De.css env) :: .int .i64 n :: .int .i64 0::R)::X)) (.ptr A.length 0) t.cs [.int .i64 0,.int .i64 0,.sl [],.sl []] =
  some (.ret (.agg t'.cs),A++(.box (.sl (De.css env) :: .int .i64 n' :: .int .i64 0::R)::X)):=by
 have hf0:=fun (A X:List AO) (o o':AO) r (ho:LtO (A.length+(X.length+1)) o')=>zf6 (A:=A) (X:=X) (o:=o) (o':=o') (r:=r) ho
 induction h with
 |@stuck n k N ls ks h4 h7 h3=>
  intro ht hn A X R hR n0 e0;have mB:=fun f e=>znn (A.length+(X.length+1)) env f e R hR
  have hP:=fun t n e=>ze4 env t n e A X R hR
  have hu:=ze7 env n 0 k N ls ks (fun h=>(h3 h).1) A X R hR
  have hfl:(decide (k=3) && (zyk env N ls).isSome)=false:=by
   by_cases h:k=3
   ·rw[(h3 h).2];simp
   ·simp[h]
  rw[hfl]at hu;rw[zae,zab];simp only[↓reduceIte,go_sem,Te.cs,h7,h4,hu,hf0,mB]
 |@lett n N ls s v b r t' n' ho hd ih=>
  intro ht hn A X R hR n0 e0;have mB:=fun f e=>znn (A.length+(X.length+1)) env f e R hR
  have hP:=fun t n e=>ze4 env t n e A X R hR
  have hb:=ht.all b (by simp)
  have hv:=ht.all v (by simp)
  have:=ih (zfw ho hb hv) (by omega) A X R hR n0 e0
  have hO:=fun H=>zo2 b v hb hv H
  simp only[ho,zj7]at hO;have hB:=zet env ((n+1:Nat):Int) (by omega) A X R hR
  rw[if_neg (by omega),show (((n+1:Nat):Int) - 1)=n by omega]at hB
  rw[zae,zab];simp only[↓reduceIte,go_sem,Te.cs,Te.css,hB,hO,hP,this]
 |@const n N ls ks d r t' n' hN hu hs hd ih=>
  intro ht hn A X R hR n0 e0;have mB:=fun f e=>znn (A.length+(X.length+1)) env f e R hR
  have hP:=fun t n e=>ze4 env t n e A X R hR
  have hm:=zo3 hu;have hU:=ze7 env ((n+1:Nat):Int) 0 3 N ls ks (fun _=>hN) A X R hR
  rw[hu]at hU;have:=ih (zre hE ht hu hs) (by omega) A X R hR n0 e0
  have hS:=fun H=>zye d.value ls [] (hE.2 d (List.mem_of_getElem? hm.1)).2.2.2 ht.all2 zs5 ht.len2 (by simp) H
  simp only[hs,zj7,Lv.css]at hS;have hB:=zet env ((n+1:Nat):Int) (by omega) A X R hR
  rw[if_neg (by omega),show (((n+1:Nat):Int) - 1)=n by omega]at hB
  rw[zae,zab];simp only[↓reduceIte,go_sem,Te.cs,Te.css,hU,hB,hN,hm.1,hS,hP,this,decide_true,Bool.true_and,Option.isSome_some]
 |@app n N ls f a f' n' hd hk ih=>
  intro ht hn A X R hR n0 e0;have mB:=fun f e=>znn (A.length+(X.length+1)) env f e R hR
  have hP:=fun t n e=>ze4 env t n e A X R hR
  have hf:=ht.all f (by simp)
  have:=ih hf hn A X R hR n 0;rw[<- zls]at this;have hU:=ze7 env n 0 4 N ls [f,a] (fun h=>absurd h (by decide)) A X R hR
  simp only[Te.css,show decide ((4:Int)=3)=false from rfl,Bool.false_and]at hU
  cases f' with
  |mk k2 n2 ls2 ks2=>
  have hk2:¬ k2=5:=hk;simp only[Te.cs]at this;rw[zae,zab];simp only[↓reduceIte,go_sem,Te.cs,Te.css,Lv.css,hU,this,hk2,hf0,mB]
 |@beta n N ls f a N2 ls2 s b m r t' n' hd ho hd2 ih1 ih2=>
  intro ht hn A X R hR n0 e0;have mB:=fun f e=>znn (A.length+(X.length+1)) env f e R hR
  have hP:=fun t n e=>ze4 env t n e A X R hR
  have hf:=ht.all f (by simp)
  have ha:=ht.all a (by simp)
  have hl:=hd.ok hE hf;have hle:=hd.le;have hb:=hl.all b (by simp)
  have:=ih1 hf hn A X R hR n 0;rw[<- zls]at this;have h2:=ih2 (zfw ho hb ha) (by omega) A X R hR n0 e0
  have hU:=ze7 env n 0 4 N ls [f,a] (fun h=>absurd h (by decide)) A X R hR
  simp only[Te.css,show decide ((4:Int)=3)=false from rfl,Bool.false_and]at hU
  have hO:=fun H=>zo2 b a hb ha H
  simp only[ho,zj7]at hO;have hB:=zet env ((m+1:Nat):Int) (by omega) A X R hR
  rw[if_neg (by omega),show (((m+1:Nat):Int) - 1)=m by omega]at hB
  simp only[Te.cs,Te.css]at this;rw[zae,zab];simp only[↓reduceIte,go_sem,Te.cs,Te.css,hU,this,hB,hO,hP,h2]
theorem ygd(env:List De)(hE:zvi env){n:Nat}{t:Te}{n':Nat}{e:Int}(h:He env n t n' e):t.ok->n<=1000000->∀(A X:List AO) (R:List AV) (hR:∀a∈R,Lt (A.length+(X.length+1)) a) (n0 e0:Int),∃x:Te,x.ok /\
  zae (A++(.box (.sl (De.css env) :: .int .i64 n0 :: .int .i64 e0::R)::X)) (A++(.box (.sl (De.css env) :: .int .i64 n :: .int .i64 0::R)::X)) (.ptr A.length 0) t.cs [.int .i64 0,.int .i64 0,.sl [],.sl []] =
  some (.ret (.agg x.cs),A++(.box (.sl (De.css env) :: .int .i64 n' :: .int .i64 e::R)::X)):=by
 have hf0:=fun (A X:List AO) (o o':AO) r (ho:LtO (A.length+(X.length+1)) o')=>zf6 (A:=A) (X:=X) (o:=o) (o':=o') (r:=r) ho
 induction h with
 |@let0 N ls s v b=>
  intro ht hn A X R hR n0 e0;have mB:=fun f e=>znn (A.length+(X.length+1)) env f e R hR
  have hP:=fun t n e=>ze4 env t n e A X R hR
  have hB:=zet env 0 (by omega) A X R hR
  rw[if_pos rfl]at hB;have hi:=fun x=>zmv env x 0 40 A X R hR (by decide) n0 e0 _ rfl
  refine⟨_,ht,?_⟩;rw[zae,zab];have:=hi (.mk 7 N ls [s,v,b]);simp only[Te.cs,Te.css]at this;simp only[↓reduceIte,go_sem,Te.cs,Te.css,hB,this]
 |@let2 n N ls s v b r e ho he=>
  intro ht hn A X R hR n0 e0;have mB:=fun f e=>znn (A.length+(X.length+1)) env f e R hR
  have hP:=fun t n e=>ze4 env t n e A X R hR
  have hb:=ht.all b (by simp)
  have hv:=ht.all v (by simp)
  have hO:=fun H=>zo2 b v hb hv H
  simp only[ho,zj7]at hO;have hB:=zet env ((n+1:Nat):Int) (by omega) A X R hR
  rw[if_neg (by omega),show (((n+1:Nat):Int) - 1)=n by omega]at hB
  have hi:=zmv env r n e A X R hR he n0 e0 _ rfl;refine⟨r,zfw ho hb hv,?_⟩;rw[zae,zab];simp only[↓reduceIte,go_sem,Te.cs,Te.css,hB,hO,hP,hi]
 |@letr n N ls s v b r n' e ho hd ih=>
  intro ht hn A X R hR n0 e0;have mB:=fun f e=>znn (A.length+(X.length+1)) env f e R hR
  have hP:=fun t n e=>ze4 env t n e A X R hR
  have hb:=ht.all b (by simp)
  have hv:=ht.all v (by simp)
  obtain⟨x,hx,this⟩:=ih (zfw ho hb hv) (by omega) A X R hR n0 e0
  have hO:=fun H=>zo2 b v hb hv H
  simp only[ho,zj7]at hO;have hB:=zet env ((n+1:Nat):Int) (by omega) A X R hR
  rw[if_neg (by omega),show (((n+1:Nat):Int) - 1)=n by omega]at hB
  refine⟨x,hx,?_⟩;rw[zae,zab];simp only[↓reduceIte,go_sem,Te.cs,Te.css,hB,hO,hP,this]
 |@const0 N ls ks d hN hu=>
  intro ht hn A X R hR n0 e0;have mB:=fun f e=>znn (A.length+(X.length+1)) env f e R hR
  have hP:=fun t n e=>ze4 env t n e A X R hR
  have hm:=zo3 hu;have hU:=ze7 env 0 0 3 N ls ks (fun _=>hN) A X R hR
  rw[hu]at hU;have hB:=zet env 0 (by omega) A X R hR
  rw[if_pos rfl]at hB;have hi:=zmv env (.mk 3 N ls ks) 0 40 A X R hR (by decide) n0 e0 _ rfl
  simp only[Te.cs]at hi;refine⟨_,ht,?_⟩;rw[zae,zab];simp only[↓reduceIte,go_sem,Te.cs,Te.css,hU,hB,hN,hm.1,hi,decide_true,Bool.true_and,Option.isSome_some]
 |@const2 n N ls ks d r e hN hu hs he=>
  intro ht hn A X R hR n0 e0;have mB:=fun f e=>znn (A.length+(X.length+1)) env f e R hR
  have hP:=fun t n e=>ze4 env t n e A X R hR
  have hm:=zo3 hu;have hU:=ze7 env ((n+1:Nat):Int) 0 3 N ls ks (fun _=>hN) A X R hR
  rw[hu]at hU;have hS:=fun H=>zye d.value ls [] (hE.2 d (List.mem_of_getElem? hm.1)).2.2.2 ht.all2 zs5 ht.len2 (by simp) H
  simp only[hs,zj7,Lv.css]at hS;have hB:=zet env ((n+1:Nat):Int) (by omega) A X R hR
  rw[if_neg (by omega),show (((n+1:Nat):Int) - 1)=n by omega]at hB
  have hi:=zmv env r n e A X R hR he n0 e0 _ rfl;refine⟨r,zre hE ht hu hs,?_⟩;rw[zae,zab];simp only[↓reduceIte,go_sem,Te.cs,Te.css,hU,hB,hN,hm.1,hS,hP,hi,decide_true,Bool.true_and,Option.isSome_some]
 |@constr n N ls ks d r n' e hN hu hs hd ih=>
  intro ht hn A X R hR n0 e0;have mB:=fun f e=>znn (A.length+(X.length+1)) env f e R hR
  have hP:=fun t n e=>ze4 env t n e A X R hR
  have hm:=zo3 hu;have hU:=ze7 env ((n+1:Nat):Int) 0 3 N ls ks (fun _=>hN) A X R hR
  rw[hu]at hU;obtain⟨x,hx,this⟩:=ih (zre hE ht hu hs) (by omega) A X R hR n0 e0
  have hS:=fun H=>zye d.value ls [] (hE.2 d (List.mem_of_getElem? hm.1)).2.2.2 ht.all2 zs5 ht.len2 (by simp) H
  simp only[hs,zj7,Lv.css]at hS;have hB:=zet env ((n+1:Nat):Int) (by omega) A X R hR
  rw[if_neg (by omega),show (((n+1:Nat):Int) - 1)=n by omega]at hB
  refine⟨x,hx,?_⟩;rw[zae,zab];simp only[↓reduceIte,go_sem,Te.cs,Te.css,hU,hB,hN,hm.1,hS,hP,this,decide_true,Bool.true_and,Option.isSome_some]
 |@appf n N ls f a n' e hd ih=>
  intro ht hn A X R hR n0 e0;have mB:=fun f e=>znn (A.length+(X.length+1)) env f e R hR
  have hP:=fun t n e=>ze4 env t n e A X R hR
  have hf:=ht.all f (by simp)
  have ha:=ht.all a (by simp)
  have hne:=hd.ne;obtain⟨x,hx,this⟩:=ih hf hn A X R hR n 0;rw[<- zls]at this;have hU:=ze7 env n 0 4 N ls [f,a] (fun h=>absurd h (by decide)) A X R hR
  simp only[Te.css,show decide ((4:Int)=3)=false from rfl,Bool.false_and]at hU
  refine⟨.mk 4 0 [] [x,a],.mk (by simp) (by simp) (by intro x hx;cases hx) (by intro y hy;simp at hy;rcases hy with rfl|rfl <;> assumption),?_⟩
  cases x with
  |mk k2 n2 ls2 ks2=>
  simp only[Te.cs]at this;rw[zae,zab];simp only[↓reduceIte,go_sem,Te.cs,Te.css,Lv.css,hU,this,hne,hf0,mB]
 |@beta0 n N ls f a N2 ls2 s b hd=>
  intro ht hn A X R hR n0 e0;have mB:=fun f e=>znn (A.length+(X.length+1)) env f e R hR
  have hP:=fun t n e=>ze4 env t n e A X R hR
  have hf:=ht.all f (by simp)
  have ha:=ht.all a (by simp)
  have:=ztd env hE hd hf hn A X R hR n 0;rw[<- zls]at this;have hU:=ze7 env n 0 4 N ls [f,a] (fun h=>absurd h (by decide)) A X R hR
  simp only[Te.css,show decide ((4:Int)=3)=false from rfl,Bool.false_and]at hU
  have hB:=zet env 0 (by omega) A X R hR
  rw[if_pos rfl]at hB;have hi:=zmv env (.mk 4 N ls [f,a]) 0 40 A X R hR (by decide) n0 e0 _ rfl
  simp only[Te.cs,Te.css]at hi;refine⟨_,ht,?_⟩;simp only[Te.cs,Te.css,Int.natCast_zero]at this;rw[zae,zab];simp only[↓reduceIte,go_sem,Te.cs,Te.css,hU,this,hB,hi]
 |@beta2 n N ls f a N2 ls2 s b m r e hd ho he=>
  intro ht hn A X R hR n0 e0;have mB:=fun f e=>znn (A.length+(X.length+1)) env f e R hR
  have hP:=fun t n e=>ze4 env t n e A X R hR
  have hf:=ht.all f (by simp)
  have ha:=ht.all a (by simp)
  have hl:=hd.ok hE hf;have hle:=hd.le;have hb:=hl.all b (by simp)
  have:=ztd env hE hd hf hn A X R hR n 0;rw[<- zls]at this;have hU:=ze7 env n 0 4 N ls [f,a] (fun h=>absurd h (by decide)) A X R hR
  simp only[Te.css,show decide ((4:Int)=3)=false from rfl,Bool.false_and]at hU
  have hO:=fun H=>zo2 b a hb ha H
  simp only[ho,zj7]at hO;have hB:=zet env ((m+1:Nat):Int) (by omega) A X R hR
  rw[if_neg (by omega),show (((m+1:Nat):Int) - 1)=m by omega]at hB
  have hi:=zmv env r m e A X R hR he n0 e0 _ rfl;refine⟨r,zfw ho hb ha,?_⟩;simp only[Te.cs,Te.css]at this;rw[zae,zab];simp only[↓reduceIte,go_sem,Te.cs,Te.css,hU,this,hB,hO,hP,hi]
 |@betar n N ls f a N2 ls2 s b m r n' e hd ho hd2 ih2=>
  intro ht hn A X R hR n0 e0;have mB:=fun f e=>znn (A.length+(X.length+1)) env f e R hR
  have hP:=fun t n e=>ze4 env t n e A X R hR
  have hf:=ht.all f (by simp)
  have ha:=ht.all a (by simp)
  have hl:=hd.ok hE hf;have hle:=hd.le;have hb:=hl.all b (by simp)
  have:=ztd env hE hd hf hn A X R hR n 0;rw[<- zls]at this;obtain⟨x,hx,h2⟩:=ih2 (zfw ho hb ha) (by omega) A X R hR n0 e0
  have hU:=ze7 env n 0 4 N ls [f,a] (fun h=>absurd h (by decide)) A X R hR
  simp only[Te.css,show decide ((4:Int)=3)=false from rfl,Bool.false_and]at hU
  have hO:=fun H=>zo2 b a hb ha H
  simp only[ho,zj7]at hO;have hB:=zet env ((m+1:Nat):Int) (by omega) A X R hR
  rw[if_neg (by omega),show (((m+1:Nat):Int) - 1)=m by omega]at hB
  refine⟨x,hx,?_⟩;simp only[Te.cs,Te.css]at this;rw[zae,zab];simp only[↓reduceIte,go_sem,Te.cs,Te.css,hU,this,hB,hO,hP,h2]
end Go.Ab
end
section
set_option linter.unusedVariables false
set_option linter.unusedSimpArgs false
set_option maxRecDepth 100000
set_option maxHeartbeats 2000000
namespace Go.Ab
open Go.RowKit Go.Proofs
theorem z25(env:List De)(n e:Int)(A X:List AO):F zbw [.ptr A.length 0,.int .i64 e] (A++(.box [.sl (De.css env),.int .i64 n,.int .i64 0]::X)) =
  some (.ret (.bool false),A++(.box [.sl (De.css env),.int .i64 n,.int .i64 e]::X)):=by
 have hf0:=fun (o o':AO) r (ho:LtO (A.length+(X.length+1)) o')=>zf6 (A:=A) (X:=X) (o:=o) (o':=o') (r:=r) ho
 rw[zqq];simp only[↓reduceIte,go_sem,hf0,zqb]
theorem znk(env:List De)(n:Int)(hn:0<=n/\n<=1000000)(A X:List AO):F zak [.ptr A.length 0] (A++(.box [.sl (De.css env),.int .i64 n,.int .i64 0]::X)) =
  if n=0 then some (.ret (.bool false),A++(.box [.sl (De.css env),.int .i64 0,.int .i64 40]::X)) else some (.ret (.bool true),A++(.box [.sl (De.css env),.int .i64 (n - 1),.int .i64 0]::X)):=by
 have hf0:=fun (o o':AO) r (ho:LtO (A.length+(X.length+1)) o')=>zf6 (A:=A) (X:=X) (o:=o) (o':=o') (r:=r) ho
 rw[zqr];by_cases h:n=0
 ·subst h
  simp only[↓reduceIte,go_sem,hf0,zqb,z25]
 ·simp only[↓reduceIte,go_sem,hf0,zqb,h,zam (n:=n - 1) (by omega) (by omega)]
theorem z22(env:List De)(t:Te)(n e:Int)(A X:List AO):F zca [.ptr A.length 0,.agg t.cs,.int .i64 e] (A++(.box [.sl (De.css env),.int .i64 n,.int .i64 0]::X)) =
  some (.ret (.agg t.cs),A++(.box [.sl (De.css env),.int .i64 n,.int .i64 e]::X)):=by
 have hf0:=fun (o o':AO) r (ho:LtO (A.length+(X.length+1)) o')=>zf6 (A:=A) (X:=X) (o:=o) (o':=o') (r:=r) ho
 rw[zru];by_cases h:e=0
 ·subst h
  simp only[↓reduceIte,go_sem,hf0,zqb]
 ·simp only[↓reduceIte,go_sem,hf0,zqb,h,z25]
theorem yh3{A Y Z:List AO}{o1 o1' o2 o2' o3 o3':AO}{n:Nat}(h1:LtO n o1')(h2:LtO n o2')(h3:LtO n o3'):∀(id:Nat) (o:AO),(A++(o1' :: (Y++(o2' :: o3' :: Z))))[id]?=some o->(A++(o1::(Y++(o2::o3::Z))))[id]?=some o\/LtO n o:=by
 intro id o ho;by_cases hi:id<A.length
 ·rw[List.getElem?_append_left hi]at ho ⊢;exact .inl ho
 rw[List.getElem?_append_right (by omega)]at ho ⊢
 cases hj:id - A.length with
 |zero=>rw[hj]at ho;simp at ho;subst ho;exact .inr h1
 |succ j=>
  rw[hj]at ho;simp only[List.getElem?_cons_succ]at ho ⊢;by_cases hy:j<Y.length
  ·rw[List.getElem?_append_left hy]at ho ⊢;exact .inl ho
  rw[List.getElem?_append_right (by omega)]at ho ⊢
  match j - Y.length,ho with
  |0,ho=>simp at ho;subst ho;exact .inr h2
  |1,ho=>simp at ho;subst ho;exact .inr h3
  |i+2,ho=>simp at ho;exact .inl (by simpa using ho)
theorem zwo{A Y Z:List AO}{env:List De}{n e n' e':Int}{ver ver':Nat}{es es':List Te}{k N k' N':Int}{ls ls':List Lv}{ks ks':List Te}{b:Bool}:
  ze0 (A++(.box [.sl (De.css env),.int .i64 n,.int .i64 e]::(Y++(.lst ver 4 (Te.css es) :: .box [.ptr A.length 0,.int .i64 k,.int .i64 N,.sl (Lv.css ls),.sl (Te.css ks),.ol (A.length+(Y.length+1)) ver]::Z)))) (.ret (.bool b))
   (A++(.box [.sl (De.css env),.int .i64 n',.int .i64 e']::(Y++(.lst ver' 4 (Te.css es') :: .box [.ptr A.length 0,.int .i64 k',.int .i64 N',.sl (Lv.css ls'),.sl (Te.css ks'),.ol (A.length+(Y.length+1)) ver']::Z)))) =
  some (.ret (.bool b),A++(.box [.sl (De.css env),.int .i64 n',.int .i64 e']::(Y++(.lst ver' 4 (Te.css es') :: .box [.ptr A.length 0,.int .i64 k',.int .i64 N',.sl (Lv.css ls'),.sl (Te.css ks'),.ol (A.length+(Y.length+1)) ver']::Z)))):=by
 refine zrb (by simp) (.bool _) (yh3 (zqb _ _ _ _) (fun a ha=>of_eq_true (z7c _ es') a ha) ?_)
 intro a ha;simp at ha;rcases ha with rfl|rfl|rfl|rfl|rfl|rfl
 ·exact .ptr (by simp)
 ·exact .int _ _
 ·exact .int _ _
 ·exact .sl fun a ha=>of_eq_true (z9n _ ls') a ha
 ·exact .sl fun a ha=>of_eq_true (z7c _ ks') a ha
 ·exact .ol (by simp)
theorem let_ok(env:List De)(n:Nat)(hn:n+1<=1000000)(A Y Z:List AO)(ver:Nat)(es:List Te)(N:Int)(ls:List Lv)(s v b k2:Te)(hb:b.ok)(hv:v.ok)(r:Te)(e:Int)(ho:zm7 b v=(r,e)):
  F zc3 [.ptr (A.length+(Y.length+2)) 0] (A++(.box [.sl (De.css env),.int .i64 (n+1:Nat),.int .i64 0]::(Y++(.lst ver 4 (Te.css es) :: .box [.ptr A.length 0,.int .i64 7,.int .i64 N,.sl (Lv.css ls),.sl (Te.css [s,v,b]),.ol (A.length+(Y.length+1)) ver]::Z)))) =
  some (.ret (.bool true),A++(.box [.sl (De.css env),.int .i64 n,.int .i64 e]::(Y++(.lst ver 4 (Te.css es) :: .box (.ptr A.length 0::(r.cs++[.ol (A.length+(Y.length+1)) ver]))::Z)))):=by
 have hO:=fun H=>yap b v hb hv H
 simp only[ho,zj7]at hO;have hB:∀X,F zak [.ptr A.length 0] (A++(.box [.sl (De.css env),.int .i64 (n+1:Nat),.int .i64 0]::X))=some (.ret (.bool true),A++(.box [.sl (De.css env),.int .i64 n,.int .i64 0]::X)):=by
  intro X;have hB:=znk env ((n+1:Nat):Int) (by omega) A X
  rwa [if_neg (by omega),show (((n+1:Nat):Int) - 1)=n by omega]at hB
 cases r with
 |mk k' n' ls' ks'=>
 have hP:=fun e X=>z22 env (.mk k' n' ls' ks') n e A X
 simp only[Te.cs]at hP hO;rw[zng];simp only[↓reduceIte,go_sem,Te.cs,hB,hO,hP,zwo]
theorem let0_ok(env:List De)(A Y Z:List AO)(ver:Nat)(es:List Te)(N:Int)(ls:List Lv)(ks:List Te):
  F zc3 [.ptr (A.length+(Y.length+2)) 0] (A++(.box [.sl (De.css env),.int .i64 0,.int .i64 0]::(Y++(.lst ver 4 (Te.css es) :: .box [.ptr A.length 0,.int .i64 7,.int .i64 N,.sl (Lv.css ls),.sl (Te.css ks),.ol (A.length+(Y.length+1)) ver]::Z)))) =
  some (.ret (.bool true),A++(.box [.sl (De.css env),.int .i64 0,.int .i64 40]::(Y++(.lst ver 4 (Te.css es) :: .box [.ptr A.length 0,.int .i64 7,.int .i64 N,.sl (Lv.css ls),.sl (Te.css ks),.ol (A.length+(Y.length+1)) ver]::Z)))):=by
 have hB:∀X,F zak [.ptr A.length 0] (A++(.box [.sl (De.css env),.int .i64 0,.int .i64 0]::X))=some (.ret (.bool false),A++(.box [.sl (De.css env),.int .i64 0,.int .i64 40]::X)):=by
  intro X;have hB:=znk env 0 (by omega) A X
  rwa [if_pos rfl]at hB
 rw[zng];simp only[↓reduceIte,go_sem,hB,zwo]
theorem ydk{env:List De}{j:Nat}{ls:List Lv}(h:zyk env (j:Int) ls=none):(env.length<=j)\/∃d,env[j]?=some d/\j<env.length/\(d.has=false\/d.has=true/\¬ (ls.length:Int)=d.p):=by
 unfold zyk at h;simp only[Int.toNat_natCast]at h
 cases hg:env[j]? with
 |none=>exact .inl (List.getElem?_eq_none_iff.1 hg)
 |some d=>
  have hl:j<env.length:=by
   rcases Nat.lt_or_ge j env.length with h|h
   ·exact h
   ·rw[List.getElem?_eq_none h]at hg;cases hg
  rw[hg]at h;dsimp only at h;refine .inr ⟨d,rfl,hl,?_⟩
  split at h
  ·cases h
  ·rename_i hn
   cases hh:d.has
   ·exact .inl rfl
   ·exact .inr ⟨rfl,fun hp=>hn ⟨hh,hp⟩⟩
theorem yhe(env:List De)(n e:Int)(A Y Z:List AO)(ver:Nat)(es:List Te)(N:Int)(hN:0<=N)(ls:List Lv)(ks:List Te)(hu:zyk env N ls=none):
  F za8 [.ptr (A.length+(Y.length+2)) 0] (A++(.box [.sl (De.css env),.int .i64 n,.int .i64 e]::(Y++(.lst ver 4 (Te.css es) :: .box [.ptr A.length 0,.int .i64 3,.int .i64 N,.sl (Lv.css ls),.sl (Te.css ks),.ol (A.length+(Y.length+1)) ver]::Z)))) =
  some (.ret (.bool false),A++(.box [.sl (De.css env),.int .i64 n,.int .i64 e]::(Y++(.lst ver 4 (Te.css es) :: .box [.ptr A.length 0,.int .i64 3,.int .i64 N,.sl (Lv.css ls),.sl (Te.css ks),.ol (A.length+(Y.length+1)) ver]::Z)))):=by
 obtain⟨j,rfl⟩:=Int.eq_ofNat_of_zero_le hN;rw[zfo];rcases ydk hu with h|⟨d,hg,hl,hh|⟨hh,hp⟩⟩
 ·simp only[↓reduceIte,go_sem,show (env.length:Int)<=(j:Int) by omega,zwo]
 ·simp only[↓reduceIte,go_sem,show ¬ (env.length:Int)<=(j:Int) by omega,hg,hh,zwo]
 ·simp only[↓reduceIte,go_sem,show ¬ (env.length:Int)<=(j:Int) by omega,hg,hh,hp,zwo]
theorem yhd(env:List De)(hE:zvi env)(n:Nat)(hn:n+1<=1000000)(A Y Z:List AO)(ver:Nat)(es:List Te)(N:Int)(hN:0<=N)(ls:List Lv)(hls:zt4 ls)(hll:ls.length<=140737488355328)(ks:List Te)(d:De)(hu:zyk env N ls=some d)(r:Te)(e:Int)(hs:zqy d.value ls []=(r,e)):
  F za8 [.ptr (A.length+(Y.length+2)) 0] (A++(.box [.sl (De.css env),.int .i64 (n+1:Nat),.int .i64 0]::(Y++(.lst ver 4 (Te.css es) :: .box [.ptr A.length 0,.int .i64 3,.int .i64 N,.sl (Lv.css ls),.sl (Te.css ks),.ol (A.length+(Y.length+1)) ver]::Z)))) =
  some (.ret (.bool true),A++(.box [.sl (De.css env),.int .i64 n,.int .i64 e]::(Y++(.lst ver 4 (Te.css es) :: .box (.ptr A.length 0::(r.cs++[.ol (A.length+(Y.length+1)) ver]))::Z)))):=by
 have hm:=zo3 hu;obtain⟨j,rfl⟩:=Int.eq_ofNat_of_zero_le hN;simp only[Int.toNat_natCast]at hm;have hS:=fun H=>TSub_ok d.value ls [] (hE.2 d (List.mem_of_getElem? hm.1)).2.2.2 hls zs5 hll (by simp) H
 simp only[hs,zj7,Lv.css]at hS;have hl:(j:Int)<(env.length:Int):=by
  have:=(List.getElem?_eq_some_iff.1 hm.1).1;omega
 have hB:∀X,F zak [.ptr A.length 0] (A++(.box [.sl (De.css env),.int .i64 (n+1:Nat),.int .i64 0]::X))=some (.ret (.bool true),A++(.box [.sl (De.css env),.int .i64 n,.int .i64 0]::X)):=by
  intro X;have hB:=znk env ((n+1:Nat):Int) (by omega) A X
  rwa [if_neg (by omega),show (((n+1:Nat):Int) - 1)=n by omega]at hB
 cases r with
 |mk k' n' ls' ks'=>
 have hP:=fun e X=>z22 env (.mk k' n' ls' ks') n e A X
 simp only[Te.cs]at hP hS;rw[zfo];simp only[↓reduceIte,go_sem,Te.cs,show ¬ (env.length:Int)<=(j:Int) by omega,hl,hm.1,hm.2.1,hm.2.2,hB,hS,hP,zwo]
theorem yhf(env:List De)(A Y Z:List AO)(ver:Nat)(es:List Te)(N:Int)(hN:0<=N)(ls:List Lv)(ks:List Te)(d:De)(hu:zyk env N ls=some d):
  F za8 [.ptr (A.length+(Y.length+2)) 0] (A++(.box [.sl (De.css env),.int .i64 0,.int .i64 0]::(Y++(.lst ver 4 (Te.css es) :: .box [.ptr A.length 0,.int .i64 3,.int .i64 N,.sl (Lv.css ls),.sl (Te.css ks),.ol (A.length+(Y.length+1)) ver]::Z)))) =
  some (.ret (.bool true),A++(.box [.sl (De.css env),.int .i64 0,.int .i64 40]::(Y++(.lst ver 4 (Te.css es) :: .box [.ptr A.length 0,.int .i64 3,.int .i64 N,.sl (Lv.css ls),.sl (Te.css ks),.ol (A.length+(Y.length+1)) ver]::Z)))):=by
 have hm:=zo3 hu;obtain⟨j,rfl⟩:=Int.eq_ofNat_of_zero_le hN;simp only[Int.toNat_natCast]at hm;have hl:(j:Int)<(env.length:Int):=by
  have:=(List.getElem?_eq_some_iff.1 hm.1).1;omega
 have hB:∀X,F zak [.ptr A.length 0] (A++(.box [.sl (De.css env),.int .i64 0,.int .i64 0]::X))=some (.ret (.bool false),A++(.box [.sl (De.css env),.int .i64 0,.int .i64 40]::X)):=by
  intro X;have hB:=znk env 0 (by omega) A X
  rwa [if_pos rfl]at hB
 rw[zfo];simp only[↓reduceIte,go_sem,show ¬ (env.length:Int)<=(j:Int) by omega,hl,hm.1,hm.2.1,hm.2.2,hB,zwo]
theorem lamN_ok(env:List De)(n e:Int)(A Y Z:List AO)(ver:Nat)(k N:Int)(ls:List Lv)(ks:List Te):
  F zbh [.ptr (A.length+(Y.length+2)) 0] (A++(.box [.sl (De.css env),.int .i64 n,.int .i64 e]::(Y++(.lst ver 4 (Te.css []) :: .box [.ptr A.length 0,.int .i64 k,.int .i64 N,.sl (Lv.css ls),.sl (Te.css ks),.ol (A.length+(Y.length+1)) ver]::Z)))) =
  some (.ret (.bool false),A++(.box [.sl (De.css env),.int .i64 n,.int .i64 e]::(Y++(.lst ver 4 (Te.css []) :: .box [.ptr A.length 0,.int .i64 k,.int .i64 N,.sl (Lv.css ls),.sl (Te.css ks),.ol (A.length+(Y.length+1)) ver]::Z)))):=by
 rw[zgo];simp only[↓reduceIte,go_sem,List.length_nil,Int.natCast_zero,show IntKind.i64.wrap (-1) = -1 from by decide,show ((-1:Int)<0) from by decide,zwo]
theorem lam_ok(env:List De)(n:Nat)(hn:n+1<=1000000)(A Y Z:List AO)(ver:Nat)(es:List Te)(hes:es.length<=1073741824)(a:Te)(ha:a.ok)(k N:Int)(ls:List Lv)(s b:Te)(hb:b.ok)(r:Te)(e:Int)(ho:zm7 b a=(r,e)):
  F zbh [.ptr (A.length+(Y.length+2)) 0] (A++(.box [.sl (De.css env),.int .i64 (n+1:Nat),.int .i64 0]::(Y++(.lst ver 4 (Te.css (es++[a])) :: .box [.ptr A.length 0,.int .i64 k,.int .i64 N,.sl (Lv.css ls),.sl (Te.css [s,b]),.ol (A.length+(Y.length+1)) ver]::Z)))) =
  some (.ret (.bool true),A++(.box [.sl (De.css env),.int .i64 n,.int .i64 e]::(Y++(.lst (ver+1) 4 (Te.css es) :: .box (.ptr A.length 0::(r.cs++[.ol (A.length+(Y.length+1)) (ver+1)]))::Z)))):=by
 have hO:=fun H=>yap b a hb ha H
 simp only[ho,zj7]at hO;have hB:∀X,F zak [.ptr A.length 0] (A++(.box [.sl (De.css env),.int .i64 (n+1:Nat),.int .i64 0]::X))=some (.ret (.bool true),A++(.box [.sl (De.css env),.int .i64 n,.int .i64 0]::X)):=by
  intro X;have hB:=znk env ((n+1:Nat):Int) (by omega) A X
  rwa [if_neg (by omega),show (((n+1:Nat):Int) - 1)=n by omega]at hB
 simp only[Int.natCast_add,Int.natCast_one]at hB;have htk:(Te.css (es++[a])).take es.length=Te.css es:=by simp[Te.css_eq]
 cases r with
 |mk k' n' ls' ks'=>
 have hP:=fun e X=>z22 env (.mk k' n' ls' ks') n e A X
 simp only[Te.cs]at hP hO;rw[zgo];simp only[↓reduceIte,go_sem,Te.cs,zeg,Int.natCast_add,Int.natCast_one,zam (n:=(es.length:Int)) (by omega) (by omega),show ¬ (es.length:Int)<0 by omega,show es.length<es.length+1 by omega,show (es.length:Int)<=(es.length:Int)+1 by omega,Int.add_sub_cancel,hB,hO,hP,htk,zwo]
theorem lam0_ok(env:List De)(A Y Z:List AO)(ver:Nat)(es:List Te)(hes:es.length<=1073741824)(a:Te)(k N:Int)(ls:List Lv)(ks:List Te):
  F zbh [.ptr (A.length+(Y.length+2)) 0] (A++(.box [.sl (De.css env),.int .i64 0,.int .i64 0]::(Y++(.lst ver 4 (Te.css (es++[a])) :: .box [.ptr A.length 0,.int .i64 k,.int .i64 N,.sl (Lv.css ls),.sl (Te.css ks),.ol (A.length+(Y.length+1)) ver]::Z)))) =
  some (.ret (.bool true),A++(.box [.sl (De.css env),.int .i64 0,.int .i64 40]::(Y++(.lst (ver+1) 4 (Te.css es) :: .box [.ptr A.length 0,.int .i64 k,.int .i64 N,.sl (Lv.css ls),.sl (Te.css ks),.ol (A.length+(Y.length+1)) (ver+1)]::Z)))):=by
 have hB:∀X,F zak [.ptr A.length 0] (A++(.box [.sl (De.css env),.int .i64 0,.int .i64 0]::X))=some (.ret (.bool false),A++(.box [.sl (De.css env),.int .i64 0,.int .i64 40]::X)):=by
  intro X;have hB:=znk env 0 (by omega) A X
  rwa [if_pos rfl]at hB
 have htk:(Te.css (es++[a])).take es.length=Te.css es:=by simp[Te.css_eq]
 rw[zgo];simp only[↓reduceIte,go_sem,Te.cs,zeg,Int.natCast_add,Int.natCast_one,zam (n:=(es.length:Int)) (by omega) (by omega),show ¬ (es.length:Int)<0 by omega,show es.length<es.length+1 by omega,show (es.length:Int)<=(es.length:Int)+1 by omega,Int.add_sub_cancel,hB,htk,zwo]
theorem yjn(es:List Te)(z:List AV)(x:Te):(Te.css es++[z]).set es.length x.cs=Te.css (es++[x]):=by
 rw[List.set_append_right _ _ (by rw[zsr];exact Nat.le_refl _),zsr,Nat.sub_self]
 simp[Te.css_eq]
theorem z5o(es:List Te)(z:List AV):(Te.css es++[z]).length=es.length+1:=by rw[List.length_append,zsr];rfl
theorem z5p(es:List Te)(z:List AV):(Te.css es++[z])[es.length]?=some z:=by rw[List.getElem?_append_right (by rw[zsr];exact Nat.le_refl _),zsr,Nat.sub_self];rfl
theorem yjj(env:List De)(n e:Int)(A Y Z:List AO)(ver:Nat)(es:List Te)(hes:es.length<1073741824)(k N:Int)(ls:List Lv)(f a:Te):
  F zdu [.ptr (A.length+(Y.length+2)) 0] (A++(.box [.sl (De.css env),.int .i64 n,.int .i64 e]::(Y++(.lst ver 4 (Te.css es) :: .box [.ptr A.length 0,.int .i64 k,.int .i64 N,.sl (Lv.css ls),.sl (Te.css [f,a]),.ol (A.length+(Y.length+1)) ver]::Z)))) =
  some (.ret (.bool true),A++(.box [.sl (De.css env),.int .i64 n,.int .i64 e]::(Y++(.lst (ver+1) 4 (Te.css (es++[a])) :: .box (.ptr A.length 0::(f.cs++[.ol (A.length+(Y.length+1)) (ver+1)]))::Z)))):=by
 cases f with
 |mk k' n' ls' ks'=>
 rw[ztk];simp only[↓reduceIte,go_sem,Te.cs,z5o,z5p,yjn,show es.length<es.length+1 by omega,show es.length+(0+1)<=1073741824 by omega,zwo]
def zrx:List (AV×AV):=[(.int .i64 7,.fn (.func zc3) [] []),(.int .i64 3,.fn (.func za8) [] []),(.int .i64 5,.fn (.func zbh) [] []),(.int .i64 4,.fn (.func zdu) [] [])]
theorem yjg(H:List AO):F zkr [] H=some (.ret (.fmap zrx),H):=by
 rw[zyt];simp only[↓reduceIte,go_sem,znp,zhg,zrx]
theorem zf0:znp .i64 zrx=true:=rfl
theorem yav(k:Int)(h:k≠7/\k≠3/\k≠5/\k≠4):zhg k zrx=some none:=by
 simp only[zhg,zrx,if_neg h.1,if_neg h.2.1,if_neg h.2.2.1,if_neg h.2.2.2]
theorem ydq:zhg 7 zrx=some (some (.fn (.func zc3) [] [])):=rfl
theorem z6u:zhg 3 zrx=some (some (.fn (.func za8) [] [])):=rfl
theorem z6t:zhg 5 zrx=some (some (.fn (.func zbh) [] [])):=rfl
theorem steps_4:zhg 4 zrx=some (some (.fn (.func zdu) [] [])):=rfl
abbrev encP(p:Int×Te):List AV:=[.int .i64 p.1,.agg p.2.cs]
def bkr:List Te->List (Int×Te)
 |[]=>[]
 |x::r=>(r.length,x)::bkr r
def ycg(id ver:Nat):AV:=.fn (.func zbp) [] [.fp [.ol id ver]]
theorem back_ok(id ver:Nat)(H:List AO)(hi:id<H.length):F zd1 [.ol id ver] H=some (.ret (ycg id ver),H):=by
 rw[zps];have h:Lt H.length (.fn (.func zbp) [] [.fp [.ol id ver]])=True:=by
  simp only[eq_iff_iff,iff_true];refine .fn (by simp) ?_
  intro x hx;simp at hx;subst hx;exact .fp (by intro a ha;simp at ha;subst ha;exact .ol hi)
 simp only[↓reduceIte,go_sem,ycg,h]
theorem ylx{S E:Type}{y:AV}{m:Nat}{W:S->List AO}{WE:E->List AO}{stp:S->Int×Te->Option (S ⊕ E)}(hy:Ys y m encP W WE stp)(id ver:Nat)(es:List Te)(hes:es.length<=1073741824)(hW:∀s,(W s)[id]?=some (.lst ver 4 (Te.css es)))
  (s:S) (X:List AO) (r:S ⊕ E) (hr:zm8 stp (bkr es.reverse) s=some r):F zbp [y,.fp [.ol id ver]] (W s++X)=some (.ret (.tup []),hp W WE r++X):=by
 have hone:=hy.one;have hcell:y.cells=[y]:=by cases y <;> first|rfl|(simp[AV.one]at hone)
 unfold AV.cells at hcell;unfold AV.one at hone;have l1:∀s,(W s).length=m:=fun s=>hy.len (.inl s)
 have hid:id<m:=by
  have:=hW s;have:=(List.getElem?_eq_some_iff.1 this).1;rw[l1 s]at this;exact this
 have hWX:∀s,(W s++X)[id]?=some (.lst ver 4 (Te.css es)):=fun s=>by rw[List.getElem?_append_left (by rw[l1];exact hid),hW s]
 have hfin:∀r:S ⊕ E,ze0 (W s++X) (.ret (.tup [])) (hp W WE r++X)=some (.ret (.tup []),hp W WE r++X):=fun r=>by
  have hf:=z1j (H:=W s) (A:=hp W WE r) (X:=X) (J:=[]) (r:=.ret (.tup [])) (by rw[hy.len r];exact (l1 s).symm) (by rw[l1 s];exact hy.fr s r) (show Lt _ _ from .tup (by simp))
  rwa [List.append_nil]at hf
 have loop:∀(rev post:List Te) (a:S),es=rev.reverse++post->zm8 stp (bkr rev) a=some r ->
   zc6 (W s++X) (W a++X) y (.fp [.ol id ver]) (.int .i64 ((rev.length:Int) - 1))=some (.ret (.tup []),hp W WE r++X):=by
  intro rev
  induction rev with
  |nil=>
   intro post a e hq;simp only[bkr,zm8]at hq;cases hq;have:=hfin (.inl a);simp only[zfu]at this;rw[zc6,zab];simp only[↓reduceIte,go_sem,List.length_nil,Int.natCast_zero,show ¬ (0:Int) <= -1 by decide,this]
  |cons x rev ih=>
   intro post a e hq;have hl:rev.length<es.length:=by rw[e];simp
   have hg:es[rev.length]?=some x:=by
    rw[e];simp
   rw[bkr,zm8]at hq;obtain⟨q,hst⟩:∃q,stp a (rev.length,x)=some q:=by
    cases h:stp a (rev.length,x) with
    |none=>rw[h]at hq;cases hq
    |some q=>exact⟨q,rfl⟩
   rw[hst]at hq;have hc:=hy.call a (rev.length,x) X q hst;simp only[encP]at hc;rw[zc6,zab]
   cases q with
   |inl a'=>
    have:=ih (x::post) a' (by rw[e];simp) hq
    simp only[zfu]at hc;simp only[↓reduceIte,go_sem,List.length_cons,Int.natCast_add,Int.natCast_one,Int.add_sub_cancel,show (0:Int)<=(rev.length:Int) by omega,hWX,hg,hl,hc,isL,hone,hcell,zam (n:=(rev.length:Int) - 1) (by omega) (by omega),this]
   |inr e=>
    dsimp only at hq;cases hq;simp only[zry]at hc;have:=hfin (.inr e);simp only[zry]at this;simp only[↓reduceIte,go_sem,List.length_cons,Int.natCast_add,Int.natCast_one,Int.add_sub_cancel,show (0:Int)<=(rev.length:Int) by omega,hWX,hg,hl,hc,isL,hone,hcell,this]
 have:=loop es.reverse [] s (by simp) hr
 simp only[List.length_reverse]at this;rw[zor];simp only[↓reduceIte,go_sem,hWX,zam (n:=(es.length:Int) - 1) (by omega) (by omega),this]
def z7k(p:AV)(n ver:Nat)(es:List Te)(s:Te):List AO:=[.lst 0 3 [],.lst 0 4 [],.lst ver 4 (Te.css es),.box (p::(s.cs++[.ol (n+2) ver])),.box [.ptr (n+3) 0]]
def ykv(s:Te)(x:Int×Te):Option (Te ⊕ Empty):=some (.inl (.mk 4 0 [] [s,x.2]))
theorem ykw(p:AV)(n ver:Nat)(es:List Te)(N:Nat)(hp:Lt N p)(hn:n+3<N)(s:Te):∀o∈z7k p n ver es s,LtO N o:=by
 intro o ho;simp only[z7k,List.mem_cons,List.not_mem_nil,or_false]at ho;rcases ho with rfl|rfl|rfl|rfl|rfl
 ·intro a ha;simp at ha
 ·intro a ha;simp at ha
 ·exact fun a ha=>of_eq_true (z7c _ es) a ha
 ·intro a ha
  rcases List.mem_cons.1 ha with rfl|ha
  ·exact hp
  ·rcases List.mem_append.1 ha with ha|ha
   ·exact zux _ s a ha
   ·simp at ha;subst ha;exact .ol (by omega)
 ·intro a ha
  simp at ha;subst ha;exact .ptr (by omega)
theorem head_ys(H:List AO)(p:AV)(hp:Lt H.length p)(ver:Nat)(es:List Te):Ys (.yd (H.length+5+1)) (H.length+5+2) encP (fun s=>H++(z7k p H.length ver es s++[.dfr,.slp .ready 60 [(5,.ptr (H.length+4) 0)] [44,45] za6 za4])) (fun e:Empty=>H++(noE e++[.dfr,.slp (.done (noE e)) 60 [(5,.ptr (H.length+4) 0)] [44,45] za6 za4])) ykv:=by
 refine z6k H 5 encP (z7k p H.length ver es) noE noE ykv 60 [(5,.ptr (H.length+4) 0)] [44,45] za6 za4 znm znl (fun _=>rfl) ?_ ?_ ?_ ?_
 ·rintro (s|e)
  ·rfl
  ·exact e.elim
 ·rintro s (s' | e) i o ho
  ·exact .inr (ykw p H.length ver es _ (hp.mono (by omega)) (by omega) s' o (List.mem_of_getElem? ho))
  ·exact e.elim
 ·intro q hq;simp at hq;subst hq;exact .ptr (by omega)
 ·rintro ⟨k,n,ls,ks⟩ ⟨i,a⟩ X r hst
  refine⟨[],?_⟩;unfold ykv at hst;cases hst;rcases a with⟨k2,n2,ls2,ks2⟩;simp only[↓reduceIte,go_sem,z7k,encP,Te.cs,Te.css,Lv.css,z7e,isL]
def reb:Te->List (Int×Te)->Te
 |t,[]=>t
 |t,x::r=>reb (.mk 4 0 [] [t,x.2]) r
theorem z4g:∀(xs:List (Int×Te)) (t:Te),zm8 ykv xs t=some (.inl (reb t xs))
 |[],t=>rfl
 |x::r,t=>by rw[zm8,reb];exact z4g r _
def zo9(t:Te)(es:List Te):Te:=reb t (bkr es.reverse)
theorem z62(t:Te):zo9 t []=t:=rfl
theorem z3w(t a:Te)(es:List Te):zo9 t (es++[a])=zo9 (.mk 4 0 [] [t,a]) es:=by
 rw[zo9,List.reverse_append,List.reverse_cons,List.reverse_nil,List.nil_append,List.cons_append,List.nil_append,bkr,reb];rfl
end Go.Ab
end
section
set_option linter.unusedVariables false
set_option linter.unusedSimpArgs false
set_option maxRecDepth 100000
set_option maxHeartbeats 2000000
namespace Go.Ab
open Go.RowKit Go.Proofs
def hdH(A X:List AO)(env:List De)(n e:Int)(ver:Nat)(es:List Te)(t:Te):List AO :=
 A++(.box [.sl (De.css env),.int .i64 n,.int .i64 e]::(X++[.lst 0 3 [],.lst 0 4 [],.lst ver 4 (Te.css es),.box (.ptr A.length 0::(t.cs++[.ol (A.length+(X.length+3)) ver])),.box [.ptr (A.length+(X.length+4)) 0]]))
noncomputable def Lh(A X:List AO)(env:List De)(n0 e0 n e:Int)(ver:Nat)(es:List Te)(t:Te):Option RH :=
 zaq (A++(.box [.sl (De.css env),.int .i64 n0,.int .i64 e0]::X)) (hdH A X env n e ver es t) [] (.ptr A.length 0) (.ptr (A.length+(X.length+5)) 0) (.fmap zrx) [.int .i64 0,.int .i64 0,.sl [],.sl []]
theorem z8q(env:List De)(t:Te)(n e:Int)(A X:List AO):F za2 [.ptr A.length 0,.agg t.cs] (A++(.box [.sl (De.css env),.int .i64 n,.int .i64 e]::X))=Lh A X env n e n e 0 [] t:=by
 rw[zqp,Lh,hdH];rcases t with⟨k,N,ls,ks⟩;simp only[↓reduceIte,go_sem,yjg,Te.cs,Te.css]
theorem yii(A X:List AO)(env:List De)(n0 e0 n e:Int)(ver:Nat)(es:List Te)(hes:es.length<=1073741824)(k N:Int)(ls:List Lv)(ks:List Te)
  (hst:e≠0\/e=0/\(k≠7/\k≠3/\k≠5/\k≠4\/k=3/\0<=N/\zyk env N ls=none\/k=5/\es=[])) :
  Lh A X env n0 e0 n e ver es (.mk k N ls ks)=some (.ret (.agg (zo9 (.mk k N ls ks) es).cs),A++(.box [.sl (De.css env),.int .i64 n,.int .i64 e]::X)):=by
 have hl:(A++(.box [.sl (De.css env),.int .i64 n,.int .i64 e]::X)).length=A.length+(X.length+1):=by simp
 have hr:=ylx (head_ys (A++(.box [.sl (De.css env),.int .i64 n,.int .i64 e]::X)) (.ptr A.length 0) (.ptr (by simp)) ver es) (A.length+(X.length+3)) ver es hes (fun s=>by
  rw[show A.length+(X.length+3)=(A++(AO.box [.sl (De.css env),.int .i64 n,.int .i64 e]::X)).length+2 by rw[hl];omega,zwb];rfl) (.mk k N ls ks) [] _ (z4g _ _)
 have he:=zuz (H:=A++(.box [.sl (De.css env),.int .i64 n,.int .i64 e]::X)) (DR:=z7k (.ptr A.length 0) (A++(.box [.sl (De.css env),.int .i64 n,.int .i64 e]::X)).length ver es (zo9 (.mk k N ls ks) es)) (k:=5) rfl (st:=.ready) (nn:=60) (t:=[(5,.ptr (A.length+(X.length+5)) 0)]) (ps:=[44,45]) (asg:=za6) (body:=za4);rw[show reb (.mk k N ls ks) (bkr es.reverse)=zo9 (.mk k N ls ks) es from rfl]at hr
 simp only[hl]at hr he;have hf:=fun (o o':AO) r J (ho:LtO (A.length+(X.length+1)) o')=>zrc (A:=A) (X:=X) (J:=J) (o:=o) (o':=o') (r:=r) ho
 have hb:=fun c1 c2 c3 c4=>back_ok (A.length+(X.length+3)) ver (A++(.box [.sl (De.css env),.int .i64 n,.int .i64 e]::(X++[.lst 0 3 [],.lst 0 4 [],.lst ver 4 (Te.css es),.box [.ptr A.length 0,c1,c2,c3,c4,.ol (A.length+(X.length+3)) ver],.box [.ptr (A.length+(X.length+4)) 0]]))) (by simp)
 rcases hq:zo9 (.mk k N ls ks) es with⟨k2,N2,ls2,ks2⟩;simp only[hq,zfu,z7k,Te.cs,zhh,List.cons_append,List.nil_append,List.append_nil,List.append_assoc,Nat.add_assoc,Nat.reduceAdd]at hr he;rw[Lh,zaq,zab,hdH];have hc:=fun (h:0<=N) (hu:zyk env N ls=none)=>yhe env n 0 A (X++[.lst 0 3 [],.lst 0 4 []]) [.box [.ptr (A.length+(X.length+4)) 0]] ver es N h ls ks hu
 have hm:=lamN_ok env n 0 A (X++[.lst 0 3 [],.lst 0 4 []]) [.box [.ptr (A.length+(X.length+4)) 0]] ver 5 N ls ks;simp only[List.append_assoc,List.cons_append,List.nil_append,List.length_append,List.length_cons,List.length_nil,Nat.add_assoc,Nat.reduceAdd]at hc hm;rcases hst with h|⟨rfl,h|⟨rfl,h2,h3⟩|⟨rfl,rfl⟩⟩
 ·simp only[↓reduceIte,go_sem,Te.cs,h,hb,ycg,hr,he,hf,zqb,Nat.add_le_add_iff_left,Nat.reduceLeDiff,List.nodup_cons,List.not_mem_nil,not_false_eq_true,List.nodup_nil,and_self]
 ·simp only[↓reduceIte,go_sem,Te.cs,zf0,yav k h,hb,ycg,hr,he,hf,zqb,Nat.add_le_add_iff_left,Nat.reduceLeDiff,List.nodup_cons,List.not_mem_nil,not_false_eq_true,List.nodup_nil,and_self]
 ·have hc:=hc h2 h3
  simp only[↓reduceIte,go_sem,Te.cs,zf0,z6u,hc,hb,ycg,hr,he,hf,zqb,Nat.add_le_add_iff_left,Nat.reduceLeDiff,List.nodup_cons,List.not_mem_nil,not_false_eq_true,List.nodup_nil,and_self]
 ·simp only[↓reduceIte,go_sem,Te.cs,zf0,z6t,hm,hb,ycg,hr,he,hf,zqb,Nat.add_le_add_iff_left,Nat.reduceLeDiff,List.nodup_cons,List.not_mem_nil,not_false_eq_true,List.nodup_nil,and_self]
variable (A X : List AO) (env : List De) (n0 e0 : Int)
theorem yig(n:Nat)(hn:n+1<=1000000)(ver:Nat)(es:List Te)(N:Int)(ls:List Lv)(s v b:Te)(hb:b.ok)(hv:v.ok)(r:Te)(e:Int)(ho:zm7 b v=(r,e)):
  Lh A X env n0 e0 (n+1:Nat) 0 ver es (.mk 7 N ls [s,v,b])=Lh A X env n0 e0 n e ver es r:=by
 have h:=let_ok env n hn A (X++[.lst 0 3 [],.lst 0 4 []]) [.box [.ptr (A.length+(X.length+4)) 0]] ver es N ls s v b s hb hv r e ho;simp only[List.append_assoc,List.cons_append,List.nil_append,List.length_append,List.length_cons,List.length_nil,Nat.add_assoc,Nat.reduceAdd]at h;rcases r with⟨k',n',ls',ks'⟩;simp only[Te.cs,List.cons_append,List.nil_append]at h
 conv=>lhs;rw[Lh,zaq,zab,hdH]
 simp only[↓reduceIte,go_sem,Te.cs,zf0,ydq,h,Lh,hdH]
theorem Lh_let0(ver:Nat)(es:List Te)(N:Int)(ls:List Lv)(ks:List Te):
  Lh A X env n0 e0 0 0 ver es (.mk 7 N ls ks)=Lh A X env n0 e0 0 40 ver es (.mk 7 N ls ks):=by
 have h:=let0_ok env A (X++[.lst 0 3 [],.lst 0 4 []]) [.box [.ptr (A.length+(X.length+4)) 0]] ver es N ls ks;simp only[List.append_assoc,List.cons_append,List.nil_append,List.length_append,List.length_cons,List.length_nil,Nat.add_assoc,Nat.reduceAdd]at h
 conv=>lhs;rw[Lh,zaq,zab,hdH]
 simp only[↓reduceIte,go_sem,Te.cs,zf0,ydq,h,Lh,hdH]
theorem z23(hE:zvi env)(n:Nat)(hn:n+1<=1000000)(ver:Nat)(es:List Te)(N:Int)(hN:0<=N)(ls:List Lv)(hls:zt4 ls)(hll:ls.length<=140737488355328)(ks:List Te)(d:De)(hu:zyk env N ls=some d)(r:Te)(e:Int)(hs:zqy d.value ls []=(r,e)):
  Lh A X env n0 e0 (n+1:Nat) 0 ver es (.mk 3 N ls ks)=Lh A X env n0 e0 n e ver es r:=by
 have h:=yhd env hE n hn A (X++[.lst 0 3 [],.lst 0 4 []]) [.box [.ptr (A.length+(X.length+4)) 0]] ver es N hN ls hls hll ks d hu r e hs;simp only[List.append_assoc,List.cons_append,List.nil_append,List.length_append,List.length_cons,List.length_nil,Nat.add_assoc,Nat.reduceAdd]at h;rcases r with⟨k',n',ls',ks'⟩;simp only[Te.cs,List.cons_append,List.nil_append]at h
 conv=>lhs;rw[Lh,zaq,zab,hdH]
 simp only[↓reduceIte,go_sem,Te.cs,zf0,z6u,h,Lh,hdH]
theorem yij(ver:Nat)(es:List Te)(N:Int)(hN:0<=N)(ls:List Lv)(ks:List Te)(d:De)(hu:zyk env N ls=some d):
  Lh A X env n0 e0 0 0 ver es (.mk 3 N ls ks)=Lh A X env n0 e0 0 40 ver es (.mk 3 N ls ks):=by
 have h:=yhf env A (X++[.lst 0 3 [],.lst 0 4 []]) [.box [.ptr (A.length+(X.length+4)) 0]] ver es N hN ls ks d hu;simp only[List.append_assoc,List.cons_append,List.nil_append,List.length_append,List.length_cons,List.length_nil,Nat.add_assoc,Nat.reduceAdd]at h
 conv=>lhs;rw[Lh,zaq,zab,hdH]
 simp only[↓reduceIte,go_sem,Te.cs,zf0,z6u,h,Lh,hdH]
theorem yih(n:Nat)(hn:n+1<=1000000)(ver:Nat)(es:List Te)(hes:es.length<=1073741824)(a:Te)(ha:a.ok)(N:Int)(ls:List Lv)(s b:Te)(hb:b.ok)(r:Te)(e:Int)(ho:zm7 b a=(r,e)):
  Lh A X env n0 e0 (n+1:Nat) 0 ver (es++[a]) (.mk 5 N ls [s,b])=Lh A X env n0 e0 n e (ver+1) es r:=by
 have h:=lam_ok env n hn A (X++[.lst 0 3 [],.lst 0 4 []]) [.box [.ptr (A.length+(X.length+4)) 0]] ver es hes a ha 5 N ls s b hb r e ho;simp only[List.append_assoc,List.cons_append,List.nil_append,List.length_append,List.length_cons,List.length_nil,Nat.add_assoc,Nat.reduceAdd]at h;rcases r with⟨k',n',ls',ks'⟩;simp only[Te.cs,List.cons_append,List.nil_append]at h
 conv=>lhs;rw[Lh,zaq,zab,hdH]
 simp only[↓reduceIte,go_sem,Te.cs,zf0,z6t,h,Lh,hdH]
theorem Lh_lam0(ver:Nat)(es:List Te)(hes:es.length<=1073741824)(a:Te)(N:Int)(ls:List Lv)(ks:List Te):
  Lh A X env n0 e0 0 0 ver (es++[a]) (.mk 5 N ls ks)=Lh A X env n0 e0 0 40 (ver+1) es (.mk 5 N ls ks):=by
 have h:=lam0_ok env A (X++[.lst 0 3 [],.lst 0 4 []]) [.box [.ptr (A.length+(X.length+4)) 0]] ver es hes a 5 N ls ks;simp only[List.append_assoc,List.cons_append,List.nil_append,List.length_append,List.length_cons,List.length_nil,Nat.add_assoc,Nat.reduceAdd]at h
 conv=>lhs;rw[Lh,zaq,zab,hdH]
 simp only[↓reduceIte,go_sem,Te.cs,zf0,z6t,h,Lh,hdH]
theorem zvf(n:Int)(ver:Nat)(es:List Te)(hes:es.length<1073741824)(N:Int)(ls:List Lv)(f a:Te):
  Lh A X env n0 e0 n 0 ver es (.mk 4 N ls [f,a])=Lh A X env n0 e0 n 0 (ver+1) (es++[a]) f:=by
 have h:=yjj env n 0 A (X++[.lst 0 3 [],.lst 0 4 []]) [.box [.ptr (A.length+(X.length+4)) 0]] ver es hes 4 N ls f a;simp only[List.append_assoc,List.cons_append,List.nil_append,List.length_append,List.length_cons,List.length_nil,Nat.add_assoc,Nat.reduceAdd]at h;rcases f with⟨k',n',ls',ks'⟩;simp only[Te.cs,List.cons_append,List.nil_append]at h
 conv=>lhs;rw[Lh,zaq,zab,hdH]
 simp only[↓reduceIte,go_sem,Te.cs,zf0,steps_4,h,Lh,hdH]
end Go.Ab
end
section
set_option linter.unusedVariables false
set_option linter.unusedSimpArgs false
set_option maxRecDepth 100000
set_option maxHeartbeats 2000000
namespace Go.Ab
open Go.RowKit Go.Proofs
def sz(t:Te):Nat:=(subs t).length
theorem z0p{t:Te}(h:zcr t=true):sz t<=600:=by
 have:parts t 601<=600:=by unfold zcr zdn at h;simp at h;exact h.1
 have:=subs_parts t 601 (by omega)
 unfold sz;omega
theorem zwf{b v r:Te}(h:zm7 b v=(r,0)):zcr b=true/\zcr v=true/\r=openT v b 0/\zcr r=true:=by
 unfold zm7 at h
 split at h
 ·simp at h
 ·rename_i hh
  simp only[not_or,Bool.not_eq_false]at hh;unfold zwj at h
  split at h
  ·rename_i hs
   simp only[Prod.mk.injEq,and_true]at h;subst h;exact⟨hh.1,hh.2,rfl,hs⟩
  ·simp at h
mutual
theorem subs_subT(ps ms:List Lv):∀t:Te,(subs (subT ps ms t)).length=(subs t).length
 |.mk k n ls ks=>by rw[subT,subs,subs,List.length_cons,List.length_cons,subss_subT ps ms ks]
theorem subss_subT(ps ms:List Lv):∀ks:List Te,(subss (subTs ps ms ks)).length=(subss ks).length
 |[]=>rfl
 |x::r=>by rw[subTs,subss,subss,List.length_append,List.length_append,subs_subT ps ms x,subss_subT ps ms r]
end
theorem z21{t r:Te}{ps ms:List Lv}(h:zqy t ps ms=(r,0)):zcr t=true/\r=subT ps ms t/\okTm ps ms t=true:=by
 unfold zqy at h
 split at h
 ·simp at h
 ·rename_i hh
  simp only[not_or,Bool.not_eq_false]at hh
  split at h
  ·rename_i hs
   simp only[Prod.mk.injEq,and_true]at h;exact⟨hh.1,h.symm,hs⟩
  ·simp at h
theorem zrk{b v r:Te}(h:zm7 b v=(r,0)):sz r<=600:=z0p (zwf h).2.2.2
theorem z20{t r:Te}{ps ms:List Lv}(h:zqy t ps ms=(r,0)):sz r<=600:=by
 obtain⟨h1,rfl,_⟩:=z21 h;have:=z0p h1;unfold sz at *;rw[subs_subT];exact this
theorem zrw(N:Int)(ls:List Lv)(f a:Te):sz (.mk 4 N ls [f,a])=sz f+sz a+1:=by
 simp[sz,subs,subss]
theorem Hd.sz{env:List De}{n:Nat}{t t':Te}{n':Nat}(h:Hd env n t t' n'):sz t' + 600*n' <= sz t+600*n:=by
 induction h with
 |stuck=>exact Nat.le_refl _
 |lett ho _ ih=>have:=zrk ho;omega
 |const _ _ hs _ ih=>have:=z20 hs;omega
 |app _ _ ih=>rw[zrw,zrw];omega
 |beta h1 ho _ ih1 ih2=>have:=zrk ho;have:=h1.le;rw[zrw];omega
variable (A X : List AO) (env : List De) (n0 e0 : Int)
theorem z9v(hE:zvi env){n:Nat}{t t':Te}{n':Nat}(h:Hd env n t t' n'):t.ok->n<=1000000->∀(ver:Nat) (es:List Te),es.length+sz t+600*n<=1073741823->∃ver',ver<=ver' /\ Lh A X env n0 e0 n 0 ver es t=Lh A X env n0 e0 n' 0 ver' es t':=by
 induction h with
 |stuck=>exact fun _ _ ver es _=>⟨ver,Nat.le_refl _,rfl⟩
 |@lett n N ls s v b r t' n' ho hd ih=>
  intro ht hn ver es hs;have hb:=ht.all b (by simp)
  have hv:=ht.all v (by simp)
  have hz:=zrk ho;obtain⟨w,h1,h2⟩:=ih (zfw ho hb hv) (by omega) ver es (by omega)
  exact⟨w,h1,by rw[yig A X env n0 e0 n hn ver es N ls s v b hb hv r 0 ho,h2]⟩
 |@const n N ls ks d r t' n' hN hu hs hd ih=>
  intro ht hn ver es hz;have hz:=z20 hs;obtain⟨w,h1,h2⟩:=ih (zre hE ht hu hs) (by omega) ver es (by omega)
  exact⟨w,h1,by rw[z23 A X env n0 e0 hE n hn ver es N hN ls ht.all2 ht.len2 ks d hu r 0 hs,h2]⟩
 |@app n N ls f a f' n' hd hk ih=>
  intro ht hn ver es hs;rw[zrw]at hs;obtain⟨w,h1,h2⟩:=ih (ht.all f (by simp)) hn (ver+1) (es++[a]) (by simp;omega)
  obtain⟨w,rfl⟩:∃u,w=u+1:=⟨w - 1,by omega⟩
  exact⟨w,by omega,by rw[zvf A X env n0 e0 n ver es (by omega) N ls f a,h2,zvf A X env n0 e0 n' w es (by omega) 0 [] f' a]⟩
 |@beta n N ls f a N2 ls2 s b m r t' n' hd ho hd2 ih1 ih2=>
  intro ht hn ver es hs;rw[zrw]at hs;have hf:=ht.all f (by simp)
  have ha:=ht.all a (by simp)
  have hl:=hd.ok hE hf;have hle:=hd.le;have hb:=hl.all b (by simp)
  have hz:=zrk ho;obtain⟨w,h1,h2⟩:=ih1 hf hn (ver+1) (es++[a]) (by simp;omega)
  obtain⟨u,h3,h4⟩:=ih2 (zfw ho hb ha) (by omega) (w+1) es (by omega)
  exact⟨u,by omega,by rw[zvf A X env n0 e0 n ver es (by omega) N ls f a,h2,yih A X env n0 e0 m (by omega) w es (by omega) a ha N2 ls2 s b hb r 0 ho,h4]⟩
theorem nfP_ok{n:Nat}{t t':Te}{n':Nat}(h:Hd env n t t' n'):∀(m:Nat) (ver:Nat) (es:List Te),(t'.kind=5->es=[])->es.length+sz t' <= 1073741823->Lh A X env n0 e0 m 0 ver es t' = some (.ret (.agg (zo9 t' es).cs),A++(.box [.sl (De.css env),.int .i64 m,.int .i64 0]::X)):=by
 induction h with
 |@stuck n k N ls ks h4 h7 h3=>
  intro m ver es h5 hs;refine yii A X env n0 e0 m 0 ver es (by omega) k N ls ks (.inr ⟨rfl,?_⟩)
  by_cases k3:k=3
  ·exact .inr (.inl ⟨k3,h3 k3⟩)
  ·by_cases k5:k=5
   ·exact .inr (.inr ⟨k5,h5 k5⟩)
   ·exact .inl ⟨h7,k3,k5,h4⟩
 |lett _ _ ih=>exact ih
 |const _ _ _ _ ih=>exact ih
 |@app n N ls f a f' n' hd hk ih=>
  intro m ver es _ hs;rw[zrw]at hs;rw[zvf A X env n0 e0 m ver es (by omega) 0 [] f' a,ih m (ver+1) (es++[a]) (fun h=>absurd h hk) (by simp;omega),z3w]
 |beta _ _ _ _ ih=>exact ih
theorem heP_ok(hE:zvi env){n:Nat}{t:Te}{n':Nat}{e:Int}(h:He env n t n' e):t.ok->n<=1000000->∀(ver:Nat) (es:List Te),es.length+sz t+600*n<=1073741823 ->
  ∃x:Te,Lh A X env n0 e0 n 0 ver es t=some (.ret (.agg x.cs),A++(.box [.sl (De.css env),.int .i64 n',.int .i64 e]::X)):=by
 have fin:∀(m e:Int) (ver:Nat) (es:List Te) (x:Te),e≠0->es.length<=1073741824->∃y:Te,Lh A X env n0 e0 m e ver es x=some (.ret (.agg y.cs),A++(.box [.sl (De.css env),.int .i64 m,.int .i64 e]::X)):=by
  intro m e ver es x he hes;rcases x with⟨k,N,ls,ks⟩;exact⟨_,yii A X env n0 e0 m e ver es hes k N ls ks (.inl he)⟩
 induction h with
 |@let0 N ls s v b=>
  intro ht hn ver es hs;have:=Lh_let0 A X env n0 e0 ver es N ls [s,v,b];rw[Int.natCast_zero,this];exact fin 0 40 ver es _ (by decide) (by omega)
 |@let2 n N ls s v b r e ho he=>
  intro ht hn ver es hs;rw[yig A X env n0 e0 n hn ver es N ls s v b (ht.all b (by simp)) (ht.all v (by simp)) r e ho]
  exact fin n e ver es r he (by omega)
 |@letr n N ls s v b r n' e ho hd ih=>
  intro ht hn ver es hs;have hb:=ht.all b (by simp)
  have hv:=ht.all v (by simp)
  have hz:=zrk ho;rw[yig A X env n0 e0 n hn ver es N ls s v b hb hv r 0 ho];exact ih (zfw ho hb hv) (by omega) ver es (by omega)
 |@const0 N ls ks d hN hu=>
  intro ht hn ver es hs;have:=yij A X env n0 e0 ver es N hN ls ks d hu;rw[Int.natCast_zero,this];exact fin 0 40 ver es _ (by decide) (by omega)
 |@const2 n N ls ks d r e hN hu hs he=>
  intro ht hn ver es hz;rw[z23 A X env n0 e0 hE n hn ver es N hN ls ht.all2 ht.len2 ks d hu r e hs];exact fin n e ver es r he (by omega)
 |@constr n N ls ks d r n' e hN hu hs hd ih=>
  intro ht hn ver es hz;have hz:=z20 hs;rw[z23 A X env n0 e0 hE n hn ver es N hN ls ht.all2 ht.len2 ks d hu r 0 hs];exact ih (zre hE ht hu hs) (by omega) ver es (by omega)
 |@appf n N ls f a n' e hd ih=>
  intro ht hn ver es hs;rw[zrw]at hs;rw[zvf A X env n0 e0 n ver es (by omega) N ls f a]
  exact ih (ht.all f (by simp)) hn (ver+1) (es++[a]) (by simp;omega)
 |@beta0 n N ls f a N2 ls2 s b hd=>
  intro ht hn ver es hs;rw[zrw]at hs;obtain⟨w,h1,h2⟩:=z9v A X env n0 e0 hE hd (ht.all f (by simp)) hn (ver+1) (es++[a]) (by simp;omega)
  rw[zvf A X env n0 e0 n ver es (by omega) N ls f a,h2,Int.natCast_zero,Lh_lam0 A X env n0 e0 w es (by omega) a N2 ls2 [s,b]]
  exact fin 0 40 _ es _ (by decide) (by omega)
 |@beta2 n N ls f a N2 ls2 s b m r e hd ho he=>
  intro ht hn ver es hs;rw[zrw]at hs;have hf:=ht.all f (by simp)
  have ha:=ht.all a (by simp)
  have hl:=hd.ok hE hf;have hle:=hd.le;have hb:=hl.all b (by simp)
  obtain⟨w,h1,h2⟩:=z9v A X env n0 e0 hE hd hf hn (ver+1) (es++[a]) (by simp;omega)
  rw[zvf A X env n0 e0 n ver es (by omega) N ls f a,h2,yih A X env n0 e0 m (by omega) w es (by omega) a ha N2 ls2 s b hb r e ho]
  exact fin m e _ es r he (by omega)
 |@betar n N ls f a N2 ls2 s b m r n' e hd ho hd2 ih2=>
  intro ht hn ver es hs;rw[zrw]at hs;have hf:=ht.all f (by simp)
  have ha:=ht.all a (by simp)
  have hl:=hd.ok hE hf;have hle:=hd.le;have hb:=hl.all b (by simp)
  have hz:=zrk ho;obtain⟨w,h1,h2⟩:=z9v A X env n0 e0 hE hd hf hn (ver+1) (es++[a]) (by simp;omega)
  rw[zvf A X env n0 e0 n ver es (by omega) N ls f a,h2,yih A X env n0 e0 m (by omega) w es (by omega) a ha N2 ls2 s b hb r 0 ho]
  exact ih2 (zfw ho hb ha) (by omega) (w+1) es (by omega)
theorem ymt(hE:zvi env){n:Nat}{t t':Te}{n':Nat}(h:Hd env n t t' n')(ht:t.ok)(hs:sz t+600*n<=500000000):
  F za2 [.ptr A.length 0,.agg t.cs] (A++(.box [.sl (De.css env),.int .i64 n,.int .i64 0]::X))=some (.ret (.agg t'.cs),A++(.box [.sl (De.css env),.int .i64 n',.int .i64 0]::X)):=by
 obtain⟨w,_,h2⟩:=z9v A X env n 0 hE h ht (by omega) 0 [] (by simp;omega)
 have:=h.sz;rw[z8q,h2,nfP_ok A X env n 0 h n' w [] (fun _=>rfl) (by simp;omega),z62]
theorem ymu(hE:zvi env){n:Nat}{t:Te}{n':Nat}{e:Int}(h:He env n t n' e)(ht:t.ok)(hs:sz t+600*n<=500000000):
  ∃x:Te,F za2 [.ptr A.length 0,.agg t.cs] (A++(.box [.sl (De.css env),.int .i64 n,.int .i64 0]::X))=some (.ret (.agg x.cs),A++(.box [.sl (De.css env),.int .i64 n',.int .i64 e]::X)):=by
 rw[z8q];exact heP_ok A X env n 0 hE h ht (by omega) 0 [] (by simp;omega)
theorem yct(R:List AV)(hR:∀a∈R,Lt (A.length+(X.length+1)) a)(hE:zvi env){n:Nat}{t t':Te}{n':Nat}(h:Hd env n t t' n')(ht:t.ok)(hn:n<=1000000):
  F za1 [.ptr A.length 0,.agg t.cs] (A++(.box (.sl (De.css env) :: .int .i64 n :: .int .i64 0::R)::X))=some (.ret (.agg t'.cs),A++(.box (.sl (De.css env) :: .int .i64 n' :: .int .i64 0::R)::X)):=by
 rw[zls];exact ztd env hE h ht hn A X R hR n 0
theorem ycu(R:List AV)(hR:∀a∈R,Lt (A.length+(X.length+1)) a)(hE:zvi env){n:Nat}{t:Te}{n':Nat}{e:Int}(h:He env n t n' e)(ht:t.ok)(hn:n<=1000000):
  ∃x:Te,F za1 [.ptr A.length 0,.agg t.cs] (A++(.box (.sl (De.css env) :: .int .i64 n :: .int .i64 0::R)::X))=some (.ret (.agg x.cs),A++(.box (.sl (De.css env) :: .int .i64 n' :: .int .i64 e::R)::X)):=by
 obtain⟨x,_,h⟩:=ygd env hE h ht hn A X R hR n 0;exact⟨x,by rw[zls];exact h⟩
mutual
def wfT:Te->Bool
 |.mk k n ls ks=>decide ((ks.length:Int)=zd4 k) && (decide (k≠3) || decide (0<=n)) && wfTs ks
def wfTs:List Te->Bool
 |[]=>true
 |x::r=>wfT x && wfTs r
end
mutual
theorem right_wf{p m:Int}:∀{t:Te} {v d:Int},rightT p m t v d=true->wfT t=true
 |.mk k n ls ks,v,d,h=>by
  have hi:=zf2 h;obtain⟨h1,h2,h3,h4,h5⟩:=hi;rw[wfT];have:=right_wfs h5;simp only[this,Bool.and_true,Bool.and_eq_true,decide_eq_true_eq,Bool.or_eq_true];refine⟨h2,?_⟩;by_cases k3:k=3
  ·right
   subst k3;unfold zft at h4;simp at h4;exact h4.1.1
  ·exact .inl k3
theorem right_wfs{p m k:Int}:∀{ks:List Te} {i v d:Int},rightTs p m k ks i v d=true->wfTs ks=true
 |[],_,_,_,_=>rfl
 |x::r,i,v,d,h=>by
  rw[rightTs]at h;simp at h;rw[wfTs,right_wf h.1,right_wfs h.2];rfl
end
theorem z0o{t:Te}(h:zcr t=true):wfT t=true:=right_wf (zgg h)
mutual
theorem sub_wf(ps ms:List Lv):∀t:Te,wfT (subT ps ms t)=wfT t
 |.mk k n ls ks=>by
  rw[subT,wfT,wfT,subs_wf ps ms ks,zvu,List.length_map]
theorem subs_wf(ps ms:List Lv):∀ks:List Te,wfTs (subTs ps ms ks)=wfTs ks
 |[]=>rfl
 |x::r=>by rw[subTs,wfTs,wfTs,sub_wf ps ms x,subs_wf ps ms r]
end
theorem yao{t r:Te}{ps ms:List Lv}(h:zqy t ps ms=(r,0)):wfT r=true:=by
 obtain⟨h1,rfl,_⟩:=z21 h;rw[sub_wf];exact z0o h1
theorem zwe{b v r:Te}(h:zm7 b v=(r,0)):wfT r=true:=z0o (zwf h).2.2.2
theorem z0k{ks:List Te}(h:(ks.length:Int)=2):∃a b,ks=[a,b]:=by
 match ks,h with
 |[a,b],_=>exact⟨a,b,rfl⟩
 |[],h=>simp at h
 |[_],h=>simp at h
 |_::_::_::_,h=>simp at h;omega
theorem yat{ks:List Te}(h:(ks.length:Int)=3):∃a b c,ks=[a,b,c]:=by
 match ks,h with
 |[a,b,c],_=>exact⟨a,b,c,rfl⟩
 |[],h=>simp at h
 |[_],h=>simp at h
 |[_,_],h=>simp at h
 |_::_::_::_::_,h=>simp at h;omega
theorem zzu(env:List De):∀(n:Nat) (t:Te),wfT t=true->(∃t' n',Hd env n t t' n' /\ wfT t' = true)\/∃n' e,He env n t n' e:=by
 intro n
 induction n using Nat.strongRecOn with
 |ind n ihn=>
 intro t
 induction t using Te.ind with
 |h k N ls ks iht=>
 intro hw;have hw0:=hw;rw[wfT]at hw;simp only[Bool.and_eq_true,decide_eq_true_eq,Bool.or_eq_true]at hw;obtain⟨⟨hk,hN⟩,hks⟩:=hw;by_cases k7:k=7
 ·subst k7
  obtain⟨s,v,b,rfl⟩:=yat hk;rcases n with _|n
  ·exact .inr ⟨0,40,.let0⟩
  rcases ho:zm7 b v with⟨r,e⟩;by_cases he:e=0
  ·subst he
   rcases ihn n (by omega) r (zwe ho) with⟨t',n',h1,h2⟩|⟨n',e,h1⟩
   ·exact .inl ⟨t',n',.lett ho h1,h2⟩
   ·exact .inr ⟨n',e,.letr ho h1⟩
  ·exact .inr ⟨n,e,.let2 ho he⟩
 by_cases k4:k=4
 ·subst k4
  obtain⟨f,a,rfl⟩:=z0k hk;simp only[wfTs,Bool.and_eq_true]at hks;rcases iht f (by simp) hks.1 with⟨f',m,h1,h2⟩|⟨n',e,h1⟩
  ·rcases f' with⟨k2,N2,ls2,ks2⟩
   by_cases k5:k2=5
   ·subst k5
    have h3:=h2;rw[wfT]at h3;simp only[Bool.and_eq_true,decide_eq_true_eq]at h3;obtain⟨s,b,rfl⟩:=z0k h3.1.1;rcases m with _|m
    ·exact .inr ⟨0,40,.beta0 h1⟩
    have hle:=h1.le;rcases ho:zm7 b a with⟨r,e⟩;by_cases he:e=0
    ·subst he
     rcases ihn m (by omega) r (zwe ho) with⟨t',n',h4,h5⟩|⟨n',e,h4⟩
     ·exact .inl ⟨t',n',.beta h1 ho h4,h5⟩
     ·exact .inr ⟨n',e,.betar h1 ho h4⟩
    ·exact .inr ⟨m,e,.beta2 h1 ho he⟩
   ·refine .inl ⟨_,m,.app h1 k5,?_⟩
    rw[wfT];simp[wfTs,hks.2.1,h2,zd4]
  ·exact .inr ⟨n',e,.appf h1⟩
 by_cases k3:k=3
 ·subst k3
  have hN:0<=N:=by simpa using hN
  cases hu:zyk env N ls with
  |none=>exact .inl ⟨_,n,.stuck (by decide) (by decide) (fun _=>⟨hN,hu⟩),hw0⟩
  |some d=>
   rcases n with _|n
   ·exact .inr ⟨0,40,.const0 hN hu⟩
   rcases hs:zqy d.value ls [] with⟨r,e⟩;by_cases he:e=0
   ·subst he
    rcases ihn n (by omega) r (yao hs) with⟨t',n',h1,h2⟩|⟨n',e,h1⟩
    ·exact .inl ⟨t',n',.const hN hu hs h1,h2⟩
    ·exact .inr ⟨n',e,.constr hN hu hs h1⟩
   ·exact .inr ⟨n,e,.const2 hN hu hs he⟩
 ·exact .inl ⟨_,n,.stuck k4 k7 (fun h=>absurd h k3),hw0⟩
end Go.Ab
end
section
set_option linter.unusedVariables false
set_option linter.unusedSimpArgs false
set_option maxRecDepth 100000
set_option maxHeartbeats 2000000
namespace Go.Ab
open Go.RowKit Go.Proofs
structure Gr where
 env:List De
 params:Int
 metas:Int
 cons:List Co
 mode:Int
def Gr.cs(g:Gr):List AV:=[.sl (De.css g.env),.int .i64 g.params,.int .i64 g.metas,.sl (Co.css g.cons),.int .i64 g.mode]
noncomputable def zha(g:Gr)(s:Int×List Co)(a b:Lv):Bool×Int×List Co :=
 if s.1≠0 then (false,s)
 else if g.mode=2 then (if 100<=s.2.length then (false,2,s.2) else (true,0,s.2++[.mk a b]))
 else if (zed g.cons g.params && zaz a g.params 0 && zaz b g.params 0)=true then (z29 g.cons g.params.toNat a b,s)
 else (false,1,s.2)
def zk1(A:List AO)(g:Gr)(n e:Int)(ver:Nat)(out:List Co)(X:List AO):List AO :=
 A++(.lst ver 6 (Co.css out) :: .box ([.sl (De.css g.env),.int .i64 n,.int .i64 e]++(g.cs++[.ol A.length ver]))::X)
def zig(A:List AO)(g:Gr)(n e:Int)(ver:Nat)(out:List Co)(X:List AO):List AO :=
 A++(.box [.sl (De.css g.env),.int .i64 n,.int .i64 e] :: .lst 0 11 [] :: .lst 0 6 [] :: .lst ver 6 (Co.css out) :: .box (.ptr A.length 0::(g.cs++[.ol (A.length+3) ver]))::X)
theorem ymo(g:Gr)(f:Int)(H:List AO):F zp3 [.agg g.cs,.int .i64 f] H=some (.ret (.ptr (H.length+4) 0),zk1 (H++[.lst 0 11 [],.lst 0 11 [],.lst 0 6 []]) g f 0 0 [] []):=by
 have e:Co.css []=[]:=rfl;rw[z7z];simp only[↓reduceIte,go_sem,Gr.cs,zk1,e,List.append_assoc,List.cons_append,List.nil_append,List.length_append,List.length_cons,List.length_nil]
theorem NewP_ok(g:Gr)(f:Int)(H:List AO):F zto [.agg g.cs,.int .i64 f] H=some (.ret (.ptr (H.length+4) 0),zig H g f 0 0 [] []):=by
 have e:Co.css []=[]:=rfl;rw[yby];simp only[↓reduceIte,go_sem,Gr.cs,zig,e,List.append_assoc,List.cons_append,List.nil_append,List.length_append,List.length_cons,List.length_nil]
theorem ygj(N:Nat)(g:Gr):∀a∈g.cs,Lt N a:=by
 intro a ha;simp[Gr.cs]at ha;rcases ha with rfl|rfl|rfl|rfl|rfl
 ·exact .sl (zv9 N g.env)
 ·exact .int _ _
 ·exact .int _ _
 ·exact .sl (zrf N g.cons)
 ·exact .int _ _
theorem zsl(A X:List AO)(g:Gr)(ver:Nat)(out:List Co):∀a∈g.cs++[.ol A.length ver],Lt ((A++[AO.lst ver 6 (Co.css out)]).length+(X.length+1)) a:=by
 intro a ha;rcases List.mem_append.1 ha with h|h
 ·exact ygj _ g a h
 ·simp at h;subst h;exact .ol (by simp;omega)
theorem zgz(A X:List AO)(g:Gr)(n e:Int)(ver:Nat)(out:List Co):zk1 A g n e ver out X=(A++[.lst ver 6 (Co.css out)])++(.box (.sl (De.css g.env) :: .int .i64 n :: .int .i64 e::(g.cs++[.ol A.length ver]))::X):=by
 simp[zk1]
theorem z6g(g:Gr)(e:Int)(A X:List AO)(n:Int)(ver:Nat)(out:List Co):F zb9 [.ptr (A.length+1) 0,.int .i64 e] (zk1 A g n 0 ver out X)=some (.ret (.tup []),zk1 A g n e ver out X):=by
 have h:=z6h g.env n e (A++[.lst ver 6 (Co.css out)]) X (g.cs++[.ol A.length ver]) (zsl A X g ver out);have hl:(A++[AO.lst ver 6 (Co.css out)]).length=A.length+1:=by simp
 rw[<- zgz,<- zgz,hl]at h;exact h
theorem app_two{A Z:List AO}{o1 o1' o2 o2':AO}{n:Nat}(h1:LtO n o1')(h2:LtO n o2'):∀(id:Nat) (o:AO),(A++(o1' :: o2' :: Z))[id]?=some o->(A++(o1::o2::Z))[id]?=some o\/LtO n o:=by
 intro id o ho;by_cases hi:id<A.length
 ·rw[List.getElem?_append_left hi]at ho ⊢;exact .inl ho
 rw[List.getElem?_append_right (by omega)]at ho ⊢
 match hj:id - A.length,ho with
 |0,ho=>simp at ho;subst ho;exact .inr h1
 |1,ho=>simp at ho;subst ho;exact .inr h2
 |j+2,ho=>exact .inl ho
theorem z96(n ver:Nat)(out:List Co):LtO n (.lst ver 6 (Co.css out)):=zrf n out
theorem z95(A X:List AO)(g:Gr)(n e:Int)(ver:Nat)(out:List Co)(n' e':Int)(ver':Nat)(out':List Co)(r:Res)(hr:LtR (zk1 A g n e ver out X).length r):ze0 (zk1 A g n e ver out X) r (zk1 A g n' e' ver' out' X)=some (r,zk1 A g n' e' ver' out' X):=by
 refine zrb (by simp[zk1]) hr ?_
 unfold zk1;refine app_two (z96 _ _ _) fun a ha=>?_
 rcases List.mem_append.1 ha with h|h
 ·simp at h
  rcases h with rfl|rfl|rfl
  ·exact .sl (zv9 _ g.env)
  ·exact .int _ _
  ·exact .int _ _
 ·rcases List.mem_append.1 h with h|h
  ·exact ygj _ g a h
  ·simp at h;subst h;exact .ol (by simp)
theorem zfe(A X:List AO)(g:Gr)(n e:Int)(ver:Nat)(out:List Co)(n' e':Int)(ver':Nat)(out':List Co)(b:Bool):ze0 (zk1 A g n e ver out X) (.ret (.bool b)) (zk1 A g n' e' ver' out' X)=some (.ret (.bool b),zk1 A g n' e' ver' out' X) :=
 z95 A X g n e ver out n' e' ver' out' _ (.bool b)
theorem z24(g:Gr)(hcons:∀c∈g.cons,c.ok)(hl:g.cons.length<=1000)(hmode:g.mode=1\/g.mode=2)(a b:Lv)(ha:a.ok)(hb:b.ok)(A X:List AO)(n e:Int)(ver:Nat)(out:List Co)(ho:out.length<=100):
  ∃ver',F zdb [.ptr (A.length+1) 0,.agg a.cs,.agg b.cs] (zk1 A g n e ver out X)=some (.ret (.bool (zha g (e,out) a b).1),zk1 A g n (zha g (e,out) a b).2.1 ver' (zha g (e,out) a b).2.2 X):=by
 rw[zsh];by_cases h1:e=0
 ·subst h1
  rcases hmode with h2|h2
  ·have hm:¬ g.mode=2:=by omega
   by_cases h3:(zed g.cons g.params && zaz a g.params 0 && zaz b g.params 0)=true
   ·have e1:zha g (0,out) a b=(z29 g.cons g.params.toNat a b,0,out):=by
     unfold zha;rw[if_neg (by simp),if_neg hm,if_pos h3]
    simp only[Bool.and_eq_true]at h3;have hp:g.params=(g.params.toNat:Int):=by
     have:=h3.1.1;simp only[zed,Bool.and_eq_true,decide_eq_true_eq]at this;omega
    obtain⟨vs,hL⟩:=ymr g.cons hcons g.params.toNat a b ha hb (by rw[<- hp];exact h3.1.1) (by rw[<- hp];exact h3.1.2) (by rw[<- hp];exact h3.2) (zk1 A g n 0 ver out X)
    rw[<- hp]at hL;rw[e1];refine⟨ver,?_⟩;have hfin:=fun b=>zfe A X g n 0 ver out n 0 ver out b
    simp only[zk1,Gr.cs,List.cons_append,List.nil_append,h2]at hL hfin;simp only[↓reduceIte,go_sem,zk1,Gr.cs,h2,hL,show ¬ (1:Int)=2 by omega]
    cases z29 g.cons g.params.toNat a b
    ·simp
    ·simp
   ·have e1:zha g (0,out) a b=(false,1,out):=by
     unfold zha;rw[if_neg (by simp),if_neg hm,if_neg h3]
    have hL:=yms g.cons hcons (by omega) g.params a b ha hb (by simpa using h3) (zk1 A g n 0 ver out X)
    have hF:=z6g g 1 A X n ver out;have hfin:=zfe A X g n 0 ver out n 1 ver out false;rw[e1];refine⟨ver,?_⟩;simp only[zk1,Gr.cs,List.cons_append,List.nil_append,h2]at hL hfin hF;simp only[↓reduceIte,go_sem,zk1,Gr.cs,h2,hL,hF,show ¬ (1:Int)=2 by omega]
    exact hfin
  ·have e1:zha g (0,out) a b=if 100<=out.length then (false,2,out) else (true,0,out++[.mk a b]):=by
    unfold zha;rw[if_neg (by simp),if_pos h2]
   rw[e1];by_cases h3:100<=out.length
   ·simp only[if_pos h3]
    have hF:=z6g g 2 A X n ver out;simp only[zk1,Gr.cs,List.cons_append,List.nil_append,h2]at hF;refine⟨ver,?_⟩;simp only[↓reduceIte,go_sem,zk1,Gr.cs,h2,show (100:Int)<=out.length by omega,hF]
    have hfin:=zfe A X g n 0 ver out n 2 ver out false;simp only[zk1,Gr.cs,List.cons_append,List.nil_append,h2]at hfin;exact hfin
   ·simp only[if_neg h3]
    rcases a with⟨k1,n1,ks1⟩;rcases b with⟨k2,n2,ks2⟩;have hcs:Co.css out++[[.int .i64 k1,.int .i64 n1,.sl (Lv.css ks1),.int .i64 k2,.int .i64 n2,.sl (Lv.css ks2)]]=Co.css (out++[.mk (.mk k1 n1 ks1) (.mk k2 n2 ks2)]):=by simp[Co.css,Co.cs,Co.a,Co.b,Lv.cs]
    refine⟨ver+1,?_⟩;simp only[↓reduceIte,go_sem,zk1,Gr.cs,Lv.cs,h2,show ¬ (100:Int)<=out.length by omega,show out.length<=1073741823 by omega,hcs]
    have hfin:=zfe A X g n 0 ver out n 0 (ver+1) (out++[.mk (.mk k1 n1 ks1) (.mk k2 n2 ks2)]) true;simp only[zk1,Gr.cs,List.cons_append,List.nil_append,h2]at hfin;exact hfin
 ·have e1:zha g (e,out) a b=(false,e,out):=by unfold zha;rw[if_pos h1]
  rw[e1];refine⟨ver,?_⟩;simp only[↓reduceIte,go_sem,zk1,Gr.cs,h1]
theorem yl5{A Z:List AO}{o1 o1' o4 o4' o5 o5' b2 b3:AO}{n:Nat}(h1:LtO n o1')(h4:LtO n o4')(h5:LtO n o5'):∀(id:Nat) (o:AO),(A++(o1' :: b2::b3::o4' :: o5' :: Z))[id]?=some o->(A++(o1::b2::b3::o4::o5::Z))[id]?=some o\/LtO n o:=by
 intro id o ho;by_cases hi:id<A.length
 ·rw[List.getElem?_append_left hi]at ho ⊢;exact .inl ho
 rw[List.getElem?_append_right (by omega)]at ho ⊢
 match hj:id - A.length,ho with
 |0,ho=>simp at ho;subst ho;exact .inr h1
 |1,ho=>exact .inl ho
 |2,ho=>exact .inl ho
 |3,ho=>simp at ho;subst ho;exact .inr h4
 |4,ho=>simp at ho;subst ho;exact .inr h5
 |j+5,ho=>exact .inl ho
theorem z9c(A X:List AO)(g:Gr)(n e:Int)(ver:Nat)(out:List Co)(n' e':Int)(ver':Nat)(out':List Co)(r:Res)(hr:LtR (zig A g n e ver out X).length r):ze0 (zig A g n e ver out X) r (zig A g n' e' ver' out' X)=some (r,zig A g n' e' ver' out' X):=by
 refine zrb (by simp[zig]) hr ?_
 unfold zig;refine yl5 (zqb _ _ _ _) (z96 _ _ _) fun a ha=>?_
 rcases List.mem_cons.1 ha with rfl|h
 ·exact .ptr (by simp)
 ·rcases List.mem_append.1 h with h|h
  ·exact ygj _ g a h
  ·simp at h;subst h;exact .ol (by simp)
theorem zdm(A X:List AO)(g:Gr)(n e:Int)(ver:Nat)(out:List Co)(n' e':Int)(ver':Nat)(out':List Co)(b:Bool):ze0 (zig A g n e ver out X) (.ret (.bool b)) (zig A g n' e' ver' out' X)=some (.ret (.bool b),zig A g n' e' ver' out' X) :=
 z9c A X g n e ver out n' e' ver' out' _ (.bool b)
theorem zyg(g:Gr)(hcons:∀c∈g.cons,c.ok)(hl:g.cons.length<=1000)(hmode:g.mode=1\/g.mode=2)(a b:Lv)(ha:a.ok)(hb:b.ok)(A X:List AO)(n e:Int)(ver:Nat)(out:List Co)(ho:out.length<=100):
  ∃ver',F zdx [.ptr (A.length+4) 0,.agg a.cs,.agg b.cs] (zig A g n e ver out X)=some (.ret (.bool (zha g (e,out) a b).1),zig A g n (zha g (e,out) a b).2.1 ver' (zha g (e,out) a b).2.2 X):=by
 have hF:=fun e=>z25 g.env n e A (.lst 0 11 [] :: .lst 0 6 [] :: .lst ver 6 (Co.css out) :: .box (.ptr A.length 0::(g.cs++[.ol (A.length+3) ver]))::X)
 rw[ztm];by_cases h1:e=0
 ·subst h1
  rcases hmode with h2|h2
  ·have hm:¬ g.mode=2:=by omega
   by_cases h3:(zed g.cons g.params && zaz a g.params 0 && zaz b g.params 0)=true
   ·have e1:zha g (0,out) a b=(z29 g.cons g.params.toNat a b,0,out):=by
     unfold zha;rw[if_neg (by simp),if_neg hm,if_pos h3]
    simp only[Bool.and_eq_true]at h3;have hp:g.params=(g.params.toNat:Int):=by
     have:=h3.1.1;simp only[zed,Bool.and_eq_true,decide_eq_true_eq]at this;omega
    obtain⟨vs,hL⟩:=LeqP_ok g.cons hcons g.params.toNat a b ha hb (by rw[<- hp];exact h3.1.1) (by rw[<- hp];exact h3.1.2) (by rw[<- hp];exact h3.2) (zig A g n 0 ver out X)
    rw[<- hp]at hL;rw[e1];refine⟨ver,?_⟩;have hfin:=fun b=>zdm A X g n 0 ver out n 0 ver out b
    simp only[zig,Gr.cs,List.cons_append,List.nil_append,h2]at hL hfin;simp only[↓reduceIte,go_sem,zig,Gr.cs,h2,hL,hfin,show ¬ (1:Int)=2 by omega]
   ·have e1:zha g (0,out) a b=(false,1,out):=by
     unfold zha;rw[if_neg (by simp),if_neg hm,if_neg h3]
    have hL:=LeqP_er g.cons hcons (by omega) g.params a b ha hb (by simpa using h3) (zig A g n 0 ver out X)
    have hfin:=zdm A X g n 0 ver out n 1 ver out false;rw[e1];refine⟨ver,?_⟩;simp only[zig,Gr.cs,List.cons_append,List.nil_append,h2]at hL hfin hF;simp only[↓reduceIte,go_sem,zig,Gr.cs,h2,hL,hF,hfin,show ¬ (1:Int)=2 by omega]
  ·have e1:zha g (0,out) a b=if 100<=out.length then (false,2,out) else (true,0,out++[.mk a b]):=by
    unfold zha;rw[if_neg (by simp),if_pos h2]
   rw[e1];by_cases h3:100<=out.length
   ·have h4:out.length=100:=by omega
    simp only[if_pos h3];have hfin:=zdm A X g n 0 ver out n 2 ver out false;simp only[zig,Gr.cs,List.cons_append,List.nil_append,h2]at hF hfin;refine⟨ver,?_⟩;simp only[↓reduceIte,go_sem,zig,Gr.cs,h2,h4,hF,hfin,show ¬ (2:Int)=1 by omega]
   ·simp only[if_neg h3]
    rcases a with⟨k1,n1,ks1⟩;rcases b with⟨k2,n2,ks2⟩;have hcs:Co.css out++[[.int .i64 k1,.int .i64 n1,.sl (Lv.css ks1),.int .i64 k2,.int .i64 n2,.sl (Lv.css ks2)]]=Co.css (out++[.mk (.mk k1 n1 ks1) (.mk k2 n2 ks2)]):=by simp[Co.css,Co.cs,Co.a,Co.b,Lv.cs]
    have hfin:=zdm A X g n 0 ver out n 0 (ver+1) (out++[.mk (.mk k1 n1 ks1) (.mk k2 n2 ks2)]) true;simp only[zig,Gr.cs,List.cons_append,List.nil_append,h2]at hfin;refine⟨ver+1,?_⟩;simp only[↓reduceIte,go_sem,zig,Gr.cs,Lv.cs,h2,show ¬ (out.length:Int)=100 by omega,show out.length<=1073741823 by omega,hcs,hfin,show ¬ (2:Int)=1 by omega]
 ·have e1:zha g (e,out) a b=(false,e,out):=by unfold zha;rw[if_pos h1]
  rw[e1];refine⟨ver,?_⟩;simp only[↓reduceIte,go_sem,zig,Gr.cs,h1]
end Go.Ab
end
section
set_option linter.unusedVariables false
set_option linter.unusedSimpArgs false
set_option maxRecDepth 100000
set_option maxHeartbeats 2000000
namespace Go.Ab
open Go.RowKit Go.Proofs
theorem zpd(g:Gr)(s:Int×List Co)(a b:Lv)(h:s.2.length<=100):(zha g s a b).2.2.length<=100:=by
 unfold zha
 split
 ·exact h
 split
 ·split
  ·exact h
  ·simp;omega
 split <;> exact h
noncomputable def zpt(g:Gr)(s:Int×List Co)(a b:Lv):Bool×Int×List Co :=
 if (zha g s a b).1=true then zha g (zha g s a b).2 b a else (false,(zha g s a b).2)
noncomputable def zle(g:Gr):Int×List Co->List Lv->List Lv->Bool×Int×List Co
 |s,a::xs,b::ys=>if (zpt g s a b).1=true then zle g (zpt g s a b).2 xs ys else (false,(zpt g s a b).2)
 |s,_,_=>(true,s)
theorem z5z(g:Gr)(s:Int×List Co)(a b:Lv)(h:s.2.length<=100):(zpt g s a b).2.2.length<=100:=by
 have h1:=zpd g s a b h;unfold zpt
 split
 ·exact zpd g _ b a h1
 ·exact h1
theorem yhq(g:Gr)(hcons:∀c∈g.cons,c.ok)(hl:g.cons.length<=1000)(hmode:g.mode=1\/g.mode=2)(a b:Lv)(ha:a.ok)(hb:b.ok)(A X:List AO)(n e:Int)(ver:Nat)(out:List Co)(ho:out.length<=100):
  ∃ver',F zeq [.ptr (A.length+1) 0,.agg a.cs,.agg b.cs] (zk1 A g n e ver out X)=some (.ret (.bool (zpt g (e,out) a b).1),zk1 A g n (zpt g (e,out) a b).2.1 ver' (zpt g (e,out) a b).2.2 X):=by
 obtain⟨v1,h1⟩:=z24 g hcons hl hmode a b ha hb A X n e ver out ho;obtain⟨v2,h2⟩:=z24 g hcons hl hmode b a hb ha A X n (zha g (e,out) a b).2.1 v1 (zha g (e,out) a b).2.2 (zpd g _ a b ho);have hfin:=fun n' e' ver' out' b=>zfe A X g n e ver out n' e' ver' out' b
 rw[zrq];unfold zpt
 cases hc:(zha g (e,out) a b).1
 ·rw[hc]at h1
  refine⟨v1,?_⟩;simp only[↓reduceIte,go_sem,h1,hfin]
 ·rw[hc]at h1
  refine⟨v2,?_⟩;simp only[↓reduceIte,go_sem,h1,h2,hfin]
theorem ymc(g:Gr)(hcons:∀c∈g.cons,c.ok)(hl:g.cons.length<=1000)(hmode:g.mode=1\/g.mode=2)(P Q:List Lv)(hP:∀x∈P,x.ok)(hQ:∀x∈Q,x.ok)(hlen:P.length=Q.length)(hb:P.length<=140737488355328)(A X:List AO)(n e:Int)(ver:Nat)(out:List Co)(ho:out.length<=100):
  ∃ver',F zfc [.ptr (A.length+1) 0,.sl (Lv.css P),.sl (Lv.css Q)] (zk1 A g n e ver out X)=some (.ret (.bool (zle g (e,out) P Q).1),zk1 A g n (zle g (e,out) P Q).2.1 ver' (zle g (e,out) P Q).2.2 X):=by
 have hfin:=fun n' e' ver' out' b=>zfe A X g n e ver out n' e' ver' out' b
 have loop:∀(p q ps qs:List Lv),P=ps++p->Q=qs++q->ps.length=qs.length->∀(v1:Nat) (s:Int×List Co),s.2.length<=100->∃ver',
   zdo (zk1 A g n e ver out X) (zk1 A g n s.1 v1 s.2 X) (.ptr (A.length+1) 0) (.sl (Lv.css P)) (.sl (Lv.css Q)) (.int .i64 ps.length)=some (.ret (.bool (zle g s p q).1),zk1 A g n (zle g s p q).2.1 ver' (zle g s p q).2.2 X):=by
  intro p
  induction p with
  |nil=>
   intro q ps qs h1 h2 h3 v1 s hs;rw[List.append_nil]at h1;subst h1;refine⟨v1,?_⟩;rw[zdo,zab];simp only[↓reduceIte,go_sem,hfin,zle]
  |cons a p ih=>
   intro q ps qs h1 h2 h3 v1 s hs
   cases q with
   |nil=>rw[h1,h2]at hlen;simp at hlen;omega
   |cons b q=>
   have ha:=hP a (by rw[h1];simp)
   have hbb:=hQ b (by rw[h2];simp)
   have hga:P[ps.length]?=some a:=by rw[h1];simp
   have hgb:Q[ps.length]?=some b:=by rw[h2,h3];simp
   have hpl:ps.length<P.length:=by rw[h1];simp
   obtain⟨v2,hB⟩:=yhq g hcons hl hmode a b ha hbb A X n s.1 v1 s.2 hs;obtain⟨v3,h4⟩:=ih q (ps++[a]) (qs++[b]) (by rw[h1];simp) (by rw[h2];simp) (by simp[h3]) v2 (zpt g s a b).2 (z5z g s a b hs)
   simp only[zag]at h4;rw[zle]
   cases hc:(zpt g s a b).1
   ·rw[show ((s.1,s.2):Int×List Co)=s from rfl,hc]at hB
    refine⟨v2,?_⟩;rw[zdo,zab];simp only[↓reduceIte,go_sem,show (ps.length:Int)<(P.length:Int) by omega,hga,hgb,hB,hfin]
   ·rw[show ((s.1,s.2):Int×List Co)=s from rfl,hc]at hB
    refine⟨v3,?_⟩;rw[zdo,zab];simp only[↓reduceIte,go_sem,show (ps.length:Int)<(P.length:Int) by omega,hga,hgb,hB,hfin,zac (n:=ps.length) (by omega),h4]
 obtain⟨v,h⟩:=loop P Q [] [] rfl rfl rfl ver (e,out) ho;refine⟨v,?_⟩;rw[zsg];simp only[↓reduceIte,go_sem];exact h
theorem zxd(g:Gr)(hcons:∀c∈g.cons,c.ok)(hl:g.cons.length<=1000)(hmode:g.mode=1\/g.mode=2)(P Q:List Lv)(hP:∀x∈P,x.ok)(hQ:∀x∈Q,x.ok)(hlen:P.length=Q.length)(hb:P.length<=140737488355328)(k1 n1 k2 n2:Int)(ks1 ks2:List Te)(m:AV)(A X:List AO)(n e:Int)(ver:Nat)(out:List Co)(ho:out.length<=100):
  ∃ver',F zbx [.ptr (A.length+4) 0,.agg (Te.mk k1 n1 P ks1).cs,.agg (Te.mk k2 n2 Q ks2).cs,m] (zig A g n e ver out X)=some (.ret (.bool (zle g (e,out) P Q).1),zig A g n (zle g (e,out) P Q).2.1 ver' (zle g (e,out) P Q).2.2 X):=by
 have hfin:=fun n' e' ver' out' b=>zdm A X g n e ver out n' e' ver' out' b
 have loop:∀(p q ps qs:List Lv),P=ps++p->Q=qs++q->ps.length=qs.length->∀(v1:Nat) (s:Int×List Co),s.2.length<=100->∃ver',
   zb4 (zig A g n e ver out X) (zig A g n s.1 v1 s.2 X) (.ptr (A.length+4) 0) (.sl (Lv.css P)) (.int .i64 P.length) (.int .i64 ps.length) (Te.mk k2 n2 Q ks2).cs=some (.ret (.bool (zle g s p q).1),zig A g n (zle g s p q).2.1 ver' (zle g s p q).2.2 X):=by
  intro p
  induction p with
  |nil=>
   intro q ps qs h1 h2 h3 v1 s hs;rw[List.append_nil]at h1;subst h1;refine⟨v1,?_⟩;rw[zb4,zab];simp only[↓reduceIte,go_sem,Te.cs,hfin,zle]
  |cons a p ih=>
   intro q ps qs h1 h2 h3 v1 s hs
   cases q with
   |nil=>rw[h1,h2]at hlen;simp at hlen;omega
   |cons b q=>
   have ha:=hP a (by rw[h1];simp)
   have hbb:=hQ b (by rw[h2];simp)
   have hga:P[ps.length]?=some a:=by rw[h1];simp
   have hgb:Q[ps.length]?=some b:=by rw[h2,h3];simp
   have hpl:ps.length<P.length:=by rw[h1];simp
   obtain⟨v2,hB⟩:=zyg g hcons hl hmode a b ha hbb A X n s.1 v1 s.2 hs;obtain⟨v3,hC⟩:=zyg g hcons hl hmode b a hbb ha A X n (zha g s a b).2.1 v2 (zha g s a b).2.2 (zpd g s a b hs);obtain⟨v4,h4⟩:=ih q (ps++[a]) (qs++[b]) (by rw[h1];simp) (by rw[h2];simp) (by simp[h3]) v3 (zha g (zha g s a b).2 b a).2 (zpd g _ b a (zpd g s a b hs))
   simp only[zag,Te.cs]at h4;rw[show ((s.1,s.2):Int×List Co)=s from rfl]at hB
   rw[show (((zha g s a b).2.1,(zha g s a b).2.2):Int×List Co)=(zha g s a b).2 from rfl]at hC
   rw[zle,zpt]
   cases hc:(zha g s a b).1
   ·rw[hc]at hB
    refine⟨v2,?_⟩;rw[zb4,zab];simp only[↓reduceIte,go_sem,Te.cs,show (ps.length:Int)<(P.length:Int) by omega,hga,hgb,hB,hfin]
   ·rw[hc]at hB
    cases hd:(zha g (zha g s a b).2 b a).1
    ·rw[hd]at hC
     refine⟨v3,?_⟩;rw[zb4,zab];simp only[↓reduceIte,go_sem,Te.cs,show (ps.length:Int)<(P.length:Int) by omega,hga,hgb,hB,hC,hd,hfin]
    ·rw[hd]at hC
     refine⟨v4,?_⟩;rw[zb4,zab];simp only[↓reduceIte,go_sem,Te.cs,show (ps.length:Int)<(P.length:Int) by omega,hga,hgb,hB,hC,hd,hfin,zac (n:=ps.length) (by omega),h4]
 obtain⟨v,h⟩:=loop P Q [] [] rfl rfl rfl ver (e,out) ho;refine⟨v,?_⟩;simp only[Te.cs,List.length_nil,Int.natCast_zero]at h;rw[zqs];simp only[↓reduceIte,go_sem,Te.cs];exact h
end Go.Ab
end
section
set_option linter.unusedVariables false
set_option linter.unusedSimpArgs false
set_option maxRecDepth 100000
set_option maxHeartbeats 2000000
namespace Go.Ab
open Go.RowKit Go.Proofs
def zyi(t:Te):Te:=.mk 4 0 [] [(zhk t 0 1).1,.mk 1 0 [] []]
theorem ymm(g:Gr)(t:Te)(e:Int)(A X:List AO)(n:Int)(ver:Nat)(out:List Co):F zb2 [.ptr (A.length+1) 0,.agg t.cs,.int .i64 e] (zk1 A g n 0 ver out X)=some (.ret (.agg t.cs),zk1 A g n e ver out X):=by
 have h:=ze4 g.env t n e (A++[.lst ver 6 (Co.css out)]) X (g.cs++[.ol A.length ver]) (zsl A X g ver out);have hl:(A++[AO.lst ver 6 (Co.css out)]).length=A.length+1:=by simp
 rw[<- zgz,<- zgz,hl]at h;exact h
theorem zv8(g:Gr)(t:Te)(ht:t.ok)(A X:List AO)(n:Int)(ver:Nat)(out:List Co):F zd8 [.ptr (A.length+1) 0,.agg t.cs] (zk1 A g n 0 ver out X)=some (.ret (.agg (zyi t).cs),zk1 A g n (zhk t 0 1).2 ver out X):=by
 have hL:=fun H=>z6e t ht 0 1 H
 rcases hq:zhk t 0 1 with⟨u,e⟩;rw[hq]at hL;have hP:=ymm g u e A X n ver out;have hfin:=fun r hr=>z95 A X g n 0 ver out n e ver out r hr
 rw[zsf,zyi,hq];rcases u with⟨k,N,ls,ks⟩;simp only[Te.cs]at hP;simp only[zj7,Te.cs]at hL;simp only[↓reduceIte,go_sem,hL,hP,Te.cs,Te.css];exact hfin _ (.agg (zux _ (.mk 4 0 [] [.mk k N ls ks,.mk 1 0 [] []])))
theorem zts(g:Gr)(t:Te)(ht:t.ok)(hk:t.kind≠5)(A X:List AO)(n:Int)(ver:Nat)(out:List Co):F zdc [.ptr (A.length+4) 0,.agg t.cs] (zig A g n 0 ver out X)=some (.ret (.agg (zyi t).cs),zig A g n (zhk t 0 1).2 ver out X):=by
 have hL:=fun H=>ymq t ht 0 1 H
 rcases hq:zhk t 0 1 with⟨u,e⟩;rw[hq]at hL;have hP:=z22 g.env u n e A (.lst 0 11 [] :: .lst 0 6 [] :: .lst ver 6 (Co.css out) :: .box (.ptr A.length 0::(g.cs++[.ol (A.length+3) ver]))::X);have hfin:=fun r hr=>z9c A X g n 0 ver out n e ver out r hr
 rcases t with⟨k,N,ls,ks⟩;rcases u with⟨k2,N2,ls2,ks2⟩;have hk:¬ k=5:=hk;rw[zm0,zyi,hq];simp only[Te.cs,Gr.cs,List.cons_append,List.nil_append]at hP;simp only[zj7,Te.cs]at hL;simp only[↓reduceIte,go_sem,zig,Gr.cs,hk,hL,hP,Te.cs,Te.css];have h:=hfin (.ret (.agg (Te.mk 4 0 [] [.mk k2 N2 ls2 ks2,.mk 1 0 [] []]).cs)) (Lt.agg (zux _ (.mk 4 0 [] [.mk k2 N2 ls2 ks2,.mk 1 0 [] []])));simp only[zig,Gr.cs,Te.cs,Te.css,List.cons_append,List.nil_append]at h;exact h
theorem zri(g:Gr)(N:Int)(ls:List Lv)(s b:Te)(A X:List AO)(n e:Int)(ver:Nat)(out:List Co):F zdc [.ptr (A.length+4) 0,.agg (Te.mk 5 N ls [s,b]).cs] (zig A g n e ver out X)=some (.ret (.agg b.cs),zig A g n e ver out X):=by
 rw[zm0];simp only[↓reduceIte,go_sem,Te.cs,Te.css]
end Go.Ab
end
section
set_option linter.unusedVariables false
set_option linter.unusedSimpArgs false
set_option maxRecDepth 100000
set_option maxHeartbeats 2000000
namespace Go.Ab
open Go.RowKit Go.Proofs
inductive Al (g:Gr):Nat->List Co->Te->Te->Bool->Bool->Nat->Int->List Co->Prop
 |burn0 {out:List Co} {a b:Te} {most:Bool}:Al g 0 out a b most false 0 40 out
 |headA {n:Nat} {out:List Co} {a b:Te} {most:Bool} {n':Nat} {e:Int}:He g.env n a n' e->Al g (n+1) out a b most false n' e out
 |headB {n:Nat} {out:List Co} {a b a':Te} {most:Bool} {n1 n':Nat} {e:Int}:Hd g.env n a a' n1->He g.env n1 b n' e->Al g (n+1) out a b most false n' e out
 |lam2 {n:Nat} {out:List Co} {a b s x s' y:Te} {N N':Int} {ls ls':List Lv} {most r:Bool} {n1 n2 n':Nat} {e:Int} {out':List Co}:Hd g.env n a (.mk 5 N ls [s,x]) n1->Hd g.env n1 b (.mk 5 N' ls' [s',y]) n2->Al g n2 out x y false r n' e out' -> Al g (n+1) out a b most r n' e out'
 |lamL {n:Nat} {out:List Co} {a b b' s x:Te} {N:Int} {ls:List Lv} {most r:Bool} {n1 n2 n':Nat} {e:Int} {out':List Co}:Hd g.env n a (.mk 5 N ls [s,x]) n1->Hd g.env n1 b b' n2->b'.kind≠5->(zhk b' 0 1).2=0->Al g n2 out x (zyi b') false r n' e out' -> Al g (n+1) out a b most r n' e out'
 |lamLe {n:Nat} {out:List Co} {a b b' s x:Te} {N:Int} {ls:List Lv} {most:Bool} {n1 n2:Nat}:Hd g.env n a (.mk 5 N ls [s,x]) n1->Hd g.env n1 b b' n2->b'.kind≠5->(zhk b' 0 1).2≠0->Al g (n+1) out a b most false n2 (zhk b' 0 1).2 out
 |lamR {n:Nat} {out:List Co} {a b a' s y:Te} {N:Int} {ls:List Lv} {most r:Bool} {n1 n2 n':Nat} {e:Int} {out':List Co}:Hd g.env n a a' n1->a'.kind≠5->Hd g.env n1 b (.mk 5 N ls [s,y]) n2->(zhk a' 0 1).2=0->Al g n2 out (zyi a') y false r n' e out' -> Al g (n+1) out a b most r n' e out'
 |lamRe {n:Nat} {out:List Co} {a b a' s y:Te} {N:Int} {ls:List Lv} {most:Bool} {n1 n2:Nat}:Hd g.env n a a' n1->a'.kind≠5->Hd g.env n1 b (.mk 5 N ls [s,y]) n2->(zhk a' 0 1).2≠0->Al g (n+1) out a b most false n2 (zhk a' 0 1).2 out
 |other {n:Nat} {out:List Co} {a b:Te} {k N k' N':Int} {ls ls':List Lv} {ks ks':List Te} {most:Bool} {n1 n2:Nat}:Hd g.env n a (.mk k N ls ks) n1->k≠5->Hd g.env n1 b (.mk k' N' ls' ks') n2->k' ≠ 5->(k≠k' \/ N≠N' \/ ls.length≠ls'.length)->Al g (n+1) out a b most false n2 0 out
 |var {n:Nat} {out:List Co} {a b:Te} {N:Int} {ls ls':List Lv} {ks ks':List Te} {most:Bool} {n1 n2:Nat}:Hd g.env n a (.mk 1 N ls ks) n1->Hd g.env n1 b (.mk 1 N ls' ks') n2->ls.length=ls'.length->Al g (n+1) out a b most true n2 0 out
 |sortM {n:Nat} {out:List Co} {a b:Te} {N:Int} {x y:Lv} {ks ks':List Te} {n1 n2:Nat}:Hd g.env n a (.mk 2 N [x] ks) n1->Hd g.env n1 b (.mk 2 N [y] ks') n2->Al g (n+1) out a b true (zha g (0,out) x y).1 n2 (zha g (0,out) x y).2.1 (zha g (0,out) x y).2.2
 |lvls {n:Nat} {out:List Co} {a b:Te} {k N:Int} {ls ls':List Lv} {ks ks':List Te} {most:Bool} {n1 n2:Nat}:(k=2/\most=false\/k=3)->Hd g.env n a (.mk k N ls ks) n1->Hd g.env n1 b (.mk k N ls' ks') n2->ls.length=ls'.length->Al g (n+1) out a b most (zle g (0,out) ls ls').1 n2 (zle g (0,out) ls ls').2.1 (zle g (0,out) ls ls').2.2
 |two1 {n:Nat} {out:List Co} {a b f x f' x':Te} {k N:Int} {ls ls':List Lv} {most:Bool} {n1 n2 n':Nat} {e:Int} {out':List Co}:(k=4\/k=6)->Hd g.env n a (.mk k N ls [f,x]) n1->Hd g.env n1 b (.mk k N ls' [f',x']) n2->ls.length=ls'.length->Al g n2 out f f' false false n' e out' -> Al g (n+1) out a b most false n' e out'
 |two2 {n:Nat} {out:List Co} {a b f x f' x':Te} {k N:Int} {ls ls':List Lv} {most r:Bool} {n1 n2 n3 n':Nat} {e:Int} {out1 out':List Co}:(k=4\/k=6)->Hd g.env n a (.mk k N ls [f,x]) n1->Hd g.env n1 b (.mk k N ls' [f',x']) n2->ls.length=ls'.length->Al g n2 out f f' false true n3 0 out1->Al g n3 out1 x x' (decide (k=6) && most) r n' e out' -> Al g (n+1) out a b most r n' e out'
end Go.Ab
end
section
set_option linter.unusedVariables false
set_option linter.unusedSimpArgs false
set_option maxRecDepth 100000
set_option maxHeartbeats 2000000
namespace Go.Ab
open Go.RowKit Go.Proofs
theorem ztn(A:List AO)(ver:Nat)(out:List Co):(A++[AO.lst ver 6 (Co.css out)]).length=A.length+1:=by simp
theorem zfh(g:Gr)(A X:List AO)(n:Nat)(hn:n+1<=1000000)(ver:Nat)(out:List Co):F zbd [.ptr (A.length+1) 0] (zk1 A g (n+1:Nat) 0 ver out X)=some (.ret (.bool true),zk1 A g n 0 ver out X):=by
 have h:=zet g.env (n+1:Nat) (by omega) (A++[.lst ver 6 (Co.css out)]) X (g.cs++[.ol A.length ver]) (zsl A X g ver out)
 rw[<- zgz,ztn,if_neg (by omega),show ((n+1:Nat):Int) - 1=(n:Int) by omega,<- zgz]at h
 exact h
theorem ymv(g:Gr)(A X:List AO)(ver:Nat)(out:List Co):F zbd [.ptr (A.length+1) 0] (zk1 A g 0 0 ver out X)=some (.ret (.bool false),zk1 A g 0 40 ver out X):=by
 have h:=zet g.env 0 (by omega) (A++[.lst ver 6 (Co.css out)]) X (g.cs++[.ol A.length ver]) (zsl A X g ver out)
 rw[<- zgz,ztn,if_pos rfl,<- zgz]at h;exact h
theorem zb0(g:Gr)(hE:zvi g.env){n:Nat}{t t':Te}{n':Nat}(h:Hd g.env n t t' n')(ht:t.ok)(hn:n<=1000000)(A X:List AO)(ver:Nat)(out:List Co):
  F za1 [.ptr (A.length+1) 0,.agg t.cs] (zk1 A g n 0 ver out X)=some (.ret (.agg t'.cs),zk1 A g n' 0 ver out X):=by
 have h:=yct (A++[.lst ver 6 (Co.css out)]) X g.env (g.cs++[.ol A.length ver]) (zsl A X g ver out) hE h ht hn;rw[<- zgz,ztn,<- zgz]at h;exact h
theorem z6f(g:Gr)(hE:zvi g.env){n:Nat}{t:Te}{n':Nat}{e:Int}(h:He g.env n t n' e)(ht:t.ok)(hn:n<=1000000)(A X:List AO)(ver:Nat)(out:List Co):
  ∃x:Te,F za1 [.ptr (A.length+1) 0,.agg t.cs] (zk1 A g n 0 ver out X)=some (.ret (.agg x.cs),zk1 A g n' e ver out X):=by
 obtain⟨x,h⟩:=ycu (A++[.lst ver 6 (Co.css out)]) X g.env (g.cs++[.ol A.length ver]) (zsl A X g ver out) hE h ht hn;rw[<- zgz,ztn,<- zgz]at h;exact⟨x,h⟩
end Go.Ab
end
section
set_option linter.unusedVariables false
set_option linter.unusedSimpArgs false
set_option maxRecDepth 100000
set_option maxHeartbeats 2000000
namespace Go.Ab
open Go.RowKit Go.Proofs
mutual
def w2:Te->Bool
 |.mk k n ls ks=>(decide (k≠2) || decide (ls.length=1)) && w2s ks
def w2s:List Te->Bool
 |[]=>true
 |x::r=>w2 x && w2s r
end
mutual
theorem right_w2{p m:Int}:∀{t:Te} {v d:Int},rightT p m t v d=true->w2 t=true
 |.mk k n ls ks,v,d,h=>by
  obtain⟨h1,h2,h3,h4,h5⟩:=zf2 h;rw[w2,right_w2s h5,Bool.and_true];by_cases k2:k=2
  ·subst k2;unfold zft at h4;simp at h4;simp[h4]
  ·simp[k2]
theorem right_w2s{p m k:Int}:∀{ks:List Te} {i v d:Int},rightTs p m k ks i v d=true->w2s ks=true
 |[],_,_,_,_=>rfl
 |x::r,i,v,d,h=>by
  rw[rightTs]at h;simp at h;rw[w2s,right_w2 h.1,right_w2s h.2];rfl
end
theorem zvv{t:Te}(h:zcr t=true):w2 t=true:=right_w2 (zgg h)
mutual
theorem sub_w2(ps ms:List Lv):∀t:Te,w2 (subT ps ms t)=w2 t
 |.mk k n ls ks=>by
  rw[subT,w2,w2,subs_w2 ps ms ks,List.length_map]
theorem subs_w2(ps ms:List Lv):∀ks:List Te,w2s (subTs ps ms ks)=w2s ks
 |[]=>rfl
 |x::r=>by rw[subTs,w2s,w2s,sub_w2 ps ms x,subs_w2 ps ms r]
end
theorem Hd.w2{env:List De}{n:Nat}{t t':Te}{n':Nat}(h:Hd env n t t' n'):w2 t=true->Go.Ab.w2 t' = true:=by
 induction h with
 |stuck=>exact id
 |lett ho _ ih=>exact fun _=>ih (zvv (zwf ho).2.2.2)
 |const _ _ hs _ ih=>exact fun _=>ih (by obtain⟨h1,rfl,_⟩:=z21 hs;rw[sub_w2];exact zvv h1)
 |app _ _ ih=>
  intro h;simp only[Go.Ab.w2,w2s,Bool.and_eq_true,Bool.and_true]at h ⊢;exact⟨by simp,ih h.2.1,h.2.2⟩
 |beta _ ho _ _ ih=>exact fun _=>ih (zvv (zwf ho).2.2.2)
theorem Hd.wf{env:List De}{n:Nat}{t t':Te}{n':Nat}(h:Hd env n t t' n'):wfT t=true->wfT t' = true:=by
 induction h with
 |stuck=>exact id
 |lett ho _ ih=>exact fun _=>ih (zwe ho)
 |const _ _ hs _ ih=>exact fun _=>ih (yao hs)
 |app _ _ ih=>
  intro h;simp only[wfT,wfTs,Bool.and_eq_true,Bool.and_true]at h ⊢;exact⟨by simp[zd4],ih h.2.1,h.2.2⟩
 |beta _ ho _ _ ih=>exact fun _=>ih (zwe ho)
theorem Hd.k7{env:List De}{n:Nat}{t t':Te}{n':Nat}(h:Hd env n t t' n'):t'.kind≠7:=by
 induction h with
 |stuck _ h _=>exact h
 |lett _ _ ih=>exact ih
 |const _ _ _ _ ih=>exact ih
 |app=>exact (show ¬ (4:Int)=7 by decide)
 |beta _ _ _ _ ih=>exact ih
def wg(t:Te):Bool:=wfT t && w2 t
theorem yjm{t:Te}(h:zcr t=true):wg t=true:=by simp[wg,z0o h,zvv h]
theorem Hd.wg{env:List De}{n:Nat}{t t':Te}{n':Nat}(h:Hd env n t t' n')(hw:wg t=true):Go.Ab.wg t' = true:=by
 simp only[Go.Ab.wg,Bool.and_eq_true]at hw ⊢;exact⟨h.wf hw.1,h.w2 hw.2⟩
theorem zeb{k N:Int}{ls:List Lv}{ks:List Te}(h:wg (.mk k N ls ks)=true):(ks.length:Int)=zd4 k/\(k=2->ls.length=1)/\∀x∈ks,wg x=true:=by
 simp only[wg,wfT,w2,Bool.and_eq_true,decide_eq_true_eq,Bool.or_eq_true]at h;obtain⟨⟨⟨h1,h2⟩,h3⟩,h4,h5⟩:=h;refine⟨h1,fun hk=>by simpa [hk] using h4,?_⟩
 clear h1 h2 h4
 induction ks with
 |nil=>intro x hx;cases hx
 |cons y r ih=>
  simp only[wfTs,w2s,Bool.and_eq_true]at h3 h5;intro x hx;rcases List.mem_cons.1 hx with rfl|hx
  ·simp[wg,h3.1,h5.1]
  ·exact ih h3.2 h5.2 x hx
theorem z3f{k N:Int}{ls:List Lv}{ks:List Te}(h:wg (.mk k N ls ks)=true)(hk:k=4\/k=5\/k=6):∃a b,ks=[a,b]/\wg a=true/\wg b=true:=by
 obtain⟨h1,_,h2⟩:=zeb h;obtain⟨a,b,rfl⟩:=z0k (ks:=ks) (by rw[h1];rcases hk with rfl|rfl|rfl <;> rfl)
 exact⟨a,b,rfl,h2 a (by simp),h2 b (by simp)⟩
theorem wg_kind{k N:Int}{ls:List Lv}{ks:List Te}(h:wg (.mk k N ls ks)=true)(h7:k≠7):k=1\/k=2\/k=3\/k=4\/k=5\/k=6:=by
 have h1:=(zeb h).1;unfold zd4 at h1;omega
theorem zuo{t:Te}(h:(zhk t 0 1).2=0):wg (zyi t)=true:=by
 have:zcr (zhk t 0 1).1=true:=by
  revert h;unfold zhk zwj
  split
  ·intro h;cases h
  ·split
   ·intro _;assumption
   ·intro h;cases h
 have hw:=yjm this;simp only[wg,Bool.and_eq_true]at hw;simp[wg,zyi,wfT,wfTs,w2,w2s,hw.1,hw.2,zd4]
theorem zup{t:Te}(h:t.ok):(zyi t).ok:=by
 have:=yaq h 0 1;simp[zyi,zkt,this]
theorem Al.le{g:Gr}{n:Nat}{out:List Co}{a b:Te}{most r:Bool}{n':Nat}{e:Int}{out':List Co}(h:Al g n out a b most r n' e out'):n' <= n:=by
 have hE:∀{n:Nat} {t:Te} {n':Nat} {e:Int},He g.env n t n' e->n' <= n:=by
  intro n t n' e h
  induction h with
  |let0=>omega
  |let2=>omega
  |letr _ _ ih=>omega
  |const0=>omega
  |const2=>omega
  |constr _ _ _ _ ih=>omega
  |appf _ ih=>exact ih
  |beta0 h1=>omega
  |beta2 h1=>have:=h1.le;omega
  |betar h1 _ _ ih=>have:=h1.le;omega
 induction h with
 |burn0=>omega
 |headA h=>have:=hE h;omega
 |headB h1 h2=>have:=h1.le;have:=hE h2;omega
 |lam2 h1 h2 _ ih=>have:=h1.le;have:=h2.le;omega
 |lamL h1 h2 _ _ _ ih=>have:=h1.le;have:=h2.le;omega
 |lamLe h1 h2=>have:=h1.le;have:=h2.le;omega
 |lamR h1 _ h2 _ _ ih=>have:=h1.le;have:=h2.le;omega
 |lamRe h1 _ h2=>have:=h1.le;have:=h2.le;omega
 |other h1 _ h2=>have:=h1.le;have:=h2.le;omega
 |var h1 h2=>have:=h1.le;have:=h2.le;omega
 |sortM h1 h2=>have:=h1.le;have:=h2.le;omega
 |lvls _ h1 h2=>have:=h1.le;have:=h2.le;omega
 |two1 _ h1 h2 _ _ ih=>have:=h1.le;have:=h2.le;omega
 |two2 _ h1 h2 _ _ _ ih1 ih2=>have:=h1.le;have:=h2.le;omega
theorem yam(g:Gr):∀(s:Int×List Co) (p q:List Lv),s.2.length<=100->(zle g s p q).2.2.length<=100
 |s,a::xs,b::ys,h=>by
  rw[zle];have h1:=z5z g s a b h
  split
  ·exact yam g _ xs ys h1
  ·exact h1
 |s,[],_,h=>by simpa [zle] using h
 |s,_::_,[],h=>by simpa [zle] using h
theorem Al.len{g:Gr}{n:Nat}{out:List Co}{a b:Te}{most r:Bool}{n':Nat}{e:Int}{out':List Co}(h:Al g n out a b most r n' e out'):out.length<=100->out'.length<=100:=by
 induction h with
 |lam2 _ _ _ ih=>exact ih
 |lamL _ _ _ _ _ ih=>exact ih
 |lamR _ _ _ _ _ ih=>exact ih
 |sortM=>exact fun h=>zpd g _ _ _ h
 |lvls=>exact fun h=>yam g _ _ _ h
 |two1 _ _ _ _ _ ih=>exact ih
 |two2 _ _ _ _ _ _ ih1 ih2=>exact fun h=>ih2 (ih1 h)
 |_=>exact id
theorem zxf{g:Gr}{s:Int×List Co}{a b:Lv}(h:(zha g s a b).1=true):s.1=0/\(zha g s a b).2.1=0:=by
 unfold zha at h ⊢
 split at h
 ·cases h
 rename_i h1;have h1:s.1=0:=by simpa using h1
 rw[if_neg (by simp[h1])]
 split at h
 ·rename_i h2
  rw[if_pos h2]
  split at h
  ·cases h
  ·rename_i h3
   rw[if_neg h3];exact⟨h1,rfl⟩
 ·rename_i h2
  rw[if_neg h2]
  split at h
  ·rename_i h3
   rw[if_pos h3];exact⟨h1,h1⟩
  ·cases h
theorem yce{g:Gr}{s:Int×List Co}{a b:Lv}(h:(zpt g s a b).1=true):s.1=0/\(zpt g s a b).2.1=0:=by
 unfold zpt at h ⊢
 split at h
 ·rename_i h1
  rw[if_pos h1];exact⟨(zxf h1).1,(zxf h).2⟩
 ·cases h
theorem z57{g:Gr}:∀{s:Int×List Co} {p q:List Lv},s.1=0->(zle g s p q).1=true->(zle g s p q).2.1=0
 |s,a::xs,b::ys,hs,h=>by
  rw[zle]at h ⊢
  split at h
  ·rename_i h1
   rw[if_pos h1];exact z57 (yce h1).2 h
  ·cases h
 |s,[],_,hs,h=>by simpa [zle] using hs
 |s,_::_,[],hs,h=>by simpa [zle] using hs
theorem Al.yes{g:Gr}{n:Nat}{out:List Co}{a b:Te}{most r:Bool}{n':Nat}{e:Int}{out':List Co}(h:Al g n out a b most r n' e out'):r=true->e=0:=by
 induction h with
 |lam2 _ _ _ ih=>exact ih
 |lamL _ _ _ _ _ ih=>exact ih
 |lamR _ _ _ _ _ ih=>exact ih
 |var=>exact fun _=>rfl
 |sortM=>exact fun h=>(zxf h).2
 |lvls=>exact fun h=>z57 rfl h
 |two2 _ _ _ _ _ _ ih1 ih2=>exact ih2
 |_=>exact fun h=>by cases h
theorem ymd(g:Gr):∀(n:Nat) (out:List Co) (a b:Te) (most:Bool),wg a=true->wg b=true->∃r n' e out',Al g n out a b most r n' e out':=by
 intro n
 induction n using Nat.strongRecOn with
 |ind n ihn=>
 intro out a b most ha hb;rcases n with _|n
 ·exact⟨_,_,_,_,.burn0⟩
 have hwf:∀{t:Te},wg t=true->wfT t=true:=by
  intro t h;simp only[wg,Bool.and_eq_true]at h;exact h.1
 rcases zzu g.env n a (hwf ha) with⟨a',n1,hda,_⟩|⟨n',e,hea⟩
 case inr=>exact⟨_,_,_,_,.headA hea⟩
 rcases zzu g.env n1 b (hwf hb) with⟨b',n2,hdb,_⟩|⟨n',e,heb⟩
 case inr=>exact⟨_,_,_,_,.headB hda heb⟩
 have hle:n2<=n:=Nat.le_trans hdb.le hda.le;have hwa:=hda.wg ha;have hwb:=hdb.wg hb;have h7a:=hda.k7;have h7b:=hdb.k7;rcases a' with⟨k,N,ls,ks⟩;rcases b' with⟨k',N',ls',ks'⟩;by_cases k5:k=5
 ·subst k5
  obtain⟨s,x,rfl,hs,hx⟩:=z3f hwa (by omega)
  by_cases k5':k' = 5
  ·subst k5'
   obtain⟨s',y,rfl,hs',hy⟩:=z3f hwb (by omega)
   obtain⟨r,n',e,out',h⟩:=ihn n2 (by omega) out x y false hx hy
   exact⟨_,_,_,_,.lam2 hda hdb h⟩
  ·by_cases hL:(zhk (.mk k' N' ls' ks') 0 1).2=0
   ·obtain⟨r,n',e,out',h⟩:=ihn n2 (by omega) out x (zyi (.mk k' N' ls' ks')) false hx (zuo hL)
    exact⟨_,_,_,_,.lamL hda hdb k5' hL h⟩
   ·exact⟨_,_,_,_,.lamLe hda hdb k5' hL⟩
 by_cases k5':k' = 5
 ·subst k5'
  obtain⟨s',y,rfl,hs',hy⟩:=z3f hwb (by omega)
  by_cases hL:(zhk (.mk k N ls ks) 0 1).2=0
  ·obtain⟨r,n',e,out',h⟩:=ihn n2 (by omega) out (zyi (.mk k N ls ks)) y false (zuo hL) hy
   exact⟨_,_,_,_,.lamR hda k5 hdb hL h⟩
  ·exact⟨_,_,_,_,.lamRe hda k5 hdb hL⟩
 by_cases ho:k≠k' \/ N≠N' \/ ls.length≠ls'.length
 ·exact⟨_,_,_,_,.other hda k5 hdb k5' ho⟩
 simp only[not_or,ne_eq,Decidable.not_not]at ho;obtain⟨rfl,rfl,hl⟩:=ho;rcases wg_kind hwa h7a with rfl|rfl|rfl|h46
 ·exact⟨_,_,_,_,.var hda hdb hl⟩
 ·cases most
  ·exact⟨_,_,_,_,.lvls (.inl ⟨rfl,rfl⟩) hda hdb hl⟩
  ·have l1:=(zeb hwa).2.1 rfl
   obtain⟨x,rfl⟩:=List.length_eq_one_iff.1 l1;obtain⟨y,rfl⟩:=List.length_eq_one_iff.1 (hl.symm.trans l1);exact⟨_,_,_,_,.sortM hda hdb⟩
 ·exact⟨_,_,_,_,.lvls (.inr rfl) hda hdb hl⟩
 ·have h46:k=4\/k=6:=by omega
  obtain⟨f,x,rfl,hf,hx⟩:=z3f hwa (by omega)
  obtain⟨f',x',rfl,hf',hx'⟩:=z3f hwb (by omega)
  obtain⟨r,n3,e,out1,h⟩:=ihn n2 (by omega) out f f' false hf hf'
  cases r
  ·exact⟨_,_,_,_,.two1 h46 hda hdb hl h⟩
  ·have he:=h.yes rfl
   subst he;have:=h.le;obtain⟨r,n',e,out',h2⟩:=ihn n3 (by omega) out1 x x' (decide (k=6) && most) hx hx'
   exact⟨_,_,_,_,.two2 h46 hda hdb hl h h2⟩
end Go.Ab
end
section
set_option linter.unusedVariables false
set_option linter.unusedSimpArgs false
set_option maxRecDepth 100000
set_option maxHeartbeats 4000000
namespace Go.Ab
open Go.RowKit Go.Proofs
theorem zgy(A:List AO)(g:Gr)(n e:Int)(ver:Nat)(out:List Co)(X:List AO):zk1 A g n e ver out X=A++(.lst ver 6 (Co.css out) :: .box [.sl (De.css g.env),.int .i64 n,.int .i64 e,.sl (De.css g.env),.int .i64 g.params,.int .i64 g.metas,.sl (Co.css g.cons),.int .i64 g.mode,.ol A.length ver]::X):=rfl
theorem yil(g:Gr)(x:Te)(n e:Int)(he:e≠0)(A X:List AO)(ver:Nat)(out:List Co):
  F za1 [.ptr (A.length+1) 0,.agg x.cs] (zk1 A g n e ver out X)=some (.ret (.agg x.cs),zk1 A g n e ver out X):=by
 have h:=zmv g.env x n e (A++[.lst ver 6 (Co.css out)]) X (g.cs++[.ol A.length ver]) (zsl A X g ver out) he n e _ rfl;rw[<- zls,<- zgz,ztn]at h;exact h
theorem Hd.oks{g:Gr}(hE:zvi g.env){n:Nat}{t:Te}{k N:Int}{ls:List Lv}{ks:List Te}{n':Nat}(h:Hd g.env n t (.mk k N ls ks) n')(ht:t.ok):(Te.mk k N ls ks).ok:=h.ok hE ht
theorem yim(g:Gr)(hE:zvi g.env)(hcons:∀c∈g.cons,c.ok)(hcl:g.cons.length<=1000)(hmode:g.mode=1\/g.mode=2){n:Nat}{out:List Co}{a b:Te}{most r:Bool}{n':Nat}{e:Int}{out':List Co}(h:Al g n out a b most r n' e out'):
  a.ok->b.ok->wg a=true->wg b=true->n<=1000000->out.length<=100->∀(A X:List AO) (ver:Nat),∃ver',F zbc [.ptr (A.length+1) 0,.agg a.cs,.agg b.cs,.bool most] (zk1 A g n 0 ver out X)=some (.ret (.bool r),zk1 A g n' e ver' out' X):=by
 induction h with
 |@burn0 out a b most=>
  intro ha hb hwa hwb hn ho A X ver;have hB:=ymv g A X ver out;have hfin:=zfe A X g 0 0 ver out 0 40 ver out false;refine⟨ver,?_⟩;rcases a with⟨k,N,ls,ks⟩;rcases b with⟨k',N',ls',ks'⟩;rw[zao];simp only[zgy]at hB hfin;simp only[↓reduceIte,go_sem,zgy,Int.natCast_zero,Te.cs,hB];exact hfin
 |@headA n out a b most n' e hda=>
  intro ha hb hwa hwb hn ho A X ver;have hB:=zfh g A X n hn ver out;obtain⟨⟨kx,Nx,lx,kx2⟩,hH1⟩:=z6f g hE hda ha (by omega) A X ver out
  have hne:=hda.ne;have hH2:=yil g b n' e hne A X ver out;have hfin:=zfe A X g (n+1:Nat) 0 ver out n' e ver out false;refine⟨ver,?_⟩;rcases a with⟨k,N,ls,ks⟩;rcases b with⟨k',N',ls',ks'⟩;rw[zao];simp only[zgy,Te.cs]at hB hfin hH1 hH2;simp only[↓reduceIte,go_sem,zgy,Te.cs,hB,hH1,hH2,hne];exact hfin
 |@headB n out a b a' most n1 n' e hda heb=>
  intro ha hb hwa hwb hn ho A X ver;have hB:=zfh g A X n hn ver out;have hH1:=zb0 g hE hda ha (by omega) A X ver out
  obtain⟨⟨kx,Nx,lx,kx2⟩,hH2⟩:=z6f g hE heb hb (by have:=hda.le;omega) A X ver out
  have hne:=heb.ne;have hfin:=zfe A X g (n+1:Nat) 0 ver out n' e ver out false;refine⟨ver,?_⟩;rcases a with⟨k,N,ls,ks⟩;rcases b with⟨k',N',ls',ks'⟩;rcases a' with⟨k3,N3,ls3,ks3⟩;rw[zao];simp only[zgy,Te.cs]at hB hfin hH1 hH2;simp only[↓reduceIte,go_sem,zgy,Te.cs,hB,hH1,hH2,hne];exact hfin
 |@lam2 n out a b s x s' y N N' ls ls' most r n1 n2 n' e out' hda hdb hal ih=>
  intro ha hb hwa hwb hn ho A X ver;have hB:=zfh g A X n hn ver out;have hH1:=zb0 g hE hda ha (by omega) A X ver out
  have hH2:=zb0 g hE hdb hb (by have:=hda.le;omega) A X ver out
  have hoa:=hda.ok hE ha;have hob:=hdb.ok hE hb;have hwa':=hda.wg hwa;have hwb':=hdb.wg hwb;have hle1:=hda.le;have hle2:=hdb.le;obtain⟨v1,hI⟩:=ih (hoa.all x (by simp)) (hob.all y (by simp)) ((zeb hwa').2.2 x (by simp)) ((zeb hwb').2.2 y (by simp)) (by omega) ho A X ver
  have hfin:=zfe A X g (n+1:Nat) 0 ver out n' e v1 out' r;refine⟨v1,?_⟩;rcases a with⟨ka,Na,lsa,ksa⟩;rcases b with⟨kb,Nb,lsb,ksb⟩;rw[zao];simp only[zgy,Te.cs,Te.css,Lv.css]at hB hfin hH1 hH2 hI;simp only[↓reduceIte,go_sem,zgy,Te.cs,Te.css,Lv.css,hB,hH1,hH2,hI];exact hfin
 |@lamL n out a b b' s x N ls most r n1 n2 n' e out' hda hdb hk hL hal ih=>
  intro ha hb hwa hwb hn ho A X ver;have hB:=zfh g A X n hn ver out;have hH1:=zb0 g hE hda ha (by omega) A X ver out
  have hH2:=zb0 g hE hdb hb (by have:=hda.le;omega) A X ver out
  have hoa:=hda.ok hE ha;have hob:=hdb.ok hE hb;have hwa':=hda.wg hwa;have hwb':=hdb.wg hwb;have hle1:=hda.le;have hle2:=hdb.le;obtain⟨v1,hI⟩:=ih (hoa.all x (by simp)) (zup hob) ((zeb hwa').2.2 x (by simp)) (zuo hL) (by omega) ho A X ver
  have hT:=zv8 g b' hob A X n2 ver out;rw[hL]at hT;rcases b' with⟨k',N',ls',ks'⟩;have hk:¬ k' = 5:=hk;rcases hq:zyi (.mk k' N' ls' ks') with⟨k3,N3,ls3,ks3⟩;rw[hq]at hI hT;have hfin:=zfe A X g (n+1:Nat) 0 ver out n' e v1 out' r;refine⟨v1,?_⟩;rcases a with⟨ka,Na,lsa,ksa⟩;rcases b with⟨kb,Nb,lsb,ksb⟩;rw[zao];simp only[zgy,Te.cs,Te.css,Lv.css]at hB hfin hH1 hH2 hI hT;simp only[↓reduceIte,go_sem,zgy,Te.cs,Te.css,Lv.css,hB,hH1,hH2,hI,hT,hk];exact hfin
 |@lamLe n out a b b' s x N ls most n1 n2 hda hdb hk hL=>
  intro ha hb hwa hwb hn ho A X ver;have hB:=zfh g A X n hn ver out;have hH1:=zb0 g hE hda ha (by omega) A X ver out
  have hH2:=zb0 g hE hdb hb (by have:=hda.le;omega) A X ver out
  have hoa:=hda.ok hE ha;have hob:=hdb.ok hE hb;have hwa':=hda.wg hwa;have hwb':=hdb.wg hwb;have hle1:=hda.le;have hle2:=hdb.le;have hT:=zv8 g b' hob A X n2 ver out;generalize (zhk b' 0 1).2=e at *;rcases b' with⟨k',N',ls',ks'⟩;have hk:¬ k' = 5:=hk;rcases hq:zyi (.mk k' N' ls' ks') with⟨k3,N3,ls3,ks3⟩;rw[hq]at hT;have hfin:=zfe A X g (n+1:Nat) 0 ver out n2 e ver out false;refine⟨ver,?_⟩;rcases a with⟨ka,Na,lsa,ksa⟩;rcases b with⟨kb,Nb,lsb,ksb⟩;rw[zao];simp only[zgy,Te.cs,Te.css,Lv.css]at hB hfin hH1 hH2 hT;simp only[↓reduceIte,go_sem,zgy,Te.cs,Te.css,Lv.css,hB,hH1,hH2,hT,hk,hL];exact hfin
 |@lamR n out a b a' s y N ls most r n1 n2 n' e out' hda hk hdb hL hal ih=>
  intro ha hb hwa hwb hn ho A X ver;have hB:=zfh g A X n hn ver out;have hH1:=zb0 g hE hda ha (by omega) A X ver out
  have hH2:=zb0 g hE hdb hb (by have:=hda.le;omega) A X ver out
  have hoa:=hda.ok hE ha;have hob:=hdb.ok hE hb;have hwa':=hda.wg hwa;have hwb':=hdb.wg hwb;have hle1:=hda.le;have hle2:=hdb.le;obtain⟨v1,hI⟩:=ih (zup hoa) (hob.all y (by simp)) (zuo hL) ((zeb hwb').2.2 y (by simp)) (by omega) ho A X ver
  have hT:=zv8 g a' hoa A X n2 ver out;rw[hL]at hT;rcases a' with⟨k',N',ls',ks'⟩;have hk:¬ k' = 5:=hk;rcases hq:zyi (.mk k' N' ls' ks') with⟨k3,N3,ls3,ks3⟩;rw[hq]at hI hT;have hfin:=zfe A X g (n+1:Nat) 0 ver out n' e v1 out' r;refine⟨v1,?_⟩;rcases a with⟨ka,Na,lsa,ksa⟩;rcases b with⟨kb,Nb,lsb,ksb⟩;rw[zao];simp only[zgy,Te.cs,Te.css,Lv.css]at hB hfin hH1 hH2 hI hT;simp only[↓reduceIte,go_sem,zgy,Te.cs,Te.css,Lv.css,hB,hH1,hH2,hI,hT,hk];exact hfin
 |@lamRe n out a b a' s y N ls most n1 n2 hda hk hdb hL=>
  intro ha hb hwa hwb hn ho A X ver;have hB:=zfh g A X n hn ver out;have hH1:=zb0 g hE hda ha (by omega) A X ver out
  have hH2:=zb0 g hE hdb hb (by have:=hda.le;omega) A X ver out
  have hoa:=hda.ok hE ha;have hob:=hdb.ok hE hb;have hwa':=hda.wg hwa;have hwb':=hdb.wg hwb;have hle1:=hda.le;have hle2:=hdb.le;have hT:=zv8 g a' hoa A X n2 ver out;generalize (zhk a' 0 1).2=e at *;rcases a' with⟨k',N',ls',ks'⟩;have hk:¬ k' = 5:=hk;rcases hq:zyi (.mk k' N' ls' ks') with⟨k3,N3,ls3,ks3⟩;rw[hq]at hT;have hfin:=zfe A X g (n+1:Nat) 0 ver out n2 e ver out false;refine⟨ver,?_⟩;rcases a with⟨ka,Na,lsa,ksa⟩;rcases b with⟨kb,Nb,lsb,ksb⟩;rw[zao];simp only[zgy,Te.cs,Te.css,Lv.css]at hB hfin hH1 hH2 hT;simp only[↓reduceIte,go_sem,zgy,Te.cs,Te.css,Lv.css,hB,hH1,hH2,hT,hk,hL];exact hfin
 |@other n out a b k N k' N' ls ls' ks ks' most n1 n2 hda hk5 hdb hk5' hne=>
  intro ha hb hwa hwb hn ho A X ver;have hB:=zfh g A X n hn ver out;have hH1:=zb0 g hE hda ha (by omega) A X ver out
  have hH2:=zb0 g hE hdb hb (by have:=hda.le;omega) A X ver out
  have hoa:=hda.ok hE ha;have hob:=hdb.ok hE hb;have hwa':=hda.wg hwa;have hwb':=hdb.wg hwb;have hle1:=hda.le;have hle2:=hdb.le;have hfin:=zfe A X g (n+1:Nat) 0 ver out n2 0 ver out false;refine⟨ver,?_⟩;rcases a with⟨ka,Na,lsa,ksa⟩;rcases b with⟨kb,Nb,lsb,ksb⟩;rw[zao];simp only[zgy,Te.cs]at hB hfin hH1 hH2;by_cases c1:k=k'
  ·by_cases c2:N=N'
   ·have c3:¬ (ls.length:Int)=(ls'.length:Int):=by rcases hne with h|h|h <;> omega
    simp only[↓reduceIte,go_sem,zgy,Te.cs,hB,hH1,hH2,hk5,hk5',c1,c2,c3];exact hfin
   ·simp only[↓reduceIte,go_sem,zgy,Te.cs,hB,hH1,hH2,hk5,hk5',c1,c2]
    exact hfin
  ·simp only[↓reduceIte,go_sem,zgy,Te.cs,hB,hH1,hH2,hk5,hk5',c1]
   exact hfin
 |@var n out a b N ls ls' ks ks' most n1 n2 hda hdb hl=>
  intro ha hb hwa hwb hn ho A X ver;have hB:=zfh g A X n hn ver out;have hH1:=zb0 g hE hda ha (by omega) A X ver out
  have hH2:=zb0 g hE hdb hb (by have:=hda.le;omega) A X ver out
  have hoa:=hda.ok hE ha;have hob:=hdb.ok hE hb;have hwa':=hda.wg hwa;have hwb':=hdb.wg hwb;have hle1:=hda.le;have hle2:=hdb.le;have hlI:(ls.length:Int)=(ls'.length:Int):=by omega
  have hfin:=zfe A X g (n+1:Nat) 0 ver out n2 0 ver out true;refine⟨ver,?_⟩;rcases a with⟨ka,Na,lsa,ksa⟩;rcases b with⟨kb,Nb,lsb,ksb⟩;rw[zao];simp only[zgy,Te.cs,Te.css,Lv.css]at hB hfin hH1 hH2;simp only[↓reduceIte,go_sem,zgy,Te.cs,Te.css,Lv.css,hB,hH1,hH2,hlI];exact hfin
 |@sortM n out a b N x y ks ks' n1 n2 hda hdb=>
  intro ha hb hwa hwb hn ho A X ver;have hB:=zfh g A X n hn ver out;have hH1:=zb0 g hE hda ha (by omega) A X ver out
  have hH2:=zb0 g hE hdb hb (by have:=hda.le;omega) A X ver out
  have hoa:=hda.ok hE ha;have hob:=hdb.ok hE hb;have hwa':=hda.wg hwa;have hwb':=hdb.wg hwb;have hle1:=hda.le;have hle2:=hdb.le;obtain⟨v1,hI⟩:=z24 g hcons hcl hmode x y (hoa.all2 x (by simp)) (hob.all2 y (by simp)) A X n2 0 ver out ho
  have hfin:=zfe A X g (n+1:Nat) 0 ver out n2 (zha g (0,out) x y).2.1 v1 (zha g (0,out) x y).2.2 (zha g (0,out) x y).1;refine⟨v1,?_⟩;rcases a with⟨ka,Na,lsa,ksa⟩;rcases b with⟨kb,Nb,lsb,ksb⟩;rw[zao];simp only[zgy,Te.cs,Te.css,Lv.css]at hB hfin hH1 hH2 hI;simp only[↓reduceIte,go_sem,zgy,Te.cs,Te.css,Lv.css,hB,hH1,hH2,hI,List.length_cons,List.length_nil];exact hfin
 |@lvls n out a b k N ls ls' ks ks' most n1 n2 hk hda hdb hl=>
  intro ha hb hwa hwb hn ho A X ver;have hB:=zfh g A X n hn ver out;have hH1:=zb0 g hE hda ha (by omega) A X ver out
  have hH2:=zb0 g hE hdb hb (by have:=hda.le;omega) A X ver out
  have hoa:=hda.ok hE ha;have hob:=hdb.ok hE hb;have hwa':=hda.wg hwa;have hwb':=hdb.wg hwb;have hle1:=hda.le;have hle2:=hdb.le;obtain⟨v1,hI⟩:=ymc g hcons hcl hmode ls ls' hoa.all2 hob.all2 hl hoa.len2 A X n2 0 ver out ho;have hlI:(ls.length:Int)=(ls'.length:Int):=by omega
  have hfin:=zfe A X g (n+1:Nat) 0 ver out n2 (zle g (0,out) ls ls').2.1 v1 (zle g (0,out) ls ls').2.2 (zle g (0,out) ls ls').1;refine⟨v1,?_⟩;rcases a with⟨ka,Na,lsa,ksa⟩;rcases b with⟨kb,Nb,lsb,ksb⟩;rw[zao];simp only[zgy,Te.cs]at hB hfin hH1 hH2 hI;rcases hk with⟨rfl,rfl⟩|rfl
  ·simp only[↓reduceIte,go_sem,zgy,Te.cs,hB,hH1,hH2,hI,hlI]
   exact hfin
  ·simp only[↓reduceIte,go_sem,zgy,Te.cs,hB,hH1,hH2,hI,hlI]
   exact hfin
 |@two1 n out a b f x f' x' k N ls ls' most n1 n2 n' e out' hk hda hdb hl hal ih=>
  intro ha hb hwa hwb hn ho A X ver;have hB:=zfh g A X n hn ver out;have hH1:=zb0 g hE hda ha (by omega) A X ver out
  have hH2:=zb0 g hE hdb hb (by have:=hda.le;omega) A X ver out
  have hoa:=hda.ok hE ha;have hob:=hdb.ok hE hb;have hwa':=hda.wg hwa;have hwb':=hdb.wg hwb;have hle1:=hda.le;have hle2:=hdb.le;obtain⟨v1,hI⟩:=ih (hoa.all f (by simp)) (hob.all f' (by simp)) ((zeb hwa').2.2 f (by simp)) ((zeb hwb').2.2 f' (by simp)) (by omega) ho A X ver
  have hlI:(ls.length:Int)=(ls'.length:Int):=by omega
  have hfin:=zfe A X g (n+1:Nat) 0 ver out n' e v1 out' false;refine⟨v1,?_⟩;rcases a with⟨ka,Na,lsa,ksa⟩;rcases b with⟨kb,Nb,lsb,ksb⟩;rw[zao];simp only[zgy,Te.cs,Te.css]at hB hfin hH1 hH2 hI;rcases hk with rfl|rfl
  ·simp only[↓reduceIte,go_sem,zgy,Te.cs,Te.css,hB,hH1,hH2,hI,hlI]
   exact hfin
  ·simp only[↓reduceIte,go_sem,zgy,Te.cs,Te.css,hB,hH1,hH2,hI,hlI]
   exact hfin
 |@two2 n out a b f x f' x' k N ls ls' most r n1 n2 n3 n' e out1 out' hk hda hdb hl hal hal2 ih1 ih2=>
  intro ha hb hwa hwb hn ho A X ver;have hB:=zfh g A X n hn ver out;have hH1:=zb0 g hE hda ha (by omega) A X ver out
  have hH2:=zb0 g hE hdb hb (by have:=hda.le;omega) A X ver out
  have hoa:=hda.ok hE ha;have hob:=hdb.ok hE hb;have hwa':=hda.wg hwa;have hwb':=hdb.wg hwb;have hle1:=hda.le;have hle2:=hdb.le;have hle3:=hal.le;obtain⟨v1,hI⟩:=ih1 (hoa.all f (by simp)) (hob.all f' (by simp)) ((zeb hwa').2.2 f (by simp)) ((zeb hwb').2.2 f' (by simp)) (by omega) ho A X ver
  obtain⟨v2,hJ⟩:=ih2 (hoa.all x (by simp)) (hob.all x' (by simp)) ((zeb hwa').2.2 x (by simp)) ((zeb hwb').2.2 x' (by simp)) (by omega) (hal.len ho) A X v1
  have hlI:(ls.length:Int)=(ls'.length:Int):=by omega
  have hfin:=zfe A X g (n+1:Nat) 0 ver out n' e v2 out' r;refine⟨v2,?_⟩;rcases a with⟨ka,Na,lsa,ksa⟩;rcases b with⟨kb,Nb,lsb,ksb⟩;rw[zao];simp only[zgy,Te.cs,Te.css]at hB hfin hH1 hH2 hI hJ;rcases hk with rfl|rfl
  ·simp only[show decide ((4:Int)=6)=false from rfl,Bool.false_and]at hJ
   simp only[↓reduceIte,go_sem,zgy,Te.cs,Te.css,hB,hH1,hH2,hI,hJ,hlI];exact hfin
  ·simp only[decide_true,Bool.true_and]at hJ
   cases most <;>
   ·simp only[↓reduceIte,go_sem,zgy,Te.cs,Te.css,hB,hH1,hH2,hI,hJ,hlI]
    exact hfin
end Go.Ab
end
section
set_option linter.unusedVariables false
set_option linter.unusedSimpArgs false
set_option maxRecDepth 100000
set_option maxHeartbeats 4000000
namespace Go.Ab
open Go.RowKit Go.Proofs
def zyc:List (AV×AV):=[(.agg [.int .i64 1,.int .i64 1],.fn (.func zbs) [] []),(.agg [.int .i64 2,.int .i64 2],.fn (.func zcb) [] []),(.agg [.int .i64 3,.int .i64 3],.fn (.func zbx) [] []),(.agg [.int .i64 4,.int .i64 4],.fn (.func zck) [] []),(.agg [.int .i64 6,.int .i64 6],.fn (.func zc4) [] [])]
theorem zfp(H:List AO):F zqt [] H=some (.ret (.fmap zyc),H):=by
 rw[z8b];simp only[↓reduceIte,go_sem,zv3,z1a,zdw,zpu,ltL,zyc,List.length_cons,List.length_nil,List.cons.injEq,and_false,false_and]
theorem z2w(k k':Int):∃o,zdw 2 [k,k'] zyc=some o:=by
 simp only[zyc,zdw,zv3,z1a,List.length_cons,List.length_nil,↓reduceIte];exact⟨_,rfl⟩
theorem yhw{k k':Int}(h:k≠k'):zdw 2 [k,k'] zyc=some none:=by
 simp only[zyc,zdw,zv3,z1a,List.length_cons,List.length_nil,↓reduceIte];have:∀c:Int,¬ ([c,c]=[k,k']):=by intro c hc;simp at hc;omega
 simp only[this,↓reduceIte]
theorem asks_1:zdw 2 [1,1] zyc=some (some (.fn (.func zbs) [] [])):=rfl
theorem yoc:zdw 2 [2,2] zyc=some (some (.fn (.func zcb) [] [])):=rfl
theorem asks_3:zdw 2 [3,3] zyc=some (some (.fn (.func zbx) [] [])):=rfl
theorem yob:zdw 2 [4,4] zyc=some (some (.fn (.func zck) [] [])):=rfl
theorem yoa:zdw 2 [6,6] zyc=some (some (.fn (.func zc4) [] [])):=rfl
theorem zd5(k k':Int):zv3 2 (.agg [.int .i64 k,.int .i64 k'])=some [k,k']:=rfl
theorem zf7(A:List AO)(g:Gr)(n e:Int)(ver:Nat)(out:List Co)(X:List AO):zig A g n e ver out X=A++(.box [.sl (De.css g.env),.int .i64 n,.int .i64 e] :: .lst 0 11 [] :: .lst 0 6 [] :: .lst ver 6 (Co.css out) :: .box [.ptr A.length 0,.sl (De.css g.env),.int .i64 g.params,.int .i64 g.metas,.sl (Co.css g.cons),.int .i64 g.mode,.ol (A.length+3) ver]::X):=rfl
theorem zea(g:Gr)(A X:List AO)(n:Nat)(hn:n+1<=1000000)(ver:Nat)(out:List Co):F zak [.ptr A.length 0] (zig A g (n+1:Nat) 0 ver out X)=some (.ret (.bool true),zig A g n 0 ver out X):=by
 have h:=znk g.env (n+1:Nat) (by omega) A (.lst 0 11 [] :: .lst 0 6 [] :: .lst ver 6 (Co.css out) :: .box (.ptr A.length 0::(g.cs++[.ol (A.length+3) ver]))::X)
 rw[if_neg (by omega),show ((n+1:Nat):Int) - 1=(n:Int) by omega]at h
 exact h
theorem yip(g:Gr)(A X:List AO)(ver:Nat)(out:List Co):F zak [.ptr A.length 0] (zig A g 0 0 ver out X)=some (.ret (.bool false),zig A g 0 40 ver out X):=by
 have h:=znk g.env 0 (by omega) A (.lst 0 11 [] :: .lst 0 6 [] :: .lst ver 6 (Co.css out) :: .box (.ptr A.length 0::(g.cs++[.ol (A.length+3) ver]))::X)
 rw[if_pos rfl]at h;exact h
theorem zbb(g:Gr)(hE:zvi g.env){n:Nat}{t t':Te}{n':Nat}(h:Hd g.env n t t' n')(ht:t.ok)(hs:sz t+600*n<=500000000)(A X:List AO)(ver:Nat)(out:List Co):
  F za2 [.ptr A.length 0,.agg t.cs] (zig A g n 0 ver out X)=some (.ret (.agg t'.cs),zig A g n' 0 ver out X) :=
 ymt A (.lst 0 11 [] :: .lst 0 6 [] :: .lst ver 6 (Co.css out) :: .box (.ptr A.length 0::(g.cs++[AV.ol (A.length+3) ver]))::X) g.env hE h ht hs
theorem z0e(g:Gr)(hE:zvi g.env){n:Nat}{t:Te}{n':Nat}{e:Int}(h:He g.env n t n' e)(ht:t.ok)(hs:sz t+600*n<=500000000)(A X:List AO)(ver:Nat)(out:List Co):
  ∃x:Te,F za2 [.ptr A.length 0,.agg t.cs] (zig A g n 0 ver out X)=some (.ret (.agg x.cs),zig A g n' e ver out X) :=
 ymu A (.lst 0 11 [] :: .lst 0 6 [] :: .lst ver 6 (Co.css out) :: .box (.ptr A.length 0::(g.cs++[AV.ol (A.length+3) ver]))::X) g.env hE h ht hs
theorem ycs(g:Gr)(x:Te)(n e:Int)(he:e≠0)(A X:List AO)(ver:Nat)(out:List Co):
  F za2 [.ptr A.length 0,.agg x.cs] (zig A g n e ver out X)=some (.ret (.agg x.cs),zig A g n e ver out X):=by
 rcases x with⟨k,N,ls,ks⟩;have h:=yii A (.lst 0 11 [] :: .lst 0 6 [] :: .lst ver 6 (Co.css out) :: .box (.ptr A.length 0::(g.cs++[AV.ol (A.length+3) ver]))::X) g.env n e n e 0 [] (by simp) k N ls ks (.inl he)
 rw[<- z8q]at h;exact h
theorem z0i(p m:AV)(k N:Int)(ls:List Lv)(ks:List Te)(k' N':Int)(ls':List Lv)(ks':List Te)(H:List AO):F zbs [p,.agg [.int .i64 k,.int .i64 N,.sl (Lv.css ls),.sl (Te.css ks)],.agg [.int .i64 k',.int .i64 N',.sl (Lv.css ls'),.sl (Te.css ks')],m] H=some (.ret (.bool true),H):=by
 rw[zos];simp only[↓reduceIte,go_sem]
theorem ztz{k N:Int}{ls:List Lv}{x y:Te}:sz (.mk k N ls [x,y])=sz x+sz y+1:=by simp[sz,subs,subss]
theorem yn2{t:Te}(h:(zhk t 0 1).2=0):sz (zyi t)<=602:=by
 have:zcr (zhk t 0 1).1=true:=by
  revert h;unfold zhk zwj
  split
  ·intro h;cases h
  ·split
   ·intro _;assumption
   ·intro h;cases h
 have:=z0p this;rw[zyi,ztz];have:sz (.mk 1 0 [] [])=1:=rfl;omega
section
variable (g : Gr) (hcons : ∀ c ∈ g.cons, c.ok) (hcl : g.cons.length ≤ 1000) (hmode : g.mode = 1 ∨ g.mode = 2)
include hcons hcl hmode
theorem yds(x y:Lv)(hx:x.ok)(hy:y.ok)(k N k' N':Int)(ks ks':List Te)(A X:List AO)(n:Int)(ver:Nat)(out:List Co)(ho:out.length<=100):∃ver',
  F zcb [.ptr (A.length+4) 0,.agg [.int .i64 k,.int .i64 N,.sl (Lv.css [x]),.sl (Te.css ks)],.agg [.int .i64 k',.int .i64 N',.sl (Lv.css [y]),.sl (Te.css ks')],.bool true] (zig A g n 0 ver out X)=some (.ret (.bool (zha g (0,out) x y).1),zig A g n (zha g (0,out) x y).2.1 ver' (zha g (0,out) x y).2.2 X):=by
 obtain⟨v1,hI⟩:=zyg g hcons hcl hmode x y hx hy A X n 0 ver out ho;have hfin:=zdm A X g n 0 ver out n (zha g (0,out) x y).2.1 v1 (zha g (0,out) x y).2.2 (zha g (0,out) x y).1;refine⟨v1,?_⟩;rw[zlc];simp only[↓reduceIte,go_sem,Lv.css,hI,hfin]
theorem ydt(P Q:List Lv)(hP:∀x∈P,x.ok)(hQ:∀x∈Q,x.ok)(hlen:P.length=Q.length)(hb:P.length<=140737488355328)(k N k' N':Int)(ks ks':List Te)(A X:List AO)(n:Int)(ver:Nat)(out:List Co)(ho:out.length<=100):∃ver',
  F zcb [.ptr (A.length+4) 0,.agg [.int .i64 k,.int .i64 N,.sl (Lv.css P),.sl (Te.css ks)],.agg [.int .i64 k',.int .i64 N',.sl (Lv.css Q),.sl (Te.css ks')],.bool false] (zig A g n 0 ver out X)=some (.ret (.bool (zle g (0,out) P Q).1),zig A g n (zle g (0,out) P Q).2.1 ver' (zle g (0,out) P Q).2.2 X):=by
 obtain⟨v1,hI⟩:=zxd g hcons hcl hmode P Q hP hQ hlen hb k N k' N' ks ks' (.bool false) A X n 0 ver out ho;have hfin:=zdm A X g n 0 ver out n (zle g (0,out) P Q).2.1 v1 (zle g (0,out) P Q).2.2 (zle g (0,out) P Q).1;refine⟨v1,?_⟩;simp only[Te.cs]at hI;rw[zlc];simp only[↓reduceIte,go_sem,hI,hfin]
end
theorem yir(g:Gr)(hE:zvi g.env)(hcons:∀c∈g.cons,c.ok)(hcl:g.cons.length<=1000)(hmode:g.mode=1\/g.mode=2){n:Nat}{out:List Co}{a b:Te}{most r:Bool}{n':Nat}{e:Int}{out':List Co}(h:Al g n out a b most r n' e out'):
  a.ok->b.ok->wg a=true->wg b=true->sz a+600*n<=400000000->sz b+600*n<=400000000->n<=500000->out.length<=100->∀(A X:List AO) (ver:Nat),∃ver',F zbe [.ptr (A.length+4) 0,.agg a.cs,.agg b.cs,.bool most] (zig A g n 0 ver out X)=some (.ret (.bool r),zig A g n' e ver' out' X):=by
 induction h with
 |@burn0 out a b most=>
  intro ha hb hwa hwb hsa hsb hn ho A X ver;have hB:=yip g A X ver out;have hfin:=zdm A X g 0 0 ver out 0 40 ver out false;refine⟨ver,?_⟩;rcases a with⟨ka,Na,lsa,ksa⟩;rcases b with⟨kb,Nb,lsb,ksb⟩;rw[zal];simp only[zf7]at hB hfin;simp only[↓reduceIte,go_sem,zf7,zfp,zd5,Int.natCast_zero,Te.cs,hB,hfin]
 |@headA n out a b most n' e hda=>
  intro ha hb hwa hwb hsa hsb hn ho A X ver;have hB:=zea g A X n (by omega) ver out
  obtain⟨⟨kx,Nx,lx,kx2⟩,hH1⟩:=z0e g hE hda ha (by omega) A X ver out
  have hne:=hda.ne;have hH2:=ycs g b n' e hne A X ver out;have hfin:=zdm A X g (n+1:Nat) 0 ver out n' e ver out false;refine⟨ver,?_⟩;rcases a with⟨ka,Na,lsa,ksa⟩;rcases b with⟨kb,Nb,lsb,ksb⟩;rw[zal];simp only[zf7,Te.cs]at hB hfin hH1 hH2;obtain⟨o,hany⟩:=z2w kx kb
  cases o <;>
  ·simp only[↓reduceIte,go_sem,zf7,zfp,zd5,Te.cs,hB,hH1,hH2,hne,hany,hfin]
 |@headB n out a b a' most n1 n' e hda heb=>
  intro ha hb hwa hwb hsa hsb hn ho A X ver;have hB:=zea g A X n (by omega) ver out
  have hH1:=zbb g hE hda ha (by omega) A X ver out
  obtain⟨⟨kx,Nx,lx,kx2⟩,hH2⟩:=z0e g hE heb hb (by have:=hda.le;omega) A X ver out
  have hne:=heb.ne;have hfin:=zdm A X g (n+1:Nat) 0 ver out n' e ver out false;refine⟨ver,?_⟩;rcases a with⟨ka,Na,lsa,ksa⟩;rcases b with⟨kb,Nb,lsb,ksb⟩;rw[zal];rcases a' with⟨k3,N3,ls3,ks3⟩;simp only[zf7,Te.cs]at hB hfin hH1 hH2;obtain⟨o,hany⟩:=z2w k3 kx
  cases o <;>
  ·simp only[↓reduceIte,go_sem,zf7,zfp,zd5,Te.cs,hB,hH1,hH2,hne,hany,hfin]
 |@lam2 n out a b s x s' y N N' ls ls' most r n1 n2 n' e out' hda hdb hal ih=>
  intro ha hb hwa hwb hsa hsb hn ho A X ver;have hB:=zea g A X n (by omega) ver out
  have hH1:=zbb g hE hda ha (by omega) A X ver out
  have hH2:=zbb g hE hdb hb (by have:=hda.le;omega) A X ver out
  have hoa:=hda.ok hE ha;have hob:=hdb.ok hE hb;have hwa':=hda.wg hwa;have hwb':=hdb.wg hwb;have hle1:=hda.le;have hle2:=hdb.le;have hz1:=hda.sz;have hz2:=hdb.sz;rw[ztz]at hz1 hz2;obtain⟨v1,hI⟩:=ih (hoa.all x (by simp)) (hob.all y (by simp)) ((zeb hwa').2.2 x (by simp)) ((zeb hwb').2.2 y (by simp)) (by omega) (by omega) (by omega) ho A X ver
  have hT1:=zri g N ls s x A X n2 0 ver out;have hT2:=zri g N' ls' s' y A X n2 0 ver out;rcases x with⟨k3,N3,ls3,ks3⟩;rcases y with⟨k4,N4,ls4,ks4⟩;have hfin:=zdm A X g (n+1:Nat) 0 ver out n' e v1 out' r;refine⟨v1,?_⟩;rcases a with⟨ka,Na,lsa,ksa⟩;rcases b with⟨kb,Nb,lsb,ksb⟩;rw[zal];simp only[zf7,Te.cs,Te.css,Lv.css]at hB hfin hH1 hH2 hI hT1 hT2;simp only[↓reduceIte,go_sem,zf7,zfp,zd5,Te.cs,Te.css,Lv.css,hB,hH1,hH2,hI,hT1,hT2,hfin]
 |@lamL n out a b b' s x N ls most r n1 n2 n' e out' hda hdb hk hL hal ih=>
  intro ha hb hwa hwb hsa hsb hn ho A X ver;have hB:=zea g A X n (by omega) ver out
  have hH1:=zbb g hE hda ha (by omega) A X ver out
  have hH2:=zbb g hE hdb hb (by have:=hda.le;omega) A X ver out
  have hoa:=hda.ok hE ha;have hob:=hdb.ok hE hb;have hwa':=hda.wg hwa;have hwb':=hdb.wg hwb;have hle1:=hda.le;have hle2:=hdb.le;have hz1:=hda.sz;have hz2:=hdb.sz;rw[ztz]at hz1;have hz3:=yn2 hL;obtain⟨v1,hI⟩:=ih (hoa.all x (by simp)) (zup hob) ((zeb hwa').2.2 x (by simp)) (zuo hL) (by omega) (by omega) (by omega) ho A X ver
  have hT1:=zri g N ls s x A X n2 0 ver out;have hT2:=zts g b' hob hk A X n2 ver out;rw[hL]at hT2;rcases b' with⟨k',N',ls',ks'⟩;rcases x with⟨k4,N4,ls4,ks4⟩;rcases hq:zyi (.mk k' N' ls' ks') with⟨k3,N3,ls3,ks3⟩;rw[hq]at hI hT2;have hfin:=zdm A X g (n+1:Nat) 0 ver out n' e v1 out' r;refine⟨v1,?_⟩;rcases a with⟨ka,Na,lsa,ksa⟩;rcases b with⟨kb,Nb,lsb,ksb⟩;rw[zal];simp only[zf7,Te.cs,Te.css,Lv.css]at hB hfin hH1 hH2 hI hT1 hT2;simp only[↓reduceIte,go_sem,zf7,zfp,zd5,Te.cs,Te.css,Lv.css,hB,hH1,hH2,hI,hT1,hT2,hfin]
 |@lamLe n out a b b' s x N ls most n1 n2 hda hdb hk hL=>
  intro ha hb hwa hwb hsa hsb hn ho A X ver;have hB:=zea g A X n (by omega) ver out
  have hH1:=zbb g hE hda ha (by omega) A X ver out
  have hH2:=zbb g hE hdb hb (by have:=hda.le;omega) A X ver out
  have hoa:=hda.ok hE ha;have hob:=hdb.ok hE hb;have hwa':=hda.wg hwa;have hwb':=hdb.wg hwb;have hle1:=hda.le;have hle2:=hdb.le;have hz1:=hda.sz;have hz2:=hdb.sz;have hT1:=zri g N ls s x A X n2 0 ver out;have hT2:=zts g b' hob hk A X n2 ver out;generalize (zhk b' 0 1).2=e at *;rcases b' with⟨k',N',ls',ks'⟩;rcases x with⟨k4,N4,ls4,ks4⟩;rcases hq:zyi (.mk k' N' ls' ks') with⟨k3,N3,ls3,ks3⟩;rw[hq]at hT2;have hfin:=zdm A X g (n+1:Nat) 0 ver out n2 e ver out false;refine⟨ver,?_⟩;rcases a with⟨ka,Na,lsa,ksa⟩;rcases b with⟨kb,Nb,lsb,ksb⟩;rw[zal];simp only[zf7,Te.cs,Te.css,Lv.css]at hB hfin hH1 hH2 hT1 hT2;simp only[↓reduceIte,go_sem,zf7,zfp,zd5,Te.cs,Te.css,Lv.css,hB,hH1,hH2,hT1,hT2,hL,hfin]
 |@lamR n out a b a' s y N ls most r n1 n2 n' e out' hda hk hdb hL hal ih=>
  intro ha hb hwa hwb hsa hsb hn ho A X ver;have hB:=zea g A X n (by omega) ver out
  have hH1:=zbb g hE hda ha (by omega) A X ver out
  have hH2:=zbb g hE hdb hb (by have:=hda.le;omega) A X ver out
  have hoa:=hda.ok hE ha;have hob:=hdb.ok hE hb;have hwa':=hda.wg hwa;have hwb':=hdb.wg hwb;have hle1:=hda.le;have hle2:=hdb.le;have hz1:=hda.sz;have hz2:=hdb.sz;rw[ztz]at hz2;have hz3:=yn2 hL;obtain⟨v1,hI⟩:=ih (zup hoa) (hob.all y (by simp)) (zuo hL) ((zeb hwb').2.2 y (by simp)) (by omega) (by omega) (by omega) ho A X ver
  have hT1:=zts g a' hoa hk A X n2 ver out;have hT2:=zri g N ls s y A X n2 0 ver out;rw[hL]at hT1;rcases a' with⟨k',N',ls',ks'⟩;rcases y with⟨k4,N4,ls4,ks4⟩;have hk:¬ k' = 5:=hk;rcases hq:zyi (.mk k' N' ls' ks') with⟨k3,N3,ls3,ks3⟩;rw[hq]at hI hT1;have hfin:=zdm A X g (n+1:Nat) 0 ver out n' e v1 out' r;refine⟨v1,?_⟩;rcases a with⟨ka,Na,lsa,ksa⟩;rcases b with⟨kb,Nb,lsb,ksb⟩;rw[zal];simp only[zf7,Te.cs,Te.css,Lv.css]at hB hfin hH1 hH2 hI hT1 hT2;simp only[↓reduceIte,go_sem,zf7,zfp,zd5,Te.cs,Te.css,Lv.css,hB,hH1,hH2,hI,hT1,hT2,hk,hfin]
 |@lamRe n out a b a' s y N ls most n1 n2 hda hk hdb hL=>
  intro ha hb hwa hwb hsa hsb hn ho A X ver;have hB:=zea g A X n (by omega) ver out
  have hH1:=zbb g hE hda ha (by omega) A X ver out
  have hH2:=zbb g hE hdb hb (by have:=hda.le;omega) A X ver out
  have hoa:=hda.ok hE ha;have hob:=hdb.ok hE hb;have hwa':=hda.wg hwa;have hwb':=hdb.wg hwb;have hle1:=hda.le;have hle2:=hdb.le;have hz1:=hda.sz;have hz2:=hdb.sz;have hT1:=zts g a' hoa hk A X n2 ver out;generalize (zhk a' 0 1).2=e at *;have hT2:=zri g N ls s y A X n2 e ver out;rcases a' with⟨k',N',ls',ks'⟩;rcases y with⟨k4,N4,ls4,ks4⟩;have hk:¬ k' = 5:=hk;rcases hq:zyi (.mk k' N' ls' ks') with⟨k3,N3,ls3,ks3⟩;rw[hq]at hT1;have hfin:=zdm A X g (n+1:Nat) 0 ver out n2 e ver out false;refine⟨ver,?_⟩;rcases a with⟨ka,Na,lsa,ksa⟩;rcases b with⟨kb,Nb,lsb,ksb⟩;rw[zal];simp only[zf7,Te.cs,Te.css,Lv.css]at hB hfin hH1 hH2 hT1 hT2;simp only[↓reduceIte,go_sem,zf7,zfp,zd5,Te.cs,Te.css,Lv.css,hB,hH1,hH2,hT1,hT2,hk,hL,hfin]
 |@other n out a b k N k' N' ls ls' ks ks' most n1 n2 hda hk5 hdb hk5' hne=>
  intro ha hb hwa hwb hsa hsb hn ho A X ver;have hB:=zea g A X n (by omega) ver out
  have hH1:=zbb g hE hda ha (by omega) A X ver out
  have hH2:=zbb g hE hdb hb (by have:=hda.le;omega) A X ver out
  have hoa:=hda.ok hE ha;have hob:=hdb.ok hE hb;have hwa':=hda.wg hwa;have hwb':=hdb.wg hwb;have hle1:=hda.le;have hle2:=hdb.le;have hz1:=hda.sz;have hz2:=hdb.sz;have hfin:=zdm A X g (n+1:Nat) 0 ver out n2 0 ver out false;refine⟨ver,?_⟩;rcases a with⟨ka,Na,lsa,ksa⟩;rcases b with⟨kb,Nb,lsb,ksb⟩;rw[zal];simp only[zf7,Te.cs]at hB hfin hH1 hH2;by_cases c1:k=k'
  ·obtain⟨o,hany⟩:=z2w k k'
   subst c1;by_cases c2:N=N'
   ·have c3:¬ (ls.length:Int)=(ls'.length:Int):=by rcases hne with h|h|h <;> omega
    cases o <;>
    ·simp only[↓reduceIte,go_sem,zf7,zfp,zd5,Te.cs,hB,hH1,hH2,hk5,hany,c2,c3,hfin]
   ·cases o <;>
    ·simp only[↓reduceIte,go_sem,zf7,zfp,zd5,Te.cs,hB,hH1,hH2,hk5,hany,c2,hfin]
  ·simp only[↓reduceIte,go_sem,zf7,zfp,zd5,Te.cs,hB,hH1,hH2,hk5,hk5',yhw c1,hfin]
 |@var n out a b N ls ls' ks ks' most n1 n2 hda hdb hl=>
  intro ha hb hwa hwb hsa hsb hn ho A X ver;have hB:=zea g A X n (by omega) ver out
  have hH1:=zbb g hE hda ha (by omega) A X ver out
  have hH2:=zbb g hE hdb hb (by have:=hda.le;omega) A X ver out
  have hoa:=hda.ok hE ha;have hob:=hdb.ok hE hb;have hwa':=hda.wg hwa;have hwb':=hdb.wg hwb;have hle1:=hda.le;have hle2:=hdb.le;have hz1:=hda.sz;have hz2:=hdb.sz;have hlI:(ls.length:Int)=(ls'.length:Int):=by omega
  have hfin:=zdm A X g (n+1:Nat) 0 ver out n2 0 ver out true;refine⟨ver,?_⟩;rcases a with⟨ka,Na,lsa,ksa⟩;rcases b with⟨kb,Nb,lsb,ksb⟩;rw[zal];simp only[zf7,Te.cs]at hB hfin hH1 hH2;simp only[↓reduceIte,go_sem,zf7,zfp,zd5,asks_1,z0i,Te.cs,hB,hH1,hH2,hlI,hfin]
 |@sortM n out a b N x y ks ks' n1 n2 hda hdb=>
  intro ha hb hwa hwb hsa hsb hn ho A X ver;have hB:=zea g A X n (by omega) ver out
  have hH1:=zbb g hE hda ha (by omega) A X ver out
  have hH2:=zbb g hE hdb hb (by have:=hda.le;omega) A X ver out
  have hoa:=hda.ok hE ha;have hob:=hdb.ok hE hb;have hwa':=hda.wg hwa;have hwb':=hdb.wg hwb;have hle1:=hda.le;have hle2:=hdb.le;have hz1:=hda.sz;have hz2:=hdb.sz;obtain⟨v1,hI⟩:=yds g hcons hcl hmode x y (hoa.all2 x (by simp)) (hob.all2 y (by simp)) 2 N 2 N ks ks' A X n2 ver out ho
  have hfin:=zdm A X g (n+1:Nat) 0 ver out n2 (zha g (0,out) x y).2.1 v1 (zha g (0,out) x y).2.2 (zha g (0,out) x y).1;refine⟨v1,?_⟩;rcases a with⟨ka,Na,lsa,ksa⟩;rcases b with⟨kb,Nb,lsb,ksb⟩;rw[zal];simp only[zf7,Te.cs,Lv.css]at hB hfin hH1 hH2 hI;simp only[↓reduceIte,go_sem,zf7,zfp,zd5,yoc,Te.cs,Lv.css,List.length_cons,List.length_nil,hB,hH1,hH2,hI,hfin]
 |@lvls n out a b k N ls ls' ks ks' most n1 n2 hk hda hdb hl=>
  intro ha hb hwa hwb hsa hsb hn ho A X ver;have hB:=zea g A X n (by omega) ver out
  have hH1:=zbb g hE hda ha (by omega) A X ver out
  have hH2:=zbb g hE hdb hb (by have:=hda.le;omega) A X ver out
  have hoa:=hda.ok hE ha;have hob:=hdb.ok hE hb;have hwa':=hda.wg hwa;have hwb':=hdb.wg hwb;have hle1:=hda.le;have hle2:=hdb.le;have hz1:=hda.sz;have hz2:=hdb.sz;have hlI:(ls.length:Int)=(ls'.length:Int):=by omega
  rcases hk with⟨rfl,rfl⟩|rfl
  ·obtain⟨v1,hI⟩:=ydt g hcons hcl hmode ls ls' hoa.all2 hob.all2 hl hoa.len2 2 N 2 N ks ks' A X n2 ver out ho
   have hfin:=zdm A X g (n+1:Nat) 0 ver out n2 (zle g (0,out) ls ls').2.1 v1 (zle g (0,out) ls ls').2.2 (zle g (0,out) ls ls').1;refine⟨v1,?_⟩;rcases a with⟨ka,Na,lsa,ksa⟩;rcases b with⟨kb,Nb,lsb,ksb⟩;rw[zal];simp only[zf7,Te.cs]at hB hfin hH1 hH2 hI;simp only[↓reduceIte,go_sem,zf7,zfp,zd5,yoc,Te.cs,hB,hH1,hH2,hI,hlI,hfin]
  ·obtain⟨v1,hI⟩:=zxd g hcons hcl hmode ls ls' hoa.all2 hob.all2 hl hoa.len2 3 N 3 N ks ks' (.bool most) A X n2 0 ver out ho
   have hfin:=zdm A X g (n+1:Nat) 0 ver out n2 (zle g (0,out) ls ls').2.1 v1 (zle g (0,out) ls ls').2.2 (zle g (0,out) ls ls').1;refine⟨v1,?_⟩;rcases a with⟨ka,Na,lsa,ksa⟩;rcases b with⟨kb,Nb,lsb,ksb⟩;rw[zal];simp only[zf7,Te.cs]at hB hfin hH1 hH2 hI;simp only[↓reduceIte,go_sem,zf7,zfp,zd5,asks_3,Te.cs,hB,hH1,hH2,hI,hlI,hfin]
 |@two1 n out a b f x f' x' k N ls ls' most n1 n2 n' e out' hk hda hdb hl hal ih=>
  intro ha hb hwa hwb hsa hsb hn ho A X ver;have hB:=zea g A X n (by omega) ver out
  have hH1:=zbb g hE hda ha (by omega) A X ver out
  have hH2:=zbb g hE hdb hb (by have:=hda.le;omega) A X ver out
  have hoa:=hda.ok hE ha;have hob:=hdb.ok hE hb;have hwa':=hda.wg hwa;have hwb':=hdb.wg hwb;have hle1:=hda.le;have hle2:=hdb.le;have hz1:=hda.sz;have hz2:=hdb.sz;have hlI:(ls.length:Int)=(ls'.length:Int):=by omega
  rw[ztz]at hz1 hz2;obtain⟨v1,hI⟩:=ih (hoa.all f (by simp)) (hob.all f' (by simp)) ((zeb hwa').2.2 f (by simp)) ((zeb hwb').2.2 f' (by simp)) (by omega) (by omega) (by omega) ho A X ver
  have hfin:=zdm A X g (n+1:Nat) 0 ver out n' e v1 out' false;refine⟨v1,?_⟩;rcases a with⟨ka,Na,lsa,ksa⟩;rcases b with⟨kb,Nb,lsb,ksb⟩;rw[zal];simp only[Te.cs,Te.css]at hH1 hH2;rcases hk with rfl|rfl
  ·have hQ:F zck [.ptr (A.length+4) 0,.agg [.int .i64 4,.int .i64 N,.sl (Lv.css ls),.sl [f.cs,x.cs]],.agg [.int .i64 4,.int .i64 N,.sl (Lv.css ls'),.sl [f'.cs,x'.cs]],.bool most] (zig A g n2 0 ver out X)=some (.ret (.bool false),zig A g n' e v1 out' X):=by
    have hfin:=zdm A X g n2 0 ver out n' e v1 out' false;rcases f with⟨k3,N3,ls3,ks3⟩;rcases x with⟨k4,N4,ls4,ks4⟩;rcases f' with⟨k5,N5,ls5,ks5⟩;rcases x' with⟨k6,N6,ls6,ks6⟩;rw[zm1];simp only[Te.cs]at hI;simp only[↓reduceIte,go_sem,Te.cs,hI,hfin]
   simp only[zf7]at hB hfin hH1 hH2 hQ;simp only[↓reduceIte,go_sem,zf7,zfp,zd5,yob,Te.cs,Te.css,hB,hH1,hH2,hQ,hlI,hfin]
  ·have hQ:F zc4 [.ptr (A.length+4) 0,.agg [.int .i64 6,.int .i64 N,.sl (Lv.css ls),.sl [f.cs,x.cs]],.agg [.int .i64 6,.int .i64 N,.sl (Lv.css ls'),.sl [f'.cs,x'.cs]],.bool most] (zig A g n2 0 ver out X)=some (.ret (.bool false),zig A g n' e v1 out' X):=by
    have hfin:=zdm A X g n2 0 ver out n' e v1 out' false;rcases f with⟨k3,N3,ls3,ks3⟩;rcases x with⟨k4,N4,ls4,ks4⟩;rcases f' with⟨k5,N5,ls5,ks5⟩;rcases x' with⟨k6,N6,ls6,ks6⟩;rw[znh];simp only[Te.cs]at hI;simp only[↓reduceIte,go_sem,Te.cs,hI,hfin]
   simp only[zf7]at hB hfin hH1 hH2 hQ;simp only[↓reduceIte,go_sem,zf7,zfp,zd5,yoa,Te.cs,Te.css,hB,hH1,hH2,hQ,hlI,hfin]
 |@two2 n out a b f x f' x' k N ls ls' most r n1 n2 n3 n' e out1 out' hk hda hdb hl hal hal2 ih1 ih2=>
  intro ha hb hwa hwb hsa hsb hn ho A X ver;have hB:=zea g A X n (by omega) ver out
  have hH1:=zbb g hE hda ha (by omega) A X ver out
  have hH2:=zbb g hE hdb hb (by have:=hda.le;omega) A X ver out
  have hoa:=hda.ok hE ha;have hob:=hdb.ok hE hb;have hwa':=hda.wg hwa;have hwb':=hdb.wg hwb;have hle1:=hda.le;have hle2:=hdb.le;have hz1:=hda.sz;have hz2:=hdb.sz;have hlI:(ls.length:Int)=(ls'.length:Int):=by omega
  rw[ztz]at hz1 hz2;have hle3:=hal.le;obtain⟨v1,hI⟩:=ih1 (hoa.all f (by simp)) (hob.all f' (by simp)) ((zeb hwa').2.2 f (by simp)) ((zeb hwb').2.2 f' (by simp)) (by omega) (by omega) (by omega) ho A X ver
  obtain⟨v2,hJ⟩:=ih2 (hoa.all x (by simp)) (hob.all x' (by simp)) ((zeb hwa').2.2 x (by simp)) ((zeb hwb').2.2 x' (by simp)) (by omega) (by omega) (by omega) (hal.len ho) A X v1
  have hfin:=zdm A X g (n+1:Nat) 0 ver out n' e v2 out' r;refine⟨v2,?_⟩;rcases a with⟨ka,Na,lsa,ksa⟩;rcases b with⟨kb,Nb,lsb,ksb⟩;rw[zal];simp only[Te.cs,Te.css]at hH1 hH2;rcases hk with rfl|rfl
  ·simp only[show decide ((4:Int)=6)=false from rfl,Bool.false_and]at hJ
   have hQ:F zck [.ptr (A.length+4) 0,.agg [.int .i64 4,.int .i64 N,.sl (Lv.css ls),.sl [f.cs,x.cs]],.agg [.int .i64 4,.int .i64 N,.sl (Lv.css ls'),.sl [f'.cs,x'.cs]],.bool most] (zig A g n2 0 ver out X)=some (.ret (.bool r),zig A g n' e v2 out' X):=by
    have hfin:=zdm A X g n2 0 ver out n' e v2 out' r;rcases f with⟨k3,N3,ls3,ks3⟩;rcases x with⟨k4,N4,ls4,ks4⟩;rcases f' with⟨k5,N5,ls5,ks5⟩;rcases x' with⟨k6,N6,ls6,ks6⟩;rw[zm1];simp only[Te.cs]at hI hJ;simp only[↓reduceIte,go_sem,Te.cs,hI,hJ,hfin]
   simp only[zf7]at hB hfin hH1 hH2 hQ;simp only[↓reduceIte,go_sem,zf7,zfp,zd5,yob,Te.cs,Te.css,hB,hH1,hH2,hQ,hlI,hfin]
  ·simp only[decide_true,Bool.true_and]at hJ
   have hQ:F zc4 [.ptr (A.length+4) 0,.agg [.int .i64 6,.int .i64 N,.sl (Lv.css ls),.sl [f.cs,x.cs]],.agg [.int .i64 6,.int .i64 N,.sl (Lv.css ls'),.sl [f'.cs,x'.cs]],.bool most] (zig A g n2 0 ver out X)=some (.ret (.bool r),zig A g n' e v2 out' X):=by
    have hfin:=zdm A X g n2 0 ver out n' e v2 out' r;rcases f with⟨k3,N3,ls3,ks3⟩;rcases x with⟨k4,N4,ls4,ks4⟩;rcases f' with⟨k5,N5,ls5,ks5⟩;rcases x' with⟨k6,N6,ls6,ks6⟩;rw[znh];simp only[Te.cs]at hI hJ;simp only[↓reduceIte,go_sem,Te.cs,hI,hJ,hfin]
   simp only[zf7]at hB hfin hH1 hH2 hQ;simp only[↓reduceIte,go_sem,zf7,zfp,zd5,yoa,Te.cs,Te.css,hB,hH1,hH2,hQ,hlI,hfin]
end Go.Ab
end
section
set_option linter.unusedVariables false
set_option linter.unusedSimpArgs false
set_option maxRecDepth 100000
set_option maxHeartbeats 2000000
namespace Go.Ab
open Go.RowKit Go.Proofs
theorem yi2:zeroT.ok:=.mk (by simp) (by simp) (by intro x hx;cases hx) (by intro x hx;cases hx)
def sort0:Te:=.mk 2 0 [.mk 1 0 []] []
theorem yjk:sort0.ok:=by simp[sort0,zkt,zwz]
theorem ykd:zvi []:=⟨by simp,by intro d hd;cases hd⟩
end Go.Ab
end
section
set_option linter.unusedVariables false
set_option linter.unusedSimpArgs false
set_option maxRecDepth 100000
set_option maxHeartbeats 4000000
namespace Go.Ab
open Go.RowKit Go.Proofs
def okCs(l:List Co):Prop:=l.length<=140737488355328/\∀c∈l,c.ok
def okG(g:Gr):Prop:=zvi g.env/\okCs g.cons
def ykh(g:Gr):Bool:=(decide (g.mode=1) && decide (g.metas=0)) || (decide (g.mode=2) && decide (0<=g.metas) && decide (g.metas<=10))
def zk3(g:Gr):Bool:=ykh g && (zr6 g.env && zed g.cons g.params)
theorem zut(g:Gr)(hg:okG g)(H:List AO):F zjn [.agg g.cs] H=some (.ret (.bool (zk3 g)),H):=by
 have h1:=fun H=>ycq g.env hg.1 H
 have h2:=fun H=>ztp g.cons hg.2.1 hg.2.2 g.params H
 rw[z1t,zk3,ykh];rcases g with⟨env,p,m,cons,mode⟩;dsimp only[Gr.cs]at h1 h2 ⊢;by_cases c1:mode=1
 ·subst c1
  by_cases c2:m=0
  ·subst c2
   cases c3:zr6 env <;> rw[c3]at h1 <;> simp only[↓reduceIte,go_sem,h1,h2] <;> simp
  ·simp only[↓reduceIte,go_sem,c2]
   simp[c2]
 ·by_cases c4:mode=2
  ·subst c4
   by_cases c5:m<0
   ·simp only[↓reduceIte,go_sem,c5,show ¬ (2:Int)=1 by decide]
    simp;omega
   ·by_cases c6:10<m
    ·simp only[↓reduceIte,go_sem,c5,c6,show ¬ (2:Int)=1 by decide]
     simp;omega
    ·have e1:(decide (0<=m))=true:=by simp;omega
     have e2:(decide (m<=10))=true:=by simp;omega
     cases c3:zr6 env <;> rw[c3]at h1 <;> simp only[↓reduceIte,go_sem,h1,h2,c5,c6,show ¬ (2:Int)=1 by decide,e1,e2] <;> simp
  ·simp only[↓reduceIte,go_sem,c1,c4]
   simp
theorem zm6(g:Gr)(hg:okG g)(H:List AO):F zif [.agg g.cs] H=some (.ret (.bool (zk3 g)),H):=by
 have h1:=fun H=>ycp g.env hg.1 H
 have h2:=fun H=>zwa g.cons hg.2.1 hg.2.2 g.params H
 rw[z5l,zk3,ykh];rcases g with⟨env,p,m,cons,mode⟩;dsimp only[Gr.cs]at h1 h2 ⊢;by_cases c1:mode=1
 ·subst c1
  by_cases c2:m=0
  ·subst c2
   cases c3:zr6 env <;> rw[c3]at h1 <;> simp only[↓reduceIte,go_sem,h1,h2] <;> simp
  ·simp only[↓reduceIte,go_sem,c2]
   simp[c2]
 ·by_cases c4:mode=2
  ·subst c4
   by_cases c5:m<0
   ·simp only[↓reduceIte,go_sem,c5,show ¬ (2:Int)=1 by decide]
    simp;omega
   ·by_cases c6:10<m
    ·simp only[↓reduceIte,go_sem,c5,c6,show ¬ (2:Int)=1 by decide]
     simp;omega
    ·have e1:(decide (0<=m))=true:=by simp;omega
     have e2:(decide (m<=10))=true:=by simp;omega
     cases c3:zr6 env <;> rw[c3]at h1 <;> simp only[↓reduceIte,go_sem,h1,h2,c5,c6,show ¬ (2:Int)=1 by decide,e1,e2] <;> simp
  ·simp only[↓reduceIte,go_sem,c1,c4]
   simp
theorem z0c{g:Gr}(h:zk3 g=true):(g.mode=1\/g.mode=2)/\zr6 g.env=true/\zed g.cons g.params=true/\g.cons.length<=8:=by
 unfold zk3 ykh at h;simp only[Bool.and_eq_true,Bool.or_eq_true,decide_eq_true_eq]at h;obtain⟨h1,h2,h3⟩:=h;refine⟨by omega,h2,h3,?_⟩
 unfold zed at h3;simp only[Bool.and_eq_true,decide_eq_true_eq]at h3;exact h3.1.2
theorem zv1{g:Gr}{s:Int×List Co}{a b:Lv}(ha:a.ok)(hb:b.ok)(h:∀c∈s.2,c.ok):∀c∈(zha g s a b).2.2,c.ok:=by
 unfold zha
 split
 ·exact h
 split
 ·split
  ·exact h
  ·intro c hc
   simp only[List.mem_append,List.mem_singleton]at hc;rcases hc with hc|rfl
   ·exact h c hc
   ·exact⟨ha,hb⟩
 split <;> exact h
theorem yhp{g:Gr}{s:Int×List Co}{a b:Lv}(ha:a.ok)(hb:b.ok)(h:∀c∈s.2,c.ok):∀c∈(zpt g s a b).2.2,c.ok:=by
 unfold zpt
 split
 ·exact zv1 hb ha (zv1 ha hb h)
 ·exact zv1 ha hb h
theorem yal{g:Gr}:∀{s:Int×List Co} {p q:List Lv},(∀x∈p,x.ok)->(∀x∈q,x.ok)->(∀c∈s.2,c.ok)->∀c∈(zle g s p q).2.2,c.ok
 |s,a::xs,b::ys,hp,hq,h=>by
  rw[zle];have h1:=yhp (g:=g) (hp a (by simp)) (hq b (by simp)) h
  split
  ·exact yal (fun x hx=>hp x (by simp[hx])) (fun x hx=>hq x (by simp[hx])) h1
  ·exact h1
 |s,[],_,_,_,h=>by simpa [zle] using h
 |s,_::_,[],_,_,h=>by simpa [zle] using h
theorem Al.oks{g:Gr}(hE:zvi g.env){n:Nat}{out:List Co}{a b:Te}{most r:Bool}{n':Nat}{e:Int}{out':List Co}(h:Al g n out a b most r n' e out'):a.ok->b.ok->(∀c∈out,c.ok)->∀c∈out',c.ok:=by
 induction h with
 |lam2 h1 h2 _ ih=>exact fun ha hb=>ih ((h1.ok hE ha).all _ (by simp)) ((h2.ok hE hb).all _ (by simp))
 |lamL h1 h2 _ _ _ ih=>exact fun ha hb=>ih ((h1.ok hE ha).all _ (by simp)) (zup (h2.ok hE hb))
 |lamR h1 _ h2 _ _ ih=>exact fun ha hb=>ih (zup (h1.ok hE ha)) ((h2.ok hE hb).all _ (by simp))
 |sortM h1 h2=>exact fun ha hb h=>zv1 ((h1.ok hE ha).all2 _ (by simp)) ((h2.ok hE hb).all2 _ (by simp)) h
 |lvls _ h1 h2=>exact fun ha hb h=>yal (h1.ok hE ha).all2 (h2.ok hE hb).all2 h
 |two1 _ h1 h2 _ _ ih=>exact fun ha hb=>ih ((h1.ok hE ha).all _ (by simp)) ((h2.ok hE hb).all _ (by simp))
 |two2 _ h1 h2 _ _ _ ih1 ih2=>exact fun ha hb h=>ih2 ((h1.ok hE ha).all _ (by simp)) ((h2.ok hE hb).all _ (by simp)) (ih1 ((h1.ok hE ha).all _ (by simp)) ((h2.ok hE hb).all _ (by simp)) h)
 |_=>exact fun _ _ h=>h
def zx5:List Co->List Co->Bool
 |[],[]=>true
 |x::l,y::m=>lvEq x.a y.a && lvEq x.b y.b && zx5 l m
 |_,_=>false
theorem zx4:∀l:List Co,zx5 l l=true
 |[]=>rfl
 |x::l=>by rw[zx5,lvEq_refl,lvEq_refl,zx4 l];rfl
theorem z6w(P Q:List Co)(hP:okCs P)(H:List AO):F zhb [.sl (Co.css P),.sl (Co.css Q)] H=some (.ret (.bool (decide (P.length=Q.length) && zx5 P Q)),H):=by
 have loop:P.length=Q.length->∀(p q ps qs:List Co),P=ps++p->Q=qs++q->ps.length=qs.length ->
   zgc H H (.sl (Co.css P)) (.sl (Co.css Q)) (.int .i64 ps.length)=some (.ret (.bool (zx5 p q)),H):=by
  intro hlen p
  induction p with
  |nil=>
   intro q ps qs h1 h2 h3;rw[List.append_nil]at h1;subst h1
   cases q with
   |cons y q=>rw[h2]at hlen;simp at hlen;omega
   |nil=>
   rw[zgc,zab];simp only[↓reduceIte,go_sem,zx5]
  |cons x p ih=>
   intro q ps qs h1 h2 h3
   cases q with
   |nil=>rw[h1,h2]at hlen;simp at hlen;omega
   |cons y q=>
   have hx:=hP.2 x (by rw[h1];simp)
   have hga:P[ps.length]?=some x:=by rw[h1];simp
   have hgb:Q[ps.length]?=some y:=by rw[h2,h3];simp
   have hpl:ps.length<P.length:=by rw[h1];simp
   have hP1:=hP.1;have h4:=ih q (ps++[x]) (qs++[y]) (by rw[h1];simp) (by rw[h2];simp) (by simp[h3])
   have q1:=fun H=>zwq x.a hx.1 y.a H
   have q2:=fun H=>zwq x.b hx.2 y.b H
   simp only[zag]at h4;rw[zgc,zab,zx5];rcases x with⟨⟨k1,n1,l1⟩,⟨k2,n2,l2⟩⟩;rcases y with⟨⟨k3,n3,l3⟩,⟨k4,n4,l4⟩⟩;simp only[Co.a,Co.b,Lv.cs]at q1 q2 ⊢
   cases c1:lvEq (.mk k1 n1 l1) (.mk k3 n3 l3) <;> rw[c1]at q1
   ·simp only[↓reduceIte,go_sem,show (ps.length:Int)<(P.length:Int) by omega,hga,hgb,Co.cs,Co.a,Co.b,Lv.cs,List.cons_append,List.nil_append,q1,Bool.false_and]
   cases c2:lvEq (.mk k2 n2 l2) (.mk k4 n4 l4) <;> rw[c2]at q2
   ·simp only[↓reduceIte,go_sem,show (ps.length:Int)<(P.length:Int) by omega,hga,hgb,Co.cs,Co.a,Co.b,Lv.cs,List.cons_append,List.nil_append,q1,q2,Bool.and_false,Bool.false_and]
   ·simp only[↓reduceIte,go_sem,show (ps.length:Int)<(P.length:Int) by omega,hga,hgb,Co.cs,Co.a,Co.b,Lv.cs,List.cons_append,List.nil_append,q1,q2,Bool.true_and,zac (n:=ps.length) (by omega),h4]
 rw[zvo];by_cases hl:P.length=Q.length
 ·have:=loop hl P Q [] [] rfl rfl rfl
  simp only[List.length_nil,Int.natCast_zero]at this;simp only[↓reduceIte,go_sem,hl,this,decide_true,Bool.true_and]
 ·have:¬ (P.length:Int)=(Q.length:Int):=by omega
  simp only[↓reduceIte,go_sem,this,hl,decide_false,Bool.false_and]
inductive ConvS (g:Gr) (a b:Te) (most:Bool) (f:Int):Bool×List Co×Int×Int->Prop
 |arg:(zk3 g=false\/zdn a 1000 g.params g.metas=false\/zdn b 1000 g.params g.metas=false\/f<0\/5000<f)->ConvS g a b most f (false,[],0,1)
 |er {n n':Nat} {r:Bool} {e:Int} {out:List Co}:zk3 g=true->zdn a 1000 g.params g.metas=true->zdn b 1000 g.params g.metas=true->f=n->n<=5000->Al g n [] a b most r n' e out->e≠0->ConvS g a b most f (false,[],0,e)
 |ok {n n':Nat} {r:Bool} {out:List Co}:zk3 g=true->zdn a 1000 g.params g.metas=true->zdn b 1000 g.params g.metas=true->f=n->n<=5000->Al g n [] a b most r n' 0 out->ConvS g a b most f (r,out,n',0)
theorem zfj{t:Te}{v p m:Int}(h:zdn t v p m=true):wg t=true/\sz t<=600:=by
 unfold zdn at h;simp only[Bool.and_eq_true,decide_eq_true_eq]at h;refine⟨by simp[wg,right_wf h.2,right_w2 h.2],?_⟩
 have h1:=subs_parts t 601 (by omega)
 have:=h.1.2;unfold sz;omega
theorem yb5(g:Gr)(a b:Te)(most:Bool)(f:Int):∃r,ConvS g a b most f r:=by
 cases h1:zk3 g
 ·exact⟨_,.arg (.inl h1)⟩
 cases h2:zdn a 1000 g.params g.metas
 ·exact⟨_,.arg (.inr (.inl h2))⟩
 cases h3:zdn b 1000 g.params g.metas
 ·exact⟨_,.arg (.inr (.inr (.inl h3)))⟩
 by_cases h4:f<0
 ·exact⟨_,.arg (.inr (.inr (.inr (.inl h4))))⟩
 by_cases h5:5000<f
 ·exact⟨_,.arg (.inr (.inr (.inr (.inr h5))))⟩
 obtain⟨n,rfl⟩:=Int.eq_ofNat_of_zero_le (show 0<=f by omega)
 obtain⟨r,n',e,out,h⟩:=ymd g n [] a b most (zfj h2).1 (zfj h3).1;by_cases he:e=0
 ·subst he;exact⟨_,.ok h1 h2 h3 rfl (by omega) h⟩
 ·exact⟨_,.er h1 h2 h3 rfl (by omega) h he⟩
abbrev z3u(x:Bool×List Co×Int×Int):AV:=.tup [.bool x.1,.sl (Co.css x.2.1),.int .i64 x.2.2.1,.int .i64 x.2.2.2]
theorem yd2(n:Nat)(x:Bool×List Co×Int×Int):Lt n (z3u x):=by
 refine .tup ?_;intro a ha;simp at ha;rcases ha with rfl|rfl|rfl|rfl
 ·exact .bool _
 ·exact .sl (zrf _ _)
 ·exact .int _ _
 ·exact .int _ _
theorem z0f(g:Gr)(hg:okG g)(a b:Te)(ha:a.ok)(hb:b.ok)(most:Bool)(n n':Nat)(hn:n<=5000)(r:Bool)(e:Int)(out:List Co)(h1:zk3 g=true)(h2:zdn a 1000 g.params g.metas=true)(h3:zdn b 1000 g.params g.metas=true)(h:Al g n [] a b most r n' e out)(H:List AO):
  F zlu [.agg g.cs,.agg a.cs,.agg b.cs,.bool most,.int .i64 n] H=some (.ret (z3u (if e≠0 then (false,[],0,e) else (r,out,(n':Int),0))),H):=by
 obtain⟨hm,_,_,hl⟩:=z0c h1;have k1:=fun H=>zut g hg H
 have k2:=fun H=>zh2 a ha 1000 g.params g.metas H
 have k3:=fun H=>zh2 b hb 1000 g.params g.metas H
 have k4:=fun H=>ymo g n H
 obtain⟨v,k5⟩:=yim g hg.1 hg.2.2 (by omega) hm h ha hb (zfj h2).1 (zfj h3).1 (by omega) (by simp) (H++[.lst 0 11 [],.lst 0 11 [],.lst 0 6 []]) [] 0
 rw[h1]at k1;rw[h2]at k2;rw[h3]at k3;rcases a with⟨ka,Na,lsa,ksa⟩;rcases b with⟨kb,Nb,lsb,ksb⟩;have e0:Co.css []=[]:=rfl;rw[zu5];simp only[zgy,Te.cs,Gr.cs,e0,List.length_append,List.length_cons,List.length_nil,Nat.add_assoc,Nat.reduceAdd,List.append_assoc,List.cons_append,List.nil_append]at k1 k2 k3 k4 k5;by_cases he:e=0
 ·subst he
  simp only[↓reduceIte,go_sem,Te.cs,Gr.cs,k1,k2,k3,k4,k5,show ¬ (n:Int)<0 by omega,show ¬ (5000:Int)<(n:Int) by omega,e0,not_true_eq_false,ne_eq]
  exact if_pos (yd2 _ (r,out,(n':Int),0))
 ·simp only[↓reduceIte,go_sem,Te.cs,Gr.cs,k1,k2,k3,k4,k5,show ¬ (n:Int)<0 by omega,show ¬ (5000:Int)<(n:Int) by omega,he,ne_eq,not_false_eq_true,e0]
  rfl
theorem zyh(g:Gr)(hg:okG g)(a b:Te)(ha:a.ok)(hb:b.ok)(most:Bool)(n n':Nat)(hn:n<=5000)(r:Bool)(e:Int)(out:List Co)(h1:zk3 g=true)(h2:zdn a 1000 g.params g.metas=true)(h3:zdn b 1000 g.params g.metas=true)(h:Al g n [] a b most r n' e out)(H:List AO):
  F zgp [.agg g.cs,.agg a.cs,.agg b.cs,.bool most,.int .i64 n] H=some (.ret (z3u (if e≠0 then (false,[],0,e) else (r,out,(n':Int),0))),H):=by
 obtain⟨hm,_,_,hl⟩:=z0c h1;have k1:=fun H=>zm6 g hg H
 have k2:=fun H=>zl6 a ha 1000 g.params g.metas H
 have k3:=fun H=>zl6 b hb 1000 g.params g.metas H
 have k4:=fun H=>NewP_ok g n H
 have z1:=(zfj h2).2;have z2:=(zfj h3).2;obtain⟨v,k5⟩:=yir g hg.1 hg.2.2 (by omega) hm h ha hb (zfj h2).1 (zfj h3).1 (by omega) (by omega) (by omega) (by simp) H [] 0
 rw[h1]at k1;rw[h2]at k2;rw[h3]at k3;rcases a with⟨ka,Na,lsa,ksa⟩;rcases b with⟨kb,Nb,lsb,ksb⟩;have e0:Co.css []=[]:=rfl;rw[zxw];simp only[zf7,Te.cs,Gr.cs,e0,List.length_append,List.length_cons,List.length_nil,Nat.add_assoc,Nat.reduceAdd,List.append_assoc,List.cons_append,List.nil_append]at k1 k2 k3 k4 k5;by_cases he:e=0
 ·subst he
  simp only[↓reduceIte,go_sem,Te.cs,Gr.cs,k1,k2,k3,k4,k5,show ¬ (n:Int)<0 by omega,show ¬ (5000:Int)<(n:Int) by omega,e0,not_true_eq_false,ne_eq]
  exact if_pos (yd2 _ (r,out,(n':Int),0))
 ·simp only[↓reduceIte,go_sem,Te.cs,Gr.cs,k1,k2,k3,k4,k5,show ¬ (n:Int)<0 by omega,show ¬ (5000:Int)<(n:Int) by omega,he,ne_eq,not_false_eq_true,e0]
  rfl
theorem ycw(g:Gr)(hg:okG g)(a b:Te)(ha:a.ok)(hb:b.ok)(most:Bool)(f:Int)(r:Bool×List Co×Int×Int)(h:ConvS g a b most f r)(H:List AO):
  F zlu [.agg g.cs,.agg a.cs,.agg b.cs,.bool most,.int .i64 f] H=some (.ret (z3u r),H):=by
 cases h with
 |arg hq=>
  have k1:=fun H=>zut g hg H
  have k2:=fun H=>zh2 a ha 1000 g.params g.metas H
  have k3:=fun H=>zh2 b hb 1000 g.params g.metas H
  have e0:Co.css []=[]:=rfl;rcases a with⟨ka,Na,lsa,ksa⟩;rcases b with⟨kb,Nb,lsb,ksb⟩;rw[zu5];simp only[Te.cs,Gr.cs]at k1 k2 k3
  cases c1:zk3 g <;> rw[c1]at k1
  ·simp only[↓reduceIte,go_sem,Te.cs,Gr.cs,k1,z3u,e0]
  cases c2:zdn (.mk ka Na lsa ksa) 1000 g.params g.metas <;> rw[c2]at k2
  ·simp only[↓reduceIte,go_sem,Te.cs,Gr.cs,k1,k2,z3u,e0]
  cases c3:zdn (.mk kb Nb lsb ksb) 1000 g.params g.metas <;> rw[c3]at k3
  ·simp only[↓reduceIte,go_sem,Te.cs,Gr.cs,k1,k2,k3,z3u,e0]
  rw[c1,c2,c3]at hq;by_cases c4:f<0
  ·simp only[↓reduceIte,go_sem,Te.cs,Gr.cs,k1,k2,k3,c4,z3u,e0]
  ·have c5:5000<f:=by simp at hq;omega
   simp only[↓reduceIte,go_sem,Te.cs,Gr.cs,k1,k2,k3,c4,c5,z3u,e0]
 |@er n n' r e out h1 h2 h3 hf hn hA he=>
  subst hf;have:=z0f g hg a b ha hb most n n' hn r e out h1 h2 h3 hA H
  rwa [if_pos he]at this
 |@ok n n' r out h1 h2 h3 hf hn hA=>
  subst hf;have:=z0f g hg a b ha hb most n n' hn r 0 out h1 h2 h3 hA H
  rwa [if_neg (by simp)]at this
theorem zj6(g:Gr)(hg:okG g)(a b:Te)(ha:a.ok)(hb:b.ok)(most:Bool)(f:Int)(r:Bool×List Co×Int×Int)(h:ConvS g a b most f r)(H:List AO):
  F zgp [.agg g.cs,.agg a.cs,.agg b.cs,.bool most,.int .i64 f] H=some (.ret (z3u r),H):=by
 cases h with
 |arg hq=>
  have k1:=fun H=>zm6 g hg H
  have k2:=fun H=>zl6 a ha 1000 g.params g.metas H
  have k3:=fun H=>zl6 b hb 1000 g.params g.metas H
  have e0:Co.css []=[]:=rfl;rcases a with⟨ka,Na,lsa,ksa⟩;rcases b with⟨kb,Nb,lsb,ksb⟩;rw[zxw];simp only[Te.cs,Gr.cs]at k1 k2 k3
  cases c1:zk3 g <;> rw[c1]at k1
  ·simp only[↓reduceIte,go_sem,Te.cs,Gr.cs,k1,z3u,e0]
  cases c2:zdn (.mk ka Na lsa ksa) 1000 g.params g.metas <;> rw[c2]at k2
  ·simp only[↓reduceIte,go_sem,Te.cs,Gr.cs,k1,k2,z3u,e0]
  cases c3:zdn (.mk kb Nb lsb ksb) 1000 g.params g.metas <;> rw[c3]at k3
  ·simp only[↓reduceIte,go_sem,Te.cs,Gr.cs,k1,k2,k3,z3u,e0]
  rw[c1,c2,c3]at hq;by_cases c4:f<0
  ·simp only[↓reduceIte,go_sem,Te.cs,Gr.cs,k1,k2,k3,c4,z3u,e0]
  ·have c5:5000<f:=by simp at hq;omega
   simp only[↓reduceIte,go_sem,Te.cs,Gr.cs,k1,k2,k3,c4,c5,z3u,e0]
 |@er n n' r e out h1 h2 h3 hf hn hA he=>
  subst hf;have:=zyh g hg a b ha hb most n n' hn r e out h1 h2 h3 hA H
  rwa [if_pos he]at this
 |@ok n n' r out h1 h2 h3 hf hn hA=>
  subst hf;have:=zyh g hg a b ha hb most n n' hn r 0 out h1 h2 h3 hA H
  rwa [if_neg (by simp)]at this
theorem ConvS.oks{g:Gr}(hg:okG g){a b:Te}(ha:a.ok)(hb:b.ok){most:Bool}{f:Int}{r:Bool×List Co×Int×Int}(h:ConvS g a b most f r):okCs r.2.1:=by
 have h0:okCs []:=⟨by simp,by intro c hc;cases hc⟩
 cases h with
 |arg=>exact h0
 |er=>exact h0
 |ok _ _ _ _ _ hA=>
  have:=hA.len (by simp)
  exact⟨by dsimp only;omega,hA.oks hg.1 ha hb (by intro c hc;cases hc)⟩
theorem z3n(g:Gr)(hg:okG g)(a b:Te)(ha:a.ok)(hb:b.ok)(most:Bool)(f:Int)(H:List AO):F zjy [.agg g.cs,.agg a.cs,.agg b.cs,.bool most,.int .i64 f] H=some (.ret (.bool true),H):=by
 obtain⟨r,hr⟩:=yb5 g a b most f;have k1:=fun H=>ycw g hg a b ha hb most f r hr H
 have k2:=fun H=>zj6 g hg a b ha hb most f r hr H
 have k3:=hr.oks hg ha hb;have k4:=fun H=>zut g hg H
 have k5:=fun H=>zm6 g hg H
 rcases r with⟨r,out,n,e⟩;have k6:=fun H=>z6w out out k3 H
 rw[zx4]at k6;simp only[decide_true,Bool.and_self]at k6;rcases a with⟨ka,Na,lsa,ksa⟩;rcases b with⟨kb,Nb,lsb,ksb⟩;simp only[Te.cs,Gr.cs,z3u]at k1 k2 k4 k5;rw[z5c]
 cases r <;> cases c1:zk3 g <;> simp only[c1]at k4 k5 <;>
  simp only[↓reduceIte,go_sem,Te.cs,Gr.cs,k1,k2,k4,k5,k6,beq_self_eq_true]
end Go.Ab
end
section
set_option linter.unusedVariables false
set_option linter.unusedSimpArgs false
set_option maxRecDepth 100000
set_option maxHeartbeats 4000000
namespace Go.Ab
open Go.RowKit Go.Proofs
def runB:Nat->List Cl->Int->List Int->Option Bool
 |0,_,_,_=>none
 |n+1,l,most,m=>if (za7 l m).any (fun x=>decide (most<x))=true then some false else if za7 l m=m then (if m.all (fun x=>decide (x<=most))=true then some true else none) else runB n l most (za7 l m)
theorem z6y:∀(n:Nat) {l:List Cl} {most:Int} {m:List Int} {b:Bool},runB n l most m=some b->∃r k,RunS l most m r k/\r.isSome=b
 |0,l,most,m,b,h=>by cases h
 |n+1,l,most,m,b,h=>by
  rw[runB]at h
  split at h
  ·rename_i h1
   cases h;obtain⟨x,hx,hlt⟩:=List.any_eq_true.1 h1
   exact⟨none,1,.over ⟨x,hx,by simpa using hlt⟩,rfl⟩
  ·rename_i h1
   split at h
   ·rename_i h2
    split at h
    ·rename_i h3
     cases h;exact⟨some m,1,.fix h2 (fun x hx=>by simpa using List.all_eq_true.1 h3 x hx),rfl⟩
    ·cases h
   ·rename_i h2
    obtain⟨r,k,h3,h4⟩:=z6y n h;refine⟨r,k+1,.more h2 (fun x hx=>?_) h3,h4⟩
    simp only[List.any_eq_true,decide_eq_true_eq,not_exists,not_and]at h1;have:=h1 x hx;omega
def brkB(f:Nat)(cons:List Co)(p:Nat)(b:Lv)(n:Nat)(x:At):Option Bool:=runB f (zua cons (zde n p) b x) (zh7 ((p+1:Nat):Int) (zua cons (zde n p) b x)) (List.replicate (p+1) 0)
theorem ykj(f:Nat){cons:List Co}{p:Nat}{a b:Lv}(h:((List.range (2 ^ p)).all fun n=>(zas (za9 a (zde n p))).all fun x=>brkB f cons p b n x == some false)=true):z29 cons p a b=true:=by
 refine zq6.2 fun n hn hb=>?_
 obtain⟨x,hx,m,k,hr⟩:=hb;have h1:=List.all_eq_true.1 (List.all_eq_true.1 h n (by simpa using hn)) x hx
 have h1:brkB f cons p b n x=some false:=by simpa using h1
 obtain⟨r,k',h2,h3⟩:=z6y f h1;rw[zhi]at hr;have:=(hr.det h2).1;subst this;cases h3
theorem leqB_no(f:Nat){cons:List Co}{p:Nat}{a b:Lv}(h:((List.range (2 ^ p)).any fun n=>(zas (za9 a (zde n p))).any fun x=>brkB f cons p b n x == some true)=true):z29 cons p a b=false:=by
 rcases hb:z29 cons p a b with _|_
 ·rfl
 exfalso;obtain⟨n,hn,h1⟩:=List.any_eq_true.1 h;obtain⟨x,hx,h2⟩:=List.any_eq_true.1 h1;have h2:brkB f cons p b n x=some true:=by simpa using h2
 obtain⟨r,k,h3,h4⟩:=z6y f h2;refine zq6.1 hb n (by simpa using hn) ⟨x,hx,?_⟩
 cases r with
 |none=>cases h4
 |some m=>exact⟨m,k,by rw[zhi];exact h3⟩
def pL:Lv:=.mk 5 0 []
def spL:Lv:=.mk 2 0 [pL]
def sP:Te:=.mk 2 0 [pL] []
def sS:Te:=.mk 2 0 [spL] []
def g1:Gr:=⟨[],1,0,[],1⟩
def g2:Gr:=⟨[],1,0,[],2⟩
def g0:Gr:=⟨[],0,0,[],0⟩
theorem g_ok(p m mode:Int):okG ⟨[],p,m,[],mode⟩:=⟨ykd,by simp,by intro c hc;cases hc⟩
theorem ydy:sP.ok:=by simp[sP,pL,zkt,zwz]
theorem ydx:sS.ok:=by simp[sS,spL,pL,zkt,zwz]
theorem leq1:zha g1 (0,[]) pL spL=(true,0,[]):=by
 unfold zha;rw[if_neg (by simp),if_neg (show ¬ g1.mode=2 by decide),if_pos (by rfl)]
 rw[show z29 g1.cons g1.params.toNat pL spL=true from ykj 20 (by decide +kernel)]
theorem leq2:zha g1 (0,[]) spL pL=(false,0,[]):=by
 unfold zha;rw[if_neg (by simp),if_neg (show ¬ g1.mode=2 by decide),if_pos (by rfl)]
 rw[show z29 g1.cons g1.params.toNat spL pL=false from leqB_no 20 (by decide +kernel)]
theorem zug(g:Gr)(n:Nat)(l:Lv):Hd g.env n (.mk 2 0 [l] []) (.mk 2 0 [l] []) n:=.stuck (by decide) (by decide) (fun h=>absurd h (by decide))
theorem aw1:ConvS g1 sP sS true 5 (true,[],4,0):=by
 have h:Al g1 (4+1) [] sP sS true _ 4 _ _:=.sortM (zug g1 4 pL) (zug g1 4 spL);rw[leq1]at h;exact .ok (by rfl) (by rfl) (by rfl) rfl (by decide) h
theorem aw2:ConvS g1 sS sP true 5 (false,[],4,0):=by
 have h:Al g1 (4+1) [] sS sP true _ 4 _ _:=.sortM (zug g1 4 spL) (zug g1 4 pL);rw[leq2]at h;exact .ok (by rfl) (by rfl) (by rfl) rfl (by decide) h
theorem aw3:ConvS g1 sP sS true 0 (false,[],0,40) :=
 .er (by rfl) (by rfl) (by rfl) rfl (by decide) (.burn0 (g:=g1)) (by decide)
theorem aw4:ConvS g2 sS sP false 5 (true,[.mk spL pL,.mk pL spL],4,0):=by
 have h:Al g2 (4+1) [] sS sP false _ 4 _ _:=.lvls (.inl ⟨rfl,rfl⟩) (zug g2 4 spL) (zug g2 4 pL) rfl;have e:zle g2 (0,[]) [spL] [pL]=(true,0,[.mk spL pL,.mk pL spL]):=by
  simp[zle,zpt,zha,g2]
 rw[e]at h;exact .ok (by rfl) (by rfl) (by rfl) rfl (by decide) h
theorem ych(H:List AO):F zmr [] H=some (.ret (.bool true),H):=by
 have hS0:=fun H=>zcl pL H
 have hS1:=fun H=>zcl spL H
 have r1:=fun H=>zj6 g1 (g_ok _ _ _) sP sS ydy ydx true 5 _ aw1 H
 have r2:=fun H=>zj6 g1 (g_ok _ _ _) sS sP ydx ydy true 5 _ aw2 H
 have r3:=fun H=>zj6 g1 (g_ok _ _ _) sP sS ydy ydx true 0 _ aw3 H
 have r4:=fun H=>zj6 g2 (g_ok _ _ _) sS sP ydx ydy false 5 _ aw4 H
 have r5:=fun H=>zj6 g0 (g_ok _ _ _) sP sS ydy ydx true 5 (false,[],0,1) (.arg (.inl (by rfl))) H
 have r6:=fun H=>zm6 g2 (g_ok _ _ _) H
 have r7:=fun H=>zm6 g0 (g_ok _ _ _) H
 rw[show zk3 g2=true from rfl]at r6
 rw[show zk3 g0=false from rfl]at r7
 have e1:De.css []=[]:=rfl;have e2:Co.css []=[]:=rfl;have e3:Co.css [.mk spL pL,.mk pL spL]=[spL.cs++pL.cs,pL.cs++spL.cs]:=rfl;simp only[z3u,e1,e2,e3,g0,g1,g2,Gr.cs,sP,sS,pL,spL,Te.cs,Te.css,Lv.cs,Lv.css,List.cons_append,List.nil_append]at hS0 hS1 r1 r2 r3 r4 r5 r6 r7;rw[z2k];simp only[↓reduceIte,go_sem,hS0,hS1,r1,r2,r3,r4,r5,r6,r7,List.length_cons,List.length_nil,Nat.reduceAdd,Int.cast_ofNat_Int]
end Go.Ab
end
section
set_option linter.unusedVariables false
set_option linter.unusedSimpArgs false
set_option maxRecDepth 100000
set_option maxHeartbeats 2000000
namespace Go.Ab
open Go.RowKit Go.Proofs
theorem zcv{H Y:List AO}{id:Nat}{x:AO}(h:id<H.length):H.set id x++Y=(H++Y).set id x:=by rw[List.set_append_left _ _ h]
theorem zbn{H Y:List AO}{id i:Nat}{x:AO}(h:id<H.length):((H++Y).set id x)[H.length+i]?=Y[i]?:=by
 rw[List.getElem?_set_ne (by omega),zwb]
theorem zbo{H Y:List AO}{id:Nat}{x:AO}(h:id<H.length):((H++Y).set id x)[H.length]?=Y[0]?:=by
 rw[List.getElem?_set_ne (by omega),zwc]
theorem zbl{H Y:List AO}{id i:Nat}{x y:AO}(h:id<H.length):((H++Y).set id x).set (H.length+i) y=(H++Y.set i y).set id x:=by
 rw[List.set_comm _ _ (by omega),yl4]
theorem zbm{H Y:List AO}{id:Nat}{x y:AO}(h:id<H.length):((H++Y).set id x).set H.length y=(H++Y.set 0 y).set id x:=by
 rw[List.set_comm _ _ (by omega),yl3]
theorem zbq{a b c:Nat}(h:a<b):(a<b+c)=True:=by simp;omega
open Classical in
theorem zcu{H X:List AO}{r:Res}{id:Nat}{y:AO}{L:List Int}{b:Int}(h:id<H.length):ze0 (H.set id y) r ((H++X).set id (mkr L b))=if LtR H.length r then some (r,H.set id (mkr L b)) else none:=by
 have e:(H++X).set id (mkr L b)=(H.set id y).set id (mkr L b)++X:=by rw[zvw,zcv h]
 rw[e];have:=ztf (H:=H.set id y) (X:=X) (r:=r) (id:=id) (x:=mkr L b) (ynr _ L b);rw[this,List.length_set,zvw]
def zf8(L:List Int):Nat->Int->List Lv×Int
 |0,a=>([],a)
 |i+1,a=>((zar L 3 2 2 a).1::(zf8 L i (zar L 3 2 2 a).2).1,(zf8 L i (zar L 3 2 2 a).2).2)
def zfl(L:List Int):Nat->Int->Int->Te×Int
 |0,v,a=>(.mk 1 0 [] [],a)
 |d+1,v,a=>
  let k0:=zat L a 12
  let k:=if d=0 then k0.tmod 4 else k0
  if k<2/\0<v then (.mk 1 (zat L (a+1) v) [] [],a+1+1)
  else if k<3 then (.mk 2 0 [(zar L 3 2 3 (a+1)).1] [],(zar L 3 2 3 (a+1)).2)
  else if k<4 then (.mk 3 (zat L (a+1) 4) (zf8 L (zat L (a+1+1) 3).toNat (a+1+1+1)).1 [],(zf8 L (zat L (a+1+1) 3).toNat (a+1+1+1)).2)
  else
   let x:=zfl L d v (a+1)
   if k<7 then (.mk 4 0 [] [x.1,(zfl L d v x.2).1],(zfl L d v x.2).2)
   else if k<9 then (.mk 5 0 [] [x.1,(zfl L d (v+1) x.2).1],(zfl L d (v+1) x.2).2)
   else if k<11 then (.mk 6 0 [] [x.1,(zfl L d (v+1) x.2).1],(zfl L d (v+1) x.2).2)
   else (.mk 7 0 [] [x.1,(zfl L d v x.2).1,(zfl L d (v+1) (zfl L d v x.2).2).1],(zfl L d (v+1) (zfl L d v x.2).2).2)
theorem zzp(L:List Int):∀(i:Nat) (a:Int),a<=(zf8 L i a).2/\(zf8 L i a).2<=a+7*i
 |0,a=>by simp[zf8]
 |i+1,a=>by
  have h1:=zd3 L 3 2 2 a;have h2:=zzp L i (zar L 3 2 2 a).2;rw[zf8];simp at h1 ⊢;omega
theorem zo5{L:List Int}(hL:zbu L):∀(d:Nat) (v a:Int),a<=(zfl L d v a).2/\(zfl L d v a).2<=a+40*4 ^ d
 |0,v,a=>by simp[zfl];omega
 |d+1,v,a=>by
  have hp:(4:Int) ^ (d+1)=4*4 ^ d:=by rw[Int.pow_succ];omega
  have hq:(1:Int)<=4 ^ d:=Int.pow_pos (by decide)
  have h1:=zd3 L 3 2 3 (a+1);have h2:=zau hL (a+1+1) (n:=3) (by omega)
  have h3:=zzp L (zat L (a+1+1) 3).toNat (a+1+1+1);have h4:=zo5 hL d v (a+1);have h5:=zo5 hL d v (zfl L d v (a+1)).2;have h6:=zo5 hL d (v+1) (zfl L d v (a+1)).2;have h7:=zo5 hL d (v+1) (zfl L d v (zfl L d v (a+1)).2).2;simp only[Int.reducePow,Nat.reduceAdd]at h1;rw[zfl];dsimp only
  repeat' split
  all_goals (try dsimp only) <;> constructor <;> omega
theorem z37(a:List Lv)(x:Lv):Lv.css a++[x.cs]=Lv.css (a++[x]):=by rw[z8c];rfl
theorem zxc(L:List Int)(hL:zbu L)(hlen:L.length<=140737488355328)(id:Nat)(H:List AO)(hid:id<H.length)(a0 n:Int)(v6:List AV):∀(i:Nat) (done:List Lv) (a:Int),i<=10->done.length+i<=100->0<=a/\a+7*i<=600000 ->
  zkl (H.set id (mkr L a0)) ((H++[AO.lst 0 3 [],.lst 0 4 [],.lst done.length 3 (Lv.css done),.lst 0 4 [],.lst 0 3 [],.lst 0 4 []]).set id (mkr L a)) (.ptr id 0) (.int .i64 (i:Int)) [.int .i64 0,.int .i64 0,.ol H.length 0,.ol (H.length+1) 0] [.int .i64 3,.int .i64 n,.ol (H.length+2) done.length,.ol (H.length+3) 0]
   = some (.ret (.agg (Te.mk 3 n (done++(zf8 L i a).1) []).cs),H.set id (mkr L (zf8 L i a).2)):=by
 intro i
 induction i with
 |zero=>
  intro done a hi hdl ha;rw[zkl,zab,zf8];simp only[↓reduceIte,go_sem,Int.natCast_zero,zcv,zbn hid,zbo hid,zbl hid,zbm hid,List.length_set,hid,zcu hid,Te.cs,Te.css]
 |succ i ih=>
  intro done a hi hdl ha;have h1:=zd3 L 3 2 2 a;simp only[Int.reducePow,Nat.reduceAdd]at h1;have hl:F zaf [.ptr id 0,.int .i64 3,.int .i64 2,.int .i64 2] ((H++[AO.lst 0 3 [],.lst 0 4 [],.lst done.length 3 (Lv.css done),.lst 0 4 [],.lst 0 3 [],.lst 0 4 []]).set id (mkr L a))=_:=zj8 L hL hlen 3 2 (by omega) (by omega) 1 (by omega) a (by simp;omega) id (H++[AO.lst 0 3 [],.lst 0 4 [],.lst done.length 3 (Lv.css done),.lst 0 4 [],.lst 0 3 [],.lst 0 4 []]) (by simp;omega)
  have:=ih (done++[(zar L 3 2 2 a).1]) (zar L 3 2 2 a).2 (by omega) (by simp;omega) (by omega)
  simp only[zeg,List.append_assoc,List.cons_append,List.nil_append]at this;have hc:((i+1:Nat):Int) - 1=(i:Int):=by omega
  have hp:(0:Int)<((i+1:Nat):Int):=by omega
  have hdl2:done.length<=1073741823:=by omega
  rw[zkl,zab,zf8];simp only[↓reduceIte,go_sem,hp,hl,hc,zam (n:=(i:Int)) (by omega) (by omega),z37,hdl2,zcv,zbn hid,zbo hid,zbl hid,zbm hid,List.length_set,hid,Nat.reduceAdd]
  exact this
theorem term_ok(L:List Int)(hL:zbu L)(hlen:L.length<=140737488355328):∀(d:Nat),d<=6->∀(v:Int),0<=v/\v+d<=100->∀(a:Int),0<=a/\a+40*4 ^ (d+1)<=500000->∀(id:Nat) (H:List AO),id<H.length ->
  F zdr [.ptr id 0,.int .i64 v,.int .i64 ((d:Int)+1)] (H.set id (mkr L a))=some (.ret (.agg (zfl L (d+1) v a).1.cs),H.set id (mkr L (zfl L (d+1) v a).2)):=by
 intro d
 induction d with
 |zero=>
  intro hd v hv a ha id H hid;simp at ha;have hid2:∀X:List AO,id<(H++X).length:=fun X=>by simp;omega
  have hP0:=zb3 L hL hlen a (by omega) 12 (by omega) id (H++[AO.lst 0 3 [],.lst 0 4 []]) (hid2 _) (by omega)
  have hPv:=zb3 L hL hlen (a+1) (by omega) v (by omega) id (H++[AO.lst 0 3 [],.lst 0 4 []]) (hid2 _)
  have hP4:=zb3 L hL hlen (a+1) (by omega) 4 (by omega) id (H++[AO.lst 0 3 [],.lst 0 4 []]) (hid2 _) (by omega)
  have hP3:=zb3 L hL hlen (a+1+1) (by omega) 3 (by omega) id (H++[AO.lst 0 3 [],.lst 0 4 [],.lst 0 3 [],.lst 0 4 [],.lst 0 3 [],.lst 0 4 []]) (hid2 _) (by omega)
  have hl:F zaf [.ptr id 0,.int .i64 3,.int .i64 2,.int .i64 3] ((H++[AO.lst 0 3 [],.lst 0 4 []]).set id (mkr L (a+1)))=_:=zj8 L hL hlen 3 2 (by omega) (by omega) 2 (by omega) (a+1) (by simp;omega) id (H++[AO.lst 0 3 [],.lst 0 4 []]) (hid2 _)
  have hr3:=zau hL (a+1+1) (n:=3) (by omega)
  have hlo:=zxc L hL hlen id H hid a (zat L (a+1) 4) [] (zat L (a+1+1) 3).toNat [] (a+1+1+1) (by omega) (by simp;omega) (by omega)
  simp only[Int.toNat_of_nonneg hr3.1,List.length_nil,List.nil_append,Lv.css]at hlo;have hk:=zau hL a (n:=12) (by omega)
  rw[zu6,zfl];generalize zat L a 12=k0 at *;have h4:¬ (4:Int)=0:=by decide
  have h5:((0:Nat):Int)+1<2:=by decide
  have h6:k0.tmod 4<4:=by
   rw[Int.tmod_eq_emod_of_nonneg hk.1];exact Int.emod_lt_of_pos _ (by omega)
  generalize hk4:k0.tmod 4=k at *;have hc:(k<2/\0<v)\/(k<2/\¬ 0<v/\k<3)\/(¬ k<2/\k<3)\/(¬ k<2/\¬ k<3/\k<4):=by omega
  rcases hc with⟨h7,h8⟩|⟨h7,h8,h9⟩|⟨h7,h8⟩|⟨h7,h8,h9⟩
  ·simp only[↓reduceIte,go_sem,zcv,zbn hid,zbo hid,zbl hid,zbm hid,List.length_set,hid,zbq,zcu hid,hP0,hPv,hP4,hP3,hl,hk4,h4,h5,h7,h8,zes,zcl,and_self,true_and]
  ·simp only[↓reduceIte,go_sem,zcv,zbn hid,zbo hid,zbl hid,zbm hid,List.length_set,hid,zbq,zcu hid,hP0,hPv,hP4,hP3,hl,hk4,h4,h5,h7,h8,h9,zes,zcl,and_self,and_false]
  ·simp only[↓reduceIte,go_sem,zcv,zbn hid,zbo hid,zbl hid,zbm hid,List.length_set,hid,zbq,zcu hid,hP0,hPv,hP4,hP3,hl,hk4,h4,h5,h7,h8,zes,zcl,and_self,false_and]
  ·simp only[↓reduceIte,go_sem,zcv,zbn hid,zbo hid,zbl hid,zbm hid,List.length_set,hid,zbq,zcu hid,hP0,hPv,hP4,hP3,hl,hk4,h4,h5,h7,h8,h9,zes,zcl,and_self,false_and]
   exact hlo
 |succ d ih=>
  intro hd v hv a ha id H hid;have hpw:(4:Int) ^ (d+1+1)=4*4 ^ (d+1):=by rw[Int.pow_succ];omega
  have hpw2:(4:Int) ^ (d+1)=4*4 ^ d:=by rw[Int.pow_succ];omega
  have hq:(1:Int)<=4 ^ d:=Int.pow_pos (by decide)
  have hid2:∀X:List AO,id<(H++X).length:=fun X=>by simp;omega
  have hP0:=zb3 L hL hlen a (by omega) 12 (by omega) id (H++[AO.lst 0 3 [],.lst 0 4 []]) (hid2 _) (by omega)
  have hPv:=zb3 L hL hlen (a+1) (by omega) v (by omega) id (H++[AO.lst 0 3 [],.lst 0 4 []]) (hid2 _)
  have hP4:=zb3 L hL hlen (a+1) (by omega) 4 (by omega) id (H++[AO.lst 0 3 [],.lst 0 4 []]) (hid2 _) (by omega)
  have hP3:=zb3 L hL hlen (a+1+1) (by omega) 3 (by omega) id (H++[AO.lst 0 3 [],.lst 0 4 [],.lst 0 3 [],.lst 0 4 [],.lst 0 3 [],.lst 0 4 []]) (hid2 _) (by omega)
  have hl:F zaf [.ptr id 0,.int .i64 3,.int .i64 2,.int .i64 3] ((H++[AO.lst 0 3 [],.lst 0 4 []]).set id (mkr L (a+1)))=_:=zj8 L hL hlen 3 2 (by omega) (by omega) 2 (by omega) (a+1) (by simp;omega) id (H++[AO.lst 0 3 [],.lst 0 4 []]) (hid2 _)
  have hr3:=zau hL (a+1+1) (n:=3) (by omega)
  have hlo:=zxc L hL hlen id H hid a (zat L (a+1) 4) [] (zat L (a+1+1) 3).toNat [] (a+1+1+1) (by omega) (by simp;omega) (by omega)
  simp only[Int.toNat_of_nonneg hr3.1,List.length_nil,List.nil_append,Lv.css]at hlo;have hk:=zau hL a (n:=12) (by omega)
  have hT1:=zo5 hL (d+1) v (a+1);have hT2:=zo5 hL (d+1) v (zfl L (d+1) v (a+1)).2;have hC1:=fun Y:List AO=>ih (by omega) v (by omega) (a+1) (by omega) id (H++Y) (hid2 _)
  have hC2:=fun Y:List AO=>ih (by omega) v (by omega) (zfl L (d+1) v (a+1)).2 (by omega) id (H++Y) (hid2 _)
  have hC3:=fun Y:List AO=>ih (by omega) (v+1) (by omega) (zfl L (d+1) v (a+1)).2 (by omega) id (H++Y) (hid2 _)
  have hC4:=fun Y:List AO=>ih (by omega) (v+1) (by omega) (zfl L (d+1) v (zfl L (d+1) v (a+1)).2).2 (by omega) id (H++Y) (hid2 _)
  have hd1:((d+1:Nat):Int)+1 - 1=(d:Int)+1:=by omega
  have hw1:IntKind.i64.wrap ((d:Int)+1)=(d:Int)+1:=zam (by omega) (by omega)
  have hw2:IntKind.i64.wrap (v+1)=v+1:=zam (by omega) (by omega)
  rw[zu6,zfl];generalize zat L a 12=k at *;have h4:¬ (4:Int)=0:=by decide
  have h5:¬ ((d+1:Nat):Int)+1<2:=by omega
  have h6:¬ d+1=0:=by omega
  have hc:(k<2/\0<v)\/(k<2/\¬ 0<v/\k<3)\/(¬ k<2/\k<3)\/(¬ k<2/\¬ k<3/\k<4)\/(¬ k<2/\¬ k<3/\¬ k<4/\k<7)\/(¬ k<2/\¬ k<3/\¬ k<4/\¬ k<7/\k<9)\/(¬ k<2/\¬ k<3/\¬ k<4/\¬ k<7/\¬ k<9/\k<11)\/(¬ k<2/\¬ k<3/\¬ k<4/\¬ k<7/\¬ k<9/\¬ k<11):=by omega
  rcases hc with⟨h7,h8⟩|⟨h7,h8,h9⟩|⟨h7,h8⟩|⟨h7,h8,h9⟩|⟨h7,h8,h9,h10⟩|⟨h7,h8,h9,h10,h11⟩|⟨h7,h8,h9,h10,h11,h12⟩|⟨h7,h8,h9,h10,h11,h12⟩
  ·simp only[↓reduceIte,go_sem,zcv,zbn hid,zbo hid,zbl hid,zbm hid,List.length_set,hid,zbq,zcu hid,hP0,hPv,hP4,hP3,hl,h4,h5,h6,h7,h8,zes,zcl,and_self,true_and]
  ·simp only[↓reduceIte,go_sem,zcv,zbn hid,zbo hid,zbl hid,zbm hid,List.length_set,hid,zbq,zcu hid,hP0,hPv,hP4,hP3,hl,h4,h5,h6,h7,h8,h9,zes,zcl,and_self,and_false]
  ·simp only[↓reduceIte,go_sem,zcv,zbn hid,zbo hid,zbl hid,zbm hid,List.length_set,hid,zbq,zcu hid,hP0,hPv,hP4,hP3,hl,h4,h5,h6,h7,h8,zes,zcl,and_self,false_and]
  ·simp only[↓reduceIte,go_sem,zcv,zbn hid,zbo hid,zbl hid,zbm hid,List.length_set,hid,zbq,zcu hid,hP0,hPv,hP4,hP3,hl,h4,h5,h6,h7,h8,h9,zes,zcl,and_self,false_and]
   exact hlo
  ·simp only[↓reduceIte,go_sem,zcv,zbn hid,zbo hid,zbl hid,zbm hid,List.length_set,hid,zbq,zcu hid,hP0,hPv,hP4,hP3,hl,h4,h5,h6,h7,h8,h9,h10,hd1,hw1,hw2,hC1,hC2,hC3,hC4,zef,zuw,zuv,and_self,false_and]
  ·simp only[↓reduceIte,go_sem,zcv,zbn hid,zbo hid,zbl hid,zbm hid,List.length_set,hid,zbq,zcu hid,hP0,hPv,hP4,hP3,hl,h4,h5,h6,h7,h8,h9,h10,h11,hd1,hw1,hw2,hC1,hC2,hC3,hC4,zef,zuw,zuv,and_self,false_and]
  ·simp only[↓reduceIte,go_sem,zcv,zbn hid,zbo hid,zbl hid,zbm hid,List.length_set,hid,zbq,zcu hid,hP0,hPv,hP4,hP3,hl,h4,h5,h6,h7,h8,h9,h10,h11,h12,hd1,hw1,hw2,hC1,hC2,hC3,hC4,zef,zuw,zuv,and_self,false_and]
  ·simp only[↓reduceIte,go_sem,zcv,zbn hid,zbo hid,zbl hid,zbm hid,List.length_set,hid,zbq,zcu hid,hP0,hPv,hP4,hP3,hl,h4,h5,h6,h7,h8,h9,h10,h11,h12,hd1,hw1,hw2,hC1,hC2,hC3,hC4,zef,zuw,zuv,and_self,false_and]
end Go.Ab
end
section
set_option linter.unusedVariables false
set_option linter.unusedSimpArgs false
set_option maxRecDepth 100000
set_option maxHeartbeats 2000000
namespace Go.Ab
open Go.RowKit Go.Proofs
theorem zit(L:List Int)(p m:Int):∀(d:Nat) (a:Int),(zar L p m d a).1.ok
 |0,a=>by rw[zar];simp[zwz]
 |d+1,a=>by
  have h:=zit L p m d;rw[zar]
  repeat' split
  all_goals simp[zwz,h]
theorem zq5(L:List Int):∀(i:Nat) (a:Int),(zf8 L i a).1.length=i/\∀x∈(zf8 L i a).1,x.ok
 |0,a=>by simp[zf8]
 |i+1,a=>by
  have h:=zq5 L i;rw[zf8];refine⟨by simp[h],?_⟩
  intro x hx;simp at hx;rcases hx with rfl|hx
  ·exact zit _ _ _ _ _
  ·exact (h _).2 x hx
theorem zvt{L:List Int}(hL:zbu L):∀(d:Nat) (v a:Int),(zfl L d v a).1.ok
 |0,v,a=>by rw[zfl];simp[zkt]
 |d+1,v,a=>by
  have h:=fun v a=>zvt hL d v a
  have h3:=zq5 L (zat L (a+1+1) 3).toNat (a+1+1+1);have h2:=zau hL (a+1+1) (n:=3) (by omega)
  rw[zfl];dsimp only
  repeat' split
  all_goals simp[zkt,h,zit]
  all_goals exact⟨by omega,h3.2⟩
end Go.Ab
end
section
set_option linter.unusedVariables false
set_option linter.unusedSimpArgs false
set_option maxRecDepth 100000
set_option maxHeartbeats 4000000
namespace Go.Ab
open Go.RowKit Go.Proofs
def zg9(L:List Int)(p:Int):Nat->Int->List Lv×Int
 |0,a=>([],a)
 |i+1,a=>((zar L p 0 2 a).1::(zg9 L p i (zar L p 0 2 a).2).1,(zg9 L p i (zar L p 0 2 a).2).2)
def za3(L:List Int)(c p:Int):Nat->Int->Int->Te×Int
 |0,v,a=>(.mk 1 0 [] [],a)
 |d+1,v,a=>
  let k0:=zat L a 12
  let k:=if d=0 then k0.tmod 5 else k0
  if k<2/\0<v then (.mk 1 (zat L (a+1) v) [] [],a+1+1)
  else if k<4/\0<c then (.mk 3 (zat L (a+1) c) (zg9 L p (zat L (a+1+1) 3).toNat (a+1+1+1)).1 [],(zg9 L p (zat L (a+1+1) 3).toNat (a+1+1+1)).2)
  else if k<5 then (.mk 2 0 [(zar L p 0 2 (a+1)).1] [],(zar L p 0 2 (a+1)).2)
  else
   let x:=za3 L c p d v (a+1)
   if k<8 then (.mk 4 0 [] [x.1,(za3 L c p d v x.2).1],(za3 L c p d v x.2).2)
   else if k<10 then (.mk 5 0 [] [x.1,(za3 L c p d (v+1) x.2).1],(za3 L c p d (v+1) x.2).2)
   else if k<11 then (.mk 6 0 [] [x.1,(za3 L c p d (v+1) x.2).1],(za3 L c p d (v+1) x.2).2)
   else (.mk 7 0 [] [x.1,(za3 L c p d v x.2).1,(za3 L c p d (v+1) (za3 L c p d v x.2).2).1],(za3 L c p d (v+1) (za3 L c p d v x.2).2).2)
theorem zzr(L:List Int)(p:Int):∀(i:Nat) (a:Int),a<=(zg9 L p i a).2/\(zg9 L p i a).2<=a+7*i
 |0,a=>by simp[zg9]
 |i+1,a=>by
  have h1:=zd3 L p 0 2 a;have h2:=zzr L p i (zar L p 0 2 a).2;rw[zg9];simp at h1 ⊢;omega
theorem zj4{L:List Int}(c p:Int)(hL:zbu L):∀(d:Nat) (v a:Int),a<=(za3 L c p d v a).2/\(za3 L c p d v a).2<=a+40*4 ^ d
 |0,v,a=>by simp[za3];omega
 |d+1,v,a=>by
  have hp:(4:Int) ^ (d+1)=4*4 ^ d:=by rw[Int.pow_succ];omega
  have hq:(1:Int)<=4 ^ d:=Int.pow_pos (by decide)
  have h1:=zd3 L p 0 2 (a+1);have h2:=zau hL (a+1+1) (n:=3) (by omega)
  have h3:=zzr L p (zat L (a+1+1) 3).toNat (a+1+1+1);have h4:=zj4 c p hL d v (a+1);have h5:=zj4 c p hL d v (za3 L c p d v (a+1)).2;have h6:=zj4 c p hL d (v+1) (za3 L c p d v (a+1)).2;have h7:=zj4 c p hL d (v+1) (za3 L c p d v (za3 L c p d v (a+1)).2).2;simp only[Int.reducePow,Nat.reduceAdd]at h1;rw[za3];dsimp only
  repeat' split
  all_goals (try dsimp only) <;> constructor <;> omega
theorem zu1(p:Int)(hp0:0<=p/\p<=100)(L:List Int)(hL:zbu L)(hlen:L.length<=140737488355328)(id:Nat)(H:List AO)(hid:id<H.length)(a0 n:Int):∀(i:Nat) (done:List Lv) (a:Int),i<=10->done.length+i<=100->0<=a/\a+7*i<=600000 ->
  zht (H.set id (mkr L a0)) ((H++[AO.lst 0 3 [],.lst 0 4 [],.lst done.length 3 (Lv.css done),.lst 0 4 [],.lst 0 3 [],.lst 0 4 []]).set id (mkr L a)) (.ptr id 0) (.int .i64 p) (.int .i64 (i:Int)) [.int .i64 0,.int .i64 0,.ol H.length 0,.ol (H.length+1) 0] [.int .i64 3,.int .i64 n,.ol (H.length+2) done.length,.ol (H.length+3) 0]
   = some (.ret (.agg (Te.mk 3 n (done++(zg9 L p i a).1) []).cs),H.set id (mkr L (zg9 L p i a).2)):=by
 intro i
 induction i with
 |zero=>
  intro done a hi hdl ha;rw[zht,zab,zg9];simp only[↓reduceIte,go_sem,Int.natCast_zero,zcv,zbn hid,zbo hid,zbl hid,zbm hid,List.length_set,hid,zcu hid,Te.cs,Te.css]
 |succ i ih=>
  intro done a hi hdl ha;have h1:=zd3 L p 0 2 a;simp only[Int.reducePow,Nat.reduceAdd]at h1;have hl:F zaf [.ptr id 0,.int .i64 p,.int .i64 0,.int .i64 2] ((H++[AO.lst 0 3 [],.lst 0 4 [],.lst done.length 3 (Lv.css done),.lst 0 4 [],.lst 0 3 [],.lst 0 4 []]).set id (mkr L a))=_:=zj8 L hL hlen p 0 hp0 (by omega) 1 (by omega) a (by simp;omega) id (H++[AO.lst 0 3 [],.lst 0 4 [],.lst done.length 3 (Lv.css done),.lst 0 4 [],.lst 0 3 [],.lst 0 4 []]) (by simp;omega)
  have:=ih (done++[(zar L p 0 2 a).1]) (zar L p 0 2 a).2 (by omega) (by simp;omega) (by omega)
  simp only[zeg,List.append_assoc,List.cons_append,List.nil_append]at this;have hc:((i+1:Nat):Int) - 1=(i:Int):=by omega
  have hp:(0:Int)<((i+1:Nat):Int):=by omega
  have hdl2:done.length<=1073741823:=by omega
  rw[zht,zab,zg9];simp only[↓reduceIte,go_sem,hp,hl,hc,zam (n:=(i:Int)) (by omega) (by omega),z37,hdl2,zcv,zbn hid,zbo hid,zbl hid,zbm hid,List.length_set,hid,Nat.reduceAdd]
  exact this
theorem z5v(c p:Int)(hc0:0<=c/\c<=100)(hp0:0<=p/\p<=100)(L:List Int)(hL:zbu L)(hlen:L.length<=140737488355328):∀(d:Nat),d<=6->∀(v:Int),0<=v/\v+d<=100->∀(a:Int),0<=a/\a+40*4 ^ (d+1)<=500000->∀(id:Nat) (H:List AO),id<H.length ->
  F zbg [.ptr id 0,.int .i64 c,.int .i64 p,.int .i64 v,.int .i64 ((d:Int)+1)] (H.set id (mkr L a))=some (.ret (.agg (za3 L c p (d+1) v a).1.cs),H.set id (mkr L (za3 L c p (d+1) v a).2)):=by
 intro d
 induction d with
 |zero=>
  intro hd v hv a ha id H hid;simp at ha;have hid2:∀X:List AO,id<(H++X).length:=fun X=>by simp;omega
  have hP0:=zb3 L hL hlen a (by omega) 12 (by omega) id (H++[AO.lst 0 3 [],.lst 0 4 []]) (hid2 _) (by omega)
  have hPv:=zb3 L hL hlen (a+1) (by omega) v (by omega) id (H++[AO.lst 0 3 [],.lst 0 4 []]) (hid2 _)
  have hP4:=zb3 L hL hlen (a+1) (by omega) c (by omega) id (H++[AO.lst 0 3 [],.lst 0 4 []]) (hid2 _)
  have hP3:=zb3 L hL hlen (a+1+1) (by omega) 3 (by omega) id (H++[AO.lst 0 3 [],.lst 0 4 [],.lst 0 3 [],.lst 0 4 [],.lst 0 3 [],.lst 0 4 []]) (hid2 _) (by omega)
  have hl:F zaf [.ptr id 0,.int .i64 p,.int .i64 0,.int .i64 2] ((H++[AO.lst 0 3 [],.lst 0 4 []]).set id (mkr L (a+1)))=_:=zj8 L hL hlen p 0 hp0 (by omega) 1 (by omega) (a+1) (by simp;omega) id (H++[AO.lst 0 3 [],.lst 0 4 []]) (hid2 _)
  have hr3:=zau hL (a+1+1) (n:=3) (by omega)
  have hlo:=zu1 p hp0 L hL hlen id H hid a (zat L (a+1) c) (zat L (a+1+1) 3).toNat [] (a+1+1+1) (by omega) (by simp;omega) (by omega)
  simp only[Int.toNat_of_nonneg hr3.1,List.length_nil,List.nil_append,Lv.css]at hlo;have hk:=zau hL a (n:=12) (by omega)
  rw[zr0,za3];generalize zat L a 12=k0 at *;have h4:¬ (5:Int)=0:=by decide
  have h5:((0:Nat):Int)+1<2:=by decide
  have h6:k0.tmod 5<5:=by
   rw[Int.tmod_eq_emod_of_nonneg hk.1];exact Int.emod_lt_of_pos _ (by omega)
  generalize hk4:k0.tmod 5=k at *;have h9:k<5:=h6;by_cases h7:k<2 <;> by_cases h8:0<v <;> by_cases h10:k<4 <;> by_cases h11:0<c
  all_goals first
   |omega
   |(simp only[↓reduceIte,go_sem,zcv,zbn hid,zbo hid,zbl hid,zbm hid,List.length_set,hid,zbq,zcu hid,hP0,hPv,hP4,hP3,hl,hk4,h4,h5,h7,h8,h9,h10,h11,zes,zcl,and_self,and_false,false_and,true_and,if_true,if_false];done)
   |(simp only[↓reduceIte,go_sem,zcv,zbn hid,zbo hid,zbl hid,zbm hid,List.length_set,hid,zbq,zcu hid,hP0,hPv,hP4,hP3,hl,hk4,h4,h5,h7,h8,h9,h10,h11,zes,zcl,and_self,and_false,false_and,true_and,if_true,if_false];exact hlo)
 |succ d ih=>
  intro hd v hv a ha id H hid;have hpw:(4:Int) ^ (d+1+1)=4*4 ^ (d+1):=by rw[Int.pow_succ];omega
  have hpw2:(4:Int) ^ (d+1)=4*4 ^ d:=by rw[Int.pow_succ];omega
  have hq:(1:Int)<=4 ^ d:=Int.pow_pos (by decide)
  have hid2:∀X:List AO,id<(H++X).length:=fun X=>by simp;omega
  have hP0:=zb3 L hL hlen a (by omega) 12 (by omega) id (H++[AO.lst 0 3 [],.lst 0 4 []]) (hid2 _) (by omega)
  have hPv:=zb3 L hL hlen (a+1) (by omega) v (by omega) id (H++[AO.lst 0 3 [],.lst 0 4 []]) (hid2 _)
  have hP4:=zb3 L hL hlen (a+1) (by omega) c (by omega) id (H++[AO.lst 0 3 [],.lst 0 4 []]) (hid2 _)
  have hP3:=zb3 L hL hlen (a+1+1) (by omega) 3 (by omega) id (H++[AO.lst 0 3 [],.lst 0 4 [],.lst 0 3 [],.lst 0 4 [],.lst 0 3 [],.lst 0 4 []]) (hid2 _) (by omega)
  have hl:F zaf [.ptr id 0,.int .i64 p,.int .i64 0,.int .i64 2] ((H++[AO.lst 0 3 [],.lst 0 4 []]).set id (mkr L (a+1)))=_:=zj8 L hL hlen p 0 hp0 (by omega) 1 (by omega) (a+1) (by simp;omega) id (H++[AO.lst 0 3 [],.lst 0 4 []]) (hid2 _)
  have hr3:=zau hL (a+1+1) (n:=3) (by omega)
  have hlo:=zu1 p hp0 L hL hlen id H hid a (zat L (a+1) c) (zat L (a+1+1) 3).toNat [] (a+1+1+1) (by omega) (by simp;omega) (by omega)
  simp only[Int.toNat_of_nonneg hr3.1,List.length_nil,List.nil_append,Lv.css]at hlo;have hk:=zau hL a (n:=12) (by omega)
  have hT1:=zj4 c p hL (d+1) v (a+1);have hT2:=zj4 c p hL (d+1) v (za3 L c p (d+1) v (a+1)).2;have hC1:=fun Y:List AO=>ih (by omega) v (by omega) (a+1) (by omega) id (H++Y) (hid2 _)
  have hC2:=fun Y:List AO=>ih (by omega) v (by omega) (za3 L c p (d+1) v (a+1)).2 (by omega) id (H++Y) (hid2 _)
  have hC3:=fun Y:List AO=>ih (by omega) (v+1) (by omega) (za3 L c p (d+1) v (a+1)).2 (by omega) id (H++Y) (hid2 _)
  have hC4:=fun Y:List AO=>ih (by omega) (v+1) (by omega) (za3 L c p (d+1) v (za3 L c p (d+1) v (a+1)).2).2 (by omega) id (H++Y) (hid2 _)
  have hd1:((d+1:Nat):Int)+1 - 1=(d:Int)+1:=by omega
  have hw1:IntKind.i64.wrap ((d:Int)+1)=(d:Int)+1:=zam (by omega) (by omega)
  have hw2:IntKind.i64.wrap (v+1)=v+1:=zam (by omega) (by omega)
  rw[zr0,za3];generalize zat L a 12=k at *;have h4:¬ (5:Int)=0:=by decide
  have h5:¬ ((d+1:Nat):Int)+1<2:=by omega
  have h6:¬ d+1=0:=by omega
  by_cases h9:k<5
  ·by_cases h7:k<2 <;> by_cases h8:0<v <;> by_cases h10:k<4 <;> by_cases h11:0<c
   all_goals first
    |omega
    |(simp only[↓reduceIte,go_sem,zcv,zbn hid,zbo hid,zbl hid,zbm hid,List.length_set,hid,zbq,zcu hid,hP0,hPv,hP4,hP3,hl,h4,h5,h6,h7,h8,h9,h10,h11,zes,zcl,and_self,and_false,false_and,true_and,if_true,if_false];done)
    |(simp only[↓reduceIte,go_sem,zcv,zbn hid,zbo hid,zbl hid,zbm hid,List.length_set,hid,zbq,zcu hid,hP0,hPv,hP4,hP3,hl,h4,h5,h6,h7,h8,h9,h10,h11,zes,zcl,and_self,and_false,false_and,true_and,if_true,if_false];exact hlo)
  ·have h7:¬ k<2:=by omega
   have h8:¬ k<4:=by omega
   have h10:k<8\/¬ k<8/\k<10\/¬ k<8/\¬ k<10/\k<11\/¬ k<8/\¬ k<10/\¬ k<11:=by omega
   rcases h10 with h10|⟨h10,h11⟩|⟨h10,h11,h12⟩|⟨h10,h11,h12⟩
   ·simp only[↓reduceIte,go_sem,zcv,zbn hid,zbo hid,zbl hid,zbm hid,List.length_set,hid,zbq,zcu hid,hP0,hPv,hP4,hP3,hl,h4,h5,h6,h7,h8,h9,h10,hd1,hw1,hw2,hC1,hC2,hC3,hC4,zef,zuw,zuv,zes,zcl,and_self,and_false,false_and,true_and,if_true,if_false]
   ·simp only[↓reduceIte,go_sem,zcv,zbn hid,zbo hid,zbl hid,zbm hid,List.length_set,hid,zbq,zcu hid,hP0,hPv,hP4,hP3,hl,h4,h5,h6,h7,h8,h9,h10,h11,hd1,hw1,hw2,hC1,hC2,hC3,hC4,zef,zuw,zuv,zes,zcl,and_self,and_false,false_and,true_and,if_true,if_false]
   ·simp only[↓reduceIte,go_sem,zcv,zbn hid,zbo hid,zbl hid,zbm hid,List.length_set,hid,zbq,zcu hid,hP0,hPv,hP4,hP3,hl,h4,h5,h6,h7,h8,h9,h10,h11,h12,hd1,hw1,hw2,hC1,hC2,hC3,hC4,zef,zuw,zuv,zes,zcl,and_self,and_false,false_and,true_and,if_true,if_false]
   ·simp only[↓reduceIte,go_sem,zcv,zbn hid,zbo hid,zbl hid,zbm hid,List.length_set,hid,zbq,zcu hid,hP0,hPv,hP4,hP3,hl,h4,h5,h6,h7,h8,h9,h10,h11,h12,hd1,hw1,hw2,hC1,hC2,hC3,hC4,zef,zuw,zuv,zes,zcl,and_self,and_false,false_and,true_and,if_true,if_false]
end Go.Ab
end
section
set_option linter.unusedVariables false
set_option linter.unusedSimpArgs false
set_option maxRecDepth 100000
set_option maxHeartbeats 4000000
namespace Go.Ab
open Go.RowKit Go.Proofs
def con1(L:List Int)(p:Int)(a:Int):Co×Int:=(.mk (zar L p 0 2 a).1 (zar L p 0 2 (zar L p 0 2 a).2).1,(zar L p 0 2 (zar L p 0 2 a).2).2)
def znv(L:List Int):List Co×Int:=if 1<zat L 1 3 then ([(con1 L (zat L 0 3) 2).1],(con1 L (zat L 0 3) 2).2) else ([],2)
def zy0(L:List Int)(c:Int):De×Int :=
 let p:=zat L 0 3
 let t:=za3 L c p 3 0 (znv L).2
 if 0<zat L t.2 3 then (.mk p (znv L).1 t.1 true (za3 L c p 4 0 (t.2+1)).1,(za3 L c p 4 0 (t.2+1)).2)
 else (.mk p (znv L).1 t.1 false zeroT,t.2+1)
theorem decl_ok(L:List Int)(hL:zbu L)(hlen:L.length<=140737488355328)(c:Int)(hc:0<=c/\c<=100)(id:Nat)(H:List AO)(hid:id<H.length):
  F zl3 [.ptr id 0,.int .i64 c] (H.set id (mkr L 0))=some (.ret (.agg (zy0 L c).1.cs),H.set id (mkr L (zy0 L c).2)):=by
 have hid2:∀X:List AO,id<(H++X).length:=fun X=>by simp;omega
 have hp:=zau hL 0 (n:=3) (by omega)
 have hi:=zau hL 1 (n:=3) (by omega)
 have hK:2<=(znv L).2/\(znv L).2<=100:=by
  unfold znv
  split
  ·have h1:=zd3 L (zat L 0 3) 0 2 2
   have h2:=zd3 L (zat L 0 3) 0 2 (zar L (zat L 0 3) 0 2 2).2;simp only[Int.reducePow,Nat.reduceAdd]at h1 h2;simp only[con1];omega
  ·simp
 have hP0:=fun Y=>zb3 L hL hlen 0 (by omega) 3 (by omega) id (H++Y) (hid2 _) (by omega)
 have hP1:=fun Y=>zb3 L hL hlen 1 (by omega) 3 (by omega) id (H++Y) (hid2 _) (by omega)
 have hl1:∀Y,F zaf [.ptr id 0,.int .i64 (zat L 0 3),.int .i64 0,.int .i64 2] ((H++Y).set id (mkr L 2))=_:=fun Y=>zj8 L hL hlen (zat L 0 3) 0 (by omega) (by omega) 1 (by omega) 2 (by simp) id (H++Y) (hid2 _)
 have hlv:=zd3 L (zat L 0 3) 0 2 2;simp only[Int.reducePow,Nat.reduceAdd]at hlv;have hl2:∀Y,F zaf [.ptr id 0,.int .i64 (zat L 0 3),.int .i64 0,.int .i64 2] ((H++Y).set id (mkr L (zar L (zat L 0 3) 0 2 2).2))=_:=fun Y=>zj8 L hL hlen (zat L 0 3) 0 (by omega) (by omega) 1 (by omega) _ (by simp;omega) id (H++Y) (hid2 _)
 have hT:∀Y,F zbg [.ptr id 0,.int .i64 c,.int .i64 (zat L 0 3),.int .i64 0,.int .i64 3] ((H++Y).set id (mkr L (znv L).2))=some (.ret (.agg (za3 L c (zat L 0 3) 3 0 (znv L).2).1.cs),(H++Y).set id (mkr L (za3 L c (zat L 0 3) 3 0 (znv L).2).2)):=fun Y=>z5v c (zat L 0 3) hc (by omega) L hL hlen 2 (by omega) 0 (by omega) (znv L).2 (by omega) id (H++Y) (hid2 _)
 have ha:=zj4 c (zat L 0 3) hL 3 0 (znv L).2;simp only[Int.reducePow]at ha;have hP3:=fun Y=>zb3 L hL hlen (za3 L c (zat L 0 3) 3 0 (znv L).2).2 (by omega) 3 (by omega) id (H++Y) (hid2 _) (by omega)
 have hV:∀Y,F zbg [.ptr id 0,.int .i64 c,.int .i64 (zat L 0 3),.int .i64 0,.int .i64 4] ((H++Y).set id (mkr L ((za3 L c (zat L 0 3) 3 0 (znv L).2).2+1)))=some (.ret (.agg (za3 L c (zat L 0 3) 4 0 ((za3 L c (zat L 0 3) 3 0 (znv L).2).2+1)).1.cs),(H++Y).set id (mkr L (za3 L c (zat L 0 3) 4 0 ((za3 L c (zat L 0 3) 3 0 (znv L).2).2+1)).2)):=fun Y=>z5v c (zat L 0 3) hc (by omega) L hL hlen 3 (by omega) 0 (by omega) _ (by omega) id (H++Y) (hid2 _)
 rw[zy0];generalize za3 L c (zat L 0 3) 3 0 (znv L).2=q at *;generalize za3 L c (zat L 0 3) 4 0 (q.2+1)=r at *;rcases q with⟨⟨k1,n1,ls1,ks1⟩,b1⟩;rcases r with⟨⟨k2,n2,ls2,ks2⟩,b2⟩;simp only[Te.cs]at hT hV hP3;rw[z5f];have hcs:∀(x y:Lv) (u v w z o k:AV),over [u,v,w,z,o,k] 0 x.cs=x.cs++[z,o,k]:=by intro x y;intros;rcases x with⟨_,_,_⟩;rfl
 have hcs2:∀(x y:Lv) (u v w:AV),over (x.cs++[u,v,w]) 3 y.cs=x.cs++y.cs:=by intro x y;intros;rcases x with⟨_,_,_⟩;rcases y with⟨_,_,_⟩;rfl
 by_cases h1:1<zat L 1 3
 ·have h2:zat L 1 3=2:=by omega
  simp only[znv,con1,if_pos h1]at hT ⊢;generalize hx:zar L (zat L 0 3) 0 2 2=x at *;generalize hy:zar L (zat L 0 3) 0 2 x.2=y at *;rcases x with⟨⟨k3,n3,ks3⟩,b3⟩;rcases y with⟨⟨k4,n4,ks4⟩,b4⟩;simp only[Lv.cs]at hl1 hl2;by_cases h3:0<zat L b1 3
  ·rw[if_pos h3]
   simp only[↓reduceIte,go_sem,zcv,zbn hid,zbo hid,zbl hid,zbm hid,List.length_set,hid,zbq,zcu hid,hP0,hP1,hP3,hT,hV,hl1,hl2,hcs,hcs2,Lv.cs,h2,h3,show ((1:Int)<2) from by decide,show ¬ ((1:Int)<1) from by decide,show IntKind.i64.wrap 1=1 from by decide,Nat.add_le_add_iff_left,Nat.reduceLeDiff,De.cs,De.p,De.cons,De.type,De.has,De.value,Co.css,Co.cs,Co.a,Co.b,Te.cs,zeroT,Lv.css,Te.css,List.map_cons,List.map_nil,List.cons_append,List.nil_append]
   rw[ze1,zab];simp only[↓reduceIte,go_sem,zcv,zbn hid,zbo hid,zbl hid,zbm hid,List.length_set,hid,zbq,zcu hid,hP0,hP1,hP3,hT,hV,hl1,hl2,hcs,hcs2,Lv.cs,h2,h3,show ((1:Int)<2) from by decide,show ¬ ((1:Int)<1) from by decide,show IntKind.i64.wrap 1=1 from by decide,Nat.add_le_add_iff_left,Nat.reduceLeDiff,De.cs,De.p,De.cons,De.type,De.has,De.value,Co.css,Co.cs,Co.a,Co.b,Te.cs,zeroT,Lv.css,Te.css,List.map_cons,List.map_nil,List.cons_append,List.nil_append]
   rw[ze1,zab];simp only[↓reduceIte,go_sem,zcv,zbn hid,zbo hid,zbl hid,zbm hid,List.length_set,hid,zbq,zcu hid,hP0,hP1,hP3,hT,hV,hl1,hl2,hcs,hcs2,Lv.cs,h2,h3,show ((1:Int)<2) from by decide,show ¬ ((1:Int)<1) from by decide,show IntKind.i64.wrap 1=1 from by decide,Nat.add_le_add_iff_left,Nat.reduceLeDiff,De.cs,De.p,De.cons,De.type,De.has,De.value,Co.css,Co.cs,Co.a,Co.b,Te.cs,zeroT,Lv.css,Te.css,List.map_cons,List.map_nil,List.cons_append,List.nil_append]
  ·rw[if_neg h3]
   simp only[↓reduceIte,go_sem,zcv,zbn hid,zbo hid,zbl hid,zbm hid,List.length_set,hid,zbq,zcu hid,hP0,hP1,hP3,hT,hV,hl1,hl2,hcs,hcs2,Lv.cs,h2,h3,show ((1:Int)<2) from by decide,show ¬ ((1:Int)<1) from by decide,show IntKind.i64.wrap 1=1 from by decide,Nat.add_le_add_iff_left,Nat.reduceLeDiff,De.cs,De.p,De.cons,De.type,De.has,De.value,Co.css,Co.cs,Co.a,Co.b,Te.cs,zeroT,Lv.css,Te.css,List.map_cons,List.map_nil,List.cons_append,List.nil_append]
   rw[ze1,zab];simp only[↓reduceIte,go_sem,zcv,zbn hid,zbo hid,zbl hid,zbm hid,List.length_set,hid,zbq,zcu hid,hP0,hP1,hP3,hT,hV,hl1,hl2,hcs,hcs2,Lv.cs,h2,h3,show ((1:Int)<2) from by decide,show ¬ ((1:Int)<1) from by decide,show IntKind.i64.wrap 1=1 from by decide,Nat.add_le_add_iff_left,Nat.reduceLeDiff,De.cs,De.p,De.cons,De.type,De.has,De.value,Co.css,Co.cs,Co.a,Co.b,Te.cs,zeroT,Lv.css,Te.css,List.map_cons,List.map_nil,List.cons_append,List.nil_append]
   rw[ze1,zab];simp only[↓reduceIte,go_sem,zcv,zbn hid,zbo hid,zbl hid,zbm hid,List.length_set,hid,zbq,zcu hid,hP0,hP1,hP3,hT,hV,hl1,hl2,hcs,hcs2,Lv.cs,h2,h3,show ((1:Int)<2) from by decide,show ¬ ((1:Int)<1) from by decide,show IntKind.i64.wrap 1=1 from by decide,Nat.add_le_add_iff_left,Nat.reduceLeDiff,De.cs,De.p,De.cons,De.type,De.has,De.value,Co.css,Co.cs,Co.a,Co.b,Te.cs,zeroT,Lv.css,Te.css,List.map_cons,List.map_nil,List.cons_append,List.nil_append]
 ·simp only[znv,if_neg h1]at hT ⊢
  have h2:True:=trivial;by_cases h3:0<zat L b1 3
  ·rw[if_pos h3]
   simp only[↓reduceIte,go_sem,zcv,zbn hid,zbo hid,zbl hid,zbm hid,List.length_set,hid,zbq,zcu hid,hP0,hP1,hP3,hT,hV,h1,h3,De.cs,De.p,De.cons,De.type,De.has,De.value,Co.css,Co.cs,Co.a,Co.b,Te.cs,zeroT,Lv.css,Te.css,List.map_cons,List.map_nil,List.cons_append,List.nil_append];rw[ze1,zab];simp only[↓reduceIte,go_sem,zcv,zbn hid,zbo hid,zbl hid,zbm hid,List.length_set,hid,zbq,zcu hid,hP0,hP1,hP3,hT,hV,h1,h3,De.cs,De.p,De.cons,De.type,De.has,De.value,Co.css,Co.cs,Co.a,Co.b,Te.cs,zeroT,Lv.css,Te.css,List.map_cons,List.map_nil,List.cons_append,List.nil_append]
  ·rw[if_neg h3]
   simp only[↓reduceIte,go_sem,zcv,zbn hid,zbo hid,zbl hid,zbm hid,List.length_set,hid,zbq,zcu hid,hP0,hP1,hP3,hT,hV,h1,h3,De.cs,De.p,De.cons,De.type,De.has,De.value,Co.css,Co.cs,Co.a,Co.b,Te.cs,zeroT,Lv.css,Te.css,List.map_cons,List.map_nil,List.cons_append,List.nil_append];rw[ze1,zab];simp only[↓reduceIte,go_sem,zcv,zbn hid,zbo hid,zbl hid,zbm hid,List.length_set,hid,zbq,zcu hid,hP0,hP1,hP3,hT,hV,h1,h3,De.cs,De.p,De.cons,De.type,De.has,De.value,Co.css,Co.cs,Co.a,Co.b,Te.cs,zeroT,Lv.css,Te.css,List.map_cons,List.map_nil,List.cons_append,List.nil_append]
theorem zrj{H:List AO}{x y:AO}:(H++[x]).set H.length y=H++[y]:=by simp
theorem yln(L:List Int)(hL:zbu L)(hlen:L.length<=140737488355328)(c:Int)(hc:0<=c/\c<=100)(X:List AO):
  F zl3 [.ptr X.length 0,.int .i64 c] (X++[mkr L 0])=some (.ret (.agg (zy0 L c).1.cs),X++[mkr L (zy0 L c).2]):=by
 have:=decl_ok L hL hlen c hc X.length (X++[mkr L 0]) (by simp)
 rwa [zrj,zrj]at this
def ybz:List (List Int)->Nat->List De
 |[],_=>[]
 |l::r,i=>if i<4 then (zy0 l i).1::ybz r (i+1) else []
def ym1(l:List (List Int)):List (List AV):=l.map fun l=>[.sl (u8s l)]
def BsOk(l:List (List Int)):Prop:=l.length<=140737488355328/\∀x∈l,x.length<=140737488355328/\zbu x
theorem yi5(l:List (List Int))(i:Nat):(ym1 l)[i]?=l[i]?.map fun l=>[AV.sl (u8s l)]:=by simp[ym1]
theorem z0j(l:List (List Int)):(ym1 l).length=l.length:=by simp[ym1]
theorem yb2(a:List De)(x:De):De.css a++[x.cs]=De.css (a++[x]):=by simp[De.css]
theorem env_ok(l:List (List Int))(hl:BsOk l)(H:List AO):F zqc [.sl (ym1 l)] H=some (.ret (.sl (De.css (ybz l 0))),H):=by
 have loop:∀(suf pre:List (List Int)) (done:List De) (J:List AO),l=pre++suf->done.length=pre.length->pre.length<=4 ->
   zjf H (H++(.lst 0 11 [] :: .lst done.length 11 (De.css done)::J)) (.sl (ym1 l)) (.ol (H.length+1) done.length) (.int .i64 pre.length)=some (.ret (.sl (De.css (done++ybz suf pre.length))),H):=by
  intro suf
  induction suf with
  |nil=>
   intro pre done J e hd hp;have hn:¬ (pre.length:Int)<l.length:=by rw[e];simp
   rw[zjf,zab,ybz,List.append_nil];simp only[↓reduceIte,go_sem,z0j,hn]
  |cons x suf ih=>
   intro pre done J e hd hp;have hn:(pre.length:Int)<l.length:=by rw[e];simp;omega
   rw[ybz];by_cases h4:pre.length<4
   ·have hg:l[pre.length]?=some x:=by rw[e];simp
    obtain⟨hx1,hx2⟩:=hl.2 x (by rw[e];simp)
    have hD:=yln x hx2 hx1 pre.length (by omega) (H++(.lst 0 11 [] :: .lst done.length 11 (De.css done)::J))
    have:=ih (pre++[x]) (done++[(zy0 x pre.length).1]) (J++[mkr x (zy0 x pre.length).2]) (by rw[e];simp) (by simp[hd]) (by simp;omega)
    simp only[zag,List.length_append,List.length_cons,List.length_nil,List.append_assoc,List.cons_append,List.nil_append,Nat.zero_add]at this hD;rw[zjf,zab,if_pos h4];have h0:AO.box [.sl (u8s x),.int .i64 0]=mkr x 0:=rfl;simp only[↓reduceIte,go_sem,z0j,yi5,hn,h4,show (pre.length:Int)<4 by omega,hg,h0,hD,yb2,show done.length<=1073741823 by omega,zac (n:=pre.length) (by omega)]
    exact this
   ·rw[zjf,zab,if_neg h4,List.append_nil]
    simp only[↓reduceIte,go_sem,z0j,hn,show ¬ (pre.length:Int)<4 by omega]
 have:=loop l [] [] [] rfl rfl (by simp)
 simp only[List.length_nil,Int.natCast_zero,List.nil_append,De.css,List.map_nil]at this;rw[z77];simp only[↓reduceIte,go_sem,this,De.css]
end Go.Ab
end
section
set_option linter.unusedVariables false
set_option linter.unusedSimpArgs false
set_option maxRecDepth 100000
set_option maxHeartbeats 4000000
namespace Go.Ab
open Go.RowKit Go.Proofs
theorem zzq(L:List Int)(p:Int):∀(i:Nat) (a:Int),(zg9 L p i a).1.length=i/\∀x∈(zg9 L p i a).1,x.ok
 |0,a=>by simp[zg9]
 |i+1,a=>by
  have h:=zzq L p i;rw[zg9];refine⟨by simp[h],?_⟩
  intro x hx;simp at hx;rcases hx with rfl|hx
  ·exact zit _ _ _ _ _
  ·exact (h _).2 x hx
theorem zrg{L:List Int}(hL:zbu L)(c p:Int):∀(d:Nat) (v a:Int),(za3 L c p d v a).1.ok
 |0,v,a=>by rw[za3];simp[zkt]
 |d+1,v,a=>by
  have h:=fun v a=>zrg hL c p d v a
  have h3:=zzq L p (zat L (a+1+1) 3).toNat (a+1+1+1);have h2:=zau hL (a+1+1) (n:=3) (by omega)
  rw[za3];dsimp only
  repeat' split
  all_goals simp[zkt,h,zit]
  all_goals exact⟨by omega,h3.2⟩
theorem ylo{L:List Int}(hL:zbu L)(c:Int):(zy0 L c).1.ok:=by
 have hk:(znv L).1.length<=140737488355328/\∀x∈(znv L).1,x.ok:=by
  unfold znv
  split
  ·refine⟨by simp,?_⟩
   intro x hx;simp at hx;subst hx;exact⟨zit _ _ _ _ _,zit _ _ _ _ _⟩
  ·exact⟨by simp,by intro x hx;cases hx⟩
 rw[zy0]
 split
 ·exact⟨hk.1,hk.2,zrg hL _ _ _ _ _,zrg hL _ _ _ _ _⟩
 ·exact⟨hk.1,hk.2,zrg hL _ _ _ _ _,yi2⟩
theorem z94:∀(l:List (List Int)) (i:Nat),(ybz l i).length<=l.length
 |[],_=>by simp[ybz]
 |x::r,i=>by
  have:=z94 r (i+1);rw[ybz];split <;> simp <;> omega
theorem yg2:∀(l:List (List Int)) (i:Nat),(∀x∈l,x.length<=140737488355328/\zbu x)->∀d∈ybz l i,d.ok
 |[],_,_,d,hd=>by simp[ybz]at hd
 |x::r,i,h,d,hd=>by
  rw[ybz]at hd
  split at hd
  ·rcases List.mem_cons.1 hd with rfl|hd
   ·exact ylo (h x (by simp)).2 _
   ·exact yg2 r (i+1) (fun y hy=>h y (by simp[hy])) d hd
  ·cases hd
theorem yli{l:List (List Int)}(hl:BsOk l):zvi (ybz l 0):=⟨Nat.le_trans (z94 l 0) hl.1,yg2 l 0 hl.2⟩
end Go.Ab
end
section
set_option linter.unusedVariables false
set_option linter.unusedSimpArgs false
set_option maxRecDepth 100000
set_option maxHeartbeats 2000000
namespace Go.Ab
open Go.RowKit Go.Proofs
mutual
def lsz:Lv->Nat
 |.mk _ _ ks=>1+lszs ks
def lszs:List Lv->Nat
 |[]=>0
 |x::r=>lsz x+lszs r
end
mutual
theorem nodes_lsz:∀(l:Lv) (most:Int),nodes l most<=lsz l
 |.mk _ _ ks,most=>by
  have:=nodes_lszs ks most 1;rw[nodes,lsz];omega
theorem nodes_lszs:∀(ks:List Lv) (most n:Int),nodesL ks most n<=n+lszs ks
 |[],_,n=>by rw[nodesL,lszs];omega
 |x::r,most,n=>by
  have h1:=nodes_lsz x (most - n);have h2:=nodes_lszs r most (n+nodes x (most - n));rw[nodesL,lszs]
  split <;> omega
end
theorem z36(L:List Int)(p m:Int):∀(d:Nat) (a:Int),lsz (zar L p m d a).1+1<=2 ^ (d+1)
 |0,a=>by simp[zar,lsz,lszs]
 |d+1,a=>by
  have h:=z36 L p m d;have hp:2 ^ (d+1+1)=2*2 ^ (d+1):=by rw[Nat.pow_succ];omega
  have h1:=h (a+1);have h2:=h (zar L p m d (a+1)).2;rw[zar]
  repeat' split
  all_goals (try dsimp only) <;> simp only[lsz,lszs] <;> omega
theorem zu2{L:List Int}(hL:zbu L){p m P M:Int}(hp:p<=P)(hm:m<=M):∀(d:Nat) (a e:Int),d+1<=e->rightB P M (zar L p m d a).1 e=true
 |0,a,e,he=>by rw[zar];simp[rightB,rightsB,zgk];omega
 |d+1,a,e,he=>by
  have h:=fun a=>zu2 hL hp hm d a (e - 1) (by omega)
  rw[zar];have e1:¬ e<1:=by omega
  have p1:0<p->0<=zat L (a+1) p/\zat L (a+1) p<p:=fun h=>zau hL _ h
  have p2:0<m->0<=zat L (a+1) m/\zat L (a+1) m<m:=fun h=>zau hL _ h
  repeat' split
  all_goals simp[rightB,rightsB,zgk,h,e1]
  all_goals omega
theorem zpc{L:List Int}(hL:zbu L){p m:Int}(hp:p<=5)(hm:m<=10)(d:Nat)(hd:d<=5)(a:Int):zaz (zar L p m d a).1 5 10=true:=by
 have h1:=zu2 hL hp hm d a 12 (by omega)
 have h2:=z36 L p m d a;have h3:=nodes_lsz (zar L p m d a).1 101;have h4:2 ^ (d+1)<=2 ^ 6:=Nat.pow_le_pow_right (by omega) (by omega)
 unfold zaz;simp[h1];omega
theorem zno{L:List Int}(hL:zbu L):∀(i:Nat) (a:Int),(zf8 L i a).1.all (fun x=>zaz x 5 10)=true
 |0,a=>rfl
 |i+1,a=>by
  rw[zf8];simp only[List.all_cons,zpc hL (show (3:Int)<=5 by omega) (show (2:Int)<=10 by omega) 2 (by omega) a,zno hL i,Bool.and_self]
theorem zwm{L:List Int}(hL:zbu L):∀(d:Nat) (v a:Int),0<=v->rightT 5 10 (zfl L (d+1) v a).1 v (d+1)=true:=by
 intro d
 induction d with
 |zero=>
  intro v a hv;have hl:=zpc hL (show (3:Int)<=5 by omega) (show (2:Int)<=10 by omega) 3 (by omega) (a+1)
  have hls:=zno hL (zat L (a+1+1) 3).toNat (a+1+1+1);have hln:=(zq5 L (zat L (a+1+1) 3).toNat (a+1+1+1)).1;have hp3:=zau hL (a+1+1) (n:=3) (by omega)
  have hp4:=zau hL (a+1) (n:=4) (by omega)
  have hpv:0<v->0<=zat L (a+1) v/\zat L (a+1) v<v:=fun h=>zau hL _ h
  have hk:=zau hL a (n:=12) (by omega)
  rw[zfl];dsimp only;rw[if_pos rfl];generalize zat L a 12=k0 at *;have hk4:k0.tmod 4<4:=by rw[Int.tmod_eq_emod_of_nonneg hk.1];omega
  generalize k0.tmod 4=k at *
  split
  ·rename_i h;simp[rightT,rightTs,zd4,zft];exact hpv h.2
  split
  ·simp[rightT,rightTs,zd4,zft,hl]
  ·simp[rightT,rightTs,zd4,zft,hln];exact⟨by simpa using hls,by omega⟩
 |succ d ih=>
  intro v a hv;have hl:=zpc hL (show (3:Int)<=5 by omega) (show (2:Int)<=10 by omega) 3 (by omega) (a+1)
  have hls:=zno hL (zat L (a+1+1) 3).toNat (a+1+1+1);have hln:=(zq5 L (zat L (a+1+1) 3).toNat (a+1+1+1)).1;have hp3:=zau hL (a+1+1) (n:=3) (by omega)
  have hp4:=zau hL (a+1) (n:=4) (by omega)
  have hpv:0<v->0<=zat L (a+1) v/\zat L (a+1) v<v:=fun h=>zau hL _ h
  have i1:=fun a=>ih v a hv
  have i2:=fun a=>ih (v+1) a (by omega)
  have hd:¬ (((d+1:Nat):Int)+1<1):=by omega
  have hd':¬ ((d:Int)+1+1<1):=by omega
  have hd2:((d+1:Nat):Int)+1 - 1=(d:Int)+1:=by omega
  rw[zfl];dsimp only;rw[if_neg (show ¬ (d+1=0) by omega)]
  generalize zat L a 12=k at *
  split
  ·rename_i h;simp[rightT,rightTs,zd4,zft,hd,hd'];exact hpv h.2
  split
  ·simp[rightT,rightTs,zd4,zft,hl,hd,hd']
  split
  ·simp[rightT,rightTs,zd4,zft,hln,hd,hd'];exact⟨by simpa using hls,by omega⟩
  split
  ·simp only[rightT,rightTs,zd4,zft,hd,hd2];simp[binds,i1,i2]
  split
  ·simp only[rightT,rightTs,zd4,zft,hd,hd2];simp[binds,i1,i2]
  split
  ·simp only[rightT,rightTs,zd4,zft,hd,hd2];simp[binds,i1,i2]
  ·simp only[rightT,rightTs,zd4,zft,hd,hd2];simp[binds,i1,i2]
end Go.Ab
end
section
set_option linter.unusedVariables false
set_option linter.unusedSimpArgs false
set_option maxRecDepth 100000
set_option maxHeartbeats 4000000
namespace Go.Ab
open Go.RowKit Go.Proofs
def yi1(L:List Int)(p a:Int):Co×Int:=(.mk (zar L p 0 3 a).1 (zar L p 0 3 (zar L p 0 3 a).2).1,(zar L p 0 3 (zar L p 0 3 a).2).2)
def zqu(L:List Int)(p:Int):Nat->Int->List Co×Int
 |0,a=>([],a)
 |i+1,a=>((yi1 L p a).1::(zqu L p i (yi1 L p a).2).1,(zqu L p i (yi1 L p a).2).2)
theorem yhg(L:List Int)(p a:Int):a<=(yi1 L p a).2/\(yi1 L p a).2<=a+30:=by
 have h1:=zd3 L p 0 3 a;have h2:=zd3 L p 0 3 (zar L p 0 3 a).2;simp only[Int.reducePow,Nat.reduceAdd]at h1 h2;unfold yi1;dsimp only;omega
theorem ylr(L:List Int)(p:Int):∀(i:Nat) (a:Int),a<=(zqu L p i a).2/\(zqu L p i a).2<=a+30*i
 |0,a=>by simp[zqu]
 |i+1,a=>by
  have h1:=yhg L p a;have h2:=ylr L p i (yi1 L p a).2;rw[zqu];dsimp only;omega
theorem z5s(L:List Int)(p:Int):∀(i:Nat) (a:Int),(zqu L p i a).1.length=i
 |0,a=>rfl
 |i+1,a=>by rw[zqu];simp[z5s L p i]
theorem z97(L:List Int)(p:Int):∀(i:Nat) (a:Int),∀c∈(zqu L p i a).1,c.ok
 |0,a,c,hc=>by cases hc
 |i+1,a,c,hc=>by
  rw[zqu]at hc;rcases List.mem_cons.1 hc with rfl|hc
  ·exact⟨zit _ _ _ _ _,zit _ _ _ _ _⟩
  ·exact z97 L p i _ c hc
theorem yb9(a:List Co)(x:Co):Co.css a++[x.cs]=Co.css (a++[x]):=by simp[Co.css]
theorem cons_ok(L:List Int)(hL:zbu L)(hlen:L.length<=140737488355328)(p:Int)(hp:0<=p/\p<=100)(most:Int)(hm:0<=most/\most<=90)(a:Int)(ha:0<=a/\a<=900000)(id:Nat)(H:List AO)(hid:id<H.length):
  F zol [.ptr id 0,.int .i64 p,.int .i64 most] (H.set id (mkr L a))=some (.ret (.sl (Co.css (zqu L p (zat L a (most+1)).toNat (a+1)).1)),H.set id (mkr L (zqu L p (zat L a (most+1)).toNat (a+1)).2)):=by
 have hid2:∀X:List AO,id<(H++X).length:=fun X=>by simp;omega
 have hcs:∀(x:Lv) (u v w z o k:AV),over [u,v,w,z,o,k] 0 x.cs=x.cs++[z,o,k]:=by intro x;intros;rcases x with⟨_,_,_⟩;rfl
 have hcs2:∀(x y:Lv) (u v w:AV),over (x.cs++[u,v,w]) 3 y.cs=x.cs++y.cs:=by intro x y;intros;rcases x with⟨_,_,_⟩;rcases y with⟨_,_,_⟩;rfl
 have hp1:=zau hL a (n:=most+1) (by omega)
 have hP:=fun Y=>zb3 L hL hlen a (by omega) (most+1) (by omega) id (H++Y) (hid2 _) (by omega)
 have e0:Co.css []=[]:=rfl;have loop:∀(i:Nat),i<=100->∀(b:Int),0<=b/\b+30*i<=950000->∀(done:List Co) (ver:Nat),done.length+i<=1000 ->
   zkm (H.set id (mkr L a)) ((H++[AO.lst 0 6 [],AO.lst ver 6 (Co.css done)]).set id (mkr L b)) (.ptr id 0) (.int .i64 p) (.ol (H.length+1) ver) (.int .i64 i)=some (.ret (.sl (Co.css (done++(zqu L p i b).1))),H.set id (mkr L (zqu L p i b).2)):=by
  intro i
  induction i with
  |zero=>
   intro _ b hb done ver hd;rw[zkm,zab,zqu,List.append_nil];simp only[↓reduceIte,go_sem,zcv,zbn hid,zbo hid,zbl hid,zbm hid,List.length_set,hid,zbq,zcu hid,Int.natCast_zero,show ¬ (0:Int)<0 by decide]
   exact if_pos (.sl (zrf _ done))
  |succ i ih=>
   intro hi b hb done ver hd;have h1:=zd3 L p 0 3 b;have h2:=zd3 L p 0 3 (zar L p 0 3 b).2;simp only[Int.reducePow,Nat.reduceAdd]at h1 h2;have hl1:∀Y,F zaf [.ptr id 0,.int .i64 p,.int .i64 0,.int .i64 3] ((H++Y).set id (mkr L b))=_:=fun Y=>zj8 L hL hlen p 0 (by omega) (by omega) 2 (by omega) b ⟨by omega,by simp only[Int.reducePow,Nat.reduceAdd];omega⟩ id (H++Y) (hid2 _)
   have hl2:∀Y,F zaf [.ptr id 0,.int .i64 p,.int .i64 0,.int .i64 3] ((H++Y).set id (mkr L (zar L p 0 3 b).2))=_:=fun Y=>zj8 L hL hlen p 0 (by omega) (by omega) 2 (by omega) _ ⟨by omega,by simp only[Int.reducePow,Nat.reduceAdd];omega⟩ id (H++Y) (hid2 _)
   have hc:=yhg L p b;have:=ih (by omega) (yi1 L p b).2 (by omega) (done++[(yi1 L p b).1]) (ver+1) (by simp;omega)
   rw[zqu];unfold yi1 at this ⊢;dsimp only at this ⊢;generalize hx:zar L p 0 3 b=x at *;generalize hy:zar L p 0 3 x.2=y at *;rcases x with⟨⟨k3,n3,ks3⟩,b3⟩;rcases y with⟨⟨k4,n4,ks4⟩,b4⟩;rw[<- yb9]at this;simp only[Nat.reduceAdd,Lv.cs,hx,hy,Co.cs,Co.a,Co.b,List.cons_append,List.nil_append,List.append_assoc]at hl1 hl2 this;rw[zkm,zab];simp only[↓reduceIte,go_sem,zcv,zbn hid,zbo hid,zbl hid,zbm hid,List.length_set,hid,zbq,zcu hid,hl1,hl2,hcs,hcs2,Lv.cs,show (0:Int)<((i+1:Nat):Int) by omega,show IntKind.i64.wrap (((i+1:Nat):Int) - 1)=(i:Int) by rw[zam (by omega) (by omega)];omega,show done.length<=1073741823 by omega,List.cons_append,List.nil_append,this]
 have:=loop (zat L a (most+1)).toNat (by omega) (a+1) (by omega) [] 0 (by simp;omega)
 rw[show ((zat L a (most+1)).toNat:Int)=zat L a (most+1) by omega]at this
 simp only[e0,List.nil_append,zcv hid]at this;rw[z5i];simp only[↓reduceIte,go_sem,zcv,zbn hid,zbo hid,zbl hid,zbm hid,List.length_set,hid,zbq,zcu hid,hP,zam (n:=most+1) (by omega) (by omega),this]
def zqg(l:List (List Int))(k:List Int)(ga:Bool):Gr:=⟨ybz l 0,3,if ga then 2 else 0,(zqu k 3 (zat k 0 3).toNat 1).1,if ga then 2 else 1⟩
theorem ybm{l:List (List Int)}(hl:BsOk l){k:List Int}(hk:zbu k)(ga:Bool):okG (zqg l k ga):=by
 refine⟨yli hl,?_,z97 _ _ _ _⟩;have:=zau hk 0 (n:=3) (by omega)
 simp only[zqg,z5s];omega
theorem ygi(l:List (List Int))(hl:BsOk l)(k:List Int)(hk:zbu k)(hlen:k.length<=140737488355328)(ga:Bool)(H:List AO):
  F zkx [.sl (ym1 l),.sl (u8s k),.bool ga] H=some (.ret (.agg (zqg l k ga).cs),H):=by
 have hE:=fun H=>env_ok l hl H
 have h0:AO.box [.sl (u8s k),.int .i64 0]=mkr k 0:=rfl;have hC:=cons_ok k hk hlen 3 (by omega) 2 (by omega) 0 (by omega) H.length (H++[mkr k 0]) (by simp)
 rw[zrj,zrj]at hC;simp only[show (2:Int)+1=3 from rfl,show (0:Int)+1=1 from rfl]at hC
 rw[zyw];cases ga
 ·simp only[↓reduceIte,go_sem,hE,h0,hC,Gr.cs,zqg,Bool.false_eq_true]
  exact if_pos (.agg (ygj _ (zqg l k false)))
 ·simp only[↓reduceIte,go_sem,hE,h0,hC,Gr.cs,zqg]
  exact if_pos (.agg (ygj _ (zqg l k true)))
mutual
def unkB:Lv->Bool
 |.mk k n ks=>unkBs ks || decide (k=6)
def unkBs:List Lv->Bool
 |[]=>false
 |x::r=>unkB x || unkBs r
end
theorem yas(l:Lv):l.ok->∀(H:List AO),F zgw [.agg l.cs] H=some (.ret (.bool (unkB l)),H):=by
 induction l using Lv.ind with
 |h k n ks ih=>
 intro hl H;have hlen:=hl.len;have loop:∀(suf pre:List Lv),ks=pre++suf->zg6 H H (.int .i64 pre.length) [.int .i64 k,.int .i64 n,.sl (Lv.css ks)]=some (.ret (.bool (unkBs suf || decide (k=6))),H):=by
  intro suf
  induction suf with
  |nil=>
   intro pre e;subst e;rw[zg6,zab];simp only[↓reduceIte,go_sem,unkBs,Bool.false_or]
  |cons x suf ih2=>
   intro pre e;subst e;simp at hlen;have:=ih2 (pre++[x]) (by simp)
   simp only[zag]at this;have hx:=fun H=>ih x (by simp) (hl.all x (by simp)) H
   rw[zg6,zab,unkBs]
   cases hu:unkB x <;> rw[hu]at hx
   ·simp only[↓reduceIte,go_sem,hx,zac (n:=pre.length) (by omega),this,Bool.false_or]
   ·simp only[↓reduceIte,go_sem,hx,Bool.true_or]
 have:=loop ks [] rfl;simp only[List.length_nil,Int.natCast_zero]at this;rw[zxv,unkB];simp only[↓reduceIte,go_sem,Lv.cs,this]
mutual
def smT:Te->Bool
 |.mk k n ls ks=>decide (ls.length<=100) && decide (ks.length<=100) && smTs ks
def smTs:List Te->Bool
 |[]=>true
 |x::r=>smT x && smTs r
end
theorem z0n:∀{ks:List Te},smTs ks=true->∀x∈ks,smT x=true
 |y::r,h,x,hx=>by
  rw[smTs,Bool.and_eq_true]at h;rcases List.mem_cons.1 hx with rfl|hx
  ·exact h.1
  ·exact z0n h.2 x hx
mutual
theorem right_sm{p m:Int}:∀{t:Te} {v d:Int},rightT p m t v d=true->smT t=true
 |.mk k n ls ks,v,d,h=>by
  obtain⟨h1,h2,h3,h4,h5⟩:=zf2 h;have:=zom k;rw[smT,right_sms h5,Bool.and_true];have:ls.length<=100:=by
   unfold zft at h4
   split at h4
   ·simp at h4;simp[h4.2]
   split at h4
   ·simp at h4;omega
   split at h4
   ·simp at h4;omega
   ·simp at h4;simp[h4.2]
  simp only[Bool.and_eq_true,decide_eq_true_eq];omega
theorem right_sms{p m k:Int}:∀{ks:List Te} {i v d:Int},rightTs p m k ks i v d=true->smTs ks=true
 |[],_,_,_,_=>rfl
 |x::r,i,v,d,h=>by
  rw[rightTs]at h;simp at h;rw[smTs,right_sm h.1,right_sms h.2];rfl
end
mutual
def plainT(z:Lv):Te->Te
 |.mk k n ls ks=>.mk k n (ls.map fun x=>if unkB x=true then z else x) (plainTs z ks)
def plainTs(z:Lv):List Te->List Te
 |[]=>[]
 |x::r=>plainT z x::plainTs z r
end
theorem zsa(z:Lv):∀ks:List Te,(plainTs z ks).length=ks.length
 |[]=>rfl
 |x::r=>by rw[plainTs];simp[zsa z r]
mutual
theorem plain_sm(z:Lv):∀t:Te,smT (plainT z t)=smT t
 |.mk k n ls ks=>by rw[plainT,smT,smT,plains_sm z ks,zsa,List.length_map]
theorem plains_sm(z:Lv):∀ks:List Te,smTs (plainTs z ks)=smTs ks
 |[]=>rfl
 |x::r=>by rw[plainTs,smTs,smTs,plain_sm z x,plains_sm z r]
end
theorem zww{z:Lv}{p:Te->Prop}:∀{ks:List Te},(∀x∈ks,p (plainT z x))->∀y∈plainTs z ks,p y
 |[],_,y,hy=>by cases hy
 |x::r,h,y,hy=>by
  rw[plainTs]at hy;rcases List.mem_cons.1 hy with rfl|hy
  ·exact h x (by simp)
  ·exact zww (fun w hw=>h w (by simp[hw])) y hy
theorem yec{z:Lv}(hz:z.ok)(t:Te):t.ok->(plainT z t).ok:=by
 induction t using Te.ind with
 |h k n ls ks ih=>
 intro ht;rw[plainT];refine .mk (by rw[zsa];exact ht.len) (by simpa using ht.len2) ?_ (zww fun x hx=>ih x hx (ht.all x hx))
 intro x hx;obtain⟨y,hy,rfl⟩:=List.mem_map.1 hx
 split
 ·exact hz
 ·exact ht.all2 y hy
theorem yj6(z:Lv)(hz:z.ok)(t:Te):t.ok->smT t=true->∀(H:List AO),F zjz [.agg t.cs,.agg z.cs] H=some (.ret (.agg (plainT z t).cs),H):=by
 induction t using Te.ind with
 |h k n ls ks ih=>
 intro hl hs H;rw[smT]at hs;simp only[Bool.and_eq_true,decide_eq_true_eq]at hs;obtain⟨⟨hs1,hs2⟩,hs3⟩:=hs;have loop1:∀(dl:List Lv) (suf pre done:List Te),ks=pre++suf->done.length=pre.length ->
   zjd H (H++[.lst 0 3 [],.lst 0 4 [],.lst dl.length 3 (Lv.css dl),.lst done.length 4 (Te.css done),.lst 0 3 [],.lst 0 4 []]) (.int .i64 pre.length) [.int .i64 k,.int .i64 n,.sl (Lv.css ls),.sl (Te.css ks)] z.cs
    [.int .i64 0,.int .i64 0,.ol H.length 0,.ol (H.length+1) 0] [.int .i64 k,.int .i64 n,.ol (H.length+2) dl.length,.ol (H.length+3) done.length]=some (.ret (.agg (Te.mk k n dl (done++plainTs z suf)).cs),H):=by
  intro dl suf
  induction suf with
  |nil=>
   intro pre done e he;subst e;rw[zjd,zab];simp only[↓reduceIte,go_sem,plainTs,Te.cs]
  |cons x suf ih2=>
   intro pre done e he;subst e;simp at hs2;have:=ih2 (pre++[x]) (done++[plainT z x]) (by simp) (by simp[he])
   simp only[zag]at this;simp only[zeg,List.append_assoc,List.cons_append,List.nil_append]at this;have hx:=fun H=>ih x (by simp) (hl.all x (by simp)) (z0n hs3 x (by simp)) H
   rw[zjd,zab,plainTs];simp only[↓reduceIte,go_sem,hx,zac (n:=pre.length) (by omega),show done.length<=1073741823 by omega,this]
 have loop0:∀(suf pre dl:List Lv),ls=pre++suf->dl.length=pre.length ->
   zje H (H++[.lst 0 3 [],.lst 0 4 [],.lst dl.length 3 (Lv.css dl),.lst 0 4 [],.lst 0 3 [],.lst 0 4 []]) (.int .i64 pre.length) [.int .i64 k,.int .i64 n,.sl (Lv.css ls),.sl (Te.css ks)] z.cs
    [.int .i64 0,.int .i64 0,.ol H.length 0,.ol (H.length+1) 0] [.int .i64 k,.int .i64 n,.ol (H.length+2) dl.length,.ol (H.length+3) 0]=some (.ret (.agg (Te.mk k n (dl++suf.map fun x=>if unkB x=true then z else x) (plainTs z ks)).cs),H):=by
  intro suf
  induction suf with
  |nil=>
   intro pre dl e he;have:=loop1 dl ks [] [] rfl rfl;subst e;simp only[List.length_nil,Int.natCast_zero,Te.css,List.nil_append,List.append_nil]at this;rw[zje,zab];simp only[↓reduceIte,go_sem,List.append_nil,List.map_nil,this]
  |cons x suf ih2=>
   intro pre dl e he;subst e;simp at hs1;have:=ih2 (pre++[x]) (dl++[if unkB x=true then z else x]) (by simp) (by simp[he])
   simp only[zag]at this;simp only[zeg,List.append_assoc,List.cons_append,List.nil_append]at this;have hx:=fun H=>yas x (hl.all2 x (by simp)) H
   rcases z with⟨kz,nz,lz⟩;rcases x with⟨kx,nx,lx⟩;rw[zje,zab,List.map_cons]
   cases hu:unkB (.mk kx nx lx) <;> rw[hu]at hx <;> simp only[hu,Bool.false_eq_true,↓reduceIte]at this
   ·rw[<- zrd]at this
    simp only[Lv.cs]at hx this;simp only[↓reduceIte,go_sem,Lv.cs,hx,zac (n:=pre.length) (by omega),show dl.length<=1073741823 by omega,this,Bool.false_eq_true]
   ·rw[<- zrd]at this
    simp only[Lv.cs]at hx this;simp only[↓reduceIte,go_sem,Lv.cs,hx,zac (n:=pre.length) (by omega),show dl.length<=1073741823 by omega,this]
 have:=loop0 ls [] [] rfl rfl;simp only[List.length_nil,Int.natCast_zero,Lv.css,List.nil_append]at this;rw[z2j,plainT];simp only[↓reduceIte,go_sem,Te.cs,this]
mutual
def succT:Te->Te
 |.mk k n ls ks=>if k=2 then .mk 2 0 [.mk 2 0 ls] [] else .mk k n ls (succTs ks)
def succTs:List Te->List Te
 |[]=>[]
 |x::r=>succT x::succTs r
end
theorem zy4:∀ks:List Te,(succTs ks).length=ks.length
 |[]=>rfl
 |x::r=>by rw[succTs];simp[zy4 r]
theorem zy3{p:Te->Prop}:∀{ks:List Te},(∀x∈ks,p (succT x))->∀y∈succTs ks,p y
 |[],_,y,hy=>by cases hy
 |x::r,h,y,hy=>by
  rw[succTs]at hy;rcases List.mem_cons.1 hy with rfl|hy
  ·exact h x (by simp)
  ·exact zy3 (fun w hw=>h w (by simp[hw])) y hy
theorem yjb(t:Te):t.ok->(succT t).ok:=by
 induction t using Te.ind with
 |h k n ls ks ih=>
 intro ht;rw[succT]
 split
 ·have h1:=ht.len2
  have h2:=ht.all2;simp only[zkt,zwz,List.length_cons,List.length_nil,List.mem_singleton,forall_eq];exact⟨by omega,by omega,⟨h1,h2⟩,by intro x hx;cases hx⟩
 ·exact .mk (by rw[zy4];exact ht.len) ht.len2 ht.all2 (zy3 fun x hx=>ih x hx (ht.all x hx))
theorem succ_ok(t:Te):t.ok->smT t=true->∀(H:List AO),F zl2 [.agg t.cs] H=some (.ret (.agg (succT t).cs),H):=by
 induction t using Te.ind with
 |h k n ls ks ih=>
 intro hl hs H;rw[smT]at hs;simp only[Bool.and_eq_true,decide_eq_true_eq]at hs;obtain⟨⟨hs1,hs2⟩,hs3⟩:=hs;have loop:∀(suf pre done:List Te),ks=pre++suf->done.length=pre.length ->
   zkk H (H++[.lst 0 3 [],.lst 0 4 [],.lst 0 3 [],.lst done.length 4 (Te.css done),.lst 0 3 [],.lst 0 4 []]) (.int .i64 pre.length) [.int .i64 k,.int .i64 n,.sl (Lv.css ls),.sl (Te.css ks)]
    [.int .i64 0,.int .i64 0,.ol H.length 0,.ol (H.length+1) 0] [.int .i64 k,.int .i64 n,.sl (Lv.css ls),.ol (H.length+3) done.length]=some (.ret (.agg (Te.mk k n ls (done++succTs suf)).cs),H):=by
  intro suf
  induction suf with
  |nil=>
   intro pre done e he;subst e;rw[zkk,zab];simp only[↓reduceIte,go_sem,succTs,Te.cs]
  |cons x suf ih2=>
   intro pre done e he;subst e;simp at hs2;have:=ih2 (pre++[x]) (done++[succT x]) (by simp) (by simp[he])
   simp only[zag]at this;simp only[zeg,List.append_assoc,List.cons_append,List.nil_append]at this;have hx:=fun H=>ih x (by simp) (hl.all x (by simp)) (z0n hs3 x (by simp)) H
   rw[zkk,zab,succTs];simp only[↓reduceIte,go_sem,hx,zac (n:=pre.length) (by omega),show done.length<=1073741823 by omega,this]
 have l0:=loop ks [] [] rfl rfl;simp only[List.length_nil,Int.natCast_zero,List.nil_append,Te.css,Te.cs]at l0;have hS:=fun H=>zcl (.mk 2 0 ls) H
 simp only[Lv.cs,Te.cs,Lv.css,Te.css]at hS;rw[z5b,succT];by_cases h1:k=2
 ·subst h1
  simp only[↓reduceIte,go_sem,Te.cs,hS,Lv.css,Te.css,Lv.cs]
 ·simp only[↓reduceIte,go_sem,Te.cs,h1,l0]
end Go.Ab
end
section
set_option linter.unusedVariables false
set_option linter.unusedSimpArgs false
set_option maxRecDepth 100000
set_option maxHeartbeats 4000000
namespace Go.Ab
open Go.RowKit Go.Proofs
def zL1:Lv:=.mk 1 0 []
def tmS(L:List Int)(g:Gr)(d:Nat)(a:Int):Te×Int:=(if 0<g.metas then (zfl L d 3 a).1 else plainT zL1 (zfl L d 3 a).1,(zfl L d 3 a).2)
theorem ymy:zL1.ok:=by simp[zL1,zwz]
theorem ym2{L:List Int}(hL:zbu L)(g:Gr)(d:Nat)(a:Int):(tmS L g d a).1.ok:=by
 unfold tmS;dsimp only
 split
 ·exact zvt hL d 3 a
 ·exact yec ymy _ (zvt hL d 3 a)
theorem tmS_sm{L:List Int}(hL:zbu L)(g:Gr)(d:Nat)(a:Int):smT (tmS L g (d+1) a).1=true:=by
 have h:=right_sm (zwm hL d 3 a (by omega))
 unfold tmS;dsimp only
 split
 ·exact h
 ·rw[plain_sm];exact h
theorem tmS_at{L:List Int}(hL:zbu L)(g:Gr)(d:Nat)(a:Int):a<=(tmS L g d a).2/\(tmS L g d a).2<=a+40*4 ^ d:=zo5 hL d 3 a
theorem z6a(L:List Int)(hL:zbu L)(hlen:L.length<=140737488355328)(g:Gr)(d:Nat)(hd:d<=6)(a:Int)(ha:0<=a/\a+40*4 ^ (d+1)<=500000)(id:Nat)(H:List AO)(hid:id<H.length):
  F zh9 [.ptr id 0,.agg g.cs,.int .i64 ((d:Int)+1)] (H.set id (mkr L a))=some (.ret (.agg (tmS L g (d+1) a).1.cs),H.set id (mkr L (tmS L g (d+1) a).2)):=by
 have hT:=term_ok L hL hlen d hd 3 (by omega) a ha id H hid
 have hr:=right_sm (zwm hL d 3 a (by omega))
 have hk:=zvt hL (d+1) 3 a;have hP:=fun H=>yj6 zL1 ymy _ hk hr H
 unfold tmS;generalize zfl L (d+1) 3 a=q at *;rcases q with⟨⟨k,n,ls,ks⟩,b⟩;rcases hp:plainT zL1 (.mk k n ls ks) with⟨k2,n2,ls2,ks2⟩;dsimp only at hP ⊢
 try simp only[hp]at hP
 simp only[Te.cs,zL1,Lv.cs,Lv.css]at hT hP;rw[z5d];by_cases hm:0<g.metas
 ·simp only[↓reduceIte,go_sem,Gr.cs,hT,hm,Te.cs,List.length_set,hid,zbq,zcu hid,zuj]
 ·simp only[↓reduceIte,go_sem,Gr.cs,hT,hm,hP,Te.cs,List.length_set,hid,zbq,zcu hid,zuj]
def ybe(L:List Int)(g:Gr)(t:Te)(a:Int):Te×Int :=
 if (zhk t 0 1).2≠0 then (t,a)
 else
  let up:=(zhk t 0 1).1
  let v:Te:=.mk 1 0 [] []
  let k:=zat L a 7
  if k=0 then (.mk 5 0 [] [sort0,.mk 4 0 [] [up,v]],a+1)
  else if k=1 then (.mk 7 0 [] [sort0,sort0,up],a+1)
  else if k=2 then (.mk 4 0 [] [.mk 5 0 [] [sort0,up],sort0],a+1)
  else if k=3 then (.mk 4 0 [] [.mk 5 0 [] [sort0,v],t],a+1)
  else if k=4 then (succT t,a+1)
  else if k=5 then tmS L g 3 (a+1)
  else (t,a+1)
theorem yke{L:List Int}(hL:zbu L)(g:Gr)(t:Te)(ht:t.ok)(a:Int):(ybe L g t a).1.ok:=by
 have hu:=yaq ht 0 1;have h1:=yjk;have h2:=yjb t ht;have h3:=ym2 hL g 3 (a+1);have h4:(Te.mk 1 0 [] []).ok:=by simp[zkt]
 unfold ybe
 split
 ·exact ht
 ·dsimp only
  repeat' split
  ·simp[zkt,h1,hu]
  ·simp[zkt,h1,hu]
  ·simp[zkt,h1,hu]
  ·simp[zkt,h1,ht]
  ·exact h2
  ·exact h3
  ·exact ht
theorem yib(L:List Int)(hL:zbu L)(hlen:L.length<=140737488355328)(g:Gr)(t:Te)(ht:t.ok)(hs:smT t=true)(a:Int)(ha:0<=a/\a<=400000)(id:Nat)(H:List AO)(hid:id<H.length):
  F zok [.agg t.cs,.ptr id 0,.agg g.cs] (H.set id (mkr L a))=some (.ret (.agg (ybe L g t a).1.cs),H.set id (mkr L (ybe L g t a).2)):=by
 have hU:=fun H=>z6e t ht 0 1 H
 have hS:=fun H=>zcl (.mk 1 0 []) H
 have hV:=fun H=>zes 0 H
 have hP:=zb3 L hL hlen a (by omega) 7 (by omega) id H hid (by omega)
 have hk:=zau hL a (n:=7) (by omega)
 have hT:F zh9 [.ptr id 0,.agg g.cs,.int .i64 3] (H.set id (mkr L (a+1)))=_:=z6a L hL hlen g 2 (by omega) (a+1) (by simp;omega) id H hid
 have hsu:=fun H=>succ_ok t ht hs H
 unfold ybe;rcases hl:zhk t 0 1 with⟨up,e⟩;rw[hl]at hU;have c1:=fun H=>zef 4 [up,.mk 1 0 [] []] H
 have c2:=fun H=>zef 5 [sort0,.mk 4 0 [] [up,.mk 1 0 [] []]] H
 have c3:=fun H=>zef 7 [sort0,sort0,up] H
 have c4:=fun H=>zef 5 [sort0,up] H
 have c5:=fun H=>zef 4 [.mk 5 0 [] [sort0,up],sort0] H
 have c6:=fun H=>zef 5 [sort0,.mk 1 0 [] []] H
 have c7:=fun H=>zef 4 [.mk 5 0 [] [sort0,.mk 1 0 [] []],t] H
 rw[show (2:Nat)+1=3 from rfl]at hT
 generalize tmS L g 3 (a+1)=q at *;rcases q with⟨⟨k3,n3,l3,s3⟩,b3⟩;rcases up with⟨k2,n2,l2,s2⟩;rcases hsc:succT t with⟨k4,n4,l4,s4⟩;rw[hsc]at hsu;rcases t with⟨k1,n1,l1,s1⟩;simp only[Te.cs,Te.css,Lv.cs,Lv.css,sort0,Gr.cs,zj7]at hU hS hV hT hsu c1 c2 c3 c4 c5 c6 c7;rw[z5e];by_cases he:e=0
 ·subst he
  have hc:zat L a 7=0\/zat L a 7=1\/zat L a 7=2\/zat L a 7=3\/zat L a 7=4\/zat L a 7=5\/zat L a 7=6:=by omega
  rcases hc with h|h|h|h|h|h|h <;> rw[h]at hP <;>
   simp only[↓reduceIte,go_sem,Gr.cs,Te.cs,Te.css,Lv.cs,Lv.css,sort0,hU,hS,hV,hP,hT,hsu,c1,c2,c3,c4,c5,c6,c7,h,yac,List.length_set,hid,zbq,zcu hid,zuj,ne_eq,not_true_eq_false]
 ·simp only[↓reduceIte,go_sem,Gr.cs,Te.cs,hU,he,ne_eq,not_false_eq_true,List.length_set,hid,zbq,zcu hid,zuj]
theorem z8s(l:List (List Int))(hl:BsOk l)(K:List Int)(hK:zbu K)(hKl:K.length<=140737488355328)(L:List Int)(hL:zbu L)(hlen:L.length<=140737488355328)(ga most:Bool)(f:Int)(hf:0<=f/\f<65536)(H:List AO):
  F zhe [.sl (ym1 l),.sl (u8s K),.sl (u8s L),.bool ga,.bool most,.int .u16 f] H=some (.ret (.bool true),H):=by
 have hG:=fun H=>ygi l hl K hK hKl ga H
 have hg:=ybm hl hK ga;have h0:AO.box [.sl (u8s L),.int .i64 0]=mkr L 0:=rfl;generalize zqg l K ga=g at *;have hT:F zh9 [.ptr H.length 0,.agg g.cs,.int .i64 4] ((H++[mkr L 0]).set H.length (mkr L 0))=_:=z6a L hL hlen g 3 (by omega) 0 (by decide) H.length (H++[mkr L 0]) (by simp)
 have hat:=tmS_at hL g 4 0;have hsm:=tmS_sm hL g 3 0;have hok:=ym2 hL g 4 0;simp only[Int.reducePow,Nat.reduceAdd]at hT hat hsm;generalize tmS L g 4 0=q at *;rcases q with⟨a,b0⟩;dsimp only at hT hat hsm hok;have hN:=yib L hL hlen g a hok hsm b0 (by omega) H.length (H++[mkr L b0]) (by simp)
 have hnk:=yke hL g a hok b0;generalize ybe L g a b0=r at *;rcases r with⟨b,b1⟩;dsimp only at hN hnk;have s1:=fun most f H=>z3n g hg a b hok hnk most f H
 have s2:=fun most f H=>z3n g hg b a hnk hok most f H
 rw[zrj,zrj]at hT hN;rcases a with⟨k1,n1,l1,q1⟩;rcases b with⟨k2,n2,l2,q2⟩;simp only[Te.cs,Gr.cs]at hG hT hN s1 s2;rw[zvp];simp only[↓reduceIte,go_sem,hG,h0,hT,hN,s1,s2,ych,Te.cs,zam (n:=f) (by omega) (by omega)]
theorem z6i(l:List (List Int))(hl:BsOk l)(K:List Int)(hK:K.length<=140737488355328/\zbu K)(L:List Int)(hL:L.length<=140737488355328/\zbu L)(ga most:Bool)(f:Int)(hf:0<=f/\f<65536)(H:List AO):
  F zhe [.sl (l.map fun l=>[.sl (u8s l)]),.sl (u8s K),.sl (u8s L),.bool ga,.bool most,.int .u16 f] H=some (.ret (.bool true),H) :=
 z8s l hl K hK.2 hK.1 L hL.2 hL.1 ga most f hf H
end Go.Ab
end
