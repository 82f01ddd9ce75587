/- What the law ConvAny of layer 17 comes to, part 28. Conditions: none. -/
import Derived.Test.YthebfdakjfnpeaaGreatZbaz
section
set_option linter.unusedVariables false
set_option linter.unusedSimpArgs false
set_option maxRecDepth 100000
set_option maxHeartbeats 4000000
namespace Go.Ab
open Go.RowKit Go.Proofs
def runB:Nat->List Cl->Int->List Int->Option Bool
 |0,_,_,_=>none
 |n+1,l,most,m=>if (za1 l m).any (fun x=>decide (most<x))=true then some false else if za1 l m=m then (if m.all (fun x=>decide (x<=most))=true then some true else none) else runB n l most (za1 l m)
theorem z4t:∀(n:Nat) {l:List Cl} {most:Int} {m:List Int} {b:Bool},runB n l most m=some b->∃r k,RunS l most m r k/\r.isSome=b
 |0,l,most,m,b,h=>by cases h
 |n+1,l,most,m,b,h=>by
  rw[runB]at h
  split at h
  ·rename_i h1
   cases h;obtain⟨x,hx,hlt⟩:=List.any_eq_true.1 h1
   exact⟨none,1,.over ⟨x,hx,by simpa using hlt⟩,rfl⟩
  ·rename_i h1
   split at h
   ·rename_i h2
    split at h
    ·rename_i h3
     cases h;exact⟨some m,1,.fix h2 (fun x hx=>by simpa using List.all_eq_true.1 h3 x hx),rfl⟩
    ·cases h
   ·rename_i h2
    obtain⟨r,k,h3,h4⟩:=z4t n h;refine⟨r,k+1,.more h2 (fun x hx=>?_) h3,h4⟩
    simp only[List.any_eq_true,decide_eq_true_eq,not_exists,not_and]at h1;have:=h1 x hx;omega
def brkB(f:Nat)(cons:List Co)(p:Nat)(b:Lv)(n:Nat)(x:At):Option Bool:=runB f (zsu cons (zcx n p) b x) (zhc ((p+1:Nat):Int) (zsu cons (zcx n p) b x)) (List.replicate (p+1) 0)
theorem yhs(f:Nat){cons:List Co}{p:Nat}{a b:Lv}(h:((List.range (2 ^ p)).all fun n=>(zap (za3 a (zcx n p))).all fun x=>brkB f cons p b n x == some false)=true):z1c cons p a b=true:=by
 refine zpu.2 fun n hn hb=>?_
 obtain⟨x,hx,m,k,hr⟩:=hb;have h1:=List.all_eq_true.1 (List.all_eq_true.1 h n (by simpa using hn)) x hx
 have h1:brkB f cons p b n x=some false:=by simpa using h1
 obtain⟨r,k',h2,h3⟩:=z4t f h1;rw[zgp]at hr;have:=(hr.det h2).1;subst this;cases h3
theorem leqB_no(f:Nat){cons:List Co}{p:Nat}{a b:Lv}(h:((List.range (2 ^ p)).any fun n=>(zap (za3 a (zcx n p))).any fun x=>brkB f cons p b n x == some true)=true):z1c cons p a b=false:=by
 rcases hb:z1c cons p a b with _|_
 ·rfl
 exfalso;obtain⟨n,hn,h1⟩:=List.any_eq_true.1 h;obtain⟨x,hx,h2⟩:=List.any_eq_true.1 h1;have h2:brkB f cons p b n x=some true:=by simpa using h2
 obtain⟨r,k,h3,h4⟩:=z4t f h2;refine zpu.1 hb n (by simpa using hn) ⟨x,hx,?_⟩
 cases r with
 |none=>cases h4
 |some m=>exact⟨m,k,by rw[zgp];exact h3⟩
def pL:Lv:=.mk 5 0 []
def spL:Lv:=.mk 2 0 [pL]
def sP:Te:=.mk 2 0 [pL] []
def sS:Te:=.mk 2 0 [spL] []
def g1:Gr:=⟨[],1,0,[],1⟩
def g2:Gr:=⟨[],1,0,[],2⟩
def g0:Gr:=⟨[],0,0,[],0⟩
theorem g_ok(p m mode:Int):okG ⟨[],p,m,[],mode⟩:=⟨yho,by simp,by intro c hc;cases hc⟩
theorem ybi:sP.ok:=by simp[sP,pL,zxq,yks]
theorem ybh:sS.ok:=by simp[sS,spL,pL,zxq,yks]
theorem leq1:zgh g1 (0,[]) pL spL=(true,0,[]):=by
 unfold zgh;rw[if_neg (by simp),if_neg (show ¬ g1.mode=2 by decide),if_pos (by rfl)]
 rw[show z1c g1.cons g1.params.toNat pL spL=true from yhs 20 (by decide +kernel)]
theorem leq2:zgh g1 (0,[]) spL pL=(false,0,[]):=by
 unfold zgh;rw[if_neg (by simp),if_neg (show ¬ g1.mode=2 by decide),if_pos (by rfl)]
 rw[show z1c g1.cons g1.params.toNat spL pL=false from leqB_no 20 (by decide +kernel)]
theorem zs0(g:Gr)(n:Nat)(l:Lv):Hd g.env n (.mk 2 0 [l] []) (.mk 2 0 [l] []) n:=.stuck (by decide) (by decide) (fun h=>absurd h (by decide))
theorem aw1:ConvS g1 sP sS true 5 (true,[],4,0):=by
 have h:Al g1 (4+1) [] sP sS true _ 4 _ _:=.sortM (zs0 g1 4 pL) (zs0 g1 4 spL);rw[leq1]at h;exact .ok (by rfl) (by rfl) (by rfl) rfl (by decide) h
theorem aw2:ConvS g1 sS sP true 5 (false,[],4,0):=by
 have h:Al g1 (4+1) [] sS sP true _ 4 _ _:=.sortM (zs0 g1 4 spL) (zs0 g1 4 pL);rw[leq2]at h;exact .ok (by rfl) (by rfl) (by rfl) rfl (by decide) h
theorem aw3:ConvS g1 sP sS true 0 (false,[],0,40) :=
 .er (by rfl) (by rfl) (by rfl) rfl (by decide) (.burn0 (g:=g1)) (by decide)
theorem aw4:ConvS g2 sS sP false 5 (true,[.mk spL pL,.mk pL spL],4,0):=by
 have h:Al g2 (4+1) [] sS sP false _ 4 _ _:=.lvls (.inl ⟨rfl,rfl⟩) (zs0 g2 4 spL) (zs0 g2 4 pL) rfl;have e:zj7 g2 (0,[]) [spL] [pL]=(true,0,[.mk spL pL,.mk pL spL]):=by
  simp[zj7,zog,zgh,g2]
 rw[e]at h;exact .ok (by rfl) (by rfl) (by rfl) rfl (by decide) h
theorem z9z(H:List AO):F zli [] H=some (.ret (.bool true),H):=by
 have hS0:=fun H=>z38 pL H
 have hS1:=fun H=>z38 spL H
 have r1:=fun H=>zi3 g1 (g_ok _ _ _) sP sS ybi ybh true 5 _ aw1 H
 have r2:=fun H=>zi3 g1 (g_ok _ _ _) sS sP ybh ybi true 5 _ aw2 H
 have r3:=fun H=>zi3 g1 (g_ok _ _ _) sP sS ybi ybh true 0 _ aw3 H
 have r4:=fun H=>zi3 g2 (g_ok _ _ _) sS sP ybh ybi false 5 _ aw4 H
 have r5:=fun H=>zi3 g0 (g_ok _ _ _) sP sS ybi ybh true 5 (false,[],0,1) (.arg (.inl (by rfl))) H
 have r6:=fun H=>zlv g2 (g_ok _ _ _) H
 have r7:=fun H=>zlv g0 (g_ok _ _ _) H
 rw[show zjw g2=true from rfl]at r6
 rw[show zjw g0=false from rfl]at r7
 have e1:De.css []=[]:=rfl;have e2:Co.css []=[]:=rfl;have e3:Co.css [.mk spL pL,.mk pL spL]=[spL.cs++pL.cs,pL.cs++spL.cs]:=rfl;simp only[z1x,e1,e2,e3,g0,g1,g2,Gr.cs,sP,sS,pL,spL,Te.cs,Te.css,Lv.cs,Lv.css,List.cons_append,List.nil_append]at hS0 hS1 r1 r2 r3 r4 r5 r6 r7;rw[z0k];simp only[↓reduceIte,go_sem,hS0,hS1,r1,r2,r3,r4,r5,r6,r7,List.length_cons,List.length_nil,Nat.reduceAdd,Int.cast_ofNat_Int]
theorem yaf(g:Gr)(hg:okG g)(a b:Te)(ha:a.ok)(hb:b.ok)(most:Bool)(f:Int)(H:List AO):F zhv [.agg g.cs,.agg a.cs,.agg b.cs,.bool most,.int .i64 f] H=some (.ret (.bool true),H):=by
 have hs:=fun f H=>ybf g hg a b ha hb most f H
 have hp:=fun H=>zm7 a ha 301 (by omega) H
 have hq:=fun H=>zm7 b hb 301 (by omega) H
 have hp1:=zpt a 301;have hp2:=zps a 301;have hq1:=zpt b 301;have hq2:=zps b 301;obtain⟨⟨hlen,hd⟩,hc1,hc2⟩:=hg;rcases a with⟨ka,Na,lsa,ksa⟩;rcases b with⟨kb,Nb,lsb,ksb⟩;rcases g with⟨env,p,m,cons,mode⟩;simp only[Te.cs,Gr.cs]at hs hp hq;dsimp only at hlen hd hc1 hc2;have loop:∀(suf pre:List De) (n:Int),env=pre++suf->0<=n/\n<=1000 ->
   zet H H (.bool most) (.int .i64 f) (.int .i64 n) (.int .i64 pre.length) [.sl (De.css env),.int .i64 p,.int .i64 m,.sl (Co.css cons),.int .i64 mode] (Te.mk ka Na lsa ksa).cs (Te.mk kb Nb lsb ksb).cs=some (.ret (.bool true),H):=by
  intro suf;have fin:∀(pre:List De) (n:Int),0<=n/\n<=1000->(¬ (pre.length:Int)<env.length\/¬ n<=300) ->
    zet H H (.bool most) (.int .i64 f) (.int .i64 n) (.int .i64 pre.length) [.sl (De.css env),.int .i64 p,.int .i64 m,.sl (Co.css cons),.int .i64 mode] (Te.mk ka Na lsa ksa).cs (Te.mk kb Nb lsb ksb).cs=some (.ret (.bool true),H):=by
   intro pre n hn h;rw[zet,zab];have h7:(¬ (100:Int)<f)\/((100:Int)<f/\f<=5000)\/((100:Int)<f/\¬ f<=5000):=by omega
   have h8:(¬ (pre.length:Int)<env.length/\(300:Int)<n)\/((pre.length:Int)<env.length/\(300:Int)<n/\¬ n<=300)\/(¬ (pre.length:Int)<env.length/\¬ (300:Int)<n/\(25:Int)<env.length)\/(¬ (pre.length:Int)<env.length/\¬ (300:Int)<n/\¬ (25:Int)<env.length/\(20:Int)<cons.length)\/(¬ (pre.length:Int)<env.length/\¬ (300:Int)<n/\¬ (25:Int)<env.length/\¬ (20:Int)<cons.length):=by omega
   rcases h7 with h1|⟨h1,h2⟩|⟨h1,h2⟩ <;> rcases h8 with⟨h3,h4⟩|⟨h3,h4,h5⟩|⟨h3,h4,h5⟩|⟨h3,h4,h5,h6⟩|⟨h3,h4,h5,h6⟩ <;>
    simp only[↓reduceIte,go_sem,Te.cs, *,z9z]
  induction suf with
  |nil=>
   intro pre n e hn;exact fin pre n hn (.inl (by rw[e];simp))
  |cons x suf ih=>
   intro pre n e hn;by_cases h3:n<=300
   ·obtain⟨_,_,ha,hb⟩:=hd x (by rw[e];simp)
    have q1:=fun H=>zm7 x.type ha 301 (by omega) H
    have q2:=fun H=>zm7 x.value hb 301 (by omega) H
    have b1:=zpt x.type 301;have b2:=zps x.type 301;have b3:=zpt x.value 301;have b4:=zps x.value 301;have hg:env[pre.length]?=some x:=by rw[e];simp
    have hl:(pre.length:Int)<env.length:=by rw[e];simp;omega
    have:=ih (pre++[x]) (n+parts x.type 301+parts x.value 301) (by rw[e];simp) (by omega)
    simp only[zaf,Te.cs]at this;rw[zet,zab];simp only[↓reduceIte,go_sem,Te.cs,h3,hl,hg,q1,q2,zam (n:=n+parts x.type 301) (by omega) (by omega),zam (n:=n+parts x.type 301+parts x.value 301) (by omega) (by omega),zac (n:=pre.length) (by omega),this]
   ·exact fin pre n hn (.inr h3)
 have:=loop env [] (parts (.mk ka Na lsa ksa) 301+parts (.mk kb Nb lsb ksb) 301) rfl (by omega)
 simp only[List.length_nil,Int.natCast_zero,Te.cs]at this;rw[zv3];simp only[↓reduceIte,go_sem,Te.cs,Gr.cs,hp,hq,zam (n:=parts (.mk ka Na lsa ksa) 301+parts (.mk kb Nb lsb ksb) 301) (by omega) (by omega),this]
theorem z6m(g:Gr)(hg:okG g)(a:Te)(ha:a.ok)(b:Te)(hb:b.ok)(most:Bool)(f:Int)(_:(Lit.int .i64 f).wf=true)(H:List AO):F zhv [.agg g.cs,.agg a.cs,.agg b.cs,.bool most,.int .i64 f] H=some (.ret (.bool true),H) :=
 yaf g hg a b ha hb most f H
end Go.Ab
end
