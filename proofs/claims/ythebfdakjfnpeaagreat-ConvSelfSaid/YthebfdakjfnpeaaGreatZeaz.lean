/- What the law ConvSelf of layer 17 comes to, part 26. Conditions: none. -/
import Derived.Test.YthebfdakjfnpeaaGreatZeay
import Derived.Test.YthebfdakjfnpeaaGreatZeaw
section
set_option linter.unusedVariables false
set_option linter.unusedSimpArgs false
set_option maxRecDepth 100000
set_option maxHeartbeats 2000000
namespace Go.Ab
open Go.RowKit Go.Proofs
def zt7(env:List De)(n:Int)(ls:List Lv):Option De:=match env[n.toNat]? with
 |some d=>if d.has=true/\(ls.length:Int)=d.p then some d else none
 |none=>none
inductive Hd (env:List De):Nat->Te->Te->Nat->Prop
 |stuck {n:Nat} {k N:Int} {ls:List Lv} {ks:List Te}:k≠4->k≠7->(k=3->0<=N/\zt7 env N ls=none)->Hd env n (.mk k N ls ks) (.mk k N ls ks) n
 |lett {n:Nat} {N:Int} {ls:List Lv} {s v b r t':Te} {n':Nat}:zjp b v=(r,0)->Hd env n r t' n' -> Hd env (n+1) (.mk 7 N ls [s,v,b]) t' n'
 |const {n:Nat} {N:Int} {ls:List Lv} {ks:List Te} {d:De} {r t':Te} {n':Nat}:0<=N->zt7 env N ls=some d->znl d.value ls []=(r,0)->Hd env n r t' n' -> Hd env (n+1) (.mk 3 N ls ks) t' n'
 |app {n:Nat} {N:Int} {ls:List Lv} {f a f':Te} {n':Nat}:Hd env n f f' n' -> f'.kind≠5->Hd env n (.mk 4 N ls [f,a]) (.mk 4 0 [] [f',a]) n'
 |beta {n:Nat} {N:Int} {ls:List Lv} {f a:Te} {N2:Int} {ls2:List Lv} {s b:Te} {m:Nat} {r t':Te} {n':Nat}:Hd env n f (.mk 5 N2 ls2 [s,b]) (m+1)->zjp b a=(r,0)->Hd env m r t' n' -> Hd env n (.mk 4 N ls [f,a]) t' n'
inductive He (env:List De):Nat->Te->Nat->Int->Prop
 |let0 {N:Int} {ls:List Lv} {s v b:Te}:He env 0 (.mk 7 N ls [s,v,b]) 0 40
 |let2 {n:Nat} {N:Int} {ls:List Lv} {s v b r:Te} {e:Int}:zjp b v=(r,e)->e≠0->He env (n+1) (.mk 7 N ls [s,v,b]) n e
 |letr {n:Nat} {N:Int} {ls:List Lv} {s v b r:Te} {n':Nat} {e:Int}:zjp b v=(r,0)->He env n r n' e->He env (n+1) (.mk 7 N ls [s,v,b]) n' e
 |const0 {N:Int} {ls:List Lv} {ks:List Te} {d:De}:0<=N->zt7 env N ls=some d->He env 0 (.mk 3 N ls ks) 0 40
 |const2 {n:Nat} {N:Int} {ls:List Lv} {ks:List Te} {d:De} {r:Te} {e:Int}:0<=N->zt7 env N ls=some d->znl d.value ls []=(r,e)->e≠0->He env (n+1) (.mk 3 N ls ks) n e
 |constr {n:Nat} {N:Int} {ls:List Lv} {ks:List Te} {d:De} {r:Te} {n':Nat} {e:Int}:0<=N->zt7 env N ls=some d->znl d.value ls []=(r,0)->He env n r n' e->He env (n+1) (.mk 3 N ls ks) n' e
 |appf {n:Nat} {N:Int} {ls:List Lv} {f a:Te} {n':Nat} {e:Int}:He env n f n' e->He env n (.mk 4 N ls [f,a]) n' e
 |beta0 {n:Nat} {N:Int} {ls:List Lv} {f a:Te} {N2:Int} {ls2:List Lv} {s b:Te}:Hd env n f (.mk 5 N2 ls2 [s,b]) 0->He env n (.mk 4 N ls [f,a]) 0 40
 |beta2 {n:Nat} {N:Int} {ls:List Lv} {f a:Te} {N2:Int} {ls2:List Lv} {s b:Te} {m:Nat} {r:Te} {e:Int}:Hd env n f (.mk 5 N2 ls2 [s,b]) (m+1)->zjp b a=(r,e)->e≠0->He env n (.mk 4 N ls [f,a]) m e
 |betar {n:Nat} {N:Int} {ls:List Lv} {f a:Te} {N2:Int} {ls2:List Lv} {s b:Te} {m:Nat} {r:Te} {n':Nat} {e:Int}:Hd env n f (.mk 5 N2 ls2 [s,b]) (m+1)->zjp b a=(r,0)->He env m r n' e->He env n (.mk 4 N ls [f,a]) n' e
theorem He.ne{env:List De}{n:Nat}{t:Te}{n':Nat}{e:Int}(h:He env n t n' e):e≠0:=by
 induction h <;> first|decide|assumption
theorem Hd.le{env:List De}{n:Nat}{t t':Te}{n':Nat}(h:Hd env n t t' n'):n' <= n:=by
 induction h <;> omega
theorem zle{env:List De}{n:Int}{ls:List Lv}{d:De}(h:zt7 env n ls=some d):env[n.toNat]?=some d/\d.has=true/\(ls.length:Int)=d.p:=by
 unfold zt7 at h
 cases hg:env[n.toNat]? with
 |none=>rw[hg]at h;cases h
 |some x=>
  rw[hg]at h;dsimp only at h
  split at h
  ·cases h;rename_i h;exact⟨rfl,h⟩
  ·cases h
theorem zfb{b v r:Te}{e:Int}(h:zjp b v=(r,e))(hb:b.ok)(hv:v.ok):r.ok:=by
 have:=yid hb hv;rw[h]at this;exact this
theorem zqz:zrv []:=by intro x hx;cases hx
theorem zpf{env:List De}(he:zta env){n:Int}{ls:List Lv}{ks:List Te}{d:De}{r:Te}{e:Int}(ht:(Te.mk 3 n ls ks).ok)(hu:zt7 env n ls=some d)(hs:znl d.value ls []=(r,e)):r.ok:=by
 have hd:=he.2 d (List.mem_of_getElem? (zle hu).1);have:=yh9 hd.2.2.2 (ps:=ls) (ms:=[]) ht.all2 zqz;rw[hs]at this;exact this
theorem Hd.ok{env:List De}(he:zta env){n:Nat}{t t':Te}{n':Nat}(h:Hd env n t t' n'):t.ok->t'.ok:=by
 induction h with
 |stuck=>exact id
 |lett ho _ ih=>
  intro ht;exact ih (zfb ho (ht.all _ (by simp)) (ht.all _ (by simp)))
 |const _ hu hs _ ih=>exact fun ht=>ih (zpf he ht hu hs)
 |app _ _ ih=>
  intro ht;have hf:=ih (ht.all _ (by simp))
  have ha:=ht.all _ (show _∈[_,_] from List.mem_cons_of_mem _ (List.mem_singleton.2 rfl))
  exact .mk (by simp) (by simp) (by intro x hx;cases hx) (by intro x hx;simp at hx;rcases hx with rfl|rfl <;> assumption)
 |beta _ ho _ ih1 ih2=>
  intro ht;have hf:=ih1 (ht.all _ (by simp))
  exact ih2 (zfb ho (hf.all _ (by simp)) (ht.all _ (by simp)))
theorem decs_lt(n:Nat)(d:De):∀a∈d.cs,Lt n a:=by
 rcases d with⟨p,cons,t,h,v⟩;intro a ha;simp only[De.cs,De.p,De.cons,De.type,De.has,De.value,List.mem_append,List.mem_cons,List.not_mem_nil,or_false]at ha;rcases ha with (((rfl|rfl)|ha)|rfl)|ha
 ·exact .int _ _
 ·refine .sl fun x hx=>?_
  obtain⟨l,hl,hx⟩:=List.mem_flatten.1 hx;obtain⟨c,_,rfl⟩:=List.mem_map.1 hl;rcases List.mem_append.1 hx with hx|hx
  ·exact z8i n c.a x hx
  ·exact z8i n c.b x hx
 ·exact zub n t a ha
 ·exact .bool _
 ·exact zub n v a ha
theorem zzs(n:Nat)(env:List De):∀a∈(De.css env).flatten,Lt n a:=by
 intro a ha;obtain⟨l,hl,hx⟩:=List.mem_flatten.1 ha;obtain⟨d,_,rfl⟩:=List.mem_map.1 hl;exact decs_lt n d a hx
@[go_sem] theorem lt_decss(n:Nat)(env:List De):(∀a∈(De.css env).flatten,Lt n a)=True:=eq_true (zzs n env)
theorem zls(n:Nat)(env:List De)(f e:Int)(R:List AV)(hR:∀a∈R,Lt n a):LtO n (.box (.sl (De.css env) :: .int .i64 f :: .int .i64 e::R)):=by
 intro a ha;simp at ha;rcases ha with rfl|rfl|rfl|ha
 ·exact .sl (zzs n env)
 ·exact .int _ _
 ·exact .int _ _
 ·exact hR a ha
theorem zof(n:Nat)(env:List De)(f e:Int):LtO n (.box [.sl (De.css env),.int .i64 f,.int .i64 e]):=zls n env f e [] (fun a ha=>by cases ha)
theorem zff(env:List De)(n:Int)(hn:0<=n/\n<=1000000)(A X:List AO)(R:List AV)(hR:∀a∈R,Lt (A.length+(X.length+1)) a):F zcu [.ptr A.length 0] (A++(.box (.sl (De.css env) :: .int .i64 n :: .int .i64 0::R)::X)) =
  if n=0 then some (.ret (.bool false),A++(.box (.sl (De.css env) :: .int .i64 0 :: .int .i64 40::R)::X)) else some (.ret (.bool true),A++(.box (.sl (De.css env) :: .int .i64 (n - 1) :: .int .i64 0::R)::X)):=by
 have hf:=fun (o o':AO) r J (ho:LtO (A.length+(X.length+1)) o')=>zpd (A:=A) (X:=X) (J:=J) (o:=o) (o':=o') (r:=r) ho
 have hf0:=fun (o o':AO) r (ho:LtO (A.length+(X.length+1)) o')=>zfk (A:=A) (X:=X) (o:=o) (o':=o') (r:=r) ho
 have mB:=fun f e=>zls (A.length+(X.length+1)) env f e R hR
 rw[zps];by_cases h:n=0
 ·subst h
  simp only[↓reduceIte,go_sem,hf,hf0,mB,show (0:Int)<1 by decide]
 ·simp only[↓reduceIte,go_sem,hf,hf0,mB,h,show ¬ n<1 by omega,zap (n:=n - 1) (by omega) (by omega)]
theorem z29(env:List De)(n e:Int)(A X:List AO)(R:List AV)(hR:∀a∈R,Lt (A.length+(X.length+1)) a):F zeg [.ptr A.length 0,.int .i64 e] (A++(.box (.sl (De.css env) :: .int .i64 n :: .int .i64 0::R)::X)) =
  some (.ret (.tup []),A++(.box (.sl (De.css env) :: .int .i64 n :: .int .i64 e::R)::X)):=by
 have hf0:=fun (o o':AO) r (ho:LtO (A.length+(X.length+1)) o')=>zfk (A:=A) (X:=X) (o:=o) (o':=o') (r:=r) ho
 have mB:=fun f e=>zls (A.length+(X.length+1)) env f e R hR
 rw[zpr];simp only[↓reduceIte,go_sem,hf0,mB]
theorem ze6(env:List De)(t:Te)(n e:Int)(A X:List AO)(R:List AV)(hR:∀a∈R,Lt (A.length+(X.length+1)) a):F zc7 [.ptr A.length 0,.agg t.cs,.int .i64 e] (A++(.box (.sl (De.css env) :: .int .i64 n :: .int .i64 0::R)::X)) =
  some (.ret (.agg t.cs),A++(.box (.sl (De.css env) :: .int .i64 n :: .int .i64 e::R)::X)):=by
 have hf0:=fun (o o':AO) r (ho:LtO (A.length+(X.length+1)) o')=>zfk (A:=A) (X:=X) (o:=o) (o':=o') (r:=r) ho
 have mB:=fun f e=>zls (A.length+(X.length+1)) env f e R hR
 rw[zqd];by_cases h:e=0
 ·subst h
  simp only[↓reduceIte,go_sem,hf0,mB]
 ·simp only[↓reduceIte,go_sem,hf0,mB,h,z29 env n e A X R hR]
theorem zet(env:List De)(n e:Int)(k N:Int)(ls:List Lv)(ks:List Te)(hN:k=3->0<=N)(A X:List AO)(R:List AV)(hR:∀a∈R,Lt (A.length+(X.length+1)) a):F zdh [.ptr A.length 0,.agg [.int .i64 k,.int .i64 N,.sl (Lv.css ls),.sl (Te.css ks)]] (A++(.box (.sl (De.css env) :: .int .i64 n :: .int .i64 e::R)::X)) =
  some (.ret (.bool (decide (k=3) && (zt7 env N ls).isSome)),A++(.box (.sl (De.css env) :: .int .i64 n :: .int .i64 e::R)::X)):=by
 have hf0:=fun (o o':AO) r (ho:LtO (A.length+(X.length+1)) o')=>zfk (A:=A) (X:=X) (o:=o) (o':=o') (r:=r) ho
 have mB:=fun f e=>zls (A.length+(X.length+1)) env f e R hR
 rw[znk];by_cases h:k=3
 ·subst h
  have hN:=hN rfl;obtain⟨j,rfl⟩:=Int.eq_ofNat_of_zero_le hN;unfold zt7;simp only[Int.toNat_natCast]
  cases hg:env[j]? with
  |none=>
   have hl:=List.getElem?_eq_none_iff.1 hg;simp only[↓reduceIte,go_sem,hf0,mB,show ¬ (j:Int)<(env.length:Int) by omega,Option.isSome_none]
  |some d=>
   have hl:j<env.length:=by
    rcases Nat.lt_or_ge j env.length with h|h
    ·exact h
    ·rw[List.getElem?_eq_none h]at hg;cases hg
   have hlI:(j:Int)<(env.length:Int):=by omega
   cases hh:d.has
   ·simp only[↓reduceIte,go_sem,hf0,mB,hl,hlI,hg,hh,Option.isSome_none,Option.isSome_some,Bool.false_eq_true,false_and]
   ·by_cases hp:(ls.length:Int)=d.p
    ·simp only[↓reduceIte,go_sem,hf0,mB,hl,hlI,hg,hh,hp,Option.isSome_none,Option.isSome_some]
    ·simp only[↓reduceIte,go_sem,hf0,mB,hl,hlI,hg,hh,hp,Option.isSome_none,Option.isSome_some]
 ·simp only[↓reduceIte,go_sem,hf0,mB,h]
theorem zmp(env:List De)(x:Te)(n:Int)(e:Int)(A X:List AO)(R:List AV)(hR:∀a∈R,Lt (A.length+(X.length+1)) a)(he:e≠0)(n0 e0:Int)(v4:List AV)(hv:v4=[.int .i64 0,.int .i64 0,.sl [],.sl []]):
  zac (A++(.box (.sl (De.css env) :: .int .i64 n0 :: .int .i64 e0::R)::X)) (A++(.box (.sl (De.css env) :: .int .i64 n :: .int .i64 e::R)::X)) (.ptr A.length 0) x.cs v4 =
  some (.ret (.agg x.cs),A++(.box (.sl (De.css env) :: .int .i64 n :: .int .i64 e::R)::X)):=by
 have hf0:=fun (o o':AO) r (ho:LtO (A.length+(X.length+1)) o')=>zfk (A:=A) (X:=X) (o:=o) (o':=o') (r:=r) ho
 subst hv;have mB:=fun f e=>zls (A.length+(X.length+1)) env f e R hR
 rw[zac,zab];simp only[↓reduceIte,go_sem,hf0,mB,he]
theorem zlo(env:List De)(t:Te)(n e:Int)(A X:List AO)(R:List AV):F za2 [.ptr A.length 0,.agg t.cs] (A++(.box (.sl (De.css env) :: .int .i64 n :: .int .i64 e::R)::X)) =
  zac (A++(.box (.sl (De.css env) :: .int .i64 n :: .int .i64 e::R)::X)) (A++(.box (.sl (De.css env) :: .int .i64 n :: .int .i64 e::R)::X)) (.ptr A.length 0) t.cs [.int .i64 0,.int .i64 0,.sl [],.sl []]:=by
 rw[zpq];simp only[↓reduceIte,go_sem]
@[go_sem] theorem toNat_two:Int.toNat 2=2:=rfl
theorem zq5(env:List De)(hE:zta env){n:Nat}{t t':Te}{n':Nat}(h:Hd env n t t' n'):t.ok->n<=1000000->∀(A X:List AO) (R:List AV) (hR:∀a∈R,Lt (A.length+(X.length+1)) a) (n0 e0:Int),
  zac (A++(.box (.sl (De.css env) :: .int .i64 n0 :: .int .i64 e0::R)::X)) (A++(.box (.sl (De.css env) :: .int .i64 n :: .int .i64 0::R)::X)) (.ptr A.length 0) t.cs [.int .i64 0,.int .i64 0,.sl [],.sl []] =
  some (.ret (.agg t'.cs),A++(.box (.sl (De.css env) :: .int .i64 n' :: .int .i64 0::R)::X)):=by
 have hf0:=fun (A X:List AO) (o o':AO) r (ho:LtO (A.length+(X.length+1)) o')=>zfk (A:=A) (X:=X) (o:=o) (o':=o') (r:=r) ho
 induction h with
 |@stuck n k N ls ks h4 h7 h3=>
  intro ht hn A X R hR n0 e0;have mB:=fun f e=>zls (A.length+(X.length+1)) env f e R hR
  have hP:=fun t n e=>ze6 env t n e A X R hR
  have hu:=zet env n 0 k N ls ks (fun h=>(h3 h).1) A X R hR
  have hfl:(decide (k=3) && (zt7 env N ls).isSome)=false:=by
   by_cases h:k=3
   ·rw[(h3 h).2];simp
   ·simp[h]
  rw[hfl]at hu;rw[zac,zab];simp only[↓reduceIte,go_sem,Te.cs,h7,h4,hu,hf0,mB]
 |@lett n N ls s v b r t' n' ho hd ih=>
  intro ht hn A X R hR n0 e0;have mB:=fun f e=>zls (A.length+(X.length+1)) env f e R hR
  have hP:=fun t n e=>ze6 env t n e A X R hR
  have hb:=ht.all b (by simp)
  have hv:=ht.all v (by simp)
  have:=ih (zfb ho hb hv) (by omega) A X R hR n0 e0
  have hO:=fun H=>zm5 b v hb hv H
  simp only[ho,zi4]at hO;have hB:=zff env ((n+1:Nat):Int) (by omega) A X R hR
  rw[if_neg (by omega),show (((n+1:Nat):Int) - 1)=n by omega]at hB
  rw[zac,zab];simp only[↓reduceIte,go_sem,Te.cs,Te.css,hB,hO,hP,this]
 |@const n N ls ks d r t' n' hN hu hs hd ih=>
  intro ht hn A X R hR n0 e0;have mB:=fun f e=>zls (A.length+(X.length+1)) env f e R hR
  have hP:=fun t n e=>ze6 env t n e A X R hR
  have hm:=zle hu;have hU:=zet env ((n+1:Nat):Int) 0 3 N ls ks (fun _=>hN) A X R hR
  rw[hu]at hU;have:=ih (zpf hE ht hu hs) (by omega) A X R hR n0 e0
  have hS:=fun H=>zvx d.value ls [] (hE.2 d (List.mem_of_getElem? hm.1)).2.2.2 ht.all2 zqz ht.len2 (by simp) H
  simp only[hs,zi4,Lv.css]at hS;have hB:=zff env ((n+1:Nat):Int) (by omega) A X R hR
  rw[if_neg (by omega),show (((n+1:Nat):Int) - 1)=n by omega]at hB
  rw[zac,zab];simp only[↓reduceIte,go_sem,Te.cs,Te.css,hU,hB,hN,hm.1,hS,hP,this,decide_true,Bool.true_and,Option.isSome_some]
 |@app n N ls f a f' n' hd hk ih=>
  intro ht hn A X R hR n0 e0;have mB:=fun f e=>zls (A.length+(X.length+1)) env f e R hR
  have hP:=fun t n e=>ze6 env t n e A X R hR
  have hf:=ht.all f (by simp)
  have:=ih hf hn A X R hR n 0;rw[<- zlo]at this;have hU:=zet env n 0 4 N ls [f,a] (fun h=>absurd h (by decide)) A X R hR
  simp only[Te.css,show decide ((4:Int)=3)=false from rfl,Bool.false_and]at hU
  cases f' with
  |mk k2 n2 ls2 ks2=>
  have hk2:¬ k2=5:=hk;simp only[Te.cs]at this;rw[zac,zab];simp only[↓reduceIte,go_sem,Te.cs,Te.css,Lv.css,hU,this,hk2,hf0,mB]
 |@beta n N ls f a N2 ls2 s b m r t' n' hd ho hd2 ih1 ih2=>
  intro ht hn A X R hR n0 e0;have mB:=fun f e=>zls (A.length+(X.length+1)) env f e R hR
  have hP:=fun t n e=>ze6 env t n e A X R hR
  have hf:=ht.all f (by simp)
  have ha:=ht.all a (by simp)
  have hl:=hd.ok hE hf;have hle:=hd.le;have hb:=hl.all b (by simp)
  have:=ih1 hf hn A X R hR n 0;rw[<- zlo]at this;have h2:=ih2 (zfb ho hb ha) (by omega) A X R hR n0 e0
  have hU:=zet env n 0 4 N ls [f,a] (fun h=>absurd h (by decide)) A X R hR
  simp only[Te.css,show decide ((4:Int)=3)=false from rfl,Bool.false_and]at hU
  have hO:=fun H=>zm5 b a hb ha H
  simp only[ho,zi4]at hO;have hB:=zff env ((m+1:Nat):Int) (by omega) A X R hR
  rw[if_neg (by omega),show (((m+1:Nat):Int) - 1)=m by omega]at hB
  simp only[Te.cs,Te.css]at this;rw[zac,zab];simp only[↓reduceIte,go_sem,Te.cs,Te.css,hU,this,hB,hO,hP,h2]
theorem yca(env:List De)(hE:zta env){n:Nat}{t:Te}{n':Nat}{e:Int}(h:He env n t n' e):t.ok->n<=1000000->∀(A X:List AO) (R:List AV) (hR:∀a∈R,Lt (A.length+(X.length+1)) a) (n0 e0:Int),∃x:Te,x.ok /\
  zac (A++(.box (.sl (De.css env) :: .int .i64 n0 :: .int .i64 e0::R)::X)) (A++(.box (.sl (De.css env) :: .int .i64 n :: .int .i64 0::R)::X)) (.ptr A.length 0) t.cs [.int .i64 0,.int .i64 0,.sl [],.sl []] =
  some (.ret (.agg x.cs),A++(.box (.sl (De.css env) :: .int .i64 n' :: .int .i64 e::R)::X)):=by
 have hf0:=fun (A X:List AO) (o o':AO) r (ho:LtO (A.length+(X.length+1)) o')=>zfk (A:=A) (X:=X) (o:=o) (o':=o') (r:=r) ho
 induction h with
 |@let0 N ls s v b=>
  intro ht hn A X R hR n0 e0;have mB:=fun f e=>zls (A.length+(X.length+1)) env f e R hR
  have hP:=fun t n e=>ze6 env t n e A X R hR
  have hB:=zff env 0 (by omega) A X R hR
  rw[if_pos rfl]at hB;have hi:=fun x=>zmp env x 0 40 A X R hR (by decide) n0 e0 _ rfl
  refine⟨_,ht,?_⟩;rw[zac,zab];have:=hi (.mk 7 N ls [s,v,b]);simp only[Te.cs,Te.css]at this;simp only[↓reduceIte,go_sem,Te.cs,Te.css,hB,this]
 |@let2 n N ls s v b r e ho he=>
  intro ht hn A X R hR n0 e0;have mB:=fun f e=>zls (A.length+(X.length+1)) env f e R hR
  have hP:=fun t n e=>ze6 env t n e A X R hR
  have hb:=ht.all b (by simp)
  have hv:=ht.all v (by simp)
  have hO:=fun H=>zm5 b v hb hv H
  simp only[ho,zi4]at hO;have hB:=zff env ((n+1:Nat):Int) (by omega) A X R hR
  rw[if_neg (by omega),show (((n+1:Nat):Int) - 1)=n by omega]at hB
  have hi:=zmp env r n e A X R hR he n0 e0 _ rfl;refine⟨r,zfb ho hb hv,?_⟩;rw[zac,zab];simp only[↓reduceIte,go_sem,Te.cs,Te.css,hB,hO,hP,hi]
 |@letr n N ls s v b r n' e ho hd ih=>
  intro ht hn A X R hR n0 e0;have mB:=fun f e=>zls (A.length+(X.length+1)) env f e R hR
  have hP:=fun t n e=>ze6 env t n e A X R hR
  have hb:=ht.all b (by simp)
  have hv:=ht.all v (by simp)
  obtain⟨x,hx,this⟩:=ih (zfb ho hb hv) (by omega) A X R hR n0 e0
  have hO:=fun H=>zm5 b v hb hv H
  simp only[ho,zi4]at hO;have hB:=zff env ((n+1:Nat):Int) (by omega) A X R hR
  rw[if_neg (by omega),show (((n+1:Nat):Int) - 1)=n by omega]at hB
  refine⟨x,hx,?_⟩;rw[zac,zab];simp only[↓reduceIte,go_sem,Te.cs,Te.css,hB,hO,hP,this]
 |@const0 N ls ks d hN hu=>
  intro ht hn A X R hR n0 e0;have mB:=fun f e=>zls (A.length+(X.length+1)) env f e R hR
  have hP:=fun t n e=>ze6 env t n e A X R hR
  have hm:=zle hu;have hU:=zet env 0 0 3 N ls ks (fun _=>hN) A X R hR
  rw[hu]at hU;have hB:=zff env 0 (by omega) A X R hR
  rw[if_pos rfl]at hB;have hi:=zmp env (.mk 3 N ls ks) 0 40 A X R hR (by decide) n0 e0 _ rfl
  simp only[Te.cs]at hi;refine⟨_,ht,?_⟩;rw[zac,zab];simp only[↓reduceIte,go_sem,Te.cs,Te.css,hU,hB,hN,hm.1,hi,decide_true,Bool.true_and,Option.isSome_some]
 |@const2 n N ls ks d r e hN hu hs he=>
  intro ht hn A X R hR n0 e0;have mB:=fun f e=>zls (A.length+(X.length+1)) env f e R hR
  have hP:=fun t n e=>ze6 env t n e A X R hR
  have hm:=zle hu;have hU:=zet env ((n+1:Nat):Int) 0 3 N ls ks (fun _=>hN) A X R hR
  rw[hu]at hU;have hS:=fun H=>zvx d.value ls [] (hE.2 d (List.mem_of_getElem? hm.1)).2.2.2 ht.all2 zqz ht.len2 (by simp) H
  simp only[hs,zi4,Lv.css]at hS;have hB:=zff env ((n+1:Nat):Int) (by omega) A X R hR
  rw[if_neg (by omega),show (((n+1:Nat):Int) - 1)=n by omega]at hB
  have hi:=zmp env r n e A X R hR he n0 e0 _ rfl;refine⟨r,zpf hE ht hu hs,?_⟩;rw[zac,zab];simp only[↓reduceIte,go_sem,Te.cs,Te.css,hU,hB,hN,hm.1,hS,hP,hi,decide_true,Bool.true_and,Option.isSome_some]
 |@constr n N ls ks d r n' e hN hu hs hd ih=>
  intro ht hn A X R hR n0 e0;have mB:=fun f e=>zls (A.length+(X.length+1)) env f e R hR
  have hP:=fun t n e=>ze6 env t n e A X R hR
  have hm:=zle hu;have hU:=zet env ((n+1:Nat):Int) 0 3 N ls ks (fun _=>hN) A X R hR
  rw[hu]at hU;obtain⟨x,hx,this⟩:=ih (zpf hE ht hu hs) (by omega) A X R hR n0 e0
  have hS:=fun H=>zvx d.value ls [] (hE.2 d (List.mem_of_getElem? hm.1)).2.2.2 ht.all2 zqz ht.len2 (by simp) H
  simp only[hs,zi4,Lv.css]at hS;have hB:=zff env ((n+1:Nat):Int) (by omega) A X R hR
  rw[if_neg (by omega),show (((n+1:Nat):Int) - 1)=n by omega]at hB
  refine⟨x,hx,?_⟩;rw[zac,zab];simp only[↓reduceIte,go_sem,Te.cs,Te.css,hU,hB,hN,hm.1,hS,hP,this,decide_true,Bool.true_and,Option.isSome_some]
 |@appf n N ls f a n' e hd ih=>
  intro ht hn A X R hR n0 e0;have mB:=fun f e=>zls (A.length+(X.length+1)) env f e R hR
  have hP:=fun t n e=>ze6 env t n e A X R hR
  have hf:=ht.all f (by simp)
  have ha:=ht.all a (by simp)
  have hne:=hd.ne;obtain⟨x,hx,this⟩:=ih hf hn A X R hR n 0;rw[<- zlo]at this;have hU:=zet env n 0 4 N ls [f,a] (fun h=>absurd h (by decide)) A X R hR
  simp only[Te.css,show decide ((4:Int)=3)=false from rfl,Bool.false_and]at hU
  refine⟨.mk 4 0 [] [x,a],.mk (by simp) (by simp) (by intro x hx;cases hx) (by intro y hy;simp at hy;rcases hy with rfl|rfl <;> assumption),?_⟩
  cases x with
  |mk k2 n2 ls2 ks2=>
  simp only[Te.cs]at this;rw[zac,zab];simp only[↓reduceIte,go_sem,Te.cs,Te.css,Lv.css,hU,this,hne,hf0,mB]
 |@beta0 n N ls f a N2 ls2 s b hd=>
  intro ht hn A X R hR n0 e0;have mB:=fun f e=>zls (A.length+(X.length+1)) env f e R hR
  have hP:=fun t n e=>ze6 env t n e A X R hR
  have hf:=ht.all f (by simp)
  have ha:=ht.all a (by simp)
  have:=zq5 env hE hd hf hn A X R hR n 0;rw[<- zlo]at this;have hU:=zet env n 0 4 N ls [f,a] (fun h=>absurd h (by decide)) A X R hR
  simp only[Te.css,show decide ((4:Int)=3)=false from rfl,Bool.false_and]at hU
  have hB:=zff env 0 (by omega) A X R hR
  rw[if_pos rfl]at hB;have hi:=zmp env (.mk 4 N ls [f,a]) 0 40 A X R hR (by decide) n0 e0 _ rfl
  simp only[Te.cs,Te.css]at hi;refine⟨_,ht,?_⟩;simp only[Te.cs,Te.css,Int.natCast_zero]at this;rw[zac,zab];simp only[↓reduceIte,go_sem,Te.cs,Te.css,hU,this,hB,hi]
 |@beta2 n N ls f a N2 ls2 s b m r e hd ho he=>
  intro ht hn A X R hR n0 e0;have mB:=fun f e=>zls (A.length+(X.length+1)) env f e R hR
  have hP:=fun t n e=>ze6 env t n e A X R hR
  have hf:=ht.all f (by simp)
  have ha:=ht.all a (by simp)
  have hl:=hd.ok hE hf;have hle:=hd.le;have hb:=hl.all b (by simp)
  have:=zq5 env hE hd hf hn A X R hR n 0;rw[<- zlo]at this;have hU:=zet env n 0 4 N ls [f,a] (fun h=>absurd h (by decide)) A X R hR
  simp only[Te.css,show decide ((4:Int)=3)=false from rfl,Bool.false_and]at hU
  have hO:=fun H=>zm5 b a hb ha H
  simp only[ho,zi4]at hO;have hB:=zff env ((m+1:Nat):Int) (by omega) A X R hR
  rw[if_neg (by omega),show (((m+1:Nat):Int) - 1)=m by omega]at hB
  have hi:=zmp env r m e A X R hR he n0 e0 _ rfl;refine⟨r,zfb ho hb ha,?_⟩;simp only[Te.cs,Te.css]at this;rw[zac,zab];simp only[↓reduceIte,go_sem,Te.cs,Te.css,hU,this,hB,hO,hP,hi]
 |@betar n N ls f a N2 ls2 s b m r n' e hd ho hd2 ih2=>
  intro ht hn A X R hR n0 e0;have mB:=fun f e=>zls (A.length+(X.length+1)) env f e R hR
  have hP:=fun t n e=>ze6 env t n e A X R hR
  have hf:=ht.all f (by simp)
  have ha:=ht.all a (by simp)
  have hl:=hd.ok hE hf;have hle:=hd.le;have hb:=hl.all b (by simp)
  have:=zq5 env hE hd hf hn A X R hR n 0;rw[<- zlo]at this;obtain⟨x,hx,h2⟩:=ih2 (zfb ho hb ha) (by omega) A X R hR n0 e0
  have hU:=zet env n 0 4 N ls [f,a] (fun h=>absurd h (by decide)) A X R hR
  simp only[Te.css,show decide ((4:Int)=3)=false from rfl,Bool.false_and]at hU
  have hO:=fun H=>zm5 b a hb ha H
  simp only[ho,zi4]at hO;have hB:=zff env ((m+1:Nat):Int) (by omega) A X R hR
  rw[if_neg (by omega),show (((m+1:Nat):Int) - 1)=m by omega]at hB
  refine⟨x,hx,?_⟩;simp only[Te.cs,Te.css]at this;rw[zac,zab];simp only[↓reduceIte,go_sem,Te.cs,Te.css,hU,this,hB,hO,hP,h2]
end Go.Ab
end
section
set_option linter.unusedVariables false
set_option linter.unusedSimpArgs false
set_option maxRecDepth 100000
set_option maxHeartbeats 2000000
namespace Go.Ab
open Go.RowKit Go.Proofs
theorem zz9(env:List De)(n e:Int)(A X:List AO):F zbt [.ptr A.length 0,.int .i64 e] (A++(.box [.sl (De.css env),.int .i64 n,.int .i64 0]::X)) =
  some (.ret (.bool false),A++(.box [.sl (De.css env),.int .i64 n,.int .i64 e]::X)):=by
 have hf0:=fun (o o':AO) r (ho:LtO (A.length+(X.length+1)) o')=>zfk (A:=A) (X:=X) (o:=o) (o':=o') (r:=r) ho
 rw[zos];simp only[↓reduceIte,go_sem,hf0,zof]
theorem zlp(env:List De)(n:Int)(hn:0<=n/\n<=1000000)(A X:List AO):F zaj [.ptr A.length 0] (A++(.box [.sl (De.css env),.int .i64 n,.int .i64 0]::X)) =
  if n=0 then some (.ret (.bool false),A++(.box [.sl (De.css env),.int .i64 0,.int .i64 40]::X)) else some (.ret (.bool true),A++(.box [.sl (De.css env),.int .i64 (n - 1),.int .i64 0]::X)):=by
 have hf0:=fun (o o':AO) r (ho:LtO (A.length+(X.length+1)) o')=>zfk (A:=A) (X:=X) (o:=o) (o':=o') (r:=r) ho
 rw[zot];by_cases h:n=0
 ·subst h
  simp only[↓reduceIte,go_sem,hf0,zof,zz9]
 ·simp only[↓reduceIte,go_sem,hf0,zof,h,zap (n:=n - 1) (by omega) (by omega)]
theorem zz7(env:List De)(t:Te)(n e:Int)(A X:List AO):F zb5 [.ptr A.length 0,.agg t.cs,.int .i64 e] (A++(.box [.sl (De.css env),.int .i64 n,.int .i64 0]::X)) =
  some (.ret (.agg t.cs),A++(.box [.sl (De.css env),.int .i64 n,.int .i64 e]::X)):=by
 have hf0:=fun (o o':AO) r (ho:LtO (A.length+(X.length+1)) o')=>zfk (A:=A) (X:=X) (o:=o) (o':=o') (r:=r) ho
 rw[zpt];by_cases h:e=0
 ·subst h
  simp only[↓reduceIte,go_sem,hf0,zof]
 ·simp only[↓reduceIte,go_sem,hf0,zof,h,zz9]
theorem ydx{A Y Z:List AO}{o1 o1' o2 o2' o3 o3':AO}{n:Nat}(h1:LtO n o1')(h2:LtO n o2')(h3:LtO n o3'):∀(id:Nat) (o:AO),(A++(o1' :: (Y++(o2' :: o3' :: Z))))[id]?=some o->(A++(o1::(Y++(o2::o3::Z))))[id]?=some o\/LtO n o:=by
 intro id o ho;by_cases hi:id<A.length
 ·rw[List.getElem?_append_left hi]at ho ⊢;exact .inl ho
 rw[List.getElem?_append_right (by omega)]at ho ⊢
 cases hj:id - A.length with
 |zero=>rw[hj]at ho;simp at ho;subst ho;exact .inr h1
 |succ j=>
  rw[hj]at ho;simp only[List.getElem?_cons_succ]at ho ⊢;by_cases hy:j<Y.length
  ·rw[List.getElem?_append_left hy]at ho ⊢;exact .inl ho
  rw[List.getElem?_append_right (by omega)]at ho ⊢
  match j - Y.length,ho with
  |0,ho=>simp at ho;subst ho;exact .inr h2
  |1,ho=>simp at ho;subst ho;exact .inr h3
  |i+2,ho=>simp at ho;exact .inl (by simpa using ho)
theorem zud{A Y Z:List AO}{env:List De}{n e n' e':Int}{ver ver':Nat}{es es':List Te}{k N k' N':Int}{ls ls':List Lv}{ks ks':List Te}{b:Bool}:
  zez (A++(.box [.sl (De.css env),.int .i64 n,.int .i64 e]::(Y++(.lst ver 4 (Te.css es) :: .box [.ptr A.length 0,.int .i64 k,.int .i64 N,.sl (Lv.css ls),.sl (Te.css ks),.ol (A.length+(Y.length+1)) ver]::Z)))) (.ret (.bool b))
   (A++(.box [.sl (De.css env),.int .i64 n',.int .i64 e']::(Y++(.lst ver' 4 (Te.css es') :: .box [.ptr A.length 0,.int .i64 k',.int .i64 N',.sl (Lv.css ls'),.sl (Te.css ks'),.ol (A.length+(Y.length+1)) ver']::Z)))) =
  some (.ret (.bool b),A++(.box [.sl (De.css env),.int .i64 n',.int .i64 e']::(Y++(.lst ver' 4 (Te.css es') :: .box [.ptr A.length 0,.int .i64 k',.int .i64 N',.sl (Lv.css ls'),.sl (Te.css ks'),.ol (A.length+(Y.length+1)) ver']::Z)))):=by
 refine zsf (by simp) (.bool _) (ydx (zof _ _ _ _) (fun a ha=>of_eq_true (z3z _ es') a ha) ?_)
 intro a ha;simp at ha;rcases ha with rfl|rfl|rfl|rfl|rfl|rfl
 ·exact .ptr (by simp)
 ·exact .int _ _
 ·exact .int _ _
 ·exact .sl fun a ha=>of_eq_true (z57 _ ls') a ha
 ·exact .sl fun a ha=>of_eq_true (z3z _ ks') a ha
 ·exact .ol (by simp)
theorem let_ok(env:List De)(n:Nat)(hn:n+1<=1000000)(A Y Z:List AO)(ver:Nat)(es:List Te)(N:Int)(ls:List Lv)(s v b k2:Te)(hb:b.ok)(hv:v.ok)(r:Te)(e:Int)(ho:zjp b v=(r,e)):
  F zcy [.ptr (A.length+(Y.length+2)) 0] (A++(.box [.sl (De.css env),.int .i64 (n+1:Nat),.int .i64 0]::(Y++(.lst ver 4 (Te.css es) :: .box [.ptr A.length 0,.int .i64 7,.int .i64 N,.sl (Lv.css ls),.sl (Te.css [s,v,b]),.ol (A.length+(Y.length+1)) ver]::Z)))) =
  some (.ret (.bool true),A++(.box [.sl (De.css env),.int .i64 n,.int .i64 e]::(Y++(.lst ver 4 (Te.css es) :: .box (.ptr A.length 0::(r.cs++[.ol (A.length+(Y.length+1)) ver]))::Z)))):=by
 have hO:=fun H=>z67 b v hb hv H
 simp only[ho,zi4]at hO;have hB:∀X,F zaj [.ptr A.length 0] (A++(.box [.sl (De.css env),.int .i64 (n+1:Nat),.int .i64 0]::X))=some (.ret (.bool true),A++(.box [.sl (De.css env),.int .i64 n,.int .i64 0]::X)):=by
  intro X;have hB:=zlp env ((n+1:Nat):Int) (by omega) A X
  rwa [if_neg (by omega),show (((n+1:Nat):Int) - 1)=n by omega]at hB
 cases r with
 |mk k' n' ls' ks'=>
 have hP:=fun e X=>zz7 env (.mk k' n' ls' ks') n e A X
 simp only[Te.cs]at hP hO;rw[zlm];simp only[↓reduceIte,go_sem,Te.cs,hB,hO,hP,zud]
theorem let0_ok(env:List De)(A Y Z:List AO)(ver:Nat)(es:List Te)(N:Int)(ls:List Lv)(ks:List Te):
  F zcy [.ptr (A.length+(Y.length+2)) 0] (A++(.box [.sl (De.css env),.int .i64 0,.int .i64 0]::(Y++(.lst ver 4 (Te.css es) :: .box [.ptr A.length 0,.int .i64 7,.int .i64 N,.sl (Lv.css ls),.sl (Te.css ks),.ol (A.length+(Y.length+1)) ver]::Z)))) =
  some (.ret (.bool true),A++(.box [.sl (De.css env),.int .i64 0,.int .i64 40]::(Y++(.lst ver 4 (Te.css es) :: .box [.ptr A.length 0,.int .i64 7,.int .i64 N,.sl (Lv.css ls),.sl (Te.css ks),.ol (A.length+(Y.length+1)) ver]::Z)))):=by
 have hB:∀X,F zaj [.ptr A.length 0] (A++(.box [.sl (De.css env),.int .i64 0,.int .i64 0]::X))=some (.ret (.bool false),A++(.box [.sl (De.css env),.int .i64 0,.int .i64 40]::X)):=by
  intro X;have hB:=zlp env 0 (by omega) A X
  rwa [if_pos rfl]at hB
 rw[zlm];simp only[↓reduceIte,go_sem,hB,zud]
theorem z9w{env:List De}{j:Nat}{ls:List Lv}(h:zt7 env (j:Int) ls=none):(env.length<=j)\/∃d,env[j]?=some d/\j<env.length/\(d.has=false\/d.has=true/\¬ (ls.length:Int)=d.p):=by
 unfold zt7 at h;simp only[Int.toNat_natCast]at h
 cases hg:env[j]? with
 |none=>exact .inl (List.getElem?_eq_none_iff.1 hg)
 |some d=>
  have hl:j<env.length:=by
   rcases Nat.lt_or_ge j env.length with h|h
   ·exact h
   ·rw[List.getElem?_eq_none h]at hg;cases hg
  rw[hg]at h;dsimp only at h;refine .inr ⟨d,rfl,hl,?_⟩
  split at h
  ·cases h
  ·rename_i hn
   cases hh:d.has
   ·exact .inl rfl
   ·exact .inr ⟨rfl,fun hp=>hn ⟨hh,hp⟩⟩
theorem ydb(env:List De)(n e:Int)(A Y Z:List AO)(ver:Nat)(es:List Te)(N:Int)(hN:0<=N)(ls:List Lv)(ks:List Te)(hu:zt7 env N ls=none):
  F za3 [.ptr (A.length+(Y.length+2)) 0] (A++(.box [.sl (De.css env),.int .i64 n,.int .i64 e]::(Y++(.lst ver 4 (Te.css es) :: .box [.ptr A.length 0,.int .i64 3,.int .i64 N,.sl (Lv.css ls),.sl (Te.css ks),.ol (A.length+(Y.length+1)) ver]::Z)))) =
  some (.ret (.bool false),A++(.box [.sl (De.css env),.int .i64 n,.int .i64 e]::(Y++(.lst ver 4 (Te.css es) :: .box [.ptr A.length 0,.int .i64 3,.int .i64 N,.sl (Lv.css ls),.sl (Te.css ks),.ol (A.length+(Y.length+1)) ver]::Z)))):=by
 obtain⟨j,rfl⟩:=Int.eq_ofNat_of_zero_le hN;rw[ze4];rcases z9w hu with h|⟨d,hg,hl,hh|⟨hh,hp⟩⟩
 ·simp only[↓reduceIte,go_sem,show (env.length:Int)<=(j:Int) by omega,zud]
 ·simp only[↓reduceIte,go_sem,show ¬ (env.length:Int)<=(j:Int) by omega,hg,hh,zud]
 ·simp only[↓reduceIte,go_sem,show ¬ (env.length:Int)<=(j:Int) by omega,hg,hh,hp,zud]
theorem yda(env:List De)(hE:zta env)(n:Nat)(hn:n+1<=1000000)(A Y Z:List AO)(ver:Nat)(es:List Te)(N:Int)(hN:0<=N)(ls:List Lv)(hls:zrv ls)(hll:ls.length<=140737488355328)(ks:List Te)(d:De)(hu:zt7 env N ls=some d)(r:Te)(e:Int)(hs:znl d.value ls []=(r,e)):
  F za3 [.ptr (A.length+(Y.length+2)) 0] (A++(.box [.sl (De.css env),.int .i64 (n+1:Nat),.int .i64 0]::(Y++(.lst ver 4 (Te.css es) :: .box [.ptr A.length 0,.int .i64 3,.int .i64 N,.sl (Lv.css ls),.sl (Te.css ks),.ol (A.length+(Y.length+1)) ver]::Z)))) =
  some (.ret (.bool true),A++(.box [.sl (De.css env),.int .i64 n,.int .i64 e]::(Y++(.lst ver 4 (Te.css es) :: .box (.ptr A.length 0::(r.cs++[.ol (A.length+(Y.length+1)) ver]))::Z)))):=by
 have hm:=zle hu;obtain⟨j,rfl⟩:=Int.eq_ofNat_of_zero_le hN;simp only[Int.toNat_natCast]at hm;have hS:=fun H=>TSub_ok d.value ls [] (hE.2 d (List.mem_of_getElem? hm.1)).2.2.2 hls zqz hll (by simp) H
 simp only[hs,zi4,Lv.css]at hS;have hl:(j:Int)<(env.length:Int):=by
  have:=(List.getElem?_eq_some_iff.1 hm.1).1;omega
 have hB:∀X,F zaj [.ptr A.length 0] (A++(.box [.sl (De.css env),.int .i64 (n+1:Nat),.int .i64 0]::X))=some (.ret (.bool true),A++(.box [.sl (De.css env),.int .i64 n,.int .i64 0]::X)):=by
  intro X;have hB:=zlp env ((n+1:Nat):Int) (by omega) A X
  rwa [if_neg (by omega),show (((n+1:Nat):Int) - 1)=n by omega]at hB
 cases r with
 |mk k' n' ls' ks'=>
 have hP:=fun e X=>zz7 env (.mk k' n' ls' ks') n e A X
 simp only[Te.cs]at hP hS;rw[ze4];simp only[↓reduceIte,go_sem,Te.cs,show ¬ (env.length:Int)<=(j:Int) by omega,hl,hm.1,hm.2.1,hm.2.2,hB,hS,hP,zud]
theorem ydc(env:List De)(A Y Z:List AO)(ver:Nat)(es:List Te)(N:Int)(hN:0<=N)(ls:List Lv)(ks:List Te)(d:De)(hu:zt7 env N ls=some d):
  F za3 [.ptr (A.length+(Y.length+2)) 0] (A++(.box [.sl (De.css env),.int .i64 0,.int .i64 0]::(Y++(.lst ver 4 (Te.css es) :: .box [.ptr A.length 0,.int .i64 3,.int .i64 N,.sl (Lv.css ls),.sl (Te.css ks),.ol (A.length+(Y.length+1)) ver]::Z)))) =
  some (.ret (.bool true),A++(.box [.sl (De.css env),.int .i64 0,.int .i64 40]::(Y++(.lst ver 4 (Te.css es) :: .box [.ptr A.length 0,.int .i64 3,.int .i64 N,.sl (Lv.css ls),.sl (Te.css ks),.ol (A.length+(Y.length+1)) ver]::Z)))):=by
 have hm:=zle hu;obtain⟨j,rfl⟩:=Int.eq_ofNat_of_zero_le hN;simp only[Int.toNat_natCast]at hm;have hl:(j:Int)<(env.length:Int):=by
  have:=(List.getElem?_eq_some_iff.1 hm.1).1;omega
 have hB:∀X,F zaj [.ptr A.length 0] (A++(.box [.sl (De.css env),.int .i64 0,.int .i64 0]::X))=some (.ret (.bool false),A++(.box [.sl (De.css env),.int .i64 0,.int .i64 40]::X)):=by
  intro X;have hB:=zlp env 0 (by omega) A X
  rwa [if_pos rfl]at hB
 rw[ze4];simp only[↓reduceIte,go_sem,show ¬ (env.length:Int)<=(j:Int) by omega,hl,hm.1,hm.2.1,hm.2.2,hB,zud]
theorem lamN_ok(env:List De)(n e:Int)(A Y Z:List AO)(ver:Nat)(k N:Int)(ls:List Lv)(ks:List Te):
  F zbc [.ptr (A.length+(Y.length+2)) 0] (A++(.box [.sl (De.css env),.int .i64 n,.int .i64 e]::(Y++(.lst ver 4 (Te.css []) :: .box [.ptr A.length 0,.int .i64 k,.int .i64 N,.sl (Lv.css ls),.sl (Te.css ks),.ol (A.length+(Y.length+1)) ver]::Z)))) =
  some (.ret (.bool false),A++(.box [.sl (De.css env),.int .i64 n,.int .i64 e]::(Y++(.lst ver 4 (Te.css []) :: .box [.ptr A.length 0,.int .i64 k,.int .i64 N,.sl (Lv.css ls),.sl (Te.css ks),.ol (A.length+(Y.length+1)) ver]::Z)))):=by
 rw[zfz];simp only[↓reduceIte,go_sem,List.length_nil,Int.natCast_zero,show IntKind.i64.wrap (-1) = -1 from by decide,show ((-1:Int)<0) from by decide,zud]
theorem lam_ok(env:List De)(n:Nat)(hn:n+1<=1000000)(A Y Z:List AO)(ver:Nat)(es:List Te)(hes:es.length<=1073741824)(a:Te)(ha:a.ok)(k N:Int)(ls:List Lv)(s b:Te)(hb:b.ok)(r:Te)(e:Int)(ho:zjp b a=(r,e)):
  F zbc [.ptr (A.length+(Y.length+2)) 0] (A++(.box [.sl (De.css env),.int .i64 (n+1:Nat),.int .i64 0]::(Y++(.lst ver 4 (Te.css (es++[a])) :: .box [.ptr A.length 0,.int .i64 k,.int .i64 N,.sl (Lv.css ls),.sl (Te.css [s,b]),.ol (A.length+(Y.length+1)) ver]::Z)))) =
  some (.ret (.bool true),A++(.box [.sl (De.css env),.int .i64 n,.int .i64 e]::(Y++(.lst (ver+1) 4 (Te.css es) :: .box (.ptr A.length 0::(r.cs++[.ol (A.length+(Y.length+1)) (ver+1)]))::Z)))):=by
 have hO:=fun H=>z67 b a hb ha H
 simp only[ho,zi4]at hO;have hB:∀X,F zaj [.ptr A.length 0] (A++(.box [.sl (De.css env),.int .i64 (n+1:Nat),.int .i64 0]::X))=some (.ret (.bool true),A++(.box [.sl (De.css env),.int .i64 n,.int .i64 0]::X)):=by
  intro X;have hB:=zlp env ((n+1:Nat):Int) (by omega) A X
  rwa [if_neg (by omega),show (((n+1:Nat):Int) - 1)=n by omega]at hB
 simp only[Int.natCast_add,Int.natCast_one]at hB;have htk:(Te.css (es++[a])).take es.length=Te.css es:=by simp[Te.css_eq]
 cases r with
 |mk k' n' ls' ks'=>
 have hP:=fun e X=>zz7 env (.mk k' n' ls' ks') n e A X
 simp only[Te.cs]at hP hO;rw[zfz];simp only[↓reduceIte,go_sem,Te.cs,zd7,Int.natCast_add,Int.natCast_one,zap (n:=(es.length:Int)) (by omega) (by omega),show ¬ (es.length:Int)<0 by omega,show es.length<es.length+1 by omega,show (es.length:Int)<=(es.length:Int)+1 by omega,Int.add_sub_cancel,hB,hO,hP,htk,zud]
theorem lam0_ok(env:List De)(A Y Z:List AO)(ver:Nat)(es:List Te)(hes:es.length<=1073741824)(a:Te)(k N:Int)(ls:List Lv)(ks:List Te):
  F zbc [.ptr (A.length+(Y.length+2)) 0] (A++(.box [.sl (De.css env),.int .i64 0,.int .i64 0]::(Y++(.lst ver 4 (Te.css (es++[a])) :: .box [.ptr A.length 0,.int .i64 k,.int .i64 N,.sl (Lv.css ls),.sl (Te.css ks),.ol (A.length+(Y.length+1)) ver]::Z)))) =
  some (.ret (.bool true),A++(.box [.sl (De.css env),.int .i64 0,.int .i64 40]::(Y++(.lst (ver+1) 4 (Te.css es) :: .box [.ptr A.length 0,.int .i64 k,.int .i64 N,.sl (Lv.css ls),.sl (Te.css ks),.ol (A.length+(Y.length+1)) (ver+1)]::Z)))):=by
 have hB:∀X,F zaj [.ptr A.length 0] (A++(.box [.sl (De.css env),.int .i64 0,.int .i64 0]::X))=some (.ret (.bool false),A++(.box [.sl (De.css env),.int .i64 0,.int .i64 40]::X)):=by
  intro X;have hB:=zlp env 0 (by omega) A X
  rwa [if_pos rfl]at hB
 have htk:(Te.css (es++[a])).take es.length=Te.css es:=by simp[Te.css_eq]
 rw[zfz];simp only[↓reduceIte,go_sem,Te.cs,zd7,Int.natCast_add,Int.natCast_one,zap (n:=(es.length:Int)) (by omega) (by omega),show ¬ (es.length:Int)<0 by omega,show es.length<es.length+1 by omega,show (es.length:Int)<=(es.length:Int)+1 by omega,Int.add_sub_cancel,hB,htk,zud]
theorem yfg(es:List Te)(z:List AV)(x:Te):(Te.css es++[z]).set es.length x.cs=Te.css (es++[x]):=by
 rw[List.set_append_right _ _ (by rw[zqk];exact Nat.le_refl _),zqk,Nat.sub_self]
 simp[Te.css_eq]
theorem z2g(es:List Te)(z:List AV):(Te.css es++[z]).length=es.length+1:=by rw[List.length_append,zqk];rfl
theorem z2h(es:List Te)(z:List AV):(Te.css es++[z])[es.length]?=some z:=by rw[List.getElem?_append_right (by rw[zqk];exact Nat.le_refl _),zqk,Nat.sub_self];rfl
theorem yfc(env:List De)(n e:Int)(A Y Z:List AO)(ver:Nat)(es:List Te)(hes:es.length<1073741824)(k N:Int)(ls:List Lv)(f a:Te):
  F zdn [.ptr (A.length+(Y.length+2)) 0] (A++(.box [.sl (De.css env),.int .i64 n,.int .i64 e]::(Y++(.lst ver 4 (Te.css es) :: .box [.ptr A.length 0,.int .i64 k,.int .i64 N,.sl (Lv.css ls),.sl (Te.css [f,a]),.ol (A.length+(Y.length+1)) ver]::Z)))) =
  some (.ret (.bool true),A++(.box [.sl (De.css env),.int .i64 n,.int .i64 e]::(Y++(.lst (ver+1) 4 (Te.css (es++[a])) :: .box (.ptr A.length 0::(f.cs++[.ol (A.length+(Y.length+1)) (ver+1)]))::Z)))):=by
 cases f with
 |mk k' n' ls' ks'=>
 rw[zrc];simp only[↓reduceIte,go_sem,Te.cs,z2g,z2h,yfg,show es.length<es.length+1 by omega,show es.length+(0+1)<=1073741824 by omega,zud]
def zpw:List (AV×AV):=[(.int .i64 7,.fn (.func zcy) [] []),(.int .i64 3,.fn (.func za3) [] []),(.int .i64 5,.fn (.func zbc) [] []),(.int .i64 4,.fn (.func zdn) [] [])]
theorem ye9(H:List AO):F zi5 [] H=some (.ret (.fmap zpw),H):=by
 rw[zv9];simp only[↓reduceIte,go_sem,zlu,zgg,zpw]
theorem zfg:zlu .i64 zpw=true:=rfl
theorem z7d(k:Int)(h:k≠7/\k≠3/\k≠5/\k≠4):zgg k zpw=some none:=by
 simp only[zgg,zpw,if_neg h.1,if_neg h.2.1,if_neg h.2.2.1,if_neg h.2.2.2]
theorem z92:zgg 7 zpw=some (some (.fn (.func zcy) [] [])):=rfl
theorem z3k:zgg 3 zpw=some (some (.fn (.func za3) [] [])):=rfl
theorem z3j:zgg 5 zpw=some (some (.fn (.func zbc) [] [])):=rfl
theorem steps_4:zgg 4 zpw=some (some (.fn (.func zdn) [] [])):=rfl
abbrev encP(p:Int×Te):List AV:=[.int .i64 p.1,.agg p.2.cs]
def bkr:List Te->List (Int×Te)
 |[]=>[]
 |x::r=>(r.length,x)::bkr r
def z8t(id ver:Nat):AV:=.fn (.func zbl) [] [.fp [.ol id ver]]
theorem back_ok(id ver:Nat)(H:List AO)(hi:id<H.length):F zdu [.ol id ver] H=some (.ret (z8t id ver),H):=by
 rw[znz];have h:Lt H.length (.fn (.func zbl) [] [.fp [.ol id ver]])=True:=by
  simp only[eq_iff_iff,iff_true];refine .fn (by simp) ?_
  intro x hx;simp at hx;subst hx;exact .fp (by intro a ha;simp at ha;subst ha;exact .ol hi)
 simp only[↓reduceIte,go_sem,z8t,h]
theorem yhp{S E:Type}{y:AV}{m:Nat}{W:S->List AO}{WE:E->List AO}{stp:S->Int×Te->Option (S ⊕ E)}(hy:Ys y m encP W WE stp)(id ver:Nat)(es:List Te)(hes:es.length<=1073741824)(hW:∀s,(W s)[id]?=some (.lst ver 4 (Te.css es)))
  (s:S) (X:List AO) (r:S ⊕ E) (hr:zlc stp (bkr es.reverse) s=some r):F zbl [y,.fp [.ol id ver]] (W s++X)=some (.ret (.tup []),hp W WE r++X):=by
 have hone:=hy.one;have hcell:y.cells=[y]:=by cases y <;> first|rfl|(simp[AV.one]at hone)
 unfold AV.cells at hcell;unfold AV.one at hone;have l1:∀s,(W s).length=m:=fun s=>hy.len (.inl s)
 have hid:id<m:=by
  have:=hW s;have:=(List.getElem?_eq_some_iff.1 this).1;rw[l1 s]at this;exact this
 have hWX:∀s,(W s++X)[id]?=some (.lst ver 4 (Te.css es)):=fun s=>by rw[List.getElem?_append_left (by rw[l1];exact hid),hW s]
 have hfin:∀r:S ⊕ E,zez (W s++X) (.ret (.tup [])) (hp W WE r++X)=some (.ret (.tup []),hp W WE r++X):=fun r=>by
  have hf:=zyt (H:=W s) (A:=hp W WE r) (X:=X) (J:=[]) (r:=.ret (.tup [])) (by rw[hy.len r];exact (l1 s).symm) (by rw[l1 s];exact hy.fr s r) (show Lt _ _ from .tup (by simp))
  rwa [List.append_nil]at hf
 have loop:∀(rev post:List Te) (a:S),es=rev.reverse++post->zlc stp (bkr rev) a=some r ->
   zc2 (W s++X) (W a++X) y (.fp [.ol id ver]) (.int .i64 ((rev.length:Int) - 1))=some (.ret (.tup []),hp W WE r++X):=by
  intro rev
  induction rev with
  |nil=>
   intro post a e hq;simp only[bkr,zlc]at hq;cases hq;have:=hfin (.inl a);simp only[zfa]at this;rw[zc2,zab];simp only[↓reduceIte,go_sem,List.length_nil,Int.natCast_zero,show ¬ (0:Int) <= -1 by decide,this]
  |cons x rev ih=>
   intro post a e hq;have hl:rev.length<es.length:=by rw[e];simp
   have hg:es[rev.length]?=some x:=by
    rw[e];simp
   rw[bkr,zlc]at hq;obtain⟨q,hst⟩:∃q,stp a (rev.length,x)=some q:=by
    cases h:stp a (rev.length,x) with
    |none=>rw[h]at hq;cases hq
    |some q=>exact⟨q,rfl⟩
   rw[hst]at hq;have hc:=hy.call a (rev.length,x) X q hst;simp only[encP]at hc;rw[zc2,zab]
   cases q with
   |inl a'=>
    have:=ih (x::post) a' (by rw[e];simp) hq
    simp only[zfa]at hc;simp only[↓reduceIte,go_sem,List.length_cons,Int.natCast_add,Int.natCast_one,Int.add_sub_cancel,show (0:Int)<=(rev.length:Int) by omega,hWX,hg,hl,hc,isL,hone,hcell,zap (n:=(rev.length:Int) - 1) (by omega) (by omega),this]
   |inr e=>
    dsimp only at hq;cases hq;simp only[zpx]at hc;have:=hfin (.inr e);simp only[zpx]at this;simp only[↓reduceIte,go_sem,List.length_cons,Int.natCast_add,Int.natCast_one,Int.add_sub_cancel,show (0:Int)<=(rev.length:Int) by omega,hWX,hg,hl,hc,isL,hone,hcell,this]
 have:=loop es.reverse [] s (by simp) hr
 simp only[List.length_reverse]at this;rw[zmu];simp only[↓reduceIte,go_sem,hWX,zap (n:=(es.length:Int) - 1) (by omega) (by omega),this]
def z39(p:AV)(n ver:Nat)(es:List Te)(s:Te):List AO:=[.lst 0 3 [],.lst 0 4 [],.lst ver 4 (Te.css es),.box (p::(s.cs++[.ol (n+2) ver])),.box [.ptr (n+3) 0]]
def ygm(s:Te)(x:Int×Te):Option (Te ⊕ Empty):=some (.inl (.mk 4 0 [] [s,x.2]))
theorem ygn(p:AV)(n ver:Nat)(es:List Te)(N:Nat)(hp:Lt N p)(hn:n+3<N)(s:Te):∀o∈z39 p n ver es s,LtO N o:=by
 intro o ho;simp only[z39,List.mem_cons,List.not_mem_nil,or_false]at ho;rcases ho with rfl|rfl|rfl|rfl|rfl
 ·intro a ha;simp at ha
 ·intro a ha;simp at ha
 ·exact fun a ha=>of_eq_true (z3z _ es) a ha
 ·intro a ha
  rcases List.mem_cons.1 ha with rfl|ha
  ·exact hp
  ·rcases List.mem_append.1 ha with ha|ha
   ·exact zub _ s a ha
   ·simp at ha;subst ha;exact .ol (by omega)
 ·intro a ha
  simp at ha;subst ha;exact .ptr (by omega)
theorem head_ys(H:List AO)(p:AV)(hp:Lt H.length p)(ver:Nat)(es:List Te):Ys (.yd (H.length+5+1)) (H.length+5+2) encP (fun s=>H++(z39 p H.length ver es s++[.dfr,.slp .ready 60 [(5,.ptr (H.length+4) 0)] [44,45] za1 zaz])) (fun e:Empty=>H++(noE e++[.dfr,.slp (.done (noE e)) 60 [(5,.ptr (H.length+4) 0)] [44,45] za1 zaz])) ygm:=by
 refine z3c H 5 encP (z39 p H.length ver es) noE noE ygm 60 [(5,.ptr (H.length+4) 0)] [44,45] za1 zaz zlr zlq (fun _=>rfl) ?_ ?_ ?_ ?_
 ·rintro (s|e)
  ·rfl
  ·exact e.elim
 ·rintro s (s' | e) i o ho
  ·exact .inr (ygn p H.length ver es _ (hp.mono (by omega)) (by omega) s' o (List.mem_of_getElem? ho))
  ·exact e.elim
 ·intro q hq;simp at hq;subst hq;exact .ptr (by omega)
 ·rintro ⟨k,n,ls,ks⟩ ⟨i,a⟩ X r hst
  refine⟨[],?_⟩;unfold ygm at hst;cases hst;rcases a with⟨k2,n2,ls2,ks2⟩;simp only[↓reduceIte,go_sem,z39,encP,Te.cs,Te.css,Lv.css,z31,isL]
def reb:Te->List (Int×Te)->Te
 |t,[]=>t
 |t,x::r=>reb (.mk 4 0 [] [t,x.2]) r
theorem z1f:∀(xs:List (Int×Te)) (t:Te),zlc ygm xs t=some (.inl (reb t xs))
 |[],t=>rfl
 |x::r,t=>by rw[zlc,reb];exact z1f r _
def znc(t:Te)(es:List Te):Te:=reb t (bkr es.reverse)
theorem z3p(t:Te):znc t []=t:=rfl
theorem z0y(t a:Te)(es:List Te):znc t (es++[a])=znc (.mk 4 0 [] [t,a]) es:=by
 rw[znc,List.reverse_append,List.reverse_cons,List.reverse_nil,List.nil_append,List.cons_append,List.nil_append,bkr,reb];rfl
end Go.Ab
end
section
set_option linter.unusedVariables false
set_option linter.unusedSimpArgs false
set_option maxRecDepth 100000
set_option maxHeartbeats 2000000
namespace Go.Ab
open Go.RowKit Go.Proofs
def hdH(A X:List AO)(env:List De)(n e:Int)(ver:Nat)(es:List Te)(t:Te):List AO :=
 A++(.box [.sl (De.css env),.int .i64 n,.int .i64 e]::(X++[.lst 0 3 [],.lst 0 4 [],.lst ver 4 (Te.css es),.box (.ptr A.length 0::(t.cs++[.ol (A.length+(X.length+3)) ver])),.box [.ptr (A.length+(X.length+4)) 0]]))
noncomputable def Lh(A X:List AO)(env:List De)(n0 e0 n e:Int)(ver:Nat)(es:List Te)(t:Te):Option RH :=
 zan (A++(.box [.sl (De.css env),.int .i64 n0,.int .i64 e0]::X)) (hdH A X env n e ver es t) [] (.ptr A.length 0) (.ptr (A.length+(X.length+5)) 0) (.fmap zpw) [.int .i64 0,.int .i64 0,.sl [],.sl []]
theorem z5b(env:List De)(t:Te)(n e:Int)(A X:List AO):F zaw [.ptr A.length 0,.agg t.cs] (A++(.box [.sl (De.css env),.int .i64 n,.int .i64 e]::X))=Lh A X env n e n e 0 [] t:=by
 rw[zor,Lh,hdH];rcases t with⟨k,N,ls,ks⟩;simp only[↓reduceIte,go_sem,ye9,Te.cs,Te.css]
theorem yec(A X:List AO)(env:List De)(n0 e0 n e:Int)(ver:Nat)(es:List Te)(hes:es.length<=1073741824)(k N:Int)(ls:List Lv)(ks:List Te)
  (hst:e≠0\/e=0/\(k≠7/\k≠3/\k≠5/\k≠4\/k=3/\0<=N/\zt7 env N ls=none\/k=5/\es=[])) :
  Lh A X env n0 e0 n e ver es (.mk k N ls ks)=some (.ret (.agg (znc (.mk k N ls ks) es).cs),A++(.box [.sl (De.css env),.int .i64 n,.int .i64 e]::X)):=by
 have hl:(A++(.box [.sl (De.css env),.int .i64 n,.int .i64 e]::X)).length=A.length+(X.length+1):=by simp
 have hr:=yhp (head_ys (A++(.box [.sl (De.css env),.int .i64 n,.int .i64 e]::X)) (.ptr A.length 0) (.ptr (by simp)) ver es) (A.length+(X.length+3)) ver es hes (fun s=>by
  rw[show A.length+(X.length+3)=(A++(AO.box [.sl (De.css env),.int .i64 n,.int .i64 e]::X)).length+2 by rw[hl];omega,ztz];rfl) (.mk k N ls ks) [] _ (z1f _ _)
 have he:=zss (H:=A++(.box [.sl (De.css env),.int .i64 n,.int .i64 e]::X)) (DR:=z39 (.ptr A.length 0) (A++(.box [.sl (De.css env),.int .i64 n,.int .i64 e]::X)).length ver es (znc (.mk k N ls ks) es)) (k:=5) rfl (st:=.ready) (nn:=60) (t:=[(5,.ptr (A.length+(X.length+5)) 0)]) (ps:=[44,45]) (asg:=za1) (body:=zaz);rw[show reb (.mk k N ls ks) (bkr es.reverse)=znc (.mk k N ls ks) es from rfl]at hr
 simp only[hl]at hr he;have hf:=fun (o o':AO) r J (ho:LtO (A.length+(X.length+1)) o')=>zpd (A:=A) (X:=X) (J:=J) (o:=o) (o':=o') (r:=r) ho
 have hb:=fun c1 c2 c3 c4=>back_ok (A.length+(X.length+3)) ver (A++(.box [.sl (De.css env),.int .i64 n,.int .i64 e]::(X++[.lst 0 3 [],.lst 0 4 [],.lst ver 4 (Te.css es),.box [.ptr A.length 0,c1,c2,c3,c4,.ol (A.length+(X.length+3)) ver],.box [.ptr (A.length+(X.length+4)) 0]]))) (by simp)
 rcases hq:znc (.mk k N ls ks) es with⟨k2,N2,ls2,ks2⟩;simp only[hq,zfa,z39,Te.cs,zgh,List.cons_append,List.nil_append,List.append_nil,List.append_assoc,Nat.add_assoc,Nat.reduceAdd]at hr he;rw[Lh,zan,zab,hdH];have hc:=fun (h:0<=N) (hu:zt7 env N ls=none)=>ydb env n 0 A (X++[.lst 0 3 [],.lst 0 4 []]) [.box [.ptr (A.length+(X.length+4)) 0]] ver es N h ls ks hu
 have hm:=lamN_ok env n 0 A (X++[.lst 0 3 [],.lst 0 4 []]) [.box [.ptr (A.length+(X.length+4)) 0]] ver 5 N ls ks;simp only[List.append_assoc,List.cons_append,List.nil_append,List.length_append,List.length_cons,List.length_nil,Nat.add_assoc,Nat.reduceAdd]at hc hm;rcases hst with h|⟨rfl,h|⟨rfl,h2,h3⟩|⟨rfl,rfl⟩⟩
 ·simp only[↓reduceIte,go_sem,Te.cs,h,hb,z8t,hr,he,hf,zof,Nat.add_le_add_iff_left,Nat.reduceLeDiff,List.nodup_cons,List.not_mem_nil,not_false_eq_true,List.nodup_nil,and_self]
 ·simp only[↓reduceIte,go_sem,Te.cs,zfg,z7d k h,hb,z8t,hr,he,hf,zof,Nat.add_le_add_iff_left,Nat.reduceLeDiff,List.nodup_cons,List.not_mem_nil,not_false_eq_true,List.nodup_nil,and_self]
 ·have hc:=hc h2 h3
  simp only[↓reduceIte,go_sem,Te.cs,zfg,z3k,hc,hb,z8t,hr,he,hf,zof,Nat.add_le_add_iff_left,Nat.reduceLeDiff,List.nodup_cons,List.not_mem_nil,not_false_eq_true,List.nodup_nil,and_self]
 ·simp only[↓reduceIte,go_sem,Te.cs,zfg,z3j,hm,hb,z8t,hr,he,hf,zof,Nat.add_le_add_iff_left,Nat.reduceLeDiff,List.nodup_cons,List.not_mem_nil,not_false_eq_true,List.nodup_nil,and_self]
variable (A X : List AO) (env : List De) (n0 e0 : Int)
theorem yea(n:Nat)(hn:n+1<=1000000)(ver:Nat)(es:List Te)(N:Int)(ls:List Lv)(s v b:Te)(hb:b.ok)(hv:v.ok)(r:Te)(e:Int)(ho:zjp b v=(r,e)):
  Lh A X env n0 e0 (n+1:Nat) 0 ver es (.mk 7 N ls [s,v,b])=Lh A X env n0 e0 n e ver es r:=by
 have h:=let_ok env n hn A (X++[.lst 0 3 [],.lst 0 4 []]) [.box [.ptr (A.length+(X.length+4)) 0]] ver es N ls s v b s hb hv r e ho;simp only[List.append_assoc,List.cons_append,List.nil_append,List.length_append,List.length_cons,List.length_nil,Nat.add_assoc,Nat.reduceAdd]at h;rcases r with⟨k',n',ls',ks'⟩;simp only[Te.cs,List.cons_append,List.nil_append]at h
 conv=>lhs;rw[Lh,zan,zab,hdH]
 simp only[↓reduceIte,go_sem,Te.cs,zfg,z92,h,Lh,hdH]
theorem Lh_let0(ver:Nat)(es:List Te)(N:Int)(ls:List Lv)(ks:List Te):
  Lh A X env n0 e0 0 0 ver es (.mk 7 N ls ks)=Lh A X env n0 e0 0 40 ver es (.mk 7 N ls ks):=by
 have h:=let0_ok env A (X++[.lst 0 3 [],.lst 0 4 []]) [.box [.ptr (A.length+(X.length+4)) 0]] ver es N ls ks;simp only[List.append_assoc,List.cons_append,List.nil_append,List.length_append,List.length_cons,List.length_nil,Nat.add_assoc,Nat.reduceAdd]at h
 conv=>lhs;rw[Lh,zan,zab,hdH]
 simp only[↓reduceIte,go_sem,Te.cs,zfg,z92,h,Lh,hdH]
theorem zz8(hE:zta env)(n:Nat)(hn:n+1<=1000000)(ver:Nat)(es:List Te)(N:Int)(hN:0<=N)(ls:List Lv)(hls:zrv ls)(hll:ls.length<=140737488355328)(ks:List Te)(d:De)(hu:zt7 env N ls=some d)(r:Te)(e:Int)(hs:znl d.value ls []=(r,e)):
  Lh A X env n0 e0 (n+1:Nat) 0 ver es (.mk 3 N ls ks)=Lh A X env n0 e0 n e ver es r:=by
 have h:=yda env hE n hn A (X++[.lst 0 3 [],.lst 0 4 []]) [.box [.ptr (A.length+(X.length+4)) 0]] ver es N hN ls hls hll ks d hu r e hs;simp only[List.append_assoc,List.cons_append,List.nil_append,List.length_append,List.length_cons,List.length_nil,Nat.add_assoc,Nat.reduceAdd]at h;rcases r with⟨k',n',ls',ks'⟩;simp only[Te.cs,List.cons_append,List.nil_append]at h
 conv=>lhs;rw[Lh,zan,zab,hdH]
 simp only[↓reduceIte,go_sem,Te.cs,zfg,z3k,h,Lh,hdH]
theorem yed(ver:Nat)(es:List Te)(N:Int)(hN:0<=N)(ls:List Lv)(ks:List Te)(d:De)(hu:zt7 env N ls=some d):
  Lh A X env n0 e0 0 0 ver es (.mk 3 N ls ks)=Lh A X env n0 e0 0 40 ver es (.mk 3 N ls ks):=by
 have h:=ydc env A (X++[.lst 0 3 [],.lst 0 4 []]) [.box [.ptr (A.length+(X.length+4)) 0]] ver es N hN ls ks d hu;simp only[List.append_assoc,List.cons_append,List.nil_append,List.length_append,List.length_cons,List.length_nil,Nat.add_assoc,Nat.reduceAdd]at h
 conv=>lhs;rw[Lh,zan,zab,hdH]
 simp only[↓reduceIte,go_sem,Te.cs,zfg,z3k,h,Lh,hdH]
theorem yeb(n:Nat)(hn:n+1<=1000000)(ver:Nat)(es:List Te)(hes:es.length<=1073741824)(a:Te)(ha:a.ok)(N:Int)(ls:List Lv)(s b:Te)(hb:b.ok)(r:Te)(e:Int)(ho:zjp b a=(r,e)):
  Lh A X env n0 e0 (n+1:Nat) 0 ver (es++[a]) (.mk 5 N ls [s,b])=Lh A X env n0 e0 n e (ver+1) es r:=by
 have h:=lam_ok env n hn A (X++[.lst 0 3 [],.lst 0 4 []]) [.box [.ptr (A.length+(X.length+4)) 0]] ver es hes a ha 5 N ls s b hb r e ho;simp only[List.append_assoc,List.cons_append,List.nil_append,List.length_append,List.length_cons,List.length_nil,Nat.add_assoc,Nat.reduceAdd]at h;rcases r with⟨k',n',ls',ks'⟩;simp only[Te.cs,List.cons_append,List.nil_append]at h
 conv=>lhs;rw[Lh,zan,zab,hdH]
 simp only[↓reduceIte,go_sem,Te.cs,zfg,z3j,h,Lh,hdH]
theorem Lh_lam0(ver:Nat)(es:List Te)(hes:es.length<=1073741824)(a:Te)(N:Int)(ls:List Lv)(ks:List Te):
  Lh A X env n0 e0 0 0 ver (es++[a]) (.mk 5 N ls ks)=Lh A X env n0 e0 0 40 (ver+1) es (.mk 5 N ls ks):=by
 have h:=lam0_ok env A (X++[.lst 0 3 [],.lst 0 4 []]) [.box [.ptr (A.length+(X.length+4)) 0]] ver es hes a 5 N ls ks;simp only[List.append_assoc,List.cons_append,List.nil_append,List.length_append,List.length_cons,List.length_nil,Nat.add_assoc,Nat.reduceAdd]at h
 conv=>lhs;rw[Lh,zan,zab,hdH]
 simp only[↓reduceIte,go_sem,Te.cs,zfg,z3j,h,Lh,hdH]
theorem zs6(n:Int)(ver:Nat)(es:List Te)(hes:es.length<1073741824)(N:Int)(ls:List Lv)(f a:Te):
  Lh A X env n0 e0 n 0 ver es (.mk 4 N ls [f,a])=Lh A X env n0 e0 n 0 (ver+1) (es++[a]) f:=by
 have h:=yfc env n 0 A (X++[.lst 0 3 [],.lst 0 4 []]) [.box [.ptr (A.length+(X.length+4)) 0]] ver es hes 4 N ls f a;simp only[List.append_assoc,List.cons_append,List.nil_append,List.length_append,List.length_cons,List.length_nil,Nat.add_assoc,Nat.reduceAdd]at h;rcases f with⟨k',n',ls',ks'⟩;simp only[Te.cs,List.cons_append,List.nil_append]at h
 conv=>lhs;rw[Lh,zan,zab,hdH]
 simp only[↓reduceIte,go_sem,Te.cs,zfg,steps_4,h,Lh,hdH]
end Go.Ab
end
section
set_option linter.unusedVariables false
set_option linter.unusedSimpArgs false
set_option maxRecDepth 100000
set_option maxHeartbeats 2000000
namespace Go.Ab
open Go.RowKit Go.Proofs
def sz(t:Te):Nat:=(subs t).length
theorem zm9{t:Te}(h:za6 t=true):sz t<=600:=by
 have:parts t 601<=600:=by unfold za6 zc0 at h;simp at h;exact h.1
 have:=subs_parts t 601 (by omega)
 unfold sz;omega
theorem zt3{b v r:Te}(h:zjp b v=(r,0)):za6 b=true/\za6 v=true/\r=openT v b 0/\za6 r=true:=by
 unfold zjp at h
 split at h
 ·simp at h
 ·rename_i hh
  simp only[not_or,Bool.not_eq_false]at hh;unfold zs7 at h
  split at h
  ·rename_i hs
   simp only[Prod.mk.injEq,and_true]at h;subst h;exact⟨hh.1,hh.2,rfl,hs⟩
  ·simp at h
mutual
theorem subs_subT(ps ms:List Lv):∀t:Te,(subs (subT ps ms t)).length=(subs t).length
 |.mk k n ls ks=>by rw[subT,subs,subs,List.length_cons,List.length_cons,subss_subT ps ms ks]
theorem subss_subT(ps ms:List Lv):∀ks:List Te,(subss (subTs ps ms ks)).length=(subss ks).length
 |[]=>rfl
 |x::r=>by rw[subTs,subss,subss,List.length_append,List.length_append,subs_subT ps ms x,subss_subT ps ms r]
end
theorem zz6{t r:Te}{ps ms:List Lv}(h:znl t ps ms=(r,0)):za6 t=true/\r=subT ps ms t/\okTm ps ms t=true:=by
 unfold znl at h
 split at h
 ·simp at h
 ·rename_i hh
  simp only[not_or,Bool.not_eq_false]at hh
  split at h
  ·rename_i hs
   simp only[Prod.mk.injEq,and_true]at h;exact⟨hh.1,h.symm,hs⟩
  ·simp at h
theorem zpl{b v r:Te}(h:zjp b v=(r,0)):sz r<=600:=zm9 (zt3 h).2.2.2
theorem zz5{t r:Te}{ps ms:List Lv}(h:znl t ps ms=(r,0)):sz r<=600:=by
 obtain⟨h1,rfl,_⟩:=zz6 h;have:=zm9 h1;unfold sz at *;rw[subs_subT];exact this
theorem zpv(N:Int)(ls:List Lv)(f a:Te):sz (.mk 4 N ls [f,a])=sz f+sz a+1:=by
 simp[sz,subs,subss]
theorem Hd.sz{env:List De}{n:Nat}{t t':Te}{n':Nat}(h:Hd env n t t' n'):sz t' + 600*n' <= sz t+600*n:=by
 induction h with
 |stuck=>exact Nat.le_refl _
 |lett ho _ ih=>have:=zpl ho;omega
 |const _ _ hs _ ih=>have:=zz5 hs;omega
 |app _ _ ih=>rw[zpv,zpv];omega
 |beta h1 ho _ ih1 ih2=>have:=zpl ho;have:=h1.le;rw[zpv];omega
variable (A X : List AO) (env : List De) (n0 e0 : Int)
theorem z6g(hE:zta env){n:Nat}{t t':Te}{n':Nat}(h:Hd env n t t' n'):t.ok->n<=1000000->∀(ver:Nat) (es:List Te),es.length+sz t+600*n<=1073741823->∃ver',ver<=ver' /\ Lh A X env n0 e0 n 0 ver es t=Lh A X env n0 e0 n' 0 ver' es t':=by
 induction h with
 |stuck=>exact fun _ _ ver es _=>⟨ver,Nat.le_refl _,rfl⟩
 |@lett n N ls s v b r t' n' ho hd ih=>
  intro ht hn ver es hs;have hb:=ht.all b (by simp)
  have hv:=ht.all v (by simp)
  have hz:=zpl ho;obtain⟨w,h1,h2⟩:=ih (zfb ho hb hv) (by omega) ver es (by omega)
  exact⟨w,h1,by rw[yea A X env n0 e0 n hn ver es N ls s v b hb hv r 0 ho,h2]⟩
 |@const n N ls ks d r t' n' hN hu hs hd ih=>
  intro ht hn ver es hz;have hz:=zz5 hs;obtain⟨w,h1,h2⟩:=ih (zpf hE ht hu hs) (by omega) ver es (by omega)
  exact⟨w,h1,by rw[zz8 A X env n0 e0 hE n hn ver es N hN ls ht.all2 ht.len2 ks d hu r 0 hs,h2]⟩
 |@app n N ls f a f' n' hd hk ih=>
  intro ht hn ver es hs;rw[zpv]at hs;obtain⟨w,h1,h2⟩:=ih (ht.all f (by simp)) hn (ver+1) (es++[a]) (by simp;omega)
  obtain⟨w,rfl⟩:∃u,w=u+1:=⟨w - 1,by omega⟩
  exact⟨w,by omega,by rw[zs6 A X env n0 e0 n ver es (by omega) N ls f a,h2,zs6 A X env n0 e0 n' w es (by omega) 0 [] f' a]⟩
 |@beta n N ls f a N2 ls2 s b m r t' n' hd ho hd2 ih1 ih2=>
  intro ht hn ver es hs;rw[zpv]at hs;have hf:=ht.all f (by simp)
  have ha:=ht.all a (by simp)
  have hl:=hd.ok hE hf;have hle:=hd.le;have hb:=hl.all b (by simp)
  have hz:=zpl ho;obtain⟨w,h1,h2⟩:=ih1 hf hn (ver+1) (es++[a]) (by simp;omega)
  obtain⟨u,h3,h4⟩:=ih2 (zfb ho hb ha) (by omega) (w+1) es (by omega)
  exact⟨u,by omega,by rw[zs6 A X env n0 e0 n ver es (by omega) N ls f a,h2,yeb A X env n0 e0 m (by omega) w es (by omega) a ha N2 ls2 s b hb r 0 ho,h4]⟩
theorem nfP_ok{n:Nat}{t t':Te}{n':Nat}(h:Hd env n t t' n'):∀(m:Nat) (ver:Nat) (es:List Te),(t'.kind=5->es=[])->es.length+sz t' <= 1073741823->Lh A X env n0 e0 m 0 ver es t' = some (.ret (.agg (znc t' es).cs),A++(.box [.sl (De.css env),.int .i64 m,.int .i64 0]::X)):=by
 induction h with
 |@stuck n k N ls ks h4 h7 h3=>
  intro m ver es h5 hs;refine yec A X env n0 e0 m 0 ver es (by omega) k N ls ks (.inr ⟨rfl,?_⟩)
  by_cases k3:k=3
  ·exact .inr (.inl ⟨k3,h3 k3⟩)
  ·by_cases k5:k=5
   ·exact .inr (.inr ⟨k5,h5 k5⟩)
   ·exact .inl ⟨h7,k3,k5,h4⟩
 |lett _ _ ih=>exact ih
 |const _ _ _ _ ih=>exact ih
 |@app n N ls f a f' n' hd hk ih=>
  intro m ver es _ hs;rw[zpv]at hs;rw[zs6 A X env n0 e0 m ver es (by omega) 0 [] f' a,ih m (ver+1) (es++[a]) (fun h=>absurd h hk) (by simp;omega),z0y]
 |beta _ _ _ _ ih=>exact ih
theorem heP_ok(hE:zta env){n:Nat}{t:Te}{n':Nat}{e:Int}(h:He env n t n' e):t.ok->n<=1000000->∀(ver:Nat) (es:List Te),es.length+sz t+600*n<=1073741823 ->
  ∃x:Te,Lh A X env n0 e0 n 0 ver es t=some (.ret (.agg x.cs),A++(.box [.sl (De.css env),.int .i64 n',.int .i64 e]::X)):=by
 have fin:∀(m e:Int) (ver:Nat) (es:List Te) (x:Te),e≠0->es.length<=1073741824->∃y:Te,Lh A X env n0 e0 m e ver es x=some (.ret (.agg y.cs),A++(.box [.sl (De.css env),.int .i64 m,.int .i64 e]::X)):=by
  intro m e ver es x he hes;rcases x with⟨k,N,ls,ks⟩;exact⟨_,yec A X env n0 e0 m e ver es hes k N ls ks (.inl he)⟩
 induction h with
 |@let0 N ls s v b=>
  intro ht hn ver es hs;have:=Lh_let0 A X env n0 e0 ver es N ls [s,v,b];rw[Int.natCast_zero,this];exact fin 0 40 ver es _ (by decide) (by omega)
 |@let2 n N ls s v b r e ho he=>
  intro ht hn ver es hs;rw[yea A X env n0 e0 n hn ver es N ls s v b (ht.all b (by simp)) (ht.all v (by simp)) r e ho]
  exact fin n e ver es r he (by omega)
 |@letr n N ls s v b r n' e ho hd ih=>
  intro ht hn ver es hs;have hb:=ht.all b (by simp)
  have hv:=ht.all v (by simp)
  have hz:=zpl ho;rw[yea A X env n0 e0 n hn ver es N ls s v b hb hv r 0 ho];exact ih (zfb ho hb hv) (by omega) ver es (by omega)
 |@const0 N ls ks d hN hu=>
  intro ht hn ver es hs;have:=yed A X env n0 e0 ver es N hN ls ks d hu;rw[Int.natCast_zero,this];exact fin 0 40 ver es _ (by decide) (by omega)
 |@const2 n N ls ks d r e hN hu hs he=>
  intro ht hn ver es hz;rw[zz8 A X env n0 e0 hE n hn ver es N hN ls ht.all2 ht.len2 ks d hu r e hs];exact fin n e ver es r he (by omega)
 |@constr n N ls ks d r n' e hN hu hs hd ih=>
  intro ht hn ver es hz;have hz:=zz5 hs;rw[zz8 A X env n0 e0 hE n hn ver es N hN ls ht.all2 ht.len2 ks d hu r 0 hs];exact ih (zpf hE ht hu hs) (by omega) ver es (by omega)
 |@appf n N ls f a n' e hd ih=>
  intro ht hn ver es hs;rw[zpv]at hs;rw[zs6 A X env n0 e0 n ver es (by omega) N ls f a]
  exact ih (ht.all f (by simp)) hn (ver+1) (es++[a]) (by simp;omega)
 |@beta0 n N ls f a N2 ls2 s b hd=>
  intro ht hn ver es hs;rw[zpv]at hs;obtain⟨w,h1,h2⟩:=z6g A X env n0 e0 hE hd (ht.all f (by simp)) hn (ver+1) (es++[a]) (by simp;omega)
  rw[zs6 A X env n0 e0 n ver es (by omega) N ls f a,h2,Int.natCast_zero,Lh_lam0 A X env n0 e0 w es (by omega) a N2 ls2 [s,b]]
  exact fin 0 40 _ es _ (by decide) (by omega)
 |@beta2 n N ls f a N2 ls2 s b m r e hd ho he=>
  intro ht hn ver es hs;rw[zpv]at hs;have hf:=ht.all f (by simp)
  have ha:=ht.all a (by simp)
  have hl:=hd.ok hE hf;have hle:=hd.le;have hb:=hl.all b (by simp)
  obtain⟨w,h1,h2⟩:=z6g A X env n0 e0 hE hd hf hn (ver+1) (es++[a]) (by simp;omega)
  rw[zs6 A X env n0 e0 n ver es (by omega) N ls f a,h2,yeb A X env n0 e0 m (by omega) w es (by omega) a ha N2 ls2 s b hb r e ho]
  exact fin m e _ es r he (by omega)
 |@betar n N ls f a N2 ls2 s b m r n' e hd ho hd2 ih2=>
  intro ht hn ver es hs;rw[zpv]at hs;have hf:=ht.all f (by simp)
  have ha:=ht.all a (by simp)
  have hl:=hd.ok hE hf;have hle:=hd.le;have hb:=hl.all b (by simp)
  have hz:=zpl ho;obtain⟨w,h1,h2⟩:=z6g A X env n0 e0 hE hd hf hn (ver+1) (es++[a]) (by simp;omega)
  rw[zs6 A X env n0 e0 n ver es (by omega) N ls f a,h2,yeb A X env n0 e0 m (by omega) w es (by omega) a ha N2 ls2 s b hb r 0 ho]
  exact ih2 (zfb ho hb ha) (by omega) (w+1) es (by omega)
theorem yig(hE:zta env){n:Nat}{t t':Te}{n':Nat}(h:Hd env n t t' n')(ht:t.ok)(hs:sz t+600*n<=500000000):
  F zaw [.ptr A.length 0,.agg t.cs] (A++(.box [.sl (De.css env),.int .i64 n,.int .i64 0]::X))=some (.ret (.agg t'.cs),A++(.box [.sl (De.css env),.int .i64 n',.int .i64 0]::X)):=by
 obtain⟨w,_,h2⟩:=z6g A X env n 0 hE h ht (by omega) 0 [] (by simp;omega)
 have:=h.sz;rw[z5b,h2,nfP_ok A X env n 0 h n' w [] (fun _=>rfl) (by simp;omega),z3p]
theorem yih(hE:zta env){n:Nat}{t:Te}{n':Nat}{e:Int}(h:He env n t n' e)(ht:t.ok)(hs:sz t+600*n<=500000000):
  ∃x:Te,F zaw [.ptr A.length 0,.agg t.cs] (A++(.box [.sl (De.css env),.int .i64 n,.int .i64 0]::X))=some (.ret (.agg x.cs),A++(.box [.sl (De.css env),.int .i64 n',.int .i64 e]::X)):=by
 rw[z5b];exact heP_ok A X env n 0 hE h ht (by omega) 0 [] (by simp;omega)
theorem z88(R:List AV)(hR:∀a∈R,Lt (A.length+(X.length+1)) a)(hE:zta env){n:Nat}{t t':Te}{n':Nat}(h:Hd env n t t' n')(ht:t.ok)(hn:n<=1000000):
  F za2 [.ptr A.length 0,.agg t.cs] (A++(.box (.sl (De.css env) :: .int .i64 n :: .int .i64 0::R)::X))=some (.ret (.agg t'.cs),A++(.box (.sl (De.css env) :: .int .i64 n' :: .int .i64 0::R)::X)):=by
 rw[zlo];exact zq5 env hE h ht hn A X R hR n 0
theorem z89(R:List AV)(hR:∀a∈R,Lt (A.length+(X.length+1)) a)(hE:zta env){n:Nat}{t:Te}{n':Nat}{e:Int}(h:He env n t n' e)(ht:t.ok)(hn:n<=1000000):
  ∃x:Te,F za2 [.ptr A.length 0,.agg t.cs] (A++(.box (.sl (De.css env) :: .int .i64 n :: .int .i64 0::R)::X))=some (.ret (.agg x.cs),A++(.box (.sl (De.css env) :: .int .i64 n' :: .int .i64 e::R)::X)):=by
 obtain⟨x,_,h⟩:=yca env hE h ht hn A X R hR n 0;exact⟨x,by rw[zlo];exact h⟩
theorem z28(hE:zta env){n:Nat}{t t':Te}{n':Nat}(h:Hd env n t t' n')(ht:t.ok)(hn:n<=1000000):
  F za2 [.ptr A.length 0,.agg t.cs] (A++(.box [.sl (De.css env),.int .i64 n,.int .i64 0]::X))=some (.ret (.agg t'.cs),A++(.box [.sl (De.css env),.int .i64 n',.int .i64 0]::X)) :=
 z88 A X env [] (fun a ha=>by cases ha) hE h ht hn
theorem yef(hE:zta env){n:Nat}{t:Te}{n':Nat}{e:Int}(h:He env n t n' e)(ht:t.ok)(hn:n<=1000000):
  ∃x:Te,F za2 [.ptr A.length 0,.agg t.cs] (A++(.box [.sl (De.css env),.int .i64 n,.int .i64 0]::X))=some (.ret (.agg x.cs),A++(.box [.sl (De.css env),.int .i64 n',.int .i64 e]::X)) :=
 z89 A X env [] (fun a ha=>by cases ha) hE h ht hn
mutual
def wfT:Te->Bool
 |.mk k n ls ks=>decide ((ks.length:Int)=zdx k) && (decide (k≠3) || decide (0<=n)) && wfTs ks
def wfTs:List Te->Bool
 |[]=>true
 |x::r=>wfT x && wfTs r
end
mutual
theorem right_wf{p m:Int}:∀{t:Te} {v d:Int},rightT p m t v d=true->wfT t=true
 |.mk k n ls ks,v,d,h=>by
  have hi:=zb8 h;obtain⟨h1,h2,h3,h4,h5⟩:=hi;rw[wfT];have:=right_wfs h5;simp only[this,Bool.and_true,Bool.and_eq_true,decide_eq_true_eq,Bool.or_eq_true];refine⟨h2,?_⟩;by_cases k3:k=3
  ·right
   subst k3;unfold zc9 at h4;simp at h4;exact h4.1.1
  ·exact .inl k3
theorem right_wfs{p m k:Int}:∀{ks:List Te} {i v d:Int},rightTs p m k ks i v d=true->wfTs ks=true
 |[],_,_,_,_=>rfl
 |x::r,i,v,d,h=>by
  rw[rightTs]at h;simp at h;rw[wfTs,right_wf h.1,right_wfs h.2];rfl
end
theorem ztn{t:Te}(h:za6 t=true):wfT t=true:=right_wf (ze9 h)
mutual
theorem sub_wf(ps ms:List Lv):∀t:Te,wfT (subT ps ms t)=wfT t
 |.mk k n ls ks=>by
  rw[subT,wfT,wfT,subs_wf ps ms ks,zql,List.length_map]
theorem subs_wf(ps ms:List Lv):∀ks:List Te,wfTs (subTs ps ms ks)=wfTs ks
 |[]=>rfl
 |x::r=>by rw[subTs,wfTs,wfTs,sub_wf ps ms x,subs_wf ps ms r]
end
theorem z66{t r:Te}{ps ms:List Lv}(h:znl t ps ms=(r,0)):wfT r=true:=by
 obtain⟨h1,rfl,_⟩:=zz6 h;rw[sub_wf];exact ztn h1
theorem zt2{b v r:Te}(h:zjp b v=(r,0)):wfT r=true:=ztn (zt3 h).2.2.2
theorem zxs{ks:List Te}(h:(ks.length:Int)=2):∃a b,ks=[a,b]:=by
 match ks,h with
 |[a,b],_=>exact⟨a,b,rfl⟩
 |[],h=>simp at h
 |[_],h=>simp at h
 |_::_::_::_,h=>simp at h;omega
theorem z7b{ks:List Te}(h:(ks.length:Int)=3):∃a b c,ks=[a,b,c]:=by
 match ks,h with
 |[a,b,c],_=>exact⟨a,b,c,rfl⟩
 |[],h=>simp at h
 |[_],h=>simp at h
 |[_,_],h=>simp at h
 |_::_::_::_::_,h=>simp at h;omega
theorem zr9(env:List De):∀(n:Nat) (t:Te),wfT t=true->(∃t' n',Hd env n t t' n' /\ wfT t' = true)\/∃n' e,He env n t n' e:=by
 intro n
 induction n using Nat.strongRecOn with
 |ind n ihn=>
 intro t
 induction t using Te.ind with
 |h k N ls ks iht=>
 intro hw;have hw0:=hw;rw[wfT]at hw;simp only[Bool.and_eq_true,decide_eq_true_eq,Bool.or_eq_true]at hw;obtain⟨⟨hk,hN⟩,hks⟩:=hw;by_cases k7:k=7
 ·subst k7
  obtain⟨s,v,b,rfl⟩:=z7b hk;rcases n with _|n
  ·exact .inr ⟨0,40,.let0⟩
  rcases ho:zjp b v with⟨r,e⟩;by_cases he:e=0
  ·subst he
   rcases ihn n (by omega) r (zt2 ho) with⟨t',n',h1,h2⟩|⟨n',e,h1⟩
   ·exact .inl ⟨t',n',.lett ho h1,h2⟩
   ·exact .inr ⟨n',e,.letr ho h1⟩
  ·exact .inr ⟨n,e,.let2 ho he⟩
 by_cases k4:k=4
 ·subst k4
  obtain⟨f,a,rfl⟩:=zxs hk;simp only[wfTs,Bool.and_eq_true]at hks;rcases iht f (by simp) hks.1 with⟨f',m,h1,h2⟩|⟨n',e,h1⟩
  ·rcases f' with⟨k2,N2,ls2,ks2⟩
   by_cases k5:k2=5
   ·subst k5
    have h3:=h2;rw[wfT]at h3;simp only[Bool.and_eq_true,decide_eq_true_eq]at h3;obtain⟨s,b,rfl⟩:=zxs h3.1.1;rcases m with _|m
    ·exact .inr ⟨0,40,.beta0 h1⟩
    have hle:=h1.le;rcases ho:zjp b a with⟨r,e⟩;by_cases he:e=0
    ·subst he
     rcases ihn m (by omega) r (zt2 ho) with⟨t',n',h4,h5⟩|⟨n',e,h4⟩
     ·exact .inl ⟨t',n',.beta h1 ho h4,h5⟩
     ·exact .inr ⟨n',e,.betar h1 ho h4⟩
    ·exact .inr ⟨m,e,.beta2 h1 ho he⟩
   ·refine .inl ⟨_,m,.app h1 k5,?_⟩
    rw[wfT];simp[wfTs,hks.2.1,h2,zdx]
  ·exact .inr ⟨n',e,.appf h1⟩
 by_cases k3:k=3
 ·subst k3
  have hN:0<=N:=by simpa using hN
  cases hu:zt7 env N ls with
  |none=>exact .inl ⟨_,n,.stuck (by decide) (by decide) (fun _=>⟨hN,hu⟩),hw0⟩
  |some d=>
   rcases n with _|n
   ·exact .inr ⟨0,40,.const0 hN hu⟩
   rcases hs:znl d.value ls [] with⟨r,e⟩;by_cases he:e=0
   ·subst he
    rcases ihn n (by omega) r (z66 hs) with⟨t',n',h1,h2⟩|⟨n',e,h1⟩
    ·exact .inl ⟨t',n',.const hN hu hs h1,h2⟩
    ·exact .inr ⟨n',e,.constr hN hu hs h1⟩
   ·exact .inr ⟨n,e,.const2 hN hu hs he⟩
 ·exact .inl ⟨_,n,.stuck k4 k7 (fun h=>absurd h k3),hw0⟩
def yfo(r:Te×Int×Int):AV:=.tup [.agg r.1.cs,.int .i64 r.2.1,.int .i64 r.2.2]
inductive RedS (env:List De) (t:Te) (f:Int):Te×Int×Int->Prop
 |arg:zg5 env=false\/za6 t=false\/f<0\/5000<f->RedS env t f (zeroT,0,1)
 |er {n n':Nat} {e:Int}:zg5 env=true->za6 t=true->f=n->n<=5000->He env n t n' e->RedS env t f (zeroT,0,e)
 |long {n n':Nat} {t':Te}:zg5 env=true->za6 t=true->f=n->n<=5000->Hd env n t t' n' -> za6 t' = false->RedS env t f (zeroT,0,2)
 |ok {n n':Nat} {t':Te}:zg5 env=true->za6 t=true->f=n->n<=5000->Hd env n t t' n' -> za6 t' = true->RedS env t f (t',n',0)
theorem yae(env:List De)(t:Te)(f:Int):∃r,RedS env t f r:=by
 by_cases h1:zg5 env=true
 ·by_cases h2:za6 t=true
  ·by_cases h3:f<0
   ·exact⟨_,.arg (.inr (.inr (.inl h3)))⟩
   by_cases h4:5000<f
   ·exact⟨_,.arg (.inr (.inr (.inr h4)))⟩
   obtain⟨n,rfl⟩:=Int.eq_ofNat_of_zero_le (show 0<=f by omega)
   rcases zr9 env n t (ztn h2) with⟨t',n',h,_⟩|⟨n',e,h⟩
   ·by_cases h5:za6 t' = true
    ·exact⟨_,.ok h1 h2 rfl (by omega) h h5⟩
    ·exact⟨_,.long h1 h2 rfl (by omega) h (by simpa using h5)⟩
   ·exact⟨_,.er h1 h2 rfl (by omega) h⟩
  ·exact⟨_,.arg (.inr (.inl (by simpa using h2)))⟩
 ·exact⟨_,.arg (.inl (by simpa using h1))⟩
theorem zla(env:List De)(hE:zta env)(t:Te)(ht:t.ok)(H:List AO)(g1:zg5 env=true)(g2:za6 t=true)(n:Nat)(hn:n<=5000)(n':Nat)(e:Int)(x:Te)(hx:e=0->x.ok)
  (hd:F za2 [.ptr H.length 0,.agg t.cs] (H++[.box [.sl (De.css env),.int .i64 n,.int .i64 0]])=some (.ret (.agg x.cs),H++[.box [.sl (De.css env),.int .i64 n',.int .i64 e]])) :
  F zgv [.sl (De.css env),.agg t.cs,.int .i64 n] H=some (.ret (yfo (if e≠0 then (zeroT,0,e) else if za6 x=true then (x,(n':Int),0) else (zeroT,0,2))),H):=by
 have hR:=fun H=>zxm env hE H
 have hS:=fun H=>zch t ht H
 rw[g1]at hR;rw[g2]at hS;rcases t with⟨k,N,ls,ks⟩;rcases x with⟨k2,N2,ls2,ks2⟩;simp only[Te.cs]at hS hd;have hn1:¬ (n:Int)<0:=by omega
 have hn2:¬ (5000:Int)<(n:Int):=by omega
 have hf:=z29 env n' 2 H [] [] (fun a ha=>by cases ha)
 rw[zpz];by_cases he:e=0
 ·subst he
  have hS2:=fun H=>zch (.mk k2 N2 ls2 ks2) (hx rfl) H
  simp only[Te.cs]at hS2
  cases h2:za6 (.mk k2 N2 ls2 ks2) <;> simp only[h2]at hS2 <;>
   simp only[↓reduceIte,go_sem,Te.cs,Te.css,Lv.css,hR,hS,hn1,hn2,hd,hS2,hf,h2,yfo,zeroT,ne_eq,not_true_eq_false,Bool.false_eq_true]
 ·simp only[↓reduceIte,go_sem,Te.cs,Te.css,Lv.css,hR,hS,hn1,hn2,hd,he,yfo,zeroT,ne_eq,not_false_eq_true]
theorem z5a(env:List De)(hE:zta env)(t:Te)(ht:t.ok)(f:Int)(r:Te×Int×Int)(h:RedS env t f r)(H:List AO):F zgv [.sl (De.css env),.agg t.cs,.int .i64 f] H=some (.ret (yfo r),H):=by
 cases h with
 |arg hg=>
  have hR:=fun H=>zxm env hE H
  have hS:=fun H=>zch t ht H
  rcases t with⟨k,N,ls,ks⟩;simp only[Te.cs]at hS;rw[zpz]
  cases g1:zg5 env <;> simp only[g1]at hR
  ·simp only[↓reduceIte,go_sem,Te.cs,Te.css,Lv.css,hR,yfo,zeroT]
  cases g2:za6 (.mk k N ls ks) <;> simp only[g2]at hS
  ·simp only[↓reduceIte,go_sem,Te.cs,Te.css,Lv.css,hR,hS,yfo,zeroT]
  by_cases g3:f<0
  ·simp only[↓reduceIte,go_sem,Te.cs,Te.css,Lv.css,hR,hS,g3,yfo,zeroT]
  have g4:5000<f:=by
   rcases hg with h|h|h|h
   ·rw[g1]at h;cases h
   ·rw[g2]at h;cases h
   ·exact absurd h g3
   ·exact h
  simp only[↓reduceIte,go_sem,Te.cs,Te.css,Lv.css,hR,hS,g3,g4,yfo,zeroT]
 |@er n n' e g1 g2 hf hn hd=>
  subst hf;have hz:=zm9 g2;obtain⟨x,hx⟩:=yef H [] env hE hd ht (by omega)
  have:=zla env hE t ht H g1 g2 n hn n' e x (fun h=>absurd h hd.ne) hx
  rwa [if_pos hd.ne]at this
 |@long n n' t' g1 g2 hf hn hd hs=>
  subst hf;have hz:=zm9 g2;have:=zla env hE t ht H g1 g2 n hn n' 0 t' (fun _=>hd.ok hE ht) (z28 H [] env hE hd ht (by omega))
  rwa [if_neg (by simp),if_neg (by simp[hs])]at this
 |@ok n n' t' g1 g2 hf hn hd hs=>
  subst hf;have hz:=zm9 g2;have:=zla env hE t ht H g1 g2 n hn n' 0 t' (fun _=>hd.ok hE ht) (z28 H [] env hE hd ht (by omega))
  rwa [if_neg (by simp),if_pos hs]at this
end Go.Ab
end
section
set_option linter.unusedVariables false
set_option linter.unusedSimpArgs false
set_option maxRecDepth 100000
set_option maxHeartbeats 2000000
namespace Go.Ab
open Go.RowKit Go.Proofs
structure Gr where
 env:List De
 params:Int
 metas:Int
 cons:List Co
 mode:Int
def Gr.cs(g:Gr):List AV:=[.sl (De.css g.env),.int .i64 g.params,.int .i64 g.metas,.sl (Co.css g.cons),.int .i64 g.mode]
noncomputable def zjh(g:Gr)(s:Int×List Co)(a b:Lv):Bool×Int×List Co :=
 if s.1≠0 then (false,s)
 else if g.mode=2 then (if 100<=s.2.length then (false,2,s.2) else (true,0,s.2++[.mk a b]))
 else if (zf1 g.cons g.params && zax a g.params 0 && zax b g.params 0)=true then (z6a g.cons g.params.toNat a b,s)
 else (false,1,s.2)
def zg6(A:List AO)(g:Gr)(n e:Int)(ver:Nat)(out:List Co)(X:List AO):List AO :=
 A++(.box [.sl (De.css g.env),.int .i64 n,.int .i64 e] :: .lst 0 11 [] :: .lst 0 6 [] :: .lst ver 6 (Co.css out) :: .box (.ptr A.length 0::(g.cs++[.ol (A.length+3) ver]))::X)
theorem NewP_ok(g:Gr)(f:Int)(H:List AO):F zrf [.agg g.cs,.int .i64 f] H=some (.ret (.ptr (H.length+4) 0),zg6 H g f 0 0 [] []):=by
 have e:Co.css []=[]:=rfl;rw[z8d];simp only[↓reduceIte,go_sem,Gr.cs,zg6,e,List.append_assoc,List.cons_append,List.nil_append,List.length_append,List.length_cons,List.length_nil]
theorem gr_lt(N:Nat)(g:Gr):∀a∈g.cs,Lt N a:=by
 intro a ha;simp[Gr.cs]at ha;rcases ha with rfl|rfl|rfl|rfl|rfl
 ·exact .sl (zzs N g.env)
 ·exact .int _ _
 ·exact .int _ _
 ·exact .sl (zpg N g.cons)
 ·exact .int _ _
theorem yhh(n ver:Nat)(out:List Co):LtO n (.lst ver 6 (Co.css out)):=zpg n out
theorem yhx{A Z:List AO}{o1 o1' o4 o4' o5 o5' b2 b3:AO}{n:Nat}(h1:LtO n o1')(h4:LtO n o4')(h5:LtO n o5'):∀(id:Nat) (o:AO),(A++(o1' :: b2::b3::o4' :: o5' :: Z))[id]?=some o->(A++(o1::b2::b3::o4::o5::Z))[id]?=some o\/LtO n o:=by
 intro id o ho;by_cases hi:id<A.length
 ·rw[List.getElem?_append_left hi]at ho ⊢;exact .inl ho
 rw[List.getElem?_append_right (by omega)]at ho ⊢
 match hj:id - A.length,ho with
 |0,ho=>simp at ho;subst ho;exact .inr h1
 |1,ho=>exact .inl ho
 |2,ho=>exact .inl ho
 |3,ho=>simp at ho;subst ho;exact .inr h4
 |4,ho=>simp at ho;subst ho;exact .inr h5
 |j+5,ho=>exact .inl ho
theorem z5x(A X:List AO)(g:Gr)(n e:Int)(ver:Nat)(out:List Co)(n' e':Int)(ver':Nat)(out':List Co)(r:Res)(hr:LtR (zg6 A g n e ver out X).length r):zez (zg6 A g n e ver out X) r (zg6 A g n' e' ver' out' X)=some (r,zg6 A g n' e' ver' out' X):=by
 refine zsf (by simp[zg6]) hr ?_
 unfold zg6;refine yhx (zof _ _ _ _) (yhh _ _ _) fun a ha=>?_
 rcases List.mem_cons.1 ha with rfl|h
 ·exact .ptr (by simp)
 ·rcases List.mem_append.1 h with h|h
  ·exact gr_lt _ g a h
  ·simp at h;subst h;exact .ol (by simp)
theorem zdi(A X:List AO)(g:Gr)(n e:Int)(ver:Nat)(out:List Co)(n' e':Int)(ver':Nat)(out':List Co)(b:Bool):zez (zg6 A g n e ver out X) (.ret (.bool b)) (zg6 A g n' e' ver' out' X)=some (.ret (.bool b),zg6 A g n' e' ver' out' X) :=
 z5x A X g n e ver out n' e' ver' out' _ (.bool b)
theorem zvz(g:Gr)(hcons:∀c∈g.cons,c.ok)(hl:g.cons.length<=1000)(hmode:g.mode=1\/g.mode=2)(a b:Lv)(ha:a.ok)(hb:b.ok)(A X:List AO)(n e:Int)(ver:Nat)(out:List Co)(ho:out.length<=100):
  ∃ver',F zdq [.ptr (A.length+4) 0,.agg a.cs,.agg b.cs] (zg6 A g n e ver out X)=some (.ret (.bool (zjh g (e,out) a b).1),zg6 A g n (zjh g (e,out) a b).2.1 ver' (zjh g (e,out) a b).2.2 X):=by
 have hF:=fun e=>zz9 g.env n e A (.lst 0 11 [] :: .lst 0 6 [] :: .lst ver 6 (Co.css out) :: .box (.ptr A.length 0::(g.cs++[.ol (A.length+3) ver]))::X)
 rw[zre];by_cases h1:e=0
 ·subst h1
  rcases hmode with h2|h2
  ·have hm:¬ g.mode=2:=by omega
   by_cases h3:(zf1 g.cons g.params && zax a g.params 0 && zax b g.params 0)=true
   ·have e1:zjh g (0,out) a b=(z6a g.cons g.params.toNat a b,0,out):=by
     unfold zjh;rw[if_neg (by simp),if_neg hm,if_pos h3]
    simp only[Bool.and_eq_true]at h3;have hp:g.params=(g.params.toNat:Int):=by
     have:=h3.1.1;simp only[zf1,Bool.and_eq_true,decide_eq_true_eq]at this;omega
    obtain⟨vs,hL⟩:=LeqP_ok g.cons hcons g.params.toNat a b ha hb (by rw[<- hp];exact h3.1.1) (by rw[<- hp];exact h3.1.2) (by rw[<- hp];exact h3.2) (zg6 A g n 0 ver out X)
    rw[<- hp]at hL;rw[e1];refine⟨ver,?_⟩;have hfin:=fun b=>zdi A X g n 0 ver out n 0 ver out b
    simp only[zg6,Gr.cs,List.cons_append,List.nil_append,h2]at hL hfin;simp only[↓reduceIte,go_sem,zg6,Gr.cs,h2,hL,hfin,show ¬ (1:Int)=2 by omega]
   ·have e1:zjh g (0,out) a b=(false,1,out):=by
     unfold zjh;rw[if_neg (by simp),if_neg hm,if_neg h3]
    have hL:=LeqP_er g.cons hcons (by omega) g.params a b ha hb (by simpa using h3) (zg6 A g n 0 ver out X)
    have hfin:=zdi A X g n 0 ver out n 1 ver out false;rw[e1];refine⟨ver,?_⟩;simp only[zg6,Gr.cs,List.cons_append,List.nil_append,h2]at hL hfin hF;simp only[↓reduceIte,go_sem,zg6,Gr.cs,h2,hL,hF,hfin,show ¬ (1:Int)=2 by omega]
  ·have e1:zjh g (0,out) a b=if 100<=out.length then (false,2,out) else (true,0,out++[.mk a b]):=by
    unfold zjh;rw[if_neg (by simp),if_pos h2]
   rw[e1];by_cases h3:100<=out.length
   ·have h4:out.length=100:=by omega
    simp only[if_pos h3];have hfin:=zdi A X g n 0 ver out n 2 ver out false;simp only[zg6,Gr.cs,List.cons_append,List.nil_append,h2]at hF hfin;refine⟨ver,?_⟩;simp only[↓reduceIte,go_sem,zg6,Gr.cs,h2,h4,hF,hfin,show ¬ (2:Int)=1 by omega]
   ·simp only[if_neg h3]
    rcases a with⟨k1,n1,ks1⟩;rcases b with⟨k2,n2,ks2⟩;have hcs:Co.css out++[[.int .i64 k1,.int .i64 n1,.sl (Lv.css ks1),.int .i64 k2,.int .i64 n2,.sl (Lv.css ks2)]]=Co.css (out++[.mk (.mk k1 n1 ks1) (.mk k2 n2 ks2)]):=by simp[Co.css,Co.cs,Co.a,Co.b,Lv.cs]
    have hfin:=zdi A X g n 0 ver out n 0 (ver+1) (out++[.mk (.mk k1 n1 ks1) (.mk k2 n2 ks2)]) true;simp only[zg6,Gr.cs,List.cons_append,List.nil_append,h2]at hfin;refine⟨ver+1,?_⟩;simp only[↓reduceIte,go_sem,zg6,Gr.cs,Lv.cs,h2,show ¬ (out.length:Int)=100 by omega,show out.length<=1073741823 by omega,hcs,hfin,show ¬ (2:Int)=1 by omega]
 ·have e1:zjh g (e,out) a b=(false,e,out):=by unfold zjh;rw[if_pos h1]
  rw[e1];refine⟨ver,?_⟩;simp only[↓reduceIte,go_sem,zg6,Gr.cs,h1]
end Go.Ab
end
section
set_option linter.unusedVariables false
set_option linter.unusedSimpArgs false
set_option maxRecDepth 100000
set_option maxHeartbeats 2000000
namespace Go.Ab
open Go.RowKit Go.Proofs
theorem zo8(g:Gr)(s:Int×List Co)(a b:Lv)(h:s.2.length<=100):(zjh g s a b).2.2.length<=100:=by
 unfold zjh
 split
 ·exact h
 split
 ·split
  ·exact h
  ·simp;omega
 split <;> exact h
noncomputable def zqg(g:Gr)(s:Int×List Co)(a b:Lv):Bool×Int×List Co :=
 if (zjh g s a b).1=true then zjh g (zjh g s a b).2 b a else (false,(zjh g s a b).2)
noncomputable def zm3(g:Gr):Int×List Co->List Lv->List Lv->Bool×Int×List Co
 |s,a::xs,b::ys=>if (zqg g s a b).1=true then zm3 g (zqg g s a b).2 xs ys else (false,(zqg g s a b).2)
 |s,_,_=>(true,s)
theorem ydm(g:Gr)(s:Int×List Co)(a b:Lv)(h:s.2.length<=100):(zqg g s a b).2.2.length<=100:=by
 have h1:=zo8 g s a b h;unfold zqg
 split
 ·exact zo8 g _ b a h1
 ·exact h1
theorem zu0(g:Gr)(hcons:∀c∈g.cons,c.ok)(hl:g.cons.length<=1000)(hmode:g.mode=1\/g.mode=2)(P Q:List Lv)(hP:∀x∈P,x.ok)(hQ:∀x∈Q,x.ok)(hlen:P.length=Q.length)(hb:P.length<=140737488355328)(k1 n1 k2 n2:Int)(ks1 ks2:List Te)(m:AV)(A X:List AO)(n e:Int)(ver:Nat)(out:List Co)(ho:out.length<=100):
  ∃ver',F zbu [.ptr (A.length+4) 0,.agg (Te.mk k1 n1 P ks1).cs,.agg (Te.mk k2 n2 Q ks2).cs,m] (zg6 A g n e ver out X)=some (.ret (.bool (zm3 g (e,out) P Q).1),zg6 A g n (zm3 g (e,out) P Q).2.1 ver' (zm3 g (e,out) P Q).2.2 X):=by
 have hfin:=fun n' e' ver' out' b=>zdi A X g n e ver out n' e' ver' out' b
 have loop:∀(p q ps qs:List Lv),P=ps++p->Q=qs++q->ps.length=qs.length->∀(v1:Nat) (s:Int×List Co),s.2.length<=100->∃ver',
   zb0 (zg6 A g n e ver out X) (zg6 A g n s.1 v1 s.2 X) (.ptr (A.length+4) 0) (.sl (Lv.css P)) (.int .i64 P.length) (.int .i64 ps.length) (Te.mk k2 n2 Q ks2).cs=some (.ret (.bool (zm3 g s p q).1),zg6 A g n (zm3 g s p q).2.1 ver' (zm3 g s p q).2.2 X):=by
  intro p
  induction p with
  |nil=>
   intro q ps qs h1 h2 h3 v1 s hs;rw[List.append_nil]at h1;subst h1;refine⟨v1,?_⟩;rw[zb0,zab];simp only[↓reduceIte,go_sem,Te.cs,hfin,zm3]
  |cons a p ih=>
   intro q ps qs h1 h2 h3 v1 s hs
   cases q with
   |nil=>rw[h1,h2]at hlen;simp at hlen;omega
   |cons b q=>
   have ha:=hP a (by rw[h1];simp)
   have hbb:=hQ b (by rw[h2];simp)
   have hga:P[ps.length]?=some a:=by rw[h1];simp
   have hgb:Q[ps.length]?=some b:=by rw[h2,h3];simp
   have hpl:ps.length<P.length:=by rw[h1];simp
   obtain⟨v2,hB⟩:=zvz g hcons hl hmode a b ha hbb A X n s.1 v1 s.2 hs;obtain⟨v3,hC⟩:=zvz g hcons hl hmode b a hbb ha A X n (zjh g s a b).2.1 v2 (zjh g s a b).2.2 (zo8 g s a b hs);obtain⟨v4,h4⟩:=ih q (ps++[a]) (qs++[b]) (by rw[h1];simp) (by rw[h2];simp) (by simp[h3]) v3 (zjh g (zjh g s a b).2 b a).2 (zo8 g _ b a (zo8 g s a b hs))
   simp only[zah,Te.cs]at h4;rw[show ((s.1,s.2):Int×List Co)=s from rfl]at hB
   rw[show (((zjh g s a b).2.1,(zjh g s a b).2.2):Int×List Co)=(zjh g s a b).2 from rfl]at hC
   rw[zm3,zqg]
   cases hc:(zjh g s a b).1
   ·rw[hc]at hB
    refine⟨v2,?_⟩;rw[zb0,zab];simp only[↓reduceIte,go_sem,Te.cs,show (ps.length:Int)<(P.length:Int) by omega,hga,hgb,hB,hfin]
   ·rw[hc]at hB
    cases hd:(zjh g (zjh g s a b).2 b a).1
    ·rw[hd]at hC
     refine⟨v3,?_⟩;rw[zb0,zab];simp only[↓reduceIte,go_sem,Te.cs,show (ps.length:Int)<(P.length:Int) by omega,hga,hgb,hB,hC,hd,hfin]
    ·rw[hd]at hC
     refine⟨v4,?_⟩;rw[zb0,zab];simp only[↓reduceIte,go_sem,Te.cs,show (ps.length:Int)<(P.length:Int) by omega,hga,hgb,hB,hC,hd,hfin,zad (n:=ps.length) (by omega),h4]
 obtain⟨v,h⟩:=loop P Q [] [] rfl rfl rfl ver (e,out) ho;refine⟨v,?_⟩;simp only[Te.cs,List.length_nil,Int.natCast_zero]at h;rw[zou];simp only[↓reduceIte,go_sem,Te.cs];exact h
end Go.Ab
end
section
set_option linter.unusedVariables false
set_option linter.unusedSimpArgs false
set_option maxRecDepth 100000
set_option maxHeartbeats 2000000
namespace Go.Ab
open Go.RowKit Go.Proofs
def z0d(t:Te):Te:=.mk 4 0 [] [(zh1 t 0 1).1,.mk 1 0 [] []]
theorem zri(g:Gr)(t:Te)(ht:t.ok)(hk:t.kind≠5)(A X:List AO)(n:Int)(ver:Nat)(out:List Co):F zc8 [.ptr (A.length+4) 0,.agg t.cs] (zg6 A g n 0 ver out X)=some (.ret (.agg (z0d t).cs),zg6 A g n (zh1 t 0 1).2 ver out X):=by
 have hL:=fun H=>yif t ht 0 1 H
 rcases hq:zh1 t 0 1 with⟨u,e⟩;rw[hq]at hL;have hP:=zz7 g.env u n e A (.lst 0 11 [] :: .lst 0 6 [] :: .lst ver 6 (Co.css out) :: .box (.ptr A.length 0::(g.cs++[.ol (A.length+3) ver]))::X);have hfin:=fun r hr=>z5x A X g n 0 ver out n e ver out r hr
 rcases t with⟨k,N,ls,ks⟩;rcases u with⟨k2,N2,ls2,ks2⟩;have hk:¬ k=5:=hk;rw[zk5,z0d,hq];simp only[Te.cs,Gr.cs,List.cons_append,List.nil_append]at hP;simp only[zi4,Te.cs]at hL;simp only[↓reduceIte,go_sem,zg6,Gr.cs,hk,hL,hP,Te.cs,Te.css];have h:=hfin (.ret (.agg (Te.mk 4 0 [] [.mk k2 N2 ls2 ks2,.mk 1 0 [] []]).cs)) (Lt.agg (zub _ (.mk 4 0 [] [.mk k2 N2 ls2 ks2,.mk 1 0 [] []])));simp only[zg6,Gr.cs,Te.cs,Te.css,List.cons_append,List.nil_append]at h;exact h
theorem zpj(g:Gr)(N:Int)(ls:List Lv)(s b:Te)(A X:List AO)(n e:Int)(ver:Nat)(out:List Co):F zc8 [.ptr (A.length+4) 0,.agg (Te.mk 5 N ls [s,b]).cs] (zg6 A g n e ver out X)=some (.ret (.agg b.cs),zg6 A g n e ver out X):=by
 rw[zk5];simp only[↓reduceIte,go_sem,Te.cs,Te.css]
end Go.Ab
end
section
set_option linter.unusedVariables false
set_option linter.unusedSimpArgs false
set_option maxRecDepth 100000
set_option maxHeartbeats 2000000
namespace Go.Ab
open Go.RowKit Go.Proofs
inductive Al (g:Gr):Nat->List Co->Te->Te->Bool->Bool->Nat->Int->List Co->Prop
 |burn0 {out:List Co} {a b:Te} {most:Bool}:Al g 0 out a b most false 0 40 out
 |headA {n:Nat} {out:List Co} {a b:Te} {most:Bool} {n':Nat} {e:Int}:He g.env n a n' e->Al g (n+1) out a b most false n' e out
 |headB {n:Nat} {out:List Co} {a b a':Te} {most:Bool} {n1 n':Nat} {e:Int}:Hd g.env n a a' n1->He g.env n1 b n' e->Al g (n+1) out a b most false n' e out
 |lam2 {n:Nat} {out:List Co} {a b s x s' y:Te} {N N':Int} {ls ls':List Lv} {most r:Bool} {n1 n2 n':Nat} {e:Int} {out':List Co}:Hd g.env n a (.mk 5 N ls [s,x]) n1->Hd g.env n1 b (.mk 5 N' ls' [s',y]) n2->Al g n2 out x y false r n' e out' -> Al g (n+1) out a b most r n' e out'
 |lamL {n:Nat} {out:List Co} {a b b' s x:Te} {N:Int} {ls:List Lv} {most r:Bool} {n1 n2 n':Nat} {e:Int} {out':List Co}:Hd g.env n a (.mk 5 N ls [s,x]) n1->Hd g.env n1 b b' n2->b'.kind≠5->(zh1 b' 0 1).2=0->Al g n2 out x (z0d b') false r n' e out' -> Al g (n+1) out a b most r n' e out'
 |lamLe {n:Nat} {out:List Co} {a b b' s x:Te} {N:Int} {ls:List Lv} {most:Bool} {n1 n2:Nat}:Hd g.env n a (.mk 5 N ls [s,x]) n1->Hd g.env n1 b b' n2->b'.kind≠5->(zh1 b' 0 1).2≠0->Al g (n+1) out a b most false n2 (zh1 b' 0 1).2 out
 |lamR {n:Nat} {out:List Co} {a b a' s y:Te} {N:Int} {ls:List Lv} {most r:Bool} {n1 n2 n':Nat} {e:Int} {out':List Co}:Hd g.env n a a' n1->a'.kind≠5->Hd g.env n1 b (.mk 5 N ls [s,y]) n2->(zh1 a' 0 1).2=0->Al g n2 out (z0d a') y false r n' e out' -> Al g (n+1) out a b most r n' e out'
 |lamRe {n:Nat} {out:List Co} {a b a' s y:Te} {N:Int} {ls:List Lv} {most:Bool} {n1 n2:Nat}:Hd g.env n a a' n1->a'.kind≠5->Hd g.env n1 b (.mk 5 N ls [s,y]) n2->(zh1 a' 0 1).2≠0->Al g (n+1) out a b most false n2 (zh1 a' 0 1).2 out
 |other {n:Nat} {out:List Co} {a b:Te} {k N k' N':Int} {ls ls':List Lv} {ks ks':List Te} {most:Bool} {n1 n2:Nat}:Hd g.env n a (.mk k N ls ks) n1->k≠5->Hd g.env n1 b (.mk k' N' ls' ks') n2->k' ≠ 5->(k≠k' \/ N≠N' \/ ls.length≠ls'.length)->Al g (n+1) out a b most false n2 0 out
 |var {n:Nat} {out:List Co} {a b:Te} {N:Int} {ls ls':List Lv} {ks ks':List Te} {most:Bool} {n1 n2:Nat}:Hd g.env n a (.mk 1 N ls ks) n1->Hd g.env n1 b (.mk 1 N ls' ks') n2->ls.length=ls'.length->Al g (n+1) out a b most true n2 0 out
 |sortM {n:Nat} {out:List Co} {a b:Te} {N:Int} {x y:Lv} {ks ks':List Te} {n1 n2:Nat}:Hd g.env n a (.mk 2 N [x] ks) n1->Hd g.env n1 b (.mk 2 N [y] ks') n2->Al g (n+1) out a b true (zjh g (0,out) x y).1 n2 (zjh g (0,out) x y).2.1 (zjh g (0,out) x y).2.2
 |lvls {n:Nat} {out:List Co} {a b:Te} {k N:Int} {ls ls':List Lv} {ks ks':List Te} {most:Bool} {n1 n2:Nat}:(k=2/\most=false\/k=3)->Hd g.env n a (.mk k N ls ks) n1->Hd g.env n1 b (.mk k N ls' ks') n2->ls.length=ls'.length->Al g (n+1) out a b most (zm3 g (0,out) ls ls').1 n2 (zm3 g (0,out) ls ls').2.1 (zm3 g (0,out) ls ls').2.2
 |two1 {n:Nat} {out:List Co} {a b f x f' x':Te} {k N:Int} {ls ls':List Lv} {most:Bool} {n1 n2 n':Nat} {e:Int} {out':List Co}:(k=4\/k=6)->Hd g.env n a (.mk k N ls [f,x]) n1->Hd g.env n1 b (.mk k N ls' [f',x']) n2->ls.length=ls'.length->Al g n2 out f f' false false n' e out' -> Al g (n+1) out a b most false n' e out'
 |two2 {n:Nat} {out:List Co} {a b f x f' x':Te} {k N:Int} {ls ls':List Lv} {most r:Bool} {n1 n2 n3 n':Nat} {e:Int} {out1 out':List Co}:(k=4\/k=6)->Hd g.env n a (.mk k N ls [f,x]) n1->Hd g.env n1 b (.mk k N ls' [f',x']) n2->ls.length=ls'.length->Al g n2 out f f' false true n3 0 out1->Al g n3 out1 x x' (decide (k=6) && most) r n' e out' -> Al g (n+1) out a b most r n' e out'
end Go.Ab
end
section
set_option linter.unusedVariables false
set_option linter.unusedSimpArgs false
set_option maxRecDepth 100000
set_option maxHeartbeats 2000000
namespace Go.Ab
open Go.RowKit Go.Proofs
mutual
def w2:Te->Bool
 |.mk k n ls ks=>(decide (k≠2) || decide (ls.length=1)) && w2s ks
def w2s:List Te->Bool
 |[]=>true
 |x::r=>w2 x && w2s r
end
mutual
theorem right_w2{p m:Int}:∀{t:Te} {v d:Int},rightT p m t v d=true->w2 t=true
 |.mk k n ls ks,v,d,h=>by
  obtain⟨h1,h2,h3,h4,h5⟩:=zb8 h;rw[w2,right_w2s h5,Bool.and_true];by_cases k2:k=2
  ·subst k2;unfold zc9 at h4;simp at h4;simp[h4]
  ·simp[k2]
theorem right_w2s{p m k:Int}:∀{ks:List Te} {i v d:Int},rightTs p m k ks i v d=true->w2s ks=true
 |[],_,_,_,_=>rfl
 |x::r,i,v,d,h=>by
  rw[rightTs]at h;simp at h;rw[w2s,right_w2 h.1,right_w2s h.2];rfl
end
theorem zto{t:Te}(h:za6 t=true):w2 t=true:=right_w2 (ze9 h)
mutual
theorem sub_w2(ps ms:List Lv):∀t:Te,w2 (subT ps ms t)=w2 t
 |.mk k n ls ks=>by
  rw[subT,w2,w2,subs_w2 ps ms ks,List.length_map]
theorem subs_w2(ps ms:List Lv):∀ks:List Te,w2s (subTs ps ms ks)=w2s ks
 |[]=>rfl
 |x::r=>by rw[subTs,w2s,w2s,sub_w2 ps ms x,subs_w2 ps ms r]
end
theorem Hd.w2{env:List De}{n:Nat}{t t':Te}{n':Nat}(h:Hd env n t t' n'):w2 t=true->Go.Ab.w2 t' = true:=by
 induction h with
 |stuck=>exact id
 |lett ho _ ih=>exact fun _=>ih (zto (zt3 ho).2.2.2)
 |const _ _ hs _ ih=>exact fun _=>ih (by obtain⟨h1,rfl,_⟩:=zz6 hs;rw[sub_w2];exact zto h1)
 |app _ _ ih=>
  intro h;simp only[Go.Ab.w2,w2s,Bool.and_eq_true,Bool.and_true]at h ⊢;exact⟨by simp,ih h.2.1,h.2.2⟩
 |beta _ ho _ _ ih=>exact fun _=>ih (zto (zt3 ho).2.2.2)
theorem Hd.wf{env:List De}{n:Nat}{t t':Te}{n':Nat}(h:Hd env n t t' n'):wfT t=true->wfT t' = true:=by
 induction h with
 |stuck=>exact id
 |lett ho _ ih=>exact fun _=>ih (zt2 ho)
 |const _ _ hs _ ih=>exact fun _=>ih (z66 hs)
 |app _ _ ih=>
  intro h;simp only[wfT,wfTs,Bool.and_eq_true,Bool.and_true]at h ⊢;exact⟨by simp[zdx],ih h.2.1,h.2.2⟩
 |beta _ ho _ _ ih=>exact fun _=>ih (zt2 ho)
theorem Hd.k7{env:List De}{n:Nat}{t t':Te}{n':Nat}(h:Hd env n t t' n'):t'.kind≠7:=by
 induction h with
 |stuck _ h _=>exact h
 |lett _ _ ih=>exact ih
 |const _ _ _ _ ih=>exact ih
 |app=>exact (show ¬ (4:Int)=7 by decide)
 |beta _ _ _ _ ih=>exact ih
def wg(t:Te):Bool:=wfT t && w2 t
theorem yff{t:Te}(h:za6 t=true):wg t=true:=by simp[wg,ztn h,zto h]
theorem Hd.wg{env:List De}{n:Nat}{t t':Te}{n':Nat}(h:Hd env n t t' n')(hw:wg t=true):Go.Ab.wg t' = true:=by
 simp only[Go.Ab.wg,Bool.and_eq_true]at hw ⊢;exact⟨h.wf hw.1,h.w2 hw.2⟩
theorem zh2{k N:Int}{ls:List Lv}{ks:List Te}(h:wg (.mk k N ls ks)=true):(ks.length:Int)=zdx k/\(k=2->ls.length=1)/\∀x∈ks,wg x=true:=by
 simp only[wg,wfT,w2,Bool.and_eq_true,decide_eq_true_eq,Bool.or_eq_true]at h;obtain⟨⟨⟨h1,h2⟩,h3⟩,h4,h5⟩:=h;refine⟨h1,fun hk=>by simpa [hk] using h4,?_⟩
 clear h1 h2 h4
 induction ks with
 |nil=>intro x hx;cases hx
 |cons y r ih=>
  simp only[wfTs,w2s,Bool.and_eq_true]at h3 h5;intro x hx;rcases List.mem_cons.1 hx with rfl|hx
  ·simp[wg,h3.1,h5.1]
  ·exact ih h3.2 h5.2 x hx
theorem z0k{k N:Int}{ls:List Lv}{ks:List Te}(h:wg (.mk k N ls ks)=true)(hk:k=4\/k=5\/k=6):∃a b,ks=[a,b]/\wg a=true/\wg b=true:=by
 obtain⟨h1,_,h2⟩:=zh2 h;obtain⟨a,b,rfl⟩:=zxs (ks:=ks) (by rw[h1];rcases hk with rfl|rfl|rfl <;> rfl)
 exact⟨a,b,rfl,h2 a (by simp),h2 b (by simp)⟩
theorem wg_kind{k N:Int}{ls:List Lv}{ks:List Te}(h:wg (.mk k N ls ks)=true)(h7:k≠7):k=1\/k=2\/k=3\/k=4\/k=5\/k=6:=by
 have h1:=(zh2 h).1;unfold zdx at h1;omega
theorem zzq{t:Te}(h:(zh1 t 0 1).2=0):wg (z0d t)=true:=by
 have:za6 (zh1 t 0 1).1=true:=by
  revert h;unfold zh1 zs7
  split
  ·intro h;cases h
  ·split
   ·intro _;assumption
   ·intro h;cases h
 have hw:=yff this;simp only[wg,Bool.and_eq_true]at hw;simp[wg,z0d,wfT,wfTs,w2,w2s,hw.1,hw.2,zdx]
theorem ycz{t:Te}(h:t.ok):(z0d t).ok:=by
 have:=z68 h 0 1;simp[z0d,zi7,this]
theorem Al.le{g:Gr}{n:Nat}{out:List Co}{a b:Te}{most r:Bool}{n':Nat}{e:Int}{out':List Co}(h:Al g n out a b most r n' e out'):n' <= n:=by
 have hE:∀{n:Nat} {t:Te} {n':Nat} {e:Int},He g.env n t n' e->n' <= n:=by
  intro n t n' e h
  induction h with
  |let0=>omega
  |let2=>omega
  |letr _ _ ih=>omega
  |const0=>omega
  |const2=>omega
  |constr _ _ _ _ ih=>omega
  |appf _ ih=>exact ih
  |beta0 h1=>omega
  |beta2 h1=>have:=h1.le;omega
  |betar h1 _ _ ih=>have:=h1.le;omega
 induction h with
 |burn0=>omega
 |headA h=>have:=hE h;omega
 |headB h1 h2=>have:=h1.le;have:=hE h2;omega
 |lam2 h1 h2 _ ih=>have:=h1.le;have:=h2.le;omega
 |lamL h1 h2 _ _ _ ih=>have:=h1.le;have:=h2.le;omega
 |lamLe h1 h2=>have:=h1.le;have:=h2.le;omega
 |lamR h1 _ h2 _ _ ih=>have:=h1.le;have:=h2.le;omega
 |lamRe h1 _ h2=>have:=h1.le;have:=h2.le;omega
 |other h1 _ h2=>have:=h1.le;have:=h2.le;omega
 |var h1 h2=>have:=h1.le;have:=h2.le;omega
 |sortM h1 h2=>have:=h1.le;have:=h2.le;omega
 |lvls _ h1 h2=>have:=h1.le;have:=h2.le;omega
 |two1 _ h1 h2 _ _ ih=>have:=h1.le;have:=h2.le;omega
 |two2 _ h1 h2 _ _ _ ih1 ih2=>have:=h1.le;have:=h2.le;omega
theorem z63(g:Gr):∀(s:Int×List Co) (p q:List Lv),s.2.length<=100->(zm3 g s p q).2.2.length<=100
 |s,a::xs,b::ys,h=>by
  rw[zm3];have h1:=ydm g s a b h
  split
  ·exact z63 g _ xs ys h1
  ·exact h1
 |s,[],_,h=>by simpa [zm3] using h
 |s,_::_,[],h=>by simpa [zm3] using h
theorem Al.len{g:Gr}{n:Nat}{out:List Co}{a b:Te}{most r:Bool}{n':Nat}{e:Int}{out':List Co}(h:Al g n out a b most r n' e out'):out.length<=100->out'.length<=100:=by
 induction h with
 |lam2 _ _ _ ih=>exact ih
 |lamL _ _ _ _ _ ih=>exact ih
 |lamR _ _ _ _ _ ih=>exact ih
 |sortM=>exact fun h=>zo8 g _ _ _ h
 |lvls=>exact fun h=>z63 g _ _ _ h
 |two1 _ _ _ _ _ ih=>exact ih
 |two2 _ _ _ _ _ _ ih1 ih2=>exact fun h=>ih2 (ih1 h)
 |_=>exact id
theorem zq2{g:Gr}{s:Int×List Co}{a b:Lv}(h:(zjh g s a b).1=true):s.1=0/\(zjh g s a b).2.1=0:=by
 unfold zjh at h ⊢
 split at h
 ·cases h
 rename_i h1;have h1:s.1=0:=by simpa using h1
 rw[if_neg (by simp[h1])]
 split at h
 ·rename_i h2
  rw[if_pos h2]
  split at h
  ·cases h
  ·rename_i h3
   rw[if_neg h3];exact⟨h1,rfl⟩
 ·rename_i h2
  rw[if_neg h2]
  split at h
  ·rename_i h3
   rw[if_pos h3];exact⟨h1,h1⟩
  ·cases h
theorem zxg{g:Gr}{s:Int×List Co}{a b:Lv}(h:(zqg g s a b).1=true):s.1=0/\(zqg g s a b).2.1=0:=by
 unfold zqg at h ⊢
 split at h
 ·rename_i h1
  rw[if_pos h1];exact⟨(zq2 h1).1,(zq2 h).2⟩
 ·cases h
theorem z20{g:Gr}:∀{s:Int×List Co} {p q:List Lv},s.1=0->(zm3 g s p q).1=true->(zm3 g s p q).2.1=0
 |s,a::xs,b::ys,hs,h=>by
  rw[zm3]at h ⊢
  split at h
  ·rename_i h1
   rw[if_pos h1];exact z20 (zxg h1).2 h
  ·cases h
 |s,[],_,hs,h=>by simpa [zm3] using hs
 |s,_::_,[],hs,h=>by simpa [zm3] using hs
theorem Al.yes{g:Gr}{n:Nat}{out:List Co}{a b:Te}{most r:Bool}{n':Nat}{e:Int}{out':List Co}(h:Al g n out a b most r n' e out'):r=true->e=0:=by
 induction h with
 |lam2 _ _ _ ih=>exact ih
 |lamL _ _ _ _ _ ih=>exact ih
 |lamR _ _ _ _ _ ih=>exact ih
 |var=>exact fun _=>rfl
 |sortM=>exact fun h=>(zq2 h).2
 |lvls=>exact fun h=>z20 rfl h
 |two2 _ _ _ _ _ _ ih1 ih2=>exact ih2
 |_=>exact fun h=>by cases h
theorem yh4(g:Gr):∀(n:Nat) (out:List Co) (a b:Te) (most:Bool),wg a=true->wg b=true->∃r n' e out',Al g n out a b most r n' e out':=by
 intro n
 induction n using Nat.strongRecOn with
 |ind n ihn=>
 intro out a b most ha hb;rcases n with _|n
 ·exact⟨_,_,_,_,.burn0⟩
 have hwf:∀{t:Te},wg t=true->wfT t=true:=by
  intro t h;simp only[wg,Bool.and_eq_true]at h;exact h.1
 rcases zr9 g.env n a (hwf ha) with⟨a',n1,hda,_⟩|⟨n',e,hea⟩
 case inr=>exact⟨_,_,_,_,.headA hea⟩
 rcases zr9 g.env n1 b (hwf hb) with⟨b',n2,hdb,_⟩|⟨n',e,heb⟩
 case inr=>exact⟨_,_,_,_,.headB hda heb⟩
 have hle:n2<=n:=Nat.le_trans hdb.le hda.le;have hwa:=hda.wg ha;have hwb:=hdb.wg hb;have h7a:=hda.k7;have h7b:=hdb.k7;rcases a' with⟨k,N,ls,ks⟩;rcases b' with⟨k',N',ls',ks'⟩;by_cases k5:k=5
 ·subst k5
  obtain⟨s,x,rfl,hs,hx⟩:=z0k hwa (by omega)
  by_cases k5':k' = 5
  ·subst k5'
   obtain⟨s',y,rfl,hs',hy⟩:=z0k hwb (by omega)
   obtain⟨r,n',e,out',h⟩:=ihn n2 (by omega) out x y false hx hy
   exact⟨_,_,_,_,.lam2 hda hdb h⟩
  ·by_cases hL:(zh1 (.mk k' N' ls' ks') 0 1).2=0
   ·obtain⟨r,n',e,out',h⟩:=ihn n2 (by omega) out x (z0d (.mk k' N' ls' ks')) false hx (zzq hL)
    exact⟨_,_,_,_,.lamL hda hdb k5' hL h⟩
   ·exact⟨_,_,_,_,.lamLe hda hdb k5' hL⟩
 by_cases k5':k' = 5
 ·subst k5'
  obtain⟨s',y,rfl,hs',hy⟩:=z0k hwb (by omega)
  by_cases hL:(zh1 (.mk k N ls ks) 0 1).2=0
  ·obtain⟨r,n',e,out',h⟩:=ihn n2 (by omega) out (z0d (.mk k N ls ks)) y false (zzq hL) hy
   exact⟨_,_,_,_,.lamR hda k5 hdb hL h⟩
  ·exact⟨_,_,_,_,.lamRe hda k5 hdb hL⟩
 by_cases ho:k≠k' \/ N≠N' \/ ls.length≠ls'.length
 ·exact⟨_,_,_,_,.other hda k5 hdb k5' ho⟩
 simp only[not_or,ne_eq,Decidable.not_not]at ho;obtain⟨rfl,rfl,hl⟩:=ho;rcases wg_kind hwa h7a with rfl|rfl|rfl|h46
 ·exact⟨_,_,_,_,.var hda hdb hl⟩
 ·cases most
  ·exact⟨_,_,_,_,.lvls (.inl ⟨rfl,rfl⟩) hda hdb hl⟩
  ·have l1:=(zh2 hwa).2.1 rfl
   obtain⟨x,rfl⟩:=List.length_eq_one_iff.1 l1;obtain⟨y,rfl⟩:=List.length_eq_one_iff.1 (hl.symm.trans l1);exact⟨_,_,_,_,.sortM hda hdb⟩
 ·exact⟨_,_,_,_,.lvls (.inr rfl) hda hdb hl⟩
 ·have h46:k=4\/k=6:=by omega
  obtain⟨f,x,rfl,hf,hx⟩:=z0k hwa (by omega)
  obtain⟨f',x',rfl,hf',hx'⟩:=z0k hwb (by omega)
  obtain⟨r,n3,e,out1,h⟩:=ihn n2 (by omega) out f f' false hf hf'
  cases r
  ·exact⟨_,_,_,_,.two1 h46 hda hdb hl h⟩
  ·have he:=h.yes rfl
   subst he;have:=h.le;obtain⟨r,n',e,out',h2⟩:=ihn n3 (by omega) out1 x x' (decide (k=6) && most) hx hx'
   exact⟨_,_,_,_,.two2 h46 hda hdb hl h h2⟩
end Go.Ab
end
section
set_option linter.unusedVariables false
set_option linter.unusedSimpArgs false
set_option maxRecDepth 100000
set_option maxHeartbeats 4000000
namespace Go.Ab
open Go.RowKit Go.Proofs
def zvv:List (AV×AV):=[(.agg [.int .i64 1,.int .i64 1],.fn (.func zbp) [] []),(.agg [.int .i64 2,.int .i64 2],.fn (.func zb6) [] []),(.agg [.int .i64 3,.int .i64 3],.fn (.func zbu) [] []),(.agg [.int .i64 4,.int .i64 4],.fn (.func zcf) [] []),(.agg [.int .i64 6,.int .i64 6],.fn (.func zcz) [] [])]
theorem ze5(H:List AO):F zow [] H=some (.ret (.fmap zvv),H):=by
 rw[z4x];simp only[↓reduceIte,go_sem,ztu,zyj,zdp,zn0,ltL,zvv,List.length_cons,List.length_nil,List.cons.injEq,and_false,false_and]
theorem zz1(k k':Int):∃o,zdp 2 [k,k'] zvv=some o:=by
 simp only[zvv,zdp,ztu,zyj,List.length_cons,List.length_nil,↓reduceIte];exact⟨_,rfl⟩
theorem ydr{k k':Int}(h:k≠k'):zdp 2 [k,k'] zvv=some none:=by
 simp only[zvv,zdp,ztu,zyj,List.length_cons,List.length_nil,↓reduceIte];have:∀c:Int,¬ ([c,c]=[k,k']):=by intro c hc;simp at hc;omega
 simp only[this,↓reduceIte]
theorem asks_1:zdp 2 [1,1] zvv=some (some (.fn (.func zbp) [] [])):=rfl
theorem yju:zdp 2 [2,2] zvv=some (some (.fn (.func zb6) [] [])):=rfl
theorem asks_3:zdp 2 [3,3] zvv=some (some (.fn (.func zbu) [] [])):=rfl
theorem yjt:zdp 2 [4,4] zvv=some (some (.fn (.func zcf) [] [])):=rfl
theorem yjs:zdp 2 [6,6] zvv=some (some (.fn (.func zcz) [] [])):=rfl
theorem zdy(k k':Int):ztu 2 (.agg [.int .i64 k,.int .i64 k'])=some [k,k']:=rfl
theorem zfl(A:List AO)(g:Gr)(n e:Int)(ver:Nat)(out:List Co)(X:List AO):zg6 A g n e ver out X=A++(.box [.sl (De.css g.env),.int .i64 n,.int .i64 e] :: .lst 0 11 [] :: .lst 0 6 [] :: .lst ver 6 (Co.css out) :: .box [.ptr A.length 0,.sl (De.css g.env),.int .i64 g.params,.int .i64 g.metas,.sl (Co.css g.cons),.int .i64 g.mode,.ol (A.length+3) ver]::X):=rfl
theorem zd1(g:Gr)(A X:List AO)(n:Nat)(hn:n+1<=1000000)(ver:Nat)(out:List Co):F zaj [.ptr A.length 0] (zg6 A g (n+1:Nat) 0 ver out X)=some (.ret (.bool true),zg6 A g n 0 ver out X):=by
 have h:=zlp g.env (n+1:Nat) (by omega) A (.lst 0 11 [] :: .lst 0 6 [] :: .lst ver 6 (Co.css out) :: .box (.ptr A.length 0::(g.cs++[.ol (A.length+3) ver]))::X)
 rw[if_neg (by omega),show ((n+1:Nat):Int) - 1=(n:Int) by omega]at h
 exact h
theorem yeh(g:Gr)(A X:List AO)(ver:Nat)(out:List Co):F zaj [.ptr A.length 0] (zg6 A g 0 0 ver out X)=some (.ret (.bool false),zg6 A g 0 40 ver out X):=by
 have h:=zlp g.env 0 (by omega) A (.lst 0 11 [] :: .lst 0 6 [] :: .lst ver 6 (Co.css out) :: .box (.ptr A.length 0::(g.cs++[.ol (A.length+3) ver]))::X)
 rw[if_pos rfl]at h;exact h
theorem za7(g:Gr)(hE:zta g.env){n:Nat}{t t':Te}{n':Nat}(h:Hd g.env n t t' n')(ht:t.ok)(hs:sz t+600*n<=500000000)(A X:List AO)(ver:Nat)(out:List Co):
  F zaw [.ptr A.length 0,.agg t.cs] (zg6 A g n 0 ver out X)=some (.ret (.agg t'.cs),zg6 A g n' 0 ver out X) :=
 yig A (.lst 0 11 [] :: .lst 0 6 [] :: .lst ver 6 (Co.css out) :: .box (.ptr A.length 0::(g.cs++[AV.ol (A.length+3) ver]))::X) g.env hE h ht hs
theorem zxn(g:Gr)(hE:zta g.env){n:Nat}{t:Te}{n':Nat}{e:Int}(h:He g.env n t n' e)(ht:t.ok)(hs:sz t+600*n<=500000000)(A X:List AO)(ver:Nat)(out:List Co):
  ∃x:Te,F zaw [.ptr A.length 0,.agg t.cs] (zg6 A g n 0 ver out X)=some (.ret (.agg x.cs),zg6 A g n' e ver out X) :=
 yih A (.lst 0 11 [] :: .lst 0 6 [] :: .lst ver 6 (Co.css out) :: .box (.ptr A.length 0::(g.cs++[AV.ol (A.length+3) ver]))::X) g.env hE h ht hs
theorem z87(g:Gr)(x:Te)(n e:Int)(he:e≠0)(A X:List AO)(ver:Nat)(out:List Co):
  F zaw [.ptr A.length 0,.agg x.cs] (zg6 A g n e ver out X)=some (.ret (.agg x.cs),zg6 A g n e ver out X):=by
 rcases x with⟨k,N,ls,ks⟩;have h:=yec A (.lst 0 11 [] :: .lst 0 6 [] :: .lst ver 6 (Co.css out) :: .box (.ptr A.length 0::(g.cs++[AV.ol (A.length+3) ver]))::X) g.env n e n e 0 [] (by simp) k N ls ks (.inl he)
 rw[<- z5b]at h;exact h
theorem zxq(p m:AV)(k N:Int)(ls:List Lv)(ks:List Te)(k' N':Int)(ls':List Lv)(ks':List Te)(H:List AO):F zbp [p,.agg [.int .i64 k,.int .i64 N,.sl (Lv.css ls),.sl (Te.css ks)],.agg [.int .i64 k',.int .i64 N',.sl (Lv.css ls'),.sl (Te.css ks')],m] H=some (.ret (.bool true),H):=by
 rw[zmv];simp only[↓reduceIte,go_sem]
theorem zrp{k N:Int}{ls:List Lv}{x y:Te}:sz (.mk k N ls [x,y])=sz x+sz y+1:=by simp[sz,subs,subss]
theorem yjl{t:Te}(h:(zh1 t 0 1).2=0):sz (z0d t)<=602:=by
 have:za6 (zh1 t 0 1).1=true:=by
  revert h;unfold zh1 zs7
  split
  ·intro h;cases h
  ·split
   ·intro _;assumption
   ·intro h;cases h
 have:=zm9 this;rw[z0d,zrp];have:sz (.mk 1 0 [] [])=1:=rfl;omega
section
variable (g : Gr) (hcons : ∀ c ∈ g.cons, c.ok) (hcl : g.cons.length ≤ 1000) (hmode : g.mode = 1 ∨ g.mode = 2)
include hcons hcl hmode
theorem z94(x y:Lv)(hx:x.ok)(hy:y.ok)(k N k' N':Int)(ks ks':List Te)(A X:List AO)(n:Int)(ver:Nat)(out:List Co)(ho:out.length<=100):∃ver',
  F zb6 [.ptr (A.length+4) 0,.agg [.int .i64 k,.int .i64 N,.sl (Lv.css [x]),.sl (Te.css ks)],.agg [.int .i64 k',.int .i64 N',.sl (Lv.css [y]),.sl (Te.css ks')],.bool true] (zg6 A g n 0 ver out X)=some (.ret (.bool (zjh g (0,out) x y).1),zg6 A g n (zjh g (0,out) x y).2.1 ver' (zjh g (0,out) x y).2.2 X):=by
 obtain⟨v1,hI⟩:=zvz g hcons hcl hmode x y hx hy A X n 0 ver out ho;have hfin:=zdi A X g n 0 ver out n (zjh g (0,out) x y).2.1 v1 (zjh g (0,out) x y).2.2 (zjh g (0,out) x y).1;refine⟨v1,?_⟩;rw[zjr];simp only[↓reduceIte,go_sem,Lv.css,hI,hfin]
theorem z95(P Q:List Lv)(hP:∀x∈P,x.ok)(hQ:∀x∈Q,x.ok)(hlen:P.length=Q.length)(hb:P.length<=140737488355328)(k N k' N':Int)(ks ks':List Te)(A X:List AO)(n:Int)(ver:Nat)(out:List Co)(ho:out.length<=100):∃ver',
  F zb6 [.ptr (A.length+4) 0,.agg [.int .i64 k,.int .i64 N,.sl (Lv.css P),.sl (Te.css ks)],.agg [.int .i64 k',.int .i64 N',.sl (Lv.css Q),.sl (Te.css ks')],.bool false] (zg6 A g n 0 ver out X)=some (.ret (.bool (zm3 g (0,out) P Q).1),zg6 A g n (zm3 g (0,out) P Q).2.1 ver' (zm3 g (0,out) P Q).2.2 X):=by
 obtain⟨v1,hI⟩:=zu0 g hcons hcl hmode P Q hP hQ hlen hb k N k' N' ks ks' (.bool false) A X n 0 ver out ho;have hfin:=zdi A X g n 0 ver out n (zm3 g (0,out) P Q).2.1 v1 (zm3 g (0,out) P Q).2.2 (zm3 g (0,out) P Q).1;refine⟨v1,?_⟩;simp only[Te.cs]at hI;rw[zjr];simp only[↓reduceIte,go_sem,hI,hfin]
end
theorem yei(g:Gr)(hE:zta g.env)(hcons:∀c∈g.cons,c.ok)(hcl:g.cons.length<=1000)(hmode:g.mode=1\/g.mode=2){n:Nat}{out:List Co}{a b:Te}{most r:Bool}{n':Nat}{e:Int}{out':List Co}(h:Al g n out a b most r n' e out'):
  a.ok->b.ok->wg a=true->wg b=true->sz a+600*n<=400000000->sz b+600*n<=400000000->n<=500000->out.length<=100->∀(A X:List AO) (ver:Nat),∃ver',F za9 [.ptr (A.length+4) 0,.agg a.cs,.agg b.cs,.bool most] (zg6 A g n 0 ver out X)=some (.ret (.bool r),zg6 A g n' e ver' out' X):=by
 induction h with
 |@burn0 out a b most=>
  intro ha hb hwa hwb hsa hsb hn ho A X ver;have hB:=yeh g A X ver out;have hfin:=zdi A X g 0 0 ver out 0 40 ver out false;refine⟨ver,?_⟩;rcases a with⟨ka,Na,lsa,ksa⟩;rcases b with⟨kb,Nb,lsb,ksb⟩;rw[zak];simp only[zfl]at hB hfin;simp only[↓reduceIte,go_sem,zfl,ze5,zdy,Int.natCast_zero,Te.cs,hB,hfin]
 |@headA n out a b most n' e hda=>
  intro ha hb hwa hwb hsa hsb hn ho A X ver;have hB:=zd1 g A X n (by omega) ver out
  obtain⟨⟨kx,Nx,lx,kx2⟩,hH1⟩:=zxn g hE hda ha (by omega) A X ver out
  have hne:=hda.ne;have hH2:=z87 g b n' e hne A X ver out;have hfin:=zdi A X g (n+1:Nat) 0 ver out n' e ver out false;refine⟨ver,?_⟩;rcases a with⟨ka,Na,lsa,ksa⟩;rcases b with⟨kb,Nb,lsb,ksb⟩;rw[zak];simp only[zfl,Te.cs]at hB hfin hH1 hH2;obtain⟨o,hany⟩:=zz1 kx kb
  cases o <;>
  ·simp only[↓reduceIte,go_sem,zfl,ze5,zdy,Te.cs,hB,hH1,hH2,hne,hany,hfin]
 |@headB n out a b a' most n1 n' e hda heb=>
  intro ha hb hwa hwb hsa hsb hn ho A X ver;have hB:=zd1 g A X n (by omega) ver out
  have hH1:=za7 g hE hda ha (by omega) A X ver out
  obtain⟨⟨kx,Nx,lx,kx2⟩,hH2⟩:=zxn g hE heb hb (by have:=hda.le;omega) A X ver out
  have hne:=heb.ne;have hfin:=zdi A X g (n+1:Nat) 0 ver out n' e ver out false;refine⟨ver,?_⟩;rcases a with⟨ka,Na,lsa,ksa⟩;rcases b with⟨kb,Nb,lsb,ksb⟩;rw[zak];rcases a' with⟨k3,N3,ls3,ks3⟩;simp only[zfl,Te.cs]at hB hfin hH1 hH2;obtain⟨o,hany⟩:=zz1 k3 kx
  cases o <;>
  ·simp only[↓reduceIte,go_sem,zfl,ze5,zdy,Te.cs,hB,hH1,hH2,hne,hany,hfin]
 |@lam2 n out a b s x s' y N N' ls ls' most r n1 n2 n' e out' hda hdb hal ih=>
  intro ha hb hwa hwb hsa hsb hn ho A X ver;have hB:=zd1 g A X n (by omega) ver out
  have hH1:=za7 g hE hda ha (by omega) A X ver out
  have hH2:=za7 g hE hdb hb (by have:=hda.le;omega) A X ver out
  have hoa:=hda.ok hE ha;have hob:=hdb.ok hE hb;have hwa':=hda.wg hwa;have hwb':=hdb.wg hwb;have hle1:=hda.le;have hle2:=hdb.le;have hz1:=hda.sz;have hz2:=hdb.sz;rw[zrp]at hz1 hz2;obtain⟨v1,hI⟩:=ih (hoa.all x (by simp)) (hob.all y (by simp)) ((zh2 hwa').2.2 x (by simp)) ((zh2 hwb').2.2 y (by simp)) (by omega) (by omega) (by omega) ho A X ver
  have hT1:=zpj g N ls s x A X n2 0 ver out;have hT2:=zpj g N' ls' s' y A X n2 0 ver out;rcases x with⟨k3,N3,ls3,ks3⟩;rcases y with⟨k4,N4,ls4,ks4⟩;have hfin:=zdi A X g (n+1:Nat) 0 ver out n' e v1 out' r;refine⟨v1,?_⟩;rcases a with⟨ka,Na,lsa,ksa⟩;rcases b with⟨kb,Nb,lsb,ksb⟩;rw[zak];simp only[zfl,Te.cs,Te.css,Lv.css]at hB hfin hH1 hH2 hI hT1 hT2;simp only[↓reduceIte,go_sem,zfl,ze5,zdy,Te.cs,Te.css,Lv.css,hB,hH1,hH2,hI,hT1,hT2,hfin]
 |@lamL n out a b b' s x N ls most r n1 n2 n' e out' hda hdb hk hL hal ih=>
  intro ha hb hwa hwb hsa hsb hn ho A X ver;have hB:=zd1 g A X n (by omega) ver out
  have hH1:=za7 g hE hda ha (by omega) A X ver out
  have hH2:=za7 g hE hdb hb (by have:=hda.le;omega) A X ver out
  have hoa:=hda.ok hE ha;have hob:=hdb.ok hE hb;have hwa':=hda.wg hwa;have hwb':=hdb.wg hwb;have hle1:=hda.le;have hle2:=hdb.le;have hz1:=hda.sz;have hz2:=hdb.sz;rw[zrp]at hz1;have hz3:=yjl hL;obtain⟨v1,hI⟩:=ih (hoa.all x (by simp)) (ycz hob) ((zh2 hwa').2.2 x (by simp)) (zzq hL) (by omega) (by omega) (by omega) ho A X ver
  have hT1:=zpj g N ls s x A X n2 0 ver out;have hT2:=zri g b' hob hk A X n2 ver out;rw[hL]at hT2;rcases b' with⟨k',N',ls',ks'⟩;rcases x with⟨k4,N4,ls4,ks4⟩;rcases hq:z0d (.mk k' N' ls' ks') with⟨k3,N3,ls3,ks3⟩;rw[hq]at hI hT2;have hfin:=zdi A X g (n+1:Nat) 0 ver out n' e v1 out' r;refine⟨v1,?_⟩;rcases a with⟨ka,Na,lsa,ksa⟩;rcases b with⟨kb,Nb,lsb,ksb⟩;rw[zak];simp only[zfl,Te.cs,Te.css,Lv.css]at hB hfin hH1 hH2 hI hT1 hT2;simp only[↓reduceIte,go_sem,zfl,ze5,zdy,Te.cs,Te.css,Lv.css,hB,hH1,hH2,hI,hT1,hT2,hfin]
 |@lamLe n out a b b' s x N ls most n1 n2 hda hdb hk hL=>
  intro ha hb hwa hwb hsa hsb hn ho A X ver;have hB:=zd1 g A X n (by omega) ver out
  have hH1:=za7 g hE hda ha (by omega) A X ver out
  have hH2:=za7 g hE hdb hb (by have:=hda.le;omega) A X ver out
  have hoa:=hda.ok hE ha;have hob:=hdb.ok hE hb;have hwa':=hda.wg hwa;have hwb':=hdb.wg hwb;have hle1:=hda.le;have hle2:=hdb.le;have hz1:=hda.sz;have hz2:=hdb.sz;have hT1:=zpj g N ls s x A X n2 0 ver out;have hT2:=zri g b' hob hk A X n2 ver out;generalize (zh1 b' 0 1).2=e at *;rcases b' with⟨k',N',ls',ks'⟩;rcases x with⟨k4,N4,ls4,ks4⟩;rcases hq:z0d (.mk k' N' ls' ks') with⟨k3,N3,ls3,ks3⟩;rw[hq]at hT2;have hfin:=zdi A X g (n+1:Nat) 0 ver out n2 e ver out false;refine⟨ver,?_⟩;rcases a with⟨ka,Na,lsa,ksa⟩;rcases b with⟨kb,Nb,lsb,ksb⟩;rw[zak];simp only[zfl,Te.cs,Te.css,Lv.css]at hB hfin hH1 hH2 hT1 hT2;simp only[↓reduceIte,go_sem,zfl,ze5,zdy,Te.cs,Te.css,Lv.css,hB,hH1,hH2,hT1,hT2,hL,hfin]
 |@lamR n out a b a' s y N ls most r n1 n2 n' e out' hda hk hdb hL hal ih=>
  intro ha hb hwa hwb hsa hsb hn ho A X ver;have hB:=zd1 g A X n (by omega) ver out
  have hH1:=za7 g hE hda ha (by omega) A X ver out
  have hH2:=za7 g hE hdb hb (by have:=hda.le;omega) A X ver out
  have hoa:=hda.ok hE ha;have hob:=hdb.ok hE hb;have hwa':=hda.wg hwa;have hwb':=hdb.wg hwb;have hle1:=hda.le;have hle2:=hdb.le;have hz1:=hda.sz;have hz2:=hdb.sz;rw[zrp]at hz2;have hz3:=yjl hL;obtain⟨v1,hI⟩:=ih (ycz hoa) (hob.all y (by simp)) (zzq hL) ((zh2 hwb').2.2 y (by simp)) (by omega) (by omega) (by omega) ho A X ver
  have hT1:=zri g a' hoa hk A X n2 ver out;have hT2:=zpj g N ls s y A X n2 0 ver out;rw[hL]at hT1;rcases a' with⟨k',N',ls',ks'⟩;rcases y with⟨k4,N4,ls4,ks4⟩;have hk:¬ k' = 5:=hk;rcases hq:z0d (.mk k' N' ls' ks') with⟨k3,N3,ls3,ks3⟩;rw[hq]at hI hT1;have hfin:=zdi A X g (n+1:Nat) 0 ver out n' e v1 out' r;refine⟨v1,?_⟩;rcases a with⟨ka,Na,lsa,ksa⟩;rcases b with⟨kb,Nb,lsb,ksb⟩;rw[zak];simp only[zfl,Te.cs,Te.css,Lv.css]at hB hfin hH1 hH2 hI hT1 hT2;simp only[↓reduceIte,go_sem,zfl,ze5,zdy,Te.cs,Te.css,Lv.css,hB,hH1,hH2,hI,hT1,hT2,hk,hfin]
 |@lamRe n out a b a' s y N ls most n1 n2 hda hk hdb hL=>
  intro ha hb hwa hwb hsa hsb hn ho A X ver;have hB:=zd1 g A X n (by omega) ver out
  have hH1:=za7 g hE hda ha (by omega) A X ver out
  have hH2:=za7 g hE hdb hb (by have:=hda.le;omega) A X ver out
  have hoa:=hda.ok hE ha;have hob:=hdb.ok hE hb;have hwa':=hda.wg hwa;have hwb':=hdb.wg hwb;have hle1:=hda.le;have hle2:=hdb.le;have hz1:=hda.sz;have hz2:=hdb.sz;have hT1:=zri g a' hoa hk A X n2 ver out;generalize (zh1 a' 0 1).2=e at *;have hT2:=zpj g N ls s y A X n2 e ver out;rcases a' with⟨k',N',ls',ks'⟩;rcases y with⟨k4,N4,ls4,ks4⟩;have hk:¬ k' = 5:=hk;rcases hq:z0d (.mk k' N' ls' ks') with⟨k3,N3,ls3,ks3⟩;rw[hq]at hT1;have hfin:=zdi A X g (n+1:Nat) 0 ver out n2 e ver out false;refine⟨ver,?_⟩;rcases a with⟨ka,Na,lsa,ksa⟩;rcases b with⟨kb,Nb,lsb,ksb⟩;rw[zak];simp only[zfl,Te.cs,Te.css,Lv.css]at hB hfin hH1 hH2 hT1 hT2;simp only[↓reduceIte,go_sem,zfl,ze5,zdy,Te.cs,Te.css,Lv.css,hB,hH1,hH2,hT1,hT2,hk,hL,hfin]
 |@other n out a b k N k' N' ls ls' ks ks' most n1 n2 hda hk5 hdb hk5' hne=>
  intro ha hb hwa hwb hsa hsb hn ho A X ver;have hB:=zd1 g A X n (by omega) ver out
  have hH1:=za7 g hE hda ha (by omega) A X ver out
  have hH2:=za7 g hE hdb hb (by have:=hda.le;omega) A X ver out
  have hoa:=hda.ok hE ha;have hob:=hdb.ok hE hb;have hwa':=hda.wg hwa;have hwb':=hdb.wg hwb;have hle1:=hda.le;have hle2:=hdb.le;have hz1:=hda.sz;have hz2:=hdb.sz;have hfin:=zdi A X g (n+1:Nat) 0 ver out n2 0 ver out false;refine⟨ver,?_⟩;rcases a with⟨ka,Na,lsa,ksa⟩;rcases b with⟨kb,Nb,lsb,ksb⟩;rw[zak];simp only[zfl,Te.cs]at hB hfin hH1 hH2;by_cases c1:k=k'
  ·obtain⟨o,hany⟩:=zz1 k k'
   subst c1;by_cases c2:N=N'
   ·have c3:¬ (ls.length:Int)=(ls'.length:Int):=by rcases hne with h|h|h <;> omega
    cases o <;>
    ·simp only[↓reduceIte,go_sem,zfl,ze5,zdy,Te.cs,hB,hH1,hH2,hk5,hany,c2,c3,hfin]
   ·cases o <;>
    ·simp only[↓reduceIte,go_sem,zfl,ze5,zdy,Te.cs,hB,hH1,hH2,hk5,hany,c2,hfin]
  ·simp only[↓reduceIte,go_sem,zfl,ze5,zdy,Te.cs,hB,hH1,hH2,hk5,hk5',ydr c1,hfin]
 |@var n out a b N ls ls' ks ks' most n1 n2 hda hdb hl=>
  intro ha hb hwa hwb hsa hsb hn ho A X ver;have hB:=zd1 g A X n (by omega) ver out
  have hH1:=za7 g hE hda ha (by omega) A X ver out
  have hH2:=za7 g hE hdb hb (by have:=hda.le;omega) A X ver out
  have hoa:=hda.ok hE ha;have hob:=hdb.ok hE hb;have hwa':=hda.wg hwa;have hwb':=hdb.wg hwb;have hle1:=hda.le;have hle2:=hdb.le;have hz1:=hda.sz;have hz2:=hdb.sz;have hlI:(ls.length:Int)=(ls'.length:Int):=by omega
  have hfin:=zdi A X g (n+1:Nat) 0 ver out n2 0 ver out true;refine⟨ver,?_⟩;rcases a with⟨ka,Na,lsa,ksa⟩;rcases b with⟨kb,Nb,lsb,ksb⟩;rw[zak];simp only[zfl,Te.cs]at hB hfin hH1 hH2;simp only[↓reduceIte,go_sem,zfl,ze5,zdy,asks_1,zxq,Te.cs,hB,hH1,hH2,hlI,hfin]
 |@sortM n out a b N x y ks ks' n1 n2 hda hdb=>
  intro ha hb hwa hwb hsa hsb hn ho A X ver;have hB:=zd1 g A X n (by omega) ver out
  have hH1:=za7 g hE hda ha (by omega) A X ver out
  have hH2:=za7 g hE hdb hb (by have:=hda.le;omega) A X ver out
  have hoa:=hda.ok hE ha;have hob:=hdb.ok hE hb;have hwa':=hda.wg hwa;have hwb':=hdb.wg hwb;have hle1:=hda.le;have hle2:=hdb.le;have hz1:=hda.sz;have hz2:=hdb.sz;obtain⟨v1,hI⟩:=z94 g hcons hcl hmode x y (hoa.all2 x (by simp)) (hob.all2 y (by simp)) 2 N 2 N ks ks' A X n2 ver out ho
  have hfin:=zdi A X g (n+1:Nat) 0 ver out n2 (zjh g (0,out) x y).2.1 v1 (zjh g (0,out) x y).2.2 (zjh g (0,out) x y).1;refine⟨v1,?_⟩;rcases a with⟨ka,Na,lsa,ksa⟩;rcases b with⟨kb,Nb,lsb,ksb⟩;rw[zak];simp only[zfl,Te.cs,Lv.css]at hB hfin hH1 hH2 hI;simp only[↓reduceIte,go_sem,zfl,ze5,zdy,yju,Te.cs,Lv.css,List.length_cons,List.length_nil,hB,hH1,hH2,hI,hfin]
 |@lvls n out a b k N ls ls' ks ks' most n1 n2 hk hda hdb hl=>
  intro ha hb hwa hwb hsa hsb hn ho A X ver;have hB:=zd1 g A X n (by omega) ver out
  have hH1:=za7 g hE hda ha (by omega) A X ver out
  have hH2:=za7 g hE hdb hb (by have:=hda.le;omega) A X ver out
  have hoa:=hda.ok hE ha;have hob:=hdb.ok hE hb;have hwa':=hda.wg hwa;have hwb':=hdb.wg hwb;have hle1:=hda.le;have hle2:=hdb.le;have hz1:=hda.sz;have hz2:=hdb.sz;have hlI:(ls.length:Int)=(ls'.length:Int):=by omega
  rcases hk with⟨rfl,rfl⟩|rfl
  ·obtain⟨v1,hI⟩:=z95 g hcons hcl hmode ls ls' hoa.all2 hob.all2 hl hoa.len2 2 N 2 N ks ks' A X n2 ver out ho
   have hfin:=zdi A X g (n+1:Nat) 0 ver out n2 (zm3 g (0,out) ls ls').2.1 v1 (zm3 g (0,out) ls ls').2.2 (zm3 g (0,out) ls ls').1;refine⟨v1,?_⟩;rcases a with⟨ka,Na,lsa,ksa⟩;rcases b with⟨kb,Nb,lsb,ksb⟩;rw[zak];simp only[zfl,Te.cs]at hB hfin hH1 hH2 hI;simp only[↓reduceIte,go_sem,zfl,ze5,zdy,yju,Te.cs,hB,hH1,hH2,hI,hlI,hfin]
  ·obtain⟨v1,hI⟩:=zu0 g hcons hcl hmode ls ls' hoa.all2 hob.all2 hl hoa.len2 3 N 3 N ks ks' (.bool most) A X n2 0 ver out ho
   have hfin:=zdi A X g (n+1:Nat) 0 ver out n2 (zm3 g (0,out) ls ls').2.1 v1 (zm3 g (0,out) ls ls').2.2 (zm3 g (0,out) ls ls').1;refine⟨v1,?_⟩;rcases a with⟨ka,Na,lsa,ksa⟩;rcases b with⟨kb,Nb,lsb,ksb⟩;rw[zak];simp only[zfl,Te.cs]at hB hfin hH1 hH2 hI;simp only[↓reduceIte,go_sem,zfl,ze5,zdy,asks_3,Te.cs,hB,hH1,hH2,hI,hlI,hfin]
 |@two1 n out a b f x f' x' k N ls ls' most n1 n2 n' e out' hk hda hdb hl hal ih=>
  intro ha hb hwa hwb hsa hsb hn ho A X ver;have hB:=zd1 g A X n (by omega) ver out
  have hH1:=za7 g hE hda ha (by omega) A X ver out
  have hH2:=za7 g hE hdb hb (by have:=hda.le;omega) A X ver out
  have hoa:=hda.ok hE ha;have hob:=hdb.ok hE hb;have hwa':=hda.wg hwa;have hwb':=hdb.wg hwb;have hle1:=hda.le;have hle2:=hdb.le;have hz1:=hda.sz;have hz2:=hdb.sz;have hlI:(ls.length:Int)=(ls'.length:Int):=by omega
  rw[zrp]at hz1 hz2;obtain⟨v1,hI⟩:=ih (hoa.all f (by simp)) (hob.all f' (by simp)) ((zh2 hwa').2.2 f (by simp)) ((zh2 hwb').2.2 f' (by simp)) (by omega) (by omega) (by omega) ho A X ver
  have hfin:=zdi A X g (n+1:Nat) 0 ver out n' e v1 out' false;refine⟨v1,?_⟩;rcases a with⟨ka,Na,lsa,ksa⟩;rcases b with⟨kb,Nb,lsb,ksb⟩;rw[zak];simp only[Te.cs,Te.css]at hH1 hH2;rcases hk with rfl|rfl
  ·have hQ:F zcf [.ptr (A.length+4) 0,.agg [.int .i64 4,.int .i64 N,.sl (Lv.css ls),.sl [f.cs,x.cs]],.agg [.int .i64 4,.int .i64 N,.sl (Lv.css ls'),.sl [f'.cs,x'.cs]],.bool most] (zg6 A g n2 0 ver out X)=some (.ret (.bool false),zg6 A g n' e v1 out' X):=by
    have hfin:=zdi A X g n2 0 ver out n' e v1 out' false;rcases f with⟨k3,N3,ls3,ks3⟩;rcases x with⟨k4,N4,ls4,ks4⟩;rcases f' with⟨k5,N5,ls5,ks5⟩;rcases x' with⟨k6,N6,ls6,ks6⟩;rw[zk6];simp only[Te.cs]at hI;simp only[↓reduceIte,go_sem,Te.cs,hI,hfin]
   simp only[zfl]at hB hfin hH1 hH2 hQ;simp only[↓reduceIte,go_sem,zfl,ze5,zdy,yjt,Te.cs,Te.css,hB,hH1,hH2,hQ,hlI,hfin]
  ·have hQ:F zcz [.ptr (A.length+4) 0,.agg [.int .i64 6,.int .i64 N,.sl (Lv.css ls),.sl [f.cs,x.cs]],.agg [.int .i64 6,.int .i64 N,.sl (Lv.css ls'),.sl [f'.cs,x'.cs]],.bool most] (zg6 A g n2 0 ver out X)=some (.ret (.bool false),zg6 A g n' e v1 out' X):=by
    have hfin:=zdi A X g n2 0 ver out n' e v1 out' false;rcases f with⟨k3,N3,ls3,ks3⟩;rcases x with⟨k4,N4,ls4,ks4⟩;rcases f' with⟨k5,N5,ls5,ks5⟩;rcases x' with⟨k6,N6,ls6,ks6⟩;rw[zln];simp only[Te.cs]at hI;simp only[↓reduceIte,go_sem,Te.cs,hI,hfin]
   simp only[zfl]at hB hfin hH1 hH2 hQ;simp only[↓reduceIte,go_sem,zfl,ze5,zdy,yjs,Te.cs,Te.css,hB,hH1,hH2,hQ,hlI,hfin]
 |@two2 n out a b f x f' x' k N ls ls' most r n1 n2 n3 n' e out1 out' hk hda hdb hl hal hal2 ih1 ih2=>
  intro ha hb hwa hwb hsa hsb hn ho A X ver;have hB:=zd1 g A X n (by omega) ver out
  have hH1:=za7 g hE hda ha (by omega) A X ver out
  have hH2:=za7 g hE hdb hb (by have:=hda.le;omega) A X ver out
  have hoa:=hda.ok hE ha;have hob:=hdb.ok hE hb;have hwa':=hda.wg hwa;have hwb':=hdb.wg hwb;have hle1:=hda.le;have hle2:=hdb.le;have hz1:=hda.sz;have hz2:=hdb.sz;have hlI:(ls.length:Int)=(ls'.length:Int):=by omega
  rw[zrp]at hz1 hz2;have hle3:=hal.le;obtain⟨v1,hI⟩:=ih1 (hoa.all f (by simp)) (hob.all f' (by simp)) ((zh2 hwa').2.2 f (by simp)) ((zh2 hwb').2.2 f' (by simp)) (by omega) (by omega) (by omega) ho A X ver
  obtain⟨v2,hJ⟩:=ih2 (hoa.all x (by simp)) (hob.all x' (by simp)) ((zh2 hwa').2.2 x (by simp)) ((zh2 hwb').2.2 x' (by simp)) (by omega) (by omega) (by omega) (hal.len ho) A X v1
  have hfin:=zdi A X g (n+1:Nat) 0 ver out n' e v2 out' r;refine⟨v2,?_⟩;rcases a with⟨ka,Na,lsa,ksa⟩;rcases b with⟨kb,Nb,lsb,ksb⟩;rw[zak];simp only[Te.cs,Te.css]at hH1 hH2;rcases hk with rfl|rfl
  ·simp only[show decide ((4:Int)=6)=false from rfl,Bool.false_and]at hJ
   have hQ:F zcf [.ptr (A.length+4) 0,.agg [.int .i64 4,.int .i64 N,.sl (Lv.css ls),.sl [f.cs,x.cs]],.agg [.int .i64 4,.int .i64 N,.sl (Lv.css ls'),.sl [f'.cs,x'.cs]],.bool most] (zg6 A g n2 0 ver out X)=some (.ret (.bool r),zg6 A g n' e v2 out' X):=by
    have hfin:=zdi A X g n2 0 ver out n' e v2 out' r;rcases f with⟨k3,N3,ls3,ks3⟩;rcases x with⟨k4,N4,ls4,ks4⟩;rcases f' with⟨k5,N5,ls5,ks5⟩;rcases x' with⟨k6,N6,ls6,ks6⟩;rw[zk6];simp only[Te.cs]at hI hJ;simp only[↓reduceIte,go_sem,Te.cs,hI,hJ,hfin]
   simp only[zfl]at hB hfin hH1 hH2 hQ;simp only[↓reduceIte,go_sem,zfl,ze5,zdy,yjt,Te.cs,Te.css,hB,hH1,hH2,hQ,hlI,hfin]
  ·simp only[decide_true,Bool.true_and]at hJ
   have hQ:F zcz [.ptr (A.length+4) 0,.agg [.int .i64 6,.int .i64 N,.sl (Lv.css ls),.sl [f.cs,x.cs]],.agg [.int .i64 6,.int .i64 N,.sl (Lv.css ls'),.sl [f'.cs,x'.cs]],.bool most] (zg6 A g n2 0 ver out X)=some (.ret (.bool r),zg6 A g n' e v2 out' X):=by
    have hfin:=zdi A X g n2 0 ver out n' e v2 out' r;rcases f with⟨k3,N3,ls3,ks3⟩;rcases x with⟨k4,N4,ls4,ks4⟩;rcases f' with⟨k5,N5,ls5,ks5⟩;rcases x' with⟨k6,N6,ls6,ks6⟩;rw[zln];simp only[Te.cs]at hI hJ;simp only[↓reduceIte,go_sem,Te.cs,hI,hJ,hfin]
   simp only[zfl]at hB hfin hH1 hH2 hQ;simp only[↓reduceIte,go_sem,zfl,ze5,zdy,yjs,Te.cs,Te.css,hB,hH1,hH2,hQ,hlI,hfin]
end Go.Ab
end
section
set_option linter.unusedVariables false
set_option linter.unusedSimpArgs false
set_option maxRecDepth 100000
set_option maxHeartbeats 2000000
namespace Go.Ab
open Go.RowKit Go.Proofs
theorem ztk:zeroT.ok:=.mk (by simp) (by simp) (by intro x hx;cases hx) (by intro x hx;cases hx)
theorem RedS.ok'{env:List De}(hE:zta env){t:Te}(ht:t.ok){f:Int}{r:Te×Int×Int}(h:RedS env t f r):r.1.ok:=by
 cases h with
 |arg=>exact ztk
 |er=>exact ztk
 |long=>exact ztk
 |ok _ _ _ _ hd _=>exact hd.ok hE ht
def sort0:Te:=.mk 2 0 [.mk 1 0 []] []
theorem yfd:sort0.ok:=by simp[sort0,zi7,zum]
theorem yf7:zta []:=⟨by simp,by intro d hd;cases hd⟩
end Go.Ab
end
section
set_option linter.unusedVariables false
set_option linter.unusedSimpArgs false
set_option maxRecDepth 100000
set_option maxHeartbeats 4000000
namespace Go.Ab
open Go.RowKit Go.Proofs
def okCs(l:List Co):Prop:=l.length<=140737488355328/\∀c∈l,c.ok
def okG(g:Gr):Prop:=zta g.env/\okCs g.cons
def modeB(g:Gr):Bool:=(decide (g.mode=1) && decide (g.metas=0)) || (decide (g.mode=2) && decide (0<=g.metas) && decide (g.metas<=10))
def znv(g:Gr):Bool:=modeB g && (zg5 g.env && zf1 g.cons g.params)
theorem znn(g:Gr)(hg:okG g)(H:List AO):F zil [.agg g.cs] H=some (.ret (.bool (znv g)),H):=by
 have h1:=fun H=>z85 g.env hg.1 H
 have h2:=fun H=>zty g.cons hg.2.1 hg.2.2 g.params H
 rw[z2c,znv,modeB];rcases g with⟨env,p,m,cons,mode⟩;dsimp only[Gr.cs]at h1 h2 ⊢;by_cases c1:mode=1
 ·subst c1
  by_cases c2:m=0
  ·subst c2
   cases c3:zg5 env <;> rw[c3]at h1 <;> simp only[↓reduceIte,go_sem,h1,h2] <;> simp
  ·simp only[↓reduceIte,go_sem,c2]
   simp[c2]
 ·by_cases c4:mode=2
  ·subst c4
   by_cases c5:m<0
   ·simp only[↓reduceIte,go_sem,c5,show ¬ (2:Int)=1 by decide]
    simp;omega
   ·by_cases c6:10<m
    ·simp only[↓reduceIte,go_sem,c5,c6,show ¬ (2:Int)=1 by decide]
     simp;omega
    ·have e1:(decide (0<=m))=true:=by simp;omega
     have e2:(decide (m<=10))=true:=by simp;omega
     cases c3:zg5 env <;> rw[c3]at h1 <;> simp only[↓reduceIte,go_sem,h1,h2,c5,c6,show ¬ (2:Int)=1 by decide,e1,e2] <;> simp
  ·simp only[↓reduceIte,go_sem,c1,c4]
   simp
theorem z84{g:Gr}(h:znv g=true):(g.mode=1\/g.mode=2)/\zg5 g.env=true/\zf1 g.cons g.params=true/\g.cons.length<=8:=by
 unfold znv modeB at h;simp only[Bool.and_eq_true,Bool.or_eq_true,decide_eq_true_eq]at h;obtain⟨h1,h2,h3⟩:=h;refine⟨by omega,h2,h3,?_⟩
 unfold zf1 at h3;simp only[Bool.and_eq_true,decide_eq_true_eq]at h3;exact h3.1.2
inductive ConvS (g:Gr) (a b:Te) (most:Bool) (f:Int):Bool×List Co×Int×Int->Prop
 |arg:(znv g=false\/zc0 a 1000 g.params g.metas=false\/zc0 b 1000 g.params g.metas=false\/f<0\/5000<f)->ConvS g a b most f (false,[],0,1)
 |er {n n':Nat} {r:Bool} {e:Int} {out:List Co}:znv g=true->zc0 a 1000 g.params g.metas=true->zc0 b 1000 g.params g.metas=true->f=n->n<=5000->Al g n [] a b most r n' e out->e≠0->ConvS g a b most f (false,[],0,e)
 |ok {n n':Nat} {r:Bool} {out:List Co}:znv g=true->zc0 a 1000 g.params g.metas=true->zc0 b 1000 g.params g.metas=true->f=n->n<=5000->Al g n [] a b most r n' 0 out->ConvS g a b most f (r,out,n',0)
theorem zgu{t:Te}{v p m:Int}(h:zc0 t v p m=true):wg t=true/\sz t<=600:=by
 unfold zc0 at h;simp only[Bool.and_eq_true,decide_eq_true_eq]at h;refine⟨by simp[wg,right_wf h.2,right_w2 h.2],?_⟩
 have h1:=subs_parts t 601 (by omega)
 have:=h.1.2;unfold sz;omega
theorem zmz(g:Gr)(a b:Te)(most:Bool)(f:Int):∃r,ConvS g a b most f r:=by
 cases h1:znv g
 ·exact⟨_,.arg (.inl h1)⟩
 cases h2:zc0 a 1000 g.params g.metas
 ·exact⟨_,.arg (.inr (.inl h2))⟩
 cases h3:zc0 b 1000 g.params g.metas
 ·exact⟨_,.arg (.inr (.inr (.inl h3)))⟩
 by_cases h4:f<0
 ·exact⟨_,.arg (.inr (.inr (.inr (.inl h4))))⟩
 by_cases h5:5000<f
 ·exact⟨_,.arg (.inr (.inr (.inr (.inr h5))))⟩
 obtain⟨n,rfl⟩:=Int.eq_ofNat_of_zero_le (show 0<=f by omega)
 obtain⟨r,n',e,out,h⟩:=yh4 g n [] a b most (zgu h2).1 (zgu h3).1;by_cases he:e=0
 ·subst he;exact⟨_,.ok h1 h2 h3 rfl (by omega) h⟩
 ·exact⟨_,.er h1 h2 h3 rfl (by omega) h he⟩
abbrev yel(x:Bool×List Co×Int×Int):AV:=.tup [.bool x.1,.sl (Co.css x.2.1),.int .i64 x.2.2.1,.int .i64 x.2.2.2]
theorem resC_lt(n:Nat)(x:Bool×List Co×Int×Int):Lt n (yel x):=by
 refine .tup ?_;intro a ha;simp at ha;rcases ha with rfl|rfl|rfl|rfl
 ·exact .bool _
 ·exact .sl (zpg _ _)
 ·exact .int _ _
 ·exact .int _ _
theorem zv0(g:Gr)(hg:okG g)(a b:Te)(ha:a.ok)(hb:b.ok)(most:Bool)(n n':Nat)(hn:n<=5000)(r:Bool)(e:Int)(out:List Co)(h1:znv g=true)(h2:zc0 a 1000 g.params g.metas=true)(h3:zc0 b 1000 g.params g.metas=true)(h:Al g n [] a b most r n' e out)(H:List AO):
  F zd4 [.agg g.cs,.agg a.cs,.agg b.cs,.bool most,.int .i64 n] H=some (.ret (yel (if e≠0 then (false,[],0,e) else (r,out,(n':Int),0))),H):=by
 obtain⟨hm,_,_,hl⟩:=z84 h1;have k1:=fun H=>znn g hg H
 have k2:=fun H=>zkd a ha 1000 g.params g.metas H
 have k3:=fun H=>zkd b hb 1000 g.params g.metas H
 have k4:=fun H=>NewP_ok g n H
 have z1:=(zgu h2).2;have z2:=(zgu h3).2;obtain⟨v,k5⟩:=yei g hg.1 hg.2.2 (by omega) hm h ha hb (zgu h2).1 (zgu h3).1 (by omega) (by omega) (by omega) (by simp) H [] 0
 rw[h1]at k1;rw[h2]at k2;rw[h3]at k3;rcases a with⟨ka,Na,lsa,ksa⟩;rcases b with⟨kb,Nb,lsb,ksb⟩;have e0:Co.css []=[]:=rfl;rw[zvg];simp only[zfl,Te.cs,Gr.cs,e0,List.length_append,List.length_cons,List.length_nil,Nat.add_assoc,Nat.reduceAdd,List.append_assoc,List.cons_append,List.nil_append]at k1 k2 k3 k4 k5;by_cases he:e=0
 ·subst he
  simp only[↓reduceIte,go_sem,Te.cs,Gr.cs,k1,k2,k3,k4,k5,show ¬ (n:Int)<0 by omega,show ¬ (5000:Int)<(n:Int) by omega,e0,not_true_eq_false,ne_eq]
  exact if_pos (resC_lt _ (r,out,(n':Int),0))
 ·simp only[↓reduceIte,go_sem,Te.cs,Gr.cs,k1,k2,k3,k4,k5,show ¬ (n:Int)<0 by omega,show ¬ (5000:Int)<(n:Int) by omega,he,ne_eq,not_false_eq_true,e0]
  rfl
theorem zep(g:Gr)(hg:okG g)(a b:Te)(ha:a.ok)(hb:b.ok)(most:Bool)(f:Int)(r:Bool×List Co×Int×Int)(h:ConvS g a b most f r)(H:List AO):
  F zd4 [.agg g.cs,.agg a.cs,.agg b.cs,.bool most,.int .i64 f] H=some (.ret (yel r),H):=by
 cases h with
 |arg hq=>
  have k1:=fun H=>znn g hg H
  have k2:=fun H=>zkd a ha 1000 g.params g.metas H
  have k3:=fun H=>zkd b hb 1000 g.params g.metas H
  have e0:Co.css []=[]:=rfl;rcases a with⟨ka,Na,lsa,ksa⟩;rcases b with⟨kb,Nb,lsb,ksb⟩;rw[zvg];simp only[Te.cs,Gr.cs]at k1 k2 k3
  cases c1:znv g <;> rw[c1]at k1
  ·simp only[↓reduceIte,go_sem,Te.cs,Gr.cs,k1,yel,e0]
  cases c2:zc0 (.mk ka Na lsa ksa) 1000 g.params g.metas <;> rw[c2]at k2
  ·simp only[↓reduceIte,go_sem,Te.cs,Gr.cs,k1,k2,yel,e0]
  cases c3:zc0 (.mk kb Nb lsb ksb) 1000 g.params g.metas <;> rw[c3]at k3
  ·simp only[↓reduceIte,go_sem,Te.cs,Gr.cs,k1,k2,k3,yel,e0]
  rw[c1,c2,c3]at hq;by_cases c4:f<0
  ·simp only[↓reduceIte,go_sem,Te.cs,Gr.cs,k1,k2,k3,c4,yel,e0]
  ·have c5:5000<f:=by simp at hq;omega
   simp only[↓reduceIte,go_sem,Te.cs,Gr.cs,k1,k2,k3,c4,c5,yel,e0]
 |@er n n' r e out h1 h2 h3 hf hn hA he=>
  subst hf;have:=zv0 g hg a b ha hb most n n' hn r e out h1 h2 h3 hA H
  rwa [if_pos he]at this
 |@ok n n' r out h1 h2 h3 hf hn hA=>
  subst hf;have:=zv0 g hg a b ha hb most n n' hn r 0 out h1 h2 h3 hA H
  rwa [if_neg (by simp)]at this
end Go.Ab
end
section
set_option linter.unusedVariables false
set_option linter.unusedSimpArgs false
set_option maxRecDepth 100000
set_option maxHeartbeats 4000000
namespace Go.Ab
open Go.RowKit Go.Proofs
def runB:Nat->List Cl->Int->List Int->Option Bool
 |0,_,_,_=>none
 |n+1,l,most,m=>if (za8 l m).any (fun x=>decide (most<x))=true then some false else if za8 l m=m then (if m.all (fun x=>decide (x<=most))=true then some true else none) else runB n l most (za8 l m)
theorem z3n:∀(n:Nat) {l:List Cl} {most:Int} {m:List Int} {b:Bool},runB n l most m=some b->∃r k,RunS l most m r k/\r.isSome=b
 |0,l,most,m,b,h=>by cases h
 |n+1,l,most,m,b,h=>by
  rw[runB]at h
  split at h
  ·rename_i h1
   cases h;obtain⟨x,hx,hlt⟩:=List.any_eq_true.1 h1
   exact⟨none,1,.over ⟨x,hx,by simpa using hlt⟩,rfl⟩
  ·rename_i h1
   split at h
   ·rename_i h2
    split at h
    ·rename_i h3
     cases h;exact⟨some m,1,.fix h2 (fun x hx=>by simpa using List.all_eq_true.1 h3 x hx),rfl⟩
    ·cases h
   ·rename_i h2
    obtain⟨r,k,h3,h4⟩:=z3n n h;refine⟨r,k+1,.more h2 (fun x hx=>?_) h3,h4⟩
    simp only[List.any_eq_true,decide_eq_true_eq,not_exists,not_and]at h1;have:=h1 x hx;omega
def brkB(f:Nat)(cons:List Co)(p:Nat)(b:Lv)(n:Nat)(x:At):Option Bool:=runB f (zv5 cons (zfn n p) b x) (zli ((p+1:Nat):Int) (zv5 cons (zfn n p) b x)) (List.replicate (p+1) 0)
theorem ygb(f:Nat){cons:List Co}{p:Nat}{a b:Lv}(h:((List.range (2 ^ p)).all fun n=>(zbv (zcx a (zfn n p))).all fun x=>brkB f cons p b n x == some false)=true):z6a cons p a b=true:=by
 refine zq3.2 fun n hn hb=>?_
 obtain⟨x,hx,m,k,hr⟩:=hb;have h1:=List.all_eq_true.1 (List.all_eq_true.1 h n (by simpa using hn)) x hx
 have h1:brkB f cons p b n x=some false:=by simpa using h1
 obtain⟨r,k',h2,h3⟩:=z3n f h1;rw[zhj]at hr;have:=(hr.det h2).1;subst this;cases h3
theorem leqB_no(f:Nat){cons:List Co}{p:Nat}{a b:Lv}(h:((List.range (2 ^ p)).any fun n=>(zbv (zcx a (zfn n p))).any fun x=>brkB f cons p b n x == some true)=true):z6a cons p a b=false:=by
 rcases hb:z6a cons p a b with _|_
 ·rfl
 exfalso;obtain⟨n,hn,h1⟩:=List.any_eq_true.1 h;obtain⟨x,hx,h2⟩:=List.any_eq_true.1 h1;have h2:brkB f cons p b n x=some true:=by simpa using h2
 obtain⟨r,k,h3,h4⟩:=z3n f h2;refine zq3.1 hb n (by simpa using hn) ⟨x,hx,?_⟩
 cases r with
 |none=>cases h4
 |some m=>exact⟨m,k,by rw[zhj];exact h3⟩
def pL:Lv:=.mk 5 0 []
def spL:Lv:=.mk 2 0 [pL]
def sP:Te:=.mk 2 0 [pL] []
def sS:Te:=.mk 2 0 [spL] []
def g1:Gr:=⟨[],1,0,[],1⟩
def g2:Gr:=⟨[],1,0,[],2⟩
def g0:Gr:=⟨[],0,0,[],0⟩
theorem g_ok(p m mode:Int):okG ⟨[],p,m,[],mode⟩:=⟨yf7,by simp,by intro c hc;cases hc⟩
theorem yab:sP.ok:=by simp[sP,pL,zi7,zum]
theorem yaa:sS.ok:=by simp[sS,spL,pL,zi7,zum]
theorem leq1:zjh g1 (0,[]) pL spL=(true,0,[]):=by
 unfold zjh;rw[if_neg (by simp),if_neg (show ¬ g1.mode=2 by decide),if_pos (by rfl)]
 rw[show z6a g1.cons g1.params.toNat pL spL=true from ygb 20 (by decide +kernel)]
theorem leq2:zjh g1 (0,[]) spL pL=(false,0,[]):=by
 unfold zjh;rw[if_neg (by simp),if_neg (show ¬ g1.mode=2 by decide),if_pos (by rfl)]
 rw[show z6a g1.cons g1.params.toNat spL pL=false from leqB_no 20 (by decide +kernel)]
theorem zsa(g:Gr)(n:Nat)(l:Lv):Hd g.env n (.mk 2 0 [l] []) (.mk 2 0 [l] []) n:=.stuck (by decide) (by decide) (fun h=>absurd h (by decide))
theorem aw1:ConvS g1 sP sS true 5 (true,[],4,0):=by
 have h:Al g1 (4+1) [] sP sS true _ 4 _ _:=.sortM (zsa g1 4 pL) (zsa g1 4 spL);rw[leq1]at h;exact .ok (by rfl) (by rfl) (by rfl) rfl (by decide) h
theorem aw2:ConvS g1 sS sP true 5 (false,[],4,0):=by
 have h:Al g1 (4+1) [] sS sP true _ 4 _ _:=.sortM (zsa g1 4 spL) (zsa g1 4 pL);rw[leq2]at h;exact .ok (by rfl) (by rfl) (by rfl) rfl (by decide) h
theorem aw3:ConvS g1 sP sS true 0 (false,[],0,40) :=
 .er (by rfl) (by rfl) (by rfl) rfl (by decide) (.burn0 (g:=g1)) (by decide)
theorem aw4:ConvS g2 sS sP false 5 (true,[.mk spL pL,.mk pL spL],4,0):=by
 have h:Al g2 (4+1) [] sS sP false _ 4 _ _:=.lvls (.inl ⟨rfl,rfl⟩) (zsa g2 4 spL) (zsa g2 4 pL) rfl;have e:zm3 g2 (0,[]) [spL] [pL]=(true,0,[.mk spL pL,.mk pL spL]):=by
  simp[zm3,zqg,zjh,g2]
 rw[e]at h;exact .ok (by rfl) (by rfl) (by rfl) rfl (by decide) h
theorem z8u(H:List AO):F zky [] H=some (.ret (.bool true),H):=by
 have hS0:=fun H=>zcg pL H
 have hS1:=fun H=>zcg spL H
 have r1:=fun H=>zep g1 (g_ok _ _ _) sP sS yab yaa true 5 _ aw1 H
 have r2:=fun H=>zep g1 (g_ok _ _ _) sS sP yaa yab true 5 _ aw2 H
 have r3:=fun H=>zep g1 (g_ok _ _ _) sP sS yab yaa true 0 _ aw3 H
 have r4:=fun H=>zep g2 (g_ok _ _ _) sS sP yaa yab false 5 _ aw4 H
 have r5:=fun H=>zep g0 (g_ok _ _ _) sP sS yab yaa true 5 (false,[],0,1) (.arg (.inl (by rfl))) H
 have r6:=fun H=>znn g2 (g_ok _ _ _) H
 have r7:=fun H=>znn g0 (g_ok _ _ _) H
 rw[show znv g2=true from rfl]at r6
 rw[show znv g0=false from rfl]at r7
 have e1:De.css []=[]:=rfl;have e2:Co.css []=[]:=rfl;have e3:Co.css [.mk spL pL,.mk pL spL]=[spL.cs++pL.cs,pL.cs++spL.cs]:=rfl;simp only[yel,e1,e2,e3,g0,g1,g2,Gr.cs,sP,sS,pL,spL,Te.cs,Te.css,Lv.cs,Lv.css,List.cons_append,List.nil_append]at hS0 hS1 r1 r2 r3 r4 r5 r6 r7;rw[zzn];simp only[↓reduceIte,go_sem,hS0,hS1,r1,r2,r3,r4,r5,r6,r7,List.length_cons,List.length_nil,Nat.reduceAdd,Int.cast_ofNat_Int]
end Go.Ab
end
section
set_option linter.unusedVariables false
set_option linter.unusedSimpArgs false
set_option maxRecDepth 100000
set_option maxHeartbeats 2000000
namespace Go.Ab
open Go.RowKit Go.Proofs
theorem zcp{H Y:List AO}{id:Nat}{x:AO}(h:id<H.length):H.set id x++Y=(H++Y).set id x:=by rw[List.set_append_left _ _ h]
theorem zbj{H Y:List AO}{id i:Nat}{x:AO}(h:id<H.length):((H++Y).set id x)[H.length+i]?=Y[i]?:=by
 rw[List.getElem?_set_ne (by omega),ztz]
theorem zbk{H Y:List AO}{id:Nat}{x:AO}(h:id<H.length):((H++Y).set id x)[H.length]?=Y[0]?:=by
 rw[List.getElem?_set_ne (by omega),zt0]
theorem zbh{H Y:List AO}{id i:Nat}{x y:AO}(h:id<H.length):((H++Y).set id x).set (H.length+i) y=(H++Y.set i y).set id x:=by
 rw[List.set_comm _ _ (by omega),yhw]
theorem zbi{H Y:List AO}{id:Nat}{x y:AO}(h:id<H.length):((H++Y).set id x).set H.length y=(H++Y.set 0 y).set id x:=by
 rw[List.set_comm _ _ (by omega),yhv]
theorem zbn{a b c:Nat}(h:a<b):(a<b+c)=True:=by simp;omega
open Classical in
theorem zco{H X:List AO}{r:Res}{id:Nat}{y:AO}{L:List Int}{b:Int}(h:id<H.length):zez (H.set id y) r ((H++X).set id (mkr L b))=if LtR H.length r then some (r,H.set id (mkr L b)) else none:=by
 have e:(H++X).set id (mkr L b)=(H.set id y).set id (mkr L b)++X:=by rw[ztp,zcp h]
 rw[e];have:=zq7 (H:=H.set id y) (X:=X) (r:=r) (id:=id) (x:=mkr L b) (yi8 _ L b);rw[this,List.length_set,ztp]
def zfm(L:List Int):Nat->Int->List Lv×Int
 |0,a=>([],a)
 |i+1,a=>((zao L 3 2 2 a).1::(zfm L i (zao L 3 2 2 a).2).1,(zfm L i (zao L 3 2 2 a).2).2)
def ze2(L:List Int):Nat->Int->Int->Te×Int
 |0,v,a=>(.mk 1 0 [] [],a)
 |d+1,v,a=>
  let k0:=zaq L a 12
  let k:=if d=0 then k0.tmod 4 else k0
  if k<2/\0<v then (.mk 1 (zaq L (a+1) v) [] [],a+1+1)
  else if k<3 then (.mk 2 0 [(zao L 3 2 3 (a+1)).1] [],(zao L 3 2 3 (a+1)).2)
  else if k<4 then (.mk 3 (zaq L (a+1) 4) (zfm L (zaq L (a+1+1) 3).toNat (a+1+1+1)).1 [],(zfm L (zaq L (a+1+1) 3).toNat (a+1+1+1)).2)
  else
   let x:=ze2 L d v (a+1)
   if k<7 then (.mk 4 0 [] [x.1,(ze2 L d v x.2).1],(ze2 L d v x.2).2)
   else if k<9 then (.mk 5 0 [] [x.1,(ze2 L d (v+1) x.2).1],(ze2 L d (v+1) x.2).2)
   else if k<11 then (.mk 6 0 [] [x.1,(ze2 L d (v+1) x.2).1],(ze2 L d (v+1) x.2).2)
   else (.mk 7 0 [] [x.1,(ze2 L d v x.2).1,(ze2 L d (v+1) (ze2 L d v x.2).2).1],(ze2 L d (v+1) (ze2 L d v x.2).2).2)
theorem zwz(L:List Int):∀(i:Nat) (a:Int),a<=(zfm L i a).2/\(zfm L i a).2<=a+7*i
 |0,a=>by simp[zfm]
 |i+1,a=>by
  have h1:=zdw L 3 2 2 a;have h2:=zwz L i (zao L 3 2 2 a).2;rw[zfm];simp at h1 ⊢;omega
theorem zm7{L:List Int}(hL:zbr L):∀(d:Nat) (v a:Int),a<=(ze2 L d v a).2/\(ze2 L d v a).2<=a+40*4 ^ d
 |0,v,a=>by simp[ze2];omega
 |d+1,v,a=>by
  have hp:(4:Int) ^ (d+1)=4*4 ^ d:=by rw[Int.pow_succ];omega
  have hq:(1:Int)<=4 ^ d:=Int.pow_pos (by decide)
  have h1:=zdw L 3 2 3 (a+1);have h2:=zar hL (a+1+1) (n:=3) (by omega)
  have h3:=zwz L (zaq L (a+1+1) 3).toNat (a+1+1+1);have h4:=zm7 hL d v (a+1);have h5:=zm7 hL d v (ze2 L d v (a+1)).2;have h6:=zm7 hL d (v+1) (ze2 L d v (a+1)).2;have h7:=zm7 hL d (v+1) (ze2 L d v (ze2 L d v (a+1)).2).2;simp only[Int.reducePow,Nat.reduceAdd]at h1;rw[ze2];dsimp only
  repeat' split
  all_goals (try dsimp only) <;> constructor <;> omega
theorem z08(a:List Lv)(x:Lv):Lv.css a++[x.cs]=Lv.css (a++[x]):=by rw[z4z];rfl
theorem zuz(L:List Int)(hL:zbr L)(hlen:L.length<=140737488355328)(id:Nat)(H:List AO)(hid:id<H.length)(a0 n:Int)(v6:List AV):∀(i:Nat) (done:List Lv) (a:Int),i<=10->done.length+i<=100->0<=a/\a+7*i<=600000 ->
  zi0 (H.set id (mkr L a0)) ((H++[AO.lst 0 3 [],.lst 0 4 [],.lst done.length 3 (Lv.css done),.lst 0 4 [],.lst 0 3 [],.lst 0 4 []]).set id (mkr L a)) (.ptr id 0) (.int .i64 (i:Int)) [.int .i64 0,.int .i64 0,.ol H.length 0,.ol (H.length+1) 0] [.int .i64 3,.int .i64 n,.ol (H.length+2) done.length,.ol (H.length+3) 0]
   = some (.ret (.agg (Te.mk 3 n (done++(zfm L i a).1) []).cs),H.set id (mkr L (zfm L i a).2)):=by
 intro i
 induction i with
 |zero=>
  intro done a hi hdl ha;rw[zi0,zab,zfm];simp only[↓reduceIte,go_sem,Int.natCast_zero,zcp,zbj hid,zbk hid,zbh hid,zbi hid,List.length_set,hid,zco hid,Te.cs,Te.css]
 |succ i ih=>
  intro done a hi hdl ha;have h1:=zdw L 3 2 2 a;simp only[Int.reducePow,Nat.reduceAdd]at h1;have hl:F zae [.ptr id 0,.int .i64 3,.int .i64 2,.int .i64 2] ((H++[AO.lst 0 3 [],.lst 0 4 [],.lst done.length 3 (Lv.css done),.lst 0 4 [],.lst 0 3 [],.lst 0 4 []]).set id (mkr L a))=_:=zir L hL hlen 3 2 (by omega) (by omega) 1 (by omega) a (by simp;omega) id (H++[AO.lst 0 3 [],.lst 0 4 [],.lst done.length 3 (Lv.css done),.lst 0 4 [],.lst 0 3 [],.lst 0 4 []]) (by simp;omega)
  have:=ih (done++[(zao L 3 2 2 a).1]) (zao L 3 2 2 a).2 (by omega) (by simp;omega) (by omega)
  simp only[zd7,List.append_assoc,List.cons_append,List.nil_append]at this;have hc:((i+1:Nat):Int) - 1=(i:Int):=by omega
  have hp:(0:Int)<((i+1:Nat):Int):=by omega
  have hdl2:done.length<=1073741823:=by omega
  rw[zi0,zab,zfm];simp only[↓reduceIte,go_sem,hp,hl,hc,zap (n:=(i:Int)) (by omega) (by omega),z08,hdl2,zcp,zbj hid,zbk hid,zbh hid,zbi hid,List.length_set,hid,Nat.reduceAdd]
  exact this
theorem term_ok(L:List Int)(hL:zbr L)(hlen:L.length<=140737488355328):∀(d:Nat),d<=6->∀(v:Int),0<=v/\v+d<=100->∀(a:Int),0<=a/\a+40*4 ^ (d+1)<=500000->∀(id:Nat) (H:List AO),id<H.length ->
  F zdk [.ptr id 0,.int .i64 v,.int .i64 ((d:Int)+1)] (H.set id (mkr L a))=some (.ret (.agg (ze2 L (d+1) v a).1.cs),H.set id (mkr L (ze2 L (d+1) v a).2)):=by
 intro d
 induction d with
 |zero=>
  intro hd v hv a ha id H hid;simp at ha;have hid2:∀X:List AO,id<(H++X).length:=fun X=>by simp;omega
  have hP0:=zbz L hL hlen a (by omega) 12 (by omega) id (H++[AO.lst 0 3 [],.lst 0 4 []]) (hid2 _) (by omega)
  have hPv:=zbz L hL hlen (a+1) (by omega) v (by omega) id (H++[AO.lst 0 3 [],.lst 0 4 []]) (hid2 _)
  have hP4:=zbz L hL hlen (a+1) (by omega) 4 (by omega) id (H++[AO.lst 0 3 [],.lst 0 4 []]) (hid2 _) (by omega)
  have hP3:=zbz L hL hlen (a+1+1) (by omega) 3 (by omega) id (H++[AO.lst 0 3 [],.lst 0 4 [],.lst 0 3 [],.lst 0 4 [],.lst 0 3 [],.lst 0 4 []]) (hid2 _) (by omega)
  have hl:F zae [.ptr id 0,.int .i64 3,.int .i64 2,.int .i64 3] ((H++[AO.lst 0 3 [],.lst 0 4 []]).set id (mkr L (a+1)))=_:=zir L hL hlen 3 2 (by omega) (by omega) 2 (by omega) (a+1) (by simp;omega) id (H++[AO.lst 0 3 [],.lst 0 4 []]) (hid2 _)
  have hr3:=zar hL (a+1+1) (n:=3) (by omega)
  have hlo:=zuz L hL hlen id H hid a (zaq L (a+1) 4) [] (zaq L (a+1+1) 3).toNat [] (a+1+1+1) (by omega) (by simp;omega) (by omega)
  simp only[Int.toNat_of_nonneg hr3.1,List.length_nil,List.nil_append,Lv.css]at hlo;have hk:=zar hL a (n:=12) (by omega)
  rw[zsy,ze2];generalize zaq L a 12=k0 at *;have h4:¬ (4:Int)=0:=by decide
  have h5:((0:Nat):Int)+1<2:=by decide
  have h6:k0.tmod 4<4:=by
   rw[Int.tmod_eq_emod_of_nonneg hk.1];exact Int.emod_lt_of_pos _ (by omega)
  generalize hk4:k0.tmod 4=k at *;have hc:(k<2/\0<v)\/(k<2/\¬ 0<v/\k<3)\/(¬ k<2/\k<3)\/(¬ k<2/\¬ k<3/\k<4):=by omega
  rcases hc with⟨h7,h8⟩|⟨h7,h8,h9⟩|⟨h7,h8⟩|⟨h7,h8,h9⟩
  ·simp only[↓reduceIte,go_sem,zcp,zbj hid,zbk hid,zbh hid,zbi hid,List.length_set,hid,zbn,zco hid,hP0,hPv,hP4,hP3,hl,hk4,h4,h5,h7,h8,zeh,zcg,and_self,true_and]
  ·simp only[↓reduceIte,go_sem,zcp,zbj hid,zbk hid,zbh hid,zbi hid,List.length_set,hid,zbn,zco hid,hP0,hPv,hP4,hP3,hl,hk4,h4,h5,h7,h8,h9,zeh,zcg,and_self,and_false]
  ·simp only[↓reduceIte,go_sem,zcp,zbj hid,zbk hid,zbh hid,zbi hid,List.length_set,hid,zbn,zco hid,hP0,hPv,hP4,hP3,hl,hk4,h4,h5,h7,h8,zeh,zcg,and_self,false_and]
  ·simp only[↓reduceIte,go_sem,zcp,zbj hid,zbk hid,zbh hid,zbi hid,List.length_set,hid,zbn,zco hid,hP0,hPv,hP4,hP3,hl,hk4,h4,h5,h7,h8,h9,zeh,zcg,and_self,false_and]
   exact hlo
 |succ d ih=>
  intro hd v hv a ha id H hid;have hpw:(4:Int) ^ (d+1+1)=4*4 ^ (d+1):=by rw[Int.pow_succ];omega
  have hpw2:(4:Int) ^ (d+1)=4*4 ^ d:=by rw[Int.pow_succ];omega
  have hq:(1:Int)<=4 ^ d:=Int.pow_pos (by decide)
  have hid2:∀X:List AO,id<(H++X).length:=fun X=>by simp;omega
  have hP0:=zbz L hL hlen a (by omega) 12 (by omega) id (H++[AO.lst 0 3 [],.lst 0 4 []]) (hid2 _) (by omega)
  have hPv:=zbz L hL hlen (a+1) (by omega) v (by omega) id (H++[AO.lst 0 3 [],.lst 0 4 []]) (hid2 _)
  have hP4:=zbz L hL hlen (a+1) (by omega) 4 (by omega) id (H++[AO.lst 0 3 [],.lst 0 4 []]) (hid2 _) (by omega)
  have hP3:=zbz L hL hlen (a+1+1) (by omega) 3 (by omega) id (H++[AO.lst 0 3 [],.lst 0 4 [],.lst 0 3 [],.lst 0 4 [],.lst 0 3 [],.lst 0 4 []]) (hid2 _) (by omega)
  have hl:F zae [.ptr id 0,.int .i64 3,.int .i64 2,.int .i64 3] ((H++[AO.lst 0 3 [],.lst 0 4 []]).set id (mkr L (a+1)))=_:=zir L hL hlen 3 2 (by omega) (by omega) 2 (by omega) (a+1) (by simp;omega) id (H++[AO.lst 0 3 [],.lst 0 4 []]) (hid2 _)
  have hr3:=zar hL (a+1+1) (n:=3) (by omega)
  have hlo:=zuz L hL hlen id H hid a (zaq L (a+1) 4) [] (zaq L (a+1+1) 3).toNat [] (a+1+1+1) (by omega) (by simp;omega) (by omega)
  simp only[Int.toNat_of_nonneg hr3.1,List.length_nil,List.nil_append,Lv.css]at hlo;have hk:=zar hL a (n:=12) (by omega)
  have hT1:=zm7 hL (d+1) v (a+1);have hT2:=zm7 hL (d+1) v (ze2 L (d+1) v (a+1)).2;have hC1:=fun Y:List AO=>ih (by omega) v (by omega) (a+1) (by omega) id (H++Y) (hid2 _)
  have hC2:=fun Y:List AO=>ih (by omega) v (by omega) (ze2 L (d+1) v (a+1)).2 (by omega) id (H++Y) (hid2 _)
  have hC3:=fun Y:List AO=>ih (by omega) (v+1) (by omega) (ze2 L (d+1) v (a+1)).2 (by omega) id (H++Y) (hid2 _)
  have hC4:=fun Y:List AO=>ih (by omega) (v+1) (by omega) (ze2 L (d+1) v (ze2 L (d+1) v (a+1)).2).2 (by omega) id (H++Y) (hid2 _)
  have hd1:((d+1:Nat):Int)+1 - 1=(d:Int)+1:=by omega
  have hw1:IntKind.i64.wrap ((d:Int)+1)=(d:Int)+1:=zap (by omega) (by omega)
  have hw2:IntKind.i64.wrap (v+1)=v+1:=zap (by omega) (by omega)
  rw[zsy,ze2];generalize zaq L a 12=k at *;have h4:¬ (4:Int)=0:=by decide
  have h5:¬ ((d+1:Nat):Int)+1<2:=by omega
  have h6:¬ d+1=0:=by omega
  have hc:(k<2/\0<v)\/(k<2/\¬ 0<v/\k<3)\/(¬ k<2/\k<3)\/(¬ k<2/\¬ k<3/\k<4)\/(¬ k<2/\¬ k<3/\¬ k<4/\k<7)\/(¬ k<2/\¬ k<3/\¬ k<4/\¬ k<7/\k<9)\/(¬ k<2/\¬ k<3/\¬ k<4/\¬ k<7/\¬ k<9/\k<11)\/(¬ k<2/\¬ k<3/\¬ k<4/\¬ k<7/\¬ k<9/\¬ k<11):=by omega
  rcases hc with⟨h7,h8⟩|⟨h7,h8,h9⟩|⟨h7,h8⟩|⟨h7,h8,h9⟩|⟨h7,h8,h9,h10⟩|⟨h7,h8,h9,h10,h11⟩|⟨h7,h8,h9,h10,h11,h12⟩|⟨h7,h8,h9,h10,h11,h12⟩
  ·simp only[↓reduceIte,go_sem,zcp,zbj hid,zbk hid,zbh hid,zbi hid,List.length_set,hid,zbn,zco hid,hP0,hPv,hP4,hP3,hl,h4,h5,h6,h7,h8,zeh,zcg,and_self,true_and]
  ·simp only[↓reduceIte,go_sem,zcp,zbj hid,zbk hid,zbh hid,zbi hid,List.length_set,hid,zbn,zco hid,hP0,hPv,hP4,hP3,hl,h4,h5,h6,h7,h8,h9,zeh,zcg,and_self,and_false]
  ·simp only[↓reduceIte,go_sem,zcp,zbj hid,zbk hid,zbh hid,zbi hid,List.length_set,hid,zbn,zco hid,hP0,hPv,hP4,hP3,hl,h4,h5,h6,h7,h8,zeh,zcg,and_self,false_and]
  ·simp only[↓reduceIte,go_sem,zcp,zbj hid,zbk hid,zbh hid,zbi hid,List.length_set,hid,zbn,zco hid,hP0,hPv,hP4,hP3,hl,h4,h5,h6,h7,h8,h9,zeh,zcg,and_self,false_and]
   exact hlo
  ·simp only[↓reduceIte,go_sem,zcp,zbj hid,zbk hid,zbh hid,zbi hid,List.length_set,hid,zbn,zco hid,hP0,hPv,hP4,hP3,hl,h4,h5,h6,h7,h8,h9,h10,hd1,hw1,hw2,hC1,hC2,hC3,hC4,zd6,zsq,zsp,and_self,false_and]
  ·simp only[↓reduceIte,go_sem,zcp,zbj hid,zbk hid,zbh hid,zbi hid,List.length_set,hid,zbn,zco hid,hP0,hPv,hP4,hP3,hl,h4,h5,h6,h7,h8,h9,h10,h11,hd1,hw1,hw2,hC1,hC2,hC3,hC4,zd6,zsq,zsp,and_self,false_and]
  ·simp only[↓reduceIte,go_sem,zcp,zbj hid,zbk hid,zbh hid,zbi hid,List.length_set,hid,zbn,zco hid,hP0,hPv,hP4,hP3,hl,h4,h5,h6,h7,h8,h9,h10,h11,h12,hd1,hw1,hw2,hC1,hC2,hC3,hC4,zd6,zsq,zsp,and_self,false_and]
  ·simp only[↓reduceIte,go_sem,zcp,zbj hid,zbk hid,zbh hid,zbi hid,List.length_set,hid,zbn,zco hid,hP0,hPv,hP4,hP3,hl,h4,h5,h6,h7,h8,h9,h10,h11,h12,hd1,hw1,hw2,hC1,hC2,hC3,hC4,zd6,zsq,zsp,and_self,false_and]
end Go.Ab
end
section
set_option linter.unusedVariables false
set_option linter.unusedSimpArgs false
set_option maxRecDepth 100000
set_option maxHeartbeats 2000000
namespace Go.Ab
open Go.RowKit Go.Proofs
theorem zhf(L:List Int)(p m:Int):∀(d:Nat) (a:Int),(zao L p m d a).1.ok
 |0,a=>by rw[zao];simp[zum]
 |d+1,a=>by
  have h:=zhf L p m d;rw[zao]
  repeat' split
  all_goals simp[zum,h]
theorem zo7(L:List Int):∀(i:Nat) (a:Int),(zfm L i a).1.length=i/\∀x∈(zfm L i a).1,x.ok
 |0,a=>by simp[zfm]
 |i+1,a=>by
  have h:=zo7 L i;rw[zfm];refine⟨by simp[h],?_⟩
  intro x hx;simp at hx;rcases hx with rfl|hx
  ·exact zhf _ _ _ _ _
  ·exact (h _).2 x hx
theorem ztl{L:List Int}(hL:zbr L):∀(d:Nat) (v a:Int),(ze2 L d v a).1.ok
 |0,v,a=>by rw[ze2];simp[zi7]
 |d+1,v,a=>by
  have h:=fun v a=>ztl hL d v a
  have h3:=zo7 L (zaq L (a+1+1) 3).toNat (a+1+1+1);have h2:=zar hL (a+1+1) (n:=3) (by omega)
  rw[ze2];dsimp only
  repeat' split
  all_goals simp[zi7,h,zhf]
  all_goals exact⟨by omega,h3.2⟩
end Go.Ab
end
section
set_option linter.unusedVariables false
set_option linter.unusedSimpArgs false
set_option maxRecDepth 100000
set_option maxHeartbeats 4000000
namespace Go.Ab
open Go.RowKit Go.Proofs
def zgb(L:List Int)(p:Int):Nat->Int->List Lv×Int
 |0,a=>([],a)
 |i+1,a=>((zao L p 0 2 a).1::(zgb L p i (zao L p 0 2 a).2).1,(zgb L p i (zao L p 0 2 a).2).2)
def zay(L:List Int)(c p:Int):Nat->Int->Int->Te×Int
 |0,v,a=>(.mk 1 0 [] [],a)
 |d+1,v,a=>
  let k0:=zaq L a 12
  let k:=if d=0 then k0.tmod 5 else k0
  if k<2/\0<v then (.mk 1 (zaq L (a+1) v) [] [],a+1+1)
  else if k<4/\0<c then (.mk 3 (zaq L (a+1) c) (zgb L p (zaq L (a+1+1) 3).toNat (a+1+1+1)).1 [],(zgb L p (zaq L (a+1+1) 3).toNat (a+1+1+1)).2)
  else if k<5 then (.mk 2 0 [(zao L p 0 2 (a+1)).1] [],(zao L p 0 2 (a+1)).2)
  else
   let x:=zay L c p d v (a+1)
   if k<8 then (.mk 4 0 [] [x.1,(zay L c p d v x.2).1],(zay L c p d v x.2).2)
   else if k<10 then (.mk 5 0 [] [x.1,(zay L c p d (v+1) x.2).1],(zay L c p d (v+1) x.2).2)
   else if k<11 then (.mk 6 0 [] [x.1,(zay L c p d (v+1) x.2).1],(zay L c p d (v+1) x.2).2)
   else (.mk 7 0 [] [x.1,(zay L c p d v x.2).1,(zay L c p d (v+1) (zay L c p d v x.2).2).1],(zay L c p d (v+1) (zay L c p d v x.2).2).2)
theorem zw1(L:List Int)(p:Int):∀(i:Nat) (a:Int),a<=(zgb L p i a).2/\(zgb L p i a).2<=a+7*i
 |0,a=>by simp[zgb]
 |i+1,a=>by
  have h1:=zdw L p 0 2 a;have h2:=zw1 L p i (zao L p 0 2 a).2;rw[zgb];simp at h1 ⊢;omega
theorem zim{L:List Int}(c p:Int)(hL:zbr L):∀(d:Nat) (v a:Int),a<=(zay L c p d v a).2/\(zay L c p d v a).2<=a+40*4 ^ d
 |0,v,a=>by simp[zay];omega
 |d+1,v,a=>by
  have hp:(4:Int) ^ (d+1)=4*4 ^ d:=by rw[Int.pow_succ];omega
  have hq:(1:Int)<=4 ^ d:=Int.pow_pos (by decide)
  have h1:=zdw L p 0 2 (a+1);have h2:=zar hL (a+1+1) (n:=3) (by omega)
  have h3:=zw1 L p (zaq L (a+1+1) 3).toNat (a+1+1+1);have h4:=zim c p hL d v (a+1);have h5:=zim c p hL d v (zay L c p d v (a+1)).2;have h6:=zim c p hL d (v+1) (zay L c p d v (a+1)).2;have h7:=zim c p hL d (v+1) (zay L c p d v (zay L c p d v (a+1)).2).2;simp only[Int.reducePow,Nat.reduceAdd]at h1;rw[zay];dsimp only
  repeat' split
  all_goals (try dsimp only) <;> constructor <;> omega
theorem zst(p:Int)(hp0:0<=p/\p<=100)(L:List Int)(hL:zbr L)(hlen:L.length<=140737488355328)(id:Nat)(H:List AO)(hid:id<H.length)(a0 n:Int):∀(i:Nat) (done:List Lv) (a:Int),i<=10->done.length+i<=100->0<=a/\a+7*i<=600000 ->
  zgl (H.set id (mkr L a0)) ((H++[AO.lst 0 3 [],.lst 0 4 [],.lst done.length 3 (Lv.css done),.lst 0 4 [],.lst 0 3 [],.lst 0 4 []]).set id (mkr L a)) (.ptr id 0) (.int .i64 p) (.int .i64 (i:Int)) [.int .i64 0,.int .i64 0,.ol H.length 0,.ol (H.length+1) 0] [.int .i64 3,.int .i64 n,.ol (H.length+2) done.length,.ol (H.length+3) 0]
   = some (.ret (.agg (Te.mk 3 n (done++(zgb L p i a).1) []).cs),H.set id (mkr L (zgb L p i a).2)):=by
 intro i
 induction i with
 |zero=>
  intro done a hi hdl ha;rw[zgl,zab,zgb];simp only[↓reduceIte,go_sem,Int.natCast_zero,zcp,zbj hid,zbk hid,zbh hid,zbi hid,List.length_set,hid,zco hid,Te.cs,Te.css]
 |succ i ih=>
  intro done a hi hdl ha;have h1:=zdw L p 0 2 a;simp only[Int.reducePow,Nat.reduceAdd]at h1;have hl:F zae [.ptr id 0,.int .i64 p,.int .i64 0,.int .i64 2] ((H++[AO.lst 0 3 [],.lst 0 4 [],.lst done.length 3 (Lv.css done),.lst 0 4 [],.lst 0 3 [],.lst 0 4 []]).set id (mkr L a))=_:=zir L hL hlen p 0 hp0 (by omega) 1 (by omega) a (by simp;omega) id (H++[AO.lst 0 3 [],.lst 0 4 [],.lst done.length 3 (Lv.css done),.lst 0 4 [],.lst 0 3 [],.lst 0 4 []]) (by simp;omega)
  have:=ih (done++[(zao L p 0 2 a).1]) (zao L p 0 2 a).2 (by omega) (by simp;omega) (by omega)
  simp only[zd7,List.append_assoc,List.cons_append,List.nil_append]at this;have hc:((i+1:Nat):Int) - 1=(i:Int):=by omega
  have hp:(0:Int)<((i+1:Nat):Int):=by omega
  have hdl2:done.length<=1073741823:=by omega
  rw[zgl,zab,zgb];simp only[↓reduceIte,go_sem,hp,hl,hc,zap (n:=(i:Int)) (by omega) (by omega),z08,hdl2,zcp,zbj hid,zbk hid,zbh hid,zbi hid,List.length_set,hid,Nat.reduceAdd]
  exact this
theorem z2o(c p:Int)(hc0:0<=c/\c<=100)(hp0:0<=p/\p<=100)(L:List Int)(hL:zbr L)(hlen:L.length<=140737488355328):∀(d:Nat),d<=6->∀(v:Int),0<=v/\v+d<=100->∀(a:Int),0<=a/\a+40*4 ^ (d+1)<=500000->∀(id:Nat) (H:List AO),id<H.length ->
  F zbb [.ptr id 0,.int .i64 c,.int .i64 p,.int .i64 v,.int .i64 ((d:Int)+1)] (H.set id (mkr L a))=some (.ret (.agg (zay L c p (d+1) v a).1.cs),H.set id (mkr L (zay L c p (d+1) v a).2)):=by
 intro d
 induction d with
 |zero=>
  intro hd v hv a ha id H hid;simp at ha;have hid2:∀X:List AO,id<(H++X).length:=fun X=>by simp;omega
  have hP0:=zbz L hL hlen a (by omega) 12 (by omega) id (H++[AO.lst 0 3 [],.lst 0 4 []]) (hid2 _) (by omega)
  have hPv:=zbz L hL hlen (a+1) (by omega) v (by omega) id (H++[AO.lst 0 3 [],.lst 0 4 []]) (hid2 _)
  have hP4:=zbz L hL hlen (a+1) (by omega) c (by omega) id (H++[AO.lst 0 3 [],.lst 0 4 []]) (hid2 _)
  have hP3:=zbz L hL hlen (a+1+1) (by omega) 3 (by omega) id (H++[AO.lst 0 3 [],.lst 0 4 [],.lst 0 3 [],.lst 0 4 [],.lst 0 3 [],.lst 0 4 []]) (hid2 _) (by omega)
  have hl:F zae [.ptr id 0,.int .i64 p,.int .i64 0,.int .i64 2] ((H++[AO.lst 0 3 [],.lst 0 4 []]).set id (mkr L (a+1)))=_:=zir L hL hlen p 0 hp0 (by omega) 1 (by omega) (a+1) (by simp;omega) id (H++[AO.lst 0 3 [],.lst 0 4 []]) (hid2 _)
  have hr3:=zar hL (a+1+1) (n:=3) (by omega)
  have hlo:=zst p hp0 L hL hlen id H hid a (zaq L (a+1) c) (zaq L (a+1+1) 3).toNat [] (a+1+1+1) (by omega) (by simp;omega) (by omega)
  simp only[Int.toNat_of_nonneg hr3.1,List.length_nil,List.nil_append,Lv.css]at hlo;have hk:=zar hL a (n:=12) (by omega)
  rw[zp0,zay];generalize zaq L a 12=k0 at *;have h4:¬ (5:Int)=0:=by decide
  have h5:((0:Nat):Int)+1<2:=by decide
  have h6:k0.tmod 5<5:=by
   rw[Int.tmod_eq_emod_of_nonneg hk.1];exact Int.emod_lt_of_pos _ (by omega)
  generalize hk4:k0.tmod 5=k at *;have h9:k<5:=h6;by_cases h7:k<2 <;> by_cases h8:0<v <;> by_cases h10:k<4 <;> by_cases h11:0<c
  all_goals first
   |omega
   |(simp only[↓reduceIte,go_sem,zcp,zbj hid,zbk hid,zbh hid,zbi hid,List.length_set,hid,zbn,zco hid,hP0,hPv,hP4,hP3,hl,hk4,h4,h5,h7,h8,h9,h10,h11,zeh,zcg,and_self,and_false,false_and,true_and,if_true,if_false];done)
   |(simp only[↓reduceIte,go_sem,zcp,zbj hid,zbk hid,zbh hid,zbi hid,List.length_set,hid,zbn,zco hid,hP0,hPv,hP4,hP3,hl,hk4,h4,h5,h7,h8,h9,h10,h11,zeh,zcg,and_self,and_false,false_and,true_and,if_true,if_false];exact hlo)
 |succ d ih=>
  intro hd v hv a ha id H hid;have hpw:(4:Int) ^ (d+1+1)=4*4 ^ (d+1):=by rw[Int.pow_succ];omega
  have hpw2:(4:Int) ^ (d+1)=4*4 ^ d:=by rw[Int.pow_succ];omega
  have hq:(1:Int)<=4 ^ d:=Int.pow_pos (by decide)
  have hid2:∀X:List AO,id<(H++X).length:=fun X=>by simp;omega
  have hP0:=zbz L hL hlen a (by omega) 12 (by omega) id (H++[AO.lst 0 3 [],.lst 0 4 []]) (hid2 _) (by omega)
  have hPv:=zbz L hL hlen (a+1) (by omega) v (by omega) id (H++[AO.lst 0 3 [],.lst 0 4 []]) (hid2 _)
  have hP4:=zbz L hL hlen (a+1) (by omega) c (by omega) id (H++[AO.lst 0 3 [],.lst 0 4 []]) (hid2 _)
  have hP3:=zbz L hL hlen (a+1+1) (by omega) 3 (by omega) id (H++[AO.lst 0 3 [],.lst 0 4 [],.lst 0 3 [],.lst 0 4 [],.lst 0 3 [],.lst 0 4 []]) (hid2 _) (by omega)
  have hl:F zae [.ptr id 0,.int .i64 p,.int .i64 0,.int .i64 2] ((H++[AO.lst 0 3 [],.lst 0 4 []]).set id (mkr L (a+1)))=_:=zir L hL hlen p 0 hp0 (by omega) 1 (by omega) (a+1) (by simp;omega) id (H++[AO.lst 0 3 [],.lst 0 4 []]) (hid2 _)
  have hr3:=zar hL (a+1+1) (n:=3) (by omega)
  have hlo:=zst p hp0 L hL hlen id H hid a (zaq L (a+1) c) (zaq L (a+1+1) 3).toNat [] (a+1+1+1) (by omega) (by simp;omega) (by omega)
  simp only[Int.toNat_of_nonneg hr3.1,List.length_nil,List.nil_append,Lv.css]at hlo;have hk:=zar hL a (n:=12) (by omega)
  have hT1:=zim c p hL (d+1) v (a+1);have hT2:=zim c p hL (d+1) v (zay L c p (d+1) v (a+1)).2;have hC1:=fun Y:List AO=>ih (by omega) v (by omega) (a+1) (by omega) id (H++Y) (hid2 _)
  have hC2:=fun Y:List AO=>ih (by omega) v (by omega) (zay L c p (d+1) v (a+1)).2 (by omega) id (H++Y) (hid2 _)
  have hC3:=fun Y:List AO=>ih (by omega) (v+1) (by omega) (zay L c p (d+1) v (a+1)).2 (by omega) id (H++Y) (hid2 _)
  have hC4:=fun Y:List AO=>ih (by omega) (v+1) (by omega) (zay L c p (d+1) v (zay L c p (d+1) v (a+1)).2).2 (by omega) id (H++Y) (hid2 _)
  have hd1:((d+1:Nat):Int)+1 - 1=(d:Int)+1:=by omega
  have hw1:IntKind.i64.wrap ((d:Int)+1)=(d:Int)+1:=zap (by omega) (by omega)
  have hw2:IntKind.i64.wrap (v+1)=v+1:=zap (by omega) (by omega)
  rw[zp0,zay];generalize zaq L a 12=k at *;have h4:¬ (5:Int)=0:=by decide
  have h5:¬ ((d+1:Nat):Int)+1<2:=by omega
  have h6:¬ d+1=0:=by omega
  by_cases h9:k<5
  ·by_cases h7:k<2 <;> by_cases h8:0<v <;> by_cases h10:k<4 <;> by_cases h11:0<c
   all_goals first
    |omega
    |(simp only[↓reduceIte,go_sem,zcp,zbj hid,zbk hid,zbh hid,zbi hid,List.length_set,hid,zbn,zco hid,hP0,hPv,hP4,hP3,hl,h4,h5,h6,h7,h8,h9,h10,h11,zeh,zcg,and_self,and_false,false_and,true_and,if_true,if_false];done)
    |(simp only[↓reduceIte,go_sem,zcp,zbj hid,zbk hid,zbh hid,zbi hid,List.length_set,hid,zbn,zco hid,hP0,hPv,hP4,hP3,hl,h4,h5,h6,h7,h8,h9,h10,h11,zeh,zcg,and_self,and_false,false_and,true_and,if_true,if_false];exact hlo)
  ·have h7:¬ k<2:=by omega
   have h8:¬ k<4:=by omega
   have h10:k<8\/¬ k<8/\k<10\/¬ k<8/\¬ k<10/\k<11\/¬ k<8/\¬ k<10/\¬ k<11:=by omega
   rcases h10 with h10|⟨h10,h11⟩|⟨h10,h11,h12⟩|⟨h10,h11,h12⟩
   ·simp only[↓reduceIte,go_sem,zcp,zbj hid,zbk hid,zbh hid,zbi hid,List.length_set,hid,zbn,zco hid,hP0,hPv,hP4,hP3,hl,h4,h5,h6,h7,h8,h9,h10,hd1,hw1,hw2,hC1,hC2,hC3,hC4,zd6,zsq,zsp,zeh,zcg,and_self,and_false,false_and,true_and,if_true,if_false]
   ·simp only[↓reduceIte,go_sem,zcp,zbj hid,zbk hid,zbh hid,zbi hid,List.length_set,hid,zbn,zco hid,hP0,hPv,hP4,hP3,hl,h4,h5,h6,h7,h8,h9,h10,h11,hd1,hw1,hw2,hC1,hC2,hC3,hC4,zd6,zsq,zsp,zeh,zcg,and_self,and_false,false_and,true_and,if_true,if_false]
   ·simp only[↓reduceIte,go_sem,zcp,zbj hid,zbk hid,zbh hid,zbi hid,List.length_set,hid,zbn,zco hid,hP0,hPv,hP4,hP3,hl,h4,h5,h6,h7,h8,h9,h10,h11,h12,hd1,hw1,hw2,hC1,hC2,hC3,hC4,zd6,zsq,zsp,zeh,zcg,and_self,and_false,false_and,true_and,if_true,if_false]
   ·simp only[↓reduceIte,go_sem,zcp,zbj hid,zbk hid,zbh hid,zbi hid,List.length_set,hid,zbn,zco hid,hP0,hPv,hP4,hP3,hl,h4,h5,h6,h7,h8,h9,h10,h11,h12,hd1,hw1,hw2,hC1,hC2,hC3,hC4,zd6,zsq,zsp,zeh,zcg,and_self,and_false,false_and,true_and,if_true,if_false]
end Go.Ab
end
section
set_option linter.unusedVariables false
set_option linter.unusedSimpArgs false
set_option maxRecDepth 100000
set_option maxHeartbeats 4000000
namespace Go.Ab
open Go.RowKit Go.Proofs
def con1(L:List Int)(p:Int)(a:Int):Co×Int:=(.mk (zao L p 0 2 a).1 (zao L p 0 2 (zao L p 0 2 a).2).1,(zao L p 0 2 (zao L p 0 2 a).2).2)
def zl0(L:List Int):List Co×Int:=if 1<zaq L 1 3 then ([(con1 L (zaq L 0 3) 2).1],(con1 L (zaq L 0 3) 2).2) else ([],2)
def zwg(L:List Int)(c:Int):De×Int :=
 let p:=zaq L 0 3
 let t:=zay L c p 3 0 (zl0 L).2
 if 0<zaq L t.2 3 then (.mk p (zl0 L).1 t.1 true (zay L c p 4 0 (t.2+1)).1,(zay L c p 4 0 (t.2+1)).2)
 else (.mk p (zl0 L).1 t.1 false zeroT,t.2+1)
theorem decl_ok(L:List Int)(hL:zbr L)(hlen:L.length<=140737488355328)(c:Int)(hc:0<=c/\c<=100)(id:Nat)(H:List AO)(hid:id<H.length):
  F zj9 [.ptr id 0,.int .i64 c] (H.set id (mkr L 0))=some (.ret (.agg (zwg L c).1.cs),H.set id (mkr L (zwg L c).2)):=by
 have hid2:∀X:List AO,id<(H++X).length:=fun X=>by simp;omega
 have hp:=zar hL 0 (n:=3) (by omega)
 have hi:=zar hL 1 (n:=3) (by omega)
 have hK:2<=(zl0 L).2/\(zl0 L).2<=100:=by
  unfold zl0
  split
  ·have h1:=zdw L (zaq L 0 3) 0 2 2
   have h2:=zdw L (zaq L 0 3) 0 2 (zao L (zaq L 0 3) 0 2 2).2;simp only[Int.reducePow,Nat.reduceAdd]at h1 h2;simp only[con1];omega
  ·simp
 have hP0:=fun Y=>zbz L hL hlen 0 (by omega) 3 (by omega) id (H++Y) (hid2 _) (by omega)
 have hP1:=fun Y=>zbz L hL hlen 1 (by omega) 3 (by omega) id (H++Y) (hid2 _) (by omega)
 have hl1:∀Y,F zae [.ptr id 0,.int .i64 (zaq L 0 3),.int .i64 0,.int .i64 2] ((H++Y).set id (mkr L 2))=_:=fun Y=>zir L hL hlen (zaq L 0 3) 0 (by omega) (by omega) 1 (by omega) 2 (by simp) id (H++Y) (hid2 _)
 have hlv:=zdw L (zaq L 0 3) 0 2 2;simp only[Int.reducePow,Nat.reduceAdd]at hlv;have hl2:∀Y,F zae [.ptr id 0,.int .i64 (zaq L 0 3),.int .i64 0,.int .i64 2] ((H++Y).set id (mkr L (zao L (zaq L 0 3) 0 2 2).2))=_:=fun Y=>zir L hL hlen (zaq L 0 3) 0 (by omega) (by omega) 1 (by omega) _ (by simp;omega) id (H++Y) (hid2 _)
 have hT:∀Y,F zbb [.ptr id 0,.int .i64 c,.int .i64 (zaq L 0 3),.int .i64 0,.int .i64 3] ((H++Y).set id (mkr L (zl0 L).2))=some (.ret (.agg (zay L c (zaq L 0 3) 3 0 (zl0 L).2).1.cs),(H++Y).set id (mkr L (zay L c (zaq L 0 3) 3 0 (zl0 L).2).2)):=fun Y=>z2o c (zaq L 0 3) hc (by omega) L hL hlen 2 (by omega) 0 (by omega) (zl0 L).2 (by omega) id (H++Y) (hid2 _)
 have ha:=zim c (zaq L 0 3) hL 3 0 (zl0 L).2;simp only[Int.reducePow]at ha;have hP3:=fun Y=>zbz L hL hlen (zay L c (zaq L 0 3) 3 0 (zl0 L).2).2 (by omega) 3 (by omega) id (H++Y) (hid2 _) (by omega)
 have hV:∀Y,F zbb [.ptr id 0,.int .i64 c,.int .i64 (zaq L 0 3),.int .i64 0,.int .i64 4] ((H++Y).set id (mkr L ((zay L c (zaq L 0 3) 3 0 (zl0 L).2).2+1)))=some (.ret (.agg (zay L c (zaq L 0 3) 4 0 ((zay L c (zaq L 0 3) 3 0 (zl0 L).2).2+1)).1.cs),(H++Y).set id (mkr L (zay L c (zaq L 0 3) 4 0 ((zay L c (zaq L 0 3) 3 0 (zl0 L).2).2+1)).2)):=fun Y=>z2o c (zaq L 0 3) hc (by omega) L hL hlen 3 (by omega) 0 (by omega) _ (by omega) id (H++Y) (hid2 _)
 rw[zwg];generalize zay L c (zaq L 0 3) 3 0 (zl0 L).2=q at *;generalize zay L c (zaq L 0 3) 4 0 (q.2+1)=r at *;rcases q with⟨⟨k1,n1,ls1,ks1⟩,b1⟩;rcases r with⟨⟨k2,n2,ls2,ks2⟩,b2⟩;simp only[Te.cs]at hT hV hP3;rw[z16];have hcs:∀(x y:Lv) (u v w z o k:AV),over [u,v,w,z,o,k] 0 x.cs=x.cs++[z,o,k]:=by intro x y;intros;rcases x with⟨_,_,_⟩;rfl
 have hcs2:∀(x y:Lv) (u v w:AV),over (x.cs++[u,v,w]) 3 y.cs=x.cs++y.cs:=by intro x y;intros;rcases x with⟨_,_,_⟩;rcases y with⟨_,_,_⟩;rfl
 by_cases h1:1<zaq L 1 3
 ·have h2:zaq L 1 3=2:=by omega
  simp only[zl0,con1,if_pos h1]at hT ⊢;generalize hx:zao L (zaq L 0 3) 0 2 2=x at *;generalize hy:zao L (zaq L 0 3) 0 2 x.2=y at *;rcases x with⟨⟨k3,n3,ks3⟩,b3⟩;rcases y with⟨⟨k4,n4,ks4⟩,b4⟩;simp only[Lv.cs]at hl1 hl2;by_cases h3:0<zaq L b1 3
  ·rw[if_pos h3]
   simp only[↓reduceIte,go_sem,zcp,zbj hid,zbk hid,zbh hid,zbi hid,List.length_set,hid,zbn,zco hid,hP0,hP1,hP3,hT,hV,hl1,hl2,hcs,hcs2,Lv.cs,h2,h3,show ((1:Int)<2) from by decide,show ¬ ((1:Int)<1) from by decide,show IntKind.i64.wrap 1=1 from by decide,Nat.add_le_add_iff_left,Nat.reduceLeDiff,De.cs,De.p,De.cons,De.type,De.has,De.value,Co.css,Co.cs,Co.a,Co.b,Te.cs,zeroT,Lv.css,Te.css,List.map_cons,List.map_nil,List.cons_append,List.nil_append]
   rw[zen,zab];simp only[↓reduceIte,go_sem,zcp,zbj hid,zbk hid,zbh hid,zbi hid,List.length_set,hid,zbn,zco hid,hP0,hP1,hP3,hT,hV,hl1,hl2,hcs,hcs2,Lv.cs,h2,h3,show ((1:Int)<2) from by decide,show ¬ ((1:Int)<1) from by decide,show IntKind.i64.wrap 1=1 from by decide,Nat.add_le_add_iff_left,Nat.reduceLeDiff,De.cs,De.p,De.cons,De.type,De.has,De.value,Co.css,Co.cs,Co.a,Co.b,Te.cs,zeroT,Lv.css,Te.css,List.map_cons,List.map_nil,List.cons_append,List.nil_append]
   rw[zen,zab];simp only[↓reduceIte,go_sem,zcp,zbj hid,zbk hid,zbh hid,zbi hid,List.length_set,hid,zbn,zco hid,hP0,hP1,hP3,hT,hV,hl1,hl2,hcs,hcs2,Lv.cs,h2,h3,show ((1:Int)<2) from by decide,show ¬ ((1:Int)<1) from by decide,show IntKind.i64.wrap 1=1 from by decide,Nat.add_le_add_iff_left,Nat.reduceLeDiff,De.cs,De.p,De.cons,De.type,De.has,De.value,Co.css,Co.cs,Co.a,Co.b,Te.cs,zeroT,Lv.css,Te.css,List.map_cons,List.map_nil,List.cons_append,List.nil_append]
  ·rw[if_neg h3]
   simp only[↓reduceIte,go_sem,zcp,zbj hid,zbk hid,zbh hid,zbi hid,List.length_set,hid,zbn,zco hid,hP0,hP1,hP3,hT,hV,hl1,hl2,hcs,hcs2,Lv.cs,h2,h3,show ((1:Int)<2) from by decide,show ¬ ((1:Int)<1) from by decide,show IntKind.i64.wrap 1=1 from by decide,Nat.add_le_add_iff_left,Nat.reduceLeDiff,De.cs,De.p,De.cons,De.type,De.has,De.value,Co.css,Co.cs,Co.a,Co.b,Te.cs,zeroT,Lv.css,Te.css,List.map_cons,List.map_nil,List.cons_append,List.nil_append]
   rw[zen,zab];simp only[↓reduceIte,go_sem,zcp,zbj hid,zbk hid,zbh hid,zbi hid,List.length_set,hid,zbn,zco hid,hP0,hP1,hP3,hT,hV,hl1,hl2,hcs,hcs2,Lv.cs,h2,h3,show ((1:Int)<2) from by decide,show ¬ ((1:Int)<1) from by decide,show IntKind.i64.wrap 1=1 from by decide,Nat.add_le_add_iff_left,Nat.reduceLeDiff,De.cs,De.p,De.cons,De.type,De.has,De.value,Co.css,Co.cs,Co.a,Co.b,Te.cs,zeroT,Lv.css,Te.css,List.map_cons,List.map_nil,List.cons_append,List.nil_append]
   rw[zen,zab];simp only[↓reduceIte,go_sem,zcp,zbj hid,zbk hid,zbh hid,zbi hid,List.length_set,hid,zbn,zco hid,hP0,hP1,hP3,hT,hV,hl1,hl2,hcs,hcs2,Lv.cs,h2,h3,show ((1:Int)<2) from by decide,show ¬ ((1:Int)<1) from by decide,show IntKind.i64.wrap 1=1 from by decide,Nat.add_le_add_iff_left,Nat.reduceLeDiff,De.cs,De.p,De.cons,De.type,De.has,De.value,Co.css,Co.cs,Co.a,Co.b,Te.cs,zeroT,Lv.css,Te.css,List.map_cons,List.map_nil,List.cons_append,List.nil_append]
 ·simp only[zl0,if_neg h1]at hT ⊢
  have h2:True:=trivial;by_cases h3:0<zaq L b1 3
  ·rw[if_pos h3]
   simp only[↓reduceIte,go_sem,zcp,zbj hid,zbk hid,zbh hid,zbi hid,List.length_set,hid,zbn,zco hid,hP0,hP1,hP3,hT,hV,h1,h3,De.cs,De.p,De.cons,De.type,De.has,De.value,Co.css,Co.cs,Co.a,Co.b,Te.cs,zeroT,Lv.css,Te.css,List.map_cons,List.map_nil,List.cons_append,List.nil_append];rw[zen,zab];simp only[↓reduceIte,go_sem,zcp,zbj hid,zbk hid,zbh hid,zbi hid,List.length_set,hid,zbn,zco hid,hP0,hP1,hP3,hT,hV,h1,h3,De.cs,De.p,De.cons,De.type,De.has,De.value,Co.css,Co.cs,Co.a,Co.b,Te.cs,zeroT,Lv.css,Te.css,List.map_cons,List.map_nil,List.cons_append,List.nil_append]
  ·rw[if_neg h3]
   simp only[↓reduceIte,go_sem,zcp,zbj hid,zbk hid,zbh hid,zbi hid,List.length_set,hid,zbn,zco hid,hP0,hP1,hP3,hT,hV,h1,h3,De.cs,De.p,De.cons,De.type,De.has,De.value,Co.css,Co.cs,Co.a,Co.b,Te.cs,zeroT,Lv.css,Te.css,List.map_cons,List.map_nil,List.cons_append,List.nil_append];rw[zen,zab];simp only[↓reduceIte,go_sem,zcp,zbj hid,zbk hid,zbh hid,zbi hid,List.length_set,hid,zbn,zco hid,hP0,hP1,hP3,hT,hV,h1,h3,De.cs,De.p,De.cons,De.type,De.has,De.value,Co.css,Co.cs,Co.a,Co.b,Te.cs,zeroT,Lv.css,Te.css,List.map_cons,List.map_nil,List.cons_append,List.nil_append]
theorem zpk{H:List AO}{x y:AO}:(H++[x]).set H.length y=H++[y]:=by simp
theorem yhe(L:List Int)(hL:zbr L)(hlen:L.length<=140737488355328)(c:Int)(hc:0<=c/\c<=100)(X:List AO):
  F zj9 [.ptr X.length 0,.int .i64 c] (X++[mkr L 0])=some (.ret (.agg (zwg L c).1.cs),X++[mkr L (zwg L c).2]):=by
 have:=decl_ok L hL hlen c hc X.length (X++[mkr L 0]) (by simp)
 rwa [zpk,zpk]at this
def z8e:List (List Int)->Nat->List De
 |[],_=>[]
 |l::r,i=>if i<4 then (zwg l i).1::z8e r (i+1) else []
def yin(l:List (List Int)):List (List AV):=l.map fun l=>[.sl (u8s l)]
def BsOk(l:List (List Int)):Prop:=l.length<=140737488355328/\∀x∈l,x.length<=140737488355328/\zbr x
theorem yey(l:List (List Int))(i:Nat):(yin l)[i]?=l[i]?.map fun l=>[AV.sl (u8s l)]:=by simp[yin]
theorem zxr(l:List (List Int)):(yin l).length=l.length:=by simp[yin]
theorem z8h(a:List De)(x:De):De.css a++[x.cs]=De.css (a++[x]):=by simp[De.css]
theorem env_ok(l:List (List Int))(hl:BsOk l)(H:List AO):F zog [.sl (yin l)] H=some (.ret (.sl (De.css (z8e l 0))),H):=by
 have loop:∀(suf pre:List (List Int)) (done:List De) (J:List AO),l=pre++suf->done.length=pre.length->pre.length<=4 ->
   zhz H (H++(.lst 0 11 [] :: .lst done.length 11 (De.css done)::J)) (.sl (yin l)) (.ol (H.length+1) done.length) (.int .i64 pre.length)=some (.ret (.sl (De.css (done++z8e suf pre.length))),H):=by
  intro suf
  induction suf with
  |nil=>
   intro pre done J e hd hp;have hn:¬ (pre.length:Int)<l.length:=by rw[e];simp
   rw[zhz,zab,z8e,List.append_nil];simp only[↓reduceIte,go_sem,zxr,hn]
  |cons x suf ih=>
   intro pre done J e hd hp;have hn:(pre.length:Int)<l.length:=by rw[e];simp;omega
   rw[z8e];by_cases h4:pre.length<4
   ·have hg:l[pre.length]?=some x:=by rw[e];simp
    obtain⟨hx1,hx2⟩:=hl.2 x (by rw[e];simp)
    have hD:=yhe x hx2 hx1 pre.length (by omega) (H++(.lst 0 11 [] :: .lst done.length 11 (De.css done)::J))
    have:=ih (pre++[x]) (done++[(zwg x pre.length).1]) (J++[mkr x (zwg x pre.length).2]) (by rw[e];simp) (by simp[hd]) (by simp;omega)
    simp only[zah,List.length_append,List.length_cons,List.length_nil,List.append_assoc,List.cons_append,List.nil_append,Nat.zero_add]at this hD;rw[zhz,zab,if_pos h4];have h0:AO.box [.sl (u8s x),.int .i64 0]=mkr x 0:=rfl;simp only[↓reduceIte,go_sem,zxr,yey,hn,h4,show (pre.length:Int)<4 by omega,hg,h0,hD,z8h,show done.length<=1073741823 by omega,zad (n:=pre.length) (by omega)]
    exact this
   ·rw[zhz,zab,if_neg h4,List.append_nil]
    simp only[↓reduceIte,go_sem,zxr,hn,show ¬ (pre.length:Int)<4 by omega]
 have:=loop l [] [] [] rfl rfl (by simp)
 simp only[List.length_nil,Int.natCast_zero,List.nil_append,De.css,List.map_nil]at this;rw[z4t];simp only[↓reduceIte,go_sem,this,De.css]
end Go.Ab
end
section
set_option linter.unusedVariables false
set_option linter.unusedSimpArgs false
set_option maxRecDepth 100000
set_option maxHeartbeats 4000000
namespace Go.Ab
open Go.RowKit Go.Proofs
theorem zw0(L:List Int)(p:Int):∀(i:Nat) (a:Int),(zgb L p i a).1.length=i/\∀x∈(zgb L p i a).1,x.ok
 |0,a=>by simp[zgb]
 |i+1,a=>by
  have h:=zw0 L p i;rw[zgb];refine⟨by simp[h],?_⟩
  intro x hx;simp at hx;rcases hx with rfl|hx
  ·exact zhf _ _ _ _ _
  ·exact (h _).2 x hx
theorem zph{L:List Int}(hL:zbr L)(c p:Int):∀(d:Nat) (v a:Int),(zay L c p d v a).1.ok
 |0,v,a=>by rw[zay];simp[zi7]
 |d+1,v,a=>by
  have h:=fun v a=>zph hL c p d v a
  have h3:=zw0 L p (zaq L (a+1+1) 3).toNat (a+1+1+1);have h2:=zar hL (a+1+1) (n:=3) (by omega)
  rw[zay];dsimp only
  repeat' split
  all_goals simp[zi7,h,zhf]
  all_goals exact⟨by omega,h3.2⟩
theorem yhf{L:List Int}(hL:zbr L)(c:Int):(zwg L c).1.ok:=by
 have hk:(zl0 L).1.length<=140737488355328/\∀x∈(zl0 L).1,x.ok:=by
  unfold zl0
  split
  ·refine⟨by simp,?_⟩
   intro x hx;simp at hx;subst hx;exact⟨zhf _ _ _ _ _,zhf _ _ _ _ _⟩
  ·exact⟨by simp,by intro x hx;cases hx⟩
 rw[zwg]
 split
 ·exact⟨hk.1,hk.2,zph hL _ _ _ _ _,zph hL _ _ _ _ _⟩
 ·exact⟨hk.1,hk.2,zph hL _ _ _ _ _,ztk⟩
theorem z6o:∀(l:List (List Int)) (i:Nat),(z8e l i).length<=l.length
 |[],_=>by simp[z8e]
 |x::r,i=>by
  have:=z6o r (i+1);rw[z8e];split <;> simp <;> omega
theorem yc0:∀(l:List (List Int)) (i:Nat),(∀x∈l,x.length<=140737488355328/\zbr x)->∀d∈z8e l i,d.ok
 |[],_,_,d,hd=>by simp[z8e]at hd
 |x::r,i,h,d,hd=>by
  rw[z8e]at hd
  split at hd
  ·rcases List.mem_cons.1 hd with rfl|hd
   ·exact yhf (h x (by simp)).2 _
   ·exact yc0 r (i+1) (fun y hy=>h y (by simp[hy])) d hd
  ·cases hd
theorem yg9{l:List (List Int)}(hl:BsOk l):zta (z8e l 0):=⟨Nat.le_trans (z6o l 0) hl.1,yc0 l 0 hl.2⟩
end Go.Ab
end
section
set_option linter.unusedVariables false
set_option linter.unusedSimpArgs false
namespace Go.Ab
open Go.RowKit Go.Proofs
mutual
theorem right_mono{p m:Int}:∀(t:Te) {v d v' d':Int},rightT p m t v d=true->v<=v' -> d<=d' -> rightT p m t v' d' = true
 |.mk k n ls ks,v,d,v',d',h,hv,hd=>by
  obtain⟨h1,h2,h3,h4,h5⟩:=zb8 h;have h6:zc9 k n ls v' = true:=by
   unfold zc9 at h4 ⊢
   split at h4
   ·rename_i e;rw[if_pos e];simp at h4 ⊢;refine⟨⟨h4.1.1,by omega⟩,h4.2⟩
   ·rename_i e;rw[if_neg e];exact h4
  rw[rightT,if_neg (by omega),if_neg (by simpa using h2),if_neg (by rw[h3,h6];simp),rights_mono ks h5 hv (by omega)]
theorem rights_mono{p m k:Int}:∀(ks:List Te) {i v d v' d':Int},rightTs p m k ks i v d=true->v<=v' -> d<=d' -> rightTs p m k ks i v' d' = true
 |[],_,_,_,_,_,_,_,_=>rfl
 |x::r,i,v,d,v',d',h,hv,hd=>by
  rw[rightTs,Bool.and_eq_true]at h;rw[rightTs,right_mono x h.1 (by omega) hd,rights_mono r h.2 hv hd];rfl
end
mutual
theorem right_lift{p m b:Int}(hb:0<=b):∀(t:Te) {v d:Int} (f:Int),rightT p m t v d=true->rightT p m (liftT b t f) (v+b) d=true
 |.mk k n ls ks,v,d,f,h=>by
  obtain⟨h1,h2,h3,h4,h5⟩:=zb8 h;have h6:zc9 k (if k=1/\f<=n then n+b else n) ls (v+b)=true:=by
   by_cases e:k=1
   ·subst e
    obtain⟨a1,a2,rfl⟩:=zkt h4;unfold zc9;rw[if_pos rfl]
    split <;> simp <;> omega
   ·rw[if_neg (by omega)]
    unfold zc9 at h4 ⊢;rw[if_neg e]at h4 ⊢;exact h4
  rw[liftT,rightT,if_neg (by omega),if_neg (by rw[zr3];simpa using h2),if_neg (by rw[h3,h6];simp),rights_lift hb ks f h5]
theorem rights_lift{p m b k:Int}(hb:0<=b):∀(ks:List Te) {i v d:Int} (f:Int),rightTs p m k ks i v d=true->rightTs p m k (liftTs b k ks i f) i (v+b) d=true
 |[],_,_,_,_,_=>rfl
 |x::r,i,v,d,f,h=>by
  rw[rightTs,Bool.and_eq_true]at h;have:=right_lift hb x (f+binds k i) h.1;rw[show v+binds k i+b=v+b+binds k i by omega]at this
  rw[liftTs,rightTs,this,rights_lift hb r f h.2];rfl
end
mutual
theorem right_open{p m du:Int}{u:Te}:∀(t:Te) {v d f:Int},rightT p m t (v+1) d=true->0<=f->f<=v->rightT p m u (v - f) du=true->rightT p m (openT u t f) v (d+du)=true
 |.mk k n ls ks,v,d,f,h,hf,hv,hu=>by
  obtain⟨h1,h2,h3,h4,h5⟩:=zb8 h;have hdu:1<=du:=by cases u;exact (zb8 hu).1
  by_cases e:k=1/\n=f
  ·rw[openT,if_pos e]
   have:=right_lift hf u 0 hu;rw[show v - f+f=v by omega]at this
   exact right_mono _ this (by omega) (by omega)
  ·have h6:zc9 k (if k=1/\f<n then n - 1 else n) ls v=true:=by
    by_cases e1:k=1
    ·subst e1
     obtain⟨a1,a2,rfl⟩:=zkt h4;unfold zc9;rw[if_pos rfl];have:n≠f:=fun x=>e ⟨rfl,x⟩
     split <;> simp <;> omega
    ·rw[if_neg (by omega)]
     unfold zc9 at h4 ⊢;rw[if_neg e1]at h4 ⊢;exact h4
   rw[openT,if_neg e,rightT,if_neg (by omega),if_neg (by rw[zrt];simpa using h2),if_neg (by rw[h3,h6];simp)]
   have:=rights_open ks h5 hf hv hu;rw[show d - 1+du=d+du - 1 by omega]at this
   exact this
theorem rights_open{p m du k:Int}{u:Te}:∀(ks:List Te) {i v d f:Int},rightTs p m k ks i (v+1) d=true->0<=f->f<=v->rightT p m u (v - f) du=true->rightTs p m k (openTs u k ks i f) i v (d+du)=true
 |[],_,_,_,_,_,_,_,_=>rfl
 |x::r,i,v,d,f,h,hf,hv,hu=>by
  have hb:=zio k i;rw[rightTs,Bool.and_eq_true]at h;have h1:=h.1;rw[show v+1+binds k i=v+binds k i+1 by omega]at h1
  have:=right_open x (f:=f+binds k i) h1 (by omega) (by omega) (by rw[show v+binds k i - (f+binds k i)=v - f by omega];exact hu)
  rw[openTs,rightTs,this,rights_open r h.2 hf hv hu];rfl
end
end Go.Ab
end
section
set_option linter.unusedVariables false
set_option linter.unusedSimpArgs false
set_option maxRecDepth 100000
set_option maxHeartbeats 2000000
namespace Go.Ab
open Go.RowKit Go.Proofs
mutual
def lsz:Lv->Nat
 |.mk _ _ ks=>1+lszs ks
def lszs:List Lv->Nat
 |[]=>0
 |x::r=>lsz x+lszs r
end
mutual
theorem nodes_lsz:∀(l:Lv) (most:Int),nodes l most<=lsz l
 |.mk _ _ ks,most=>by
  have:=nodes_lszs ks most 1;rw[nodes,lsz];omega
theorem nodes_lszs:∀(ks:List Lv) (most n:Int),nodesL ks most n<=n+lszs ks
 |[],_,n=>by rw[nodesL,lszs];omega
 |x::r,most,n=>by
  have h1:=nodes_lsz x (most - n);have h2:=nodes_lszs r most (n+nodes x (most - n));rw[nodesL,lszs]
  split <;> omega
end
theorem z06(L:List Int)(p m:Int):∀(d:Nat) (a:Int),lsz (zao L p m d a).1+1<=2 ^ (d+1)
 |0,a=>by simp[zao,lsz,lszs]
 |d+1,a=>by
  have h:=z06 L p m d;have hp:2 ^ (d+1+1)=2*2 ^ (d+1):=by rw[Nat.pow_succ];omega
  have h1:=h (a+1);have h2:=h (zao L p m d (a+1)).2;rw[zao]
  repeat' split
  all_goals (try dsimp only) <;> simp only[lsz,lszs] <;> omega
theorem zsu{L:List Int}(hL:zbr L){p m P M:Int}(hp:p<=P)(hm:m<=M):∀(d:Nat) (a e:Int),d+1<=e->rightB P M (zao L p m d a).1 e=true
 |0,a,e,he=>by rw[zao];simp[rightB,rightsB,zgf];omega
 |d+1,a,e,he=>by
  have h:=fun a=>zsu hL hp hm d a (e - 1) (by omega)
  rw[zao];have e1:¬ e<1:=by omega
  have p1:0<p->0<=zaq L (a+1) p/\zaq L (a+1) p<p:=fun h=>zar hL _ h
  have p2:0<m->0<=zaq L (a+1) m/\zaq L (a+1) m<m:=fun h=>zar hL _ h
  repeat' split
  all_goals simp[rightB,rightsB,zgf,h,e1]
  all_goals omega
theorem znf{L:List Int}(hL:zbr L){p m:Int}(hp:p<=5)(hm:m<=10)(d:Nat)(hd:d<=5)(a:Int):zax (zao L p m d a).1 5 10=true:=by
 have h1:=zsu hL hp hm d a 12 (by omega)
 have h2:=z06 L p m d a;have h3:=nodes_lsz (zao L p m d a).1 101;have h4:2 ^ (d+1)<=2 ^ 6:=Nat.pow_le_pow_right (by omega) (by omega)
 unfold zax;simp[h1];omega
theorem zlt{L:List Int}(hL:zbr L):∀(i:Nat) (a:Int),(zfm L i a).1.all (fun x=>zax x 5 10)=true
 |0,a=>rfl
 |i+1,a=>by
  rw[zfm];simp only[List.all_cons,znf hL (show (3:Int)<=5 by omega) (show (2:Int)<=10 by omega) 2 (by omega) a,zlt hL i,Bool.and_self]
theorem zua{L:List Int}(hL:zbr L):∀(d:Nat) (v a:Int),0<=v->rightT 5 10 (ze2 L (d+1) v a).1 v (d+1)=true:=by
 intro d
 induction d with
 |zero=>
  intro v a hv;have hl:=znf hL (show (3:Int)<=5 by omega) (show (2:Int)<=10 by omega) 3 (by omega) (a+1)
  have hls:=zlt hL (zaq L (a+1+1) 3).toNat (a+1+1+1);have hln:=(zo7 L (zaq L (a+1+1) 3).toNat (a+1+1+1)).1;have hp3:=zar hL (a+1+1) (n:=3) (by omega)
  have hp4:=zar hL (a+1) (n:=4) (by omega)
  have hpv:0<v->0<=zaq L (a+1) v/\zaq L (a+1) v<v:=fun h=>zar hL _ h
  have hk:=zar hL a (n:=12) (by omega)
  rw[ze2];dsimp only;rw[if_pos rfl];generalize zaq L a 12=k0 at *;have hk4:k0.tmod 4<4:=by rw[Int.tmod_eq_emod_of_nonneg hk.1];omega
  generalize k0.tmod 4=k at *
  split
  ·rename_i h;simp[rightT,rightTs,zdx,zc9];exact hpv h.2
  split
  ·simp[rightT,rightTs,zdx,zc9,hl]
  ·simp[rightT,rightTs,zdx,zc9,hln];exact⟨by simpa using hls,by omega⟩
 |succ d ih=>
  intro v a hv;have hl:=znf hL (show (3:Int)<=5 by omega) (show (2:Int)<=10 by omega) 3 (by omega) (a+1)
  have hls:=zlt hL (zaq L (a+1+1) 3).toNat (a+1+1+1);have hln:=(zo7 L (zaq L (a+1+1) 3).toNat (a+1+1+1)).1;have hp3:=zar hL (a+1+1) (n:=3) (by omega)
  have hp4:=zar hL (a+1) (n:=4) (by omega)
  have hpv:0<v->0<=zaq L (a+1) v/\zaq L (a+1) v<v:=fun h=>zar hL _ h
  have i1:=fun a=>ih v a hv
  have i2:=fun a=>ih (v+1) a (by omega)
  have hd:¬ (((d+1:Nat):Int)+1<1):=by omega
  have hd':¬ ((d:Int)+1+1<1):=by omega
  have hd2:((d+1:Nat):Int)+1 - 1=(d:Int)+1:=by omega
  rw[ze2];dsimp only;rw[if_neg (show ¬ (d+1=0) by omega)]
  generalize zaq L a 12=k at *
  split
  ·rename_i h;simp[rightT,rightTs,zdx,zc9,hd,hd'];exact hpv h.2
  split
  ·simp[rightT,rightTs,zdx,zc9,hl,hd,hd']
  split
  ·simp[rightT,rightTs,zdx,zc9,hln,hd,hd'];exact⟨by simpa using hls,by omega⟩
  split
  ·simp only[rightT,rightTs,zdx,zc9,hd,hd2];simp[binds,i1,i2]
  split
  ·simp only[rightT,rightTs,zdx,zc9,hd,hd2];simp[binds,i1,i2]
  split
  ·simp only[rightT,rightTs,zdx,zc9,hd,hd2];simp[binds,i1,i2]
  ·simp only[rightT,rightTs,zdx,zc9,hd,hd2];simp[binds,i1,i2]
end Go.Ab
end
section
set_option linter.unusedVariables false
set_option linter.unusedSimpArgs false
set_option maxRecDepth 100000
set_option maxHeartbeats 4000000
namespace Go.Ab
open Go.RowKit Go.Proofs
def yhj(L:List Int)(p a:Int):Co×Int:=(.mk (zao L p 0 3 a).1 (zao L p 0 3 (zao L p 0 3 a).2).1,(zao L p 0 3 (zao L p 0 3 a).2).2)
def zsl(L:List Int)(p:Int):Nat->Int->List Co×Int
 |0,a=>([],a)
 |i+1,a=>((yhj L p a).1::(zsl L p i (yhj L p a).2).1,(zsl L p i (yhj L p a).2).2)
theorem conS_at(L:List Int)(p a:Int):a<=(yhj L p a).2/\(yhj L p a).2<=a+30:=by
 have h1:=zdw L p 0 3 a;have h2:=zdw L p 0 3 (zao L p 0 3 a).2;simp only[Int.reducePow,Nat.reduceAdd]at h1 h2;unfold yhj;dsimp only;omega
theorem z2k(L:List Int)(p:Int):∀(i:Nat) (a:Int),(zsl L p i a).1.length=i
 |0,a=>rfl
 |i+1,a=>by rw[zsl];simp[z2k L p i]
theorem z6p(L:List Int)(p:Int):∀(i:Nat) (a:Int),∀c∈(zsl L p i a).1,c.ok
 |0,a,c,hc=>by cases hc
 |i+1,a,c,hc=>by
  rw[zsl]at hc;rcases List.mem_cons.1 hc with rfl|hc
  ·exact⟨zhf _ _ _ _ _,zhf _ _ _ _ _⟩
  ·exact z6p L p i _ c hc
theorem z8n(a:List Co)(x:Co):Co.css a++[x.cs]=Co.css (a++[x]):=by simp[Co.css]
theorem cons_ok(L:List Int)(hL:zbr L)(hlen:L.length<=140737488355328)(p:Int)(hp:0<=p/\p<=100)(most:Int)(hm:0<=most/\most<=90)(a:Int)(ha:0<=a/\a<=900000)(id:Nat)(H:List AO)(hid:id<H.length):
  F zmn [.ptr id 0,.int .i64 p,.int .i64 most] (H.set id (mkr L a))=some (.ret (.sl (Co.css (zsl L p (zaq L a (most+1)).toNat (a+1)).1)),H.set id (mkr L (zsl L p (zaq L a (most+1)).toNat (a+1)).2)):=by
 have hid2:∀X:List AO,id<(H++X).length:=fun X=>by simp;omega
 have hcs:∀(x:Lv) (u v w z o k:AV),over [u,v,w,z,o,k] 0 x.cs=x.cs++[z,o,k]:=by intro x;intros;rcases x with⟨_,_,_⟩;rfl
 have hcs2:∀(x y:Lv) (u v w:AV),over (x.cs++[u,v,w]) 3 y.cs=x.cs++y.cs:=by intro x y;intros;rcases x with⟨_,_,_⟩;rcases y with⟨_,_,_⟩;rfl
 have hp1:=zar hL a (n:=most+1) (by omega)
 have hP:=fun Y=>zbz L hL hlen a (by omega) (most+1) (by omega) id (H++Y) (hid2 _) (by omega)
 have e0:Co.css []=[]:=rfl;have loop:∀(i:Nat),i<=100->∀(b:Int),0<=b/\b+30*i<=950000->∀(done:List Co) (ver:Nat),done.length+i<=1000 ->
   zi1 (H.set id (mkr L a)) ((H++[AO.lst 0 6 [],AO.lst ver 6 (Co.css done)]).set id (mkr L b)) (.ptr id 0) (.int .i64 p) (.ol (H.length+1) ver) (.int .i64 i)=some (.ret (.sl (Co.css (done++(zsl L p i b).1))),H.set id (mkr L (zsl L p i b).2)):=by
  intro i
  induction i with
  |zero=>
   intro _ b hb done ver hd;rw[zi1,zab,zsl,List.append_nil];simp only[↓reduceIte,go_sem,zcp,zbj hid,zbk hid,zbh hid,zbi hid,List.length_set,hid,zbn,zco hid,Int.natCast_zero,show ¬ (0:Int)<0 by decide]
   exact if_pos (.sl (zpg _ done))
  |succ i ih=>
   intro hi b hb done ver hd;have h1:=zdw L p 0 3 b;have h2:=zdw L p 0 3 (zao L p 0 3 b).2;simp only[Int.reducePow,Nat.reduceAdd]at h1 h2;have hl1:∀Y,F zae [.ptr id 0,.int .i64 p,.int .i64 0,.int .i64 3] ((H++Y).set id (mkr L b))=_:=fun Y=>zir L hL hlen p 0 (by omega) (by omega) 2 (by omega) b ⟨by omega,by simp only[Int.reducePow,Nat.reduceAdd];omega⟩ id (H++Y) (hid2 _)
   have hl2:∀Y,F zae [.ptr id 0,.int .i64 p,.int .i64 0,.int .i64 3] ((H++Y).set id (mkr L (zao L p 0 3 b).2))=_:=fun Y=>zir L hL hlen p 0 (by omega) (by omega) 2 (by omega) _ ⟨by omega,by simp only[Int.reducePow,Nat.reduceAdd];omega⟩ id (H++Y) (hid2 _)
   have hc:=conS_at L p b;have:=ih (by omega) (yhj L p b).2 (by omega) (done++[(yhj L p b).1]) (ver+1) (by simp;omega)
   rw[zsl];unfold yhj at this ⊢;dsimp only at this ⊢;generalize hx:zao L p 0 3 b=x at *;generalize hy:zao L p 0 3 x.2=y at *;rcases x with⟨⟨k3,n3,ks3⟩,b3⟩;rcases y with⟨⟨k4,n4,ks4⟩,b4⟩;rw[<- z8n]at this;simp only[Nat.reduceAdd,Lv.cs,hx,hy,Co.cs,Co.a,Co.b,List.cons_append,List.nil_append,List.append_assoc]at hl1 hl2 this;rw[zi1,zab];simp only[↓reduceIte,go_sem,zcp,zbj hid,zbk hid,zbh hid,zbi hid,List.length_set,hid,zbn,zco hid,hl1,hl2,hcs,hcs2,Lv.cs,show (0:Int)<((i+1:Nat):Int) by omega,show IntKind.i64.wrap (((i+1:Nat):Int) - 1)=(i:Int) by rw[zap (by omega) (by omega)];omega,show done.length<=1073741823 by omega,List.cons_append,List.nil_append,this]
 have:=loop (zaq L a (most+1)).toNat (by omega) (a+1) (by omega) [] 0 (by simp;omega)
 rw[show ((zaq L a (most+1)).toNat:Int)=zaq L a (most+1) by omega]at this
 simp only[e0,List.nil_append,zcp hid]at this;rw[z19];simp only[↓reduceIte,go_sem,zcp,zbj hid,zbk hid,zbh hid,zbi hid,List.length_set,hid,zbn,zco hid,hP,zap (n:=most+1) (by omega) (by omega),this]
def zng(l:List (List Int))(k:List Int)(ga:Bool):Gr:=⟨z8e l 0,3,if ga then 2 else 0,(zsl k 3 (zaq k 0 3).toNat 1).1,if ga then 2 else 1⟩
theorem z72{l:List (List Int)}(hl:BsOk l){k:List Int}(hk:zbr k)(ga:Bool):okG (zng l k ga):=by
 refine⟨yg9 hl,?_,z6p _ _ _ _⟩;have:=zar hk 0 (n:=3) (by omega)
 simp only[zng,z2k];omega
theorem ycf(l:List (List Int))(hl:BsOk l)(k:List Int)(hk:zbr k)(hlen:k.length<=140737488355328)(ga:Bool)(H:List AO):
  F zjb [.sl (yin l),.sl (u8s k),.bool ga] H=some (.ret (.agg (zng l k ga).cs),H):=by
 have hE:=fun H=>env_ok l hl H
 have h0:AO.box [.sl (u8s k),.int .i64 0]=mkr k 0:=rfl;have hC:=cons_ok k hk hlen 3 (by omega) 2 (by omega) 0 (by omega) H.length (H++[mkr k 0]) (by simp)
 rw[zpk,zpk]at hC;simp only[show (2:Int)+1=3 from rfl,show (0:Int)+1=1 from rfl]at hC
 rw[zwc];cases ga
 ·simp only[↓reduceIte,go_sem,hE,h0,hC,Gr.cs,zng,Bool.false_eq_true]
  exact if_pos (.agg (gr_lt _ (zng l k false)))
 ·simp only[↓reduceIte,go_sem,hE,h0,hC,Gr.cs,zng]
  exact if_pos (.agg (gr_lt _ (zng l k true)))
mutual
def unkB:Lv->Bool
 |.mk k n ks=>unkBs ks || decide (k=6)
def unkBs:List Lv->Bool
 |[]=>false
 |x::r=>unkB x || unkBs r
end
theorem z7a(l:Lv):l.ok->∀(H:List AO),F zf6 [.agg l.cs] H=some (.ret (.bool (unkB l)),H):=by
 induction l using Lv.ind with
 |h k n ks ih=>
 intro hl H;have hlen:=hl.len;have loop:∀(suf pre:List Lv),ks=pre++suf->zf9 H H (.int .i64 pre.length) [.int .i64 k,.int .i64 n,.sl (Lv.css ks)]=some (.ret (.bool (unkBs suf || decide (k=6))),H):=by
  intro suf
  induction suf with
  |nil=>
   intro pre e;subst e;rw[zf9,zab];simp only[↓reduceIte,go_sem,unkBs,Bool.false_or]
  |cons x suf ih2=>
   intro pre e;subst e;simp at hlen;have:=ih2 (pre++[x]) (by simp)
   simp only[zah]at this;have hx:=fun H=>ih x (by simp) (hl.all x (by simp)) H
   rw[zf9,zab,unkBs]
   cases hu:unkB x <;> rw[hu]at hx
   ·simp only[↓reduceIte,go_sem,hx,zad (n:=pre.length) (by omega),this,Bool.false_or]
   ·simp only[↓reduceIte,go_sem,hx,Bool.true_or]
 have:=loop ks [] rfl;simp only[List.length_nil,Int.natCast_zero]at this;rw[zvf,unkB];simp only[↓reduceIte,go_sem,Lv.cs,this]
mutual
def smT:Te->Bool
 |.mk k n ls ks=>decide (ls.length<=100) && decide (ks.length<=100) && smTs ks
def smTs:List Te->Bool
 |[]=>true
 |x::r=>smT x && smTs r
end
theorem zxv:∀{ks:List Te},smTs ks=true->∀x∈ks,smT x=true
 |y::r,h,x,hx=>by
  rw[smTs,Bool.and_eq_true]at h;rcases List.mem_cons.1 hx with rfl|hx
  ·exact h.1
  ·exact zxv h.2 x hx
mutual
theorem right_sm{p m:Int}:∀{t:Te} {v d:Int},rightT p m t v d=true->smT t=true
 |.mk k n ls ks,v,d,h=>by
  obtain⟨h1,h2,h3,h4,h5⟩:=zb8 h;have:=zmo k;rw[smT,right_sms h5,Bool.and_true];have:ls.length<=100:=by
   unfold zc9 at h4
   split at h4
   ·simp at h4;simp[h4.2]
   split at h4
   ·simp at h4;omega
   split at h4
   ·simp at h4;omega
   ·simp at h4;simp[h4.2]
  simp only[Bool.and_eq_true,decide_eq_true_eq];omega
theorem right_sms{p m k:Int}:∀{ks:List Te} {i v d:Int},rightTs p m k ks i v d=true->smTs ks=true
 |[],_,_,_,_=>rfl
 |x::r,i,v,d,h=>by
  rw[rightTs]at h;simp at h;rw[smTs,right_sm h.1,right_sms h.2];rfl
end
mutual
def plainT(z:Lv):Te->Te
 |.mk k n ls ks=>.mk k n (ls.map fun x=>if unkB x=true then z else x) (plainTs z ks)
def plainTs(z:Lv):List Te->List Te
 |[]=>[]
 |x::r=>plainT z x::plainTs z r
end
theorem zp8(z:Lv):∀ks:List Te,(plainTs z ks).length=ks.length
 |[]=>rfl
 |x::r=>by rw[plainTs];simp[zp8 z r]
mutual
theorem plain_sm(z:Lv):∀t:Te,smT (plainT z t)=smT t
 |.mk k n ls ks=>by rw[plainT,smT,smT,plains_sm z ks,zp8,List.length_map]
theorem plains_sm(z:Lv):∀ks:List Te,smTs (plainTs z ks)=smTs ks
 |[]=>rfl
 |x::r=>by rw[plainTs,smTs,smTs,plain_sm z x,plains_sm z r]
end
theorem zuj{z:Lv}{p:Te->Prop}:∀{ks:List Te},(∀x∈ks,p (plainT z x))->∀y∈plainTs z ks,p y
 |[],_,y,hy=>by cases hy
 |x::r,h,y,hy=>by
  rw[plainTs]at hy;rcases List.mem_cons.1 hy with rfl|hy
  ·exact h x (by simp)
  ·exact zuj (fun w hw=>h w (by simp[hw])) y hy
theorem yao{z:Lv}(hz:z.ok)(t:Te):t.ok->(plainT z t).ok:=by
 induction t using Te.ind with
 |h k n ls ks ih=>
 intro ht;rw[plainT];refine .mk (by rw[zp8];exact ht.len) (by simpa using ht.len2) ?_ (zuj fun x hx=>ih x hx (ht.all x hx))
 intro x hx;obtain⟨y,hy,rfl⟩:=List.mem_map.1 hx
 split
 ·exact hz
 ·exact ht.all2 y hy
theorem yf0(z:Lv)(hz:z.ok)(t:Te):t.ok->smT t=true->∀(H:List AO),F zii [.agg t.cs,.agg z.cs] H=some (.ret (.agg (plainT z t).cs),H):=by
 induction t using Te.ind with
 |h k n ls ks ih=>
 intro hl hs H;rw[smT]at hs;simp only[Bool.and_eq_true,decide_eq_true_eq]at hs;obtain⟨⟨hs1,hs2⟩,hs3⟩:=hs;have loop1:∀(dl:List Lv) (suf pre done:List Te),ks=pre++suf->done.length=pre.length ->
   zhx H (H++[.lst 0 3 [],.lst 0 4 [],.lst dl.length 3 (Lv.css dl),.lst done.length 4 (Te.css done),.lst 0 3 [],.lst 0 4 []]) (.int .i64 pre.length) [.int .i64 k,.int .i64 n,.sl (Lv.css ls),.sl (Te.css ks)] z.cs
    [.int .i64 0,.int .i64 0,.ol H.length 0,.ol (H.length+1) 0] [.int .i64 k,.int .i64 n,.ol (H.length+2) dl.length,.ol (H.length+3) done.length]=some (.ret (.agg (Te.mk k n dl (done++plainTs z suf)).cs),H):=by
  intro dl suf
  induction suf with
  |nil=>
   intro pre done e he;subst e;rw[zhx,zab];simp only[↓reduceIte,go_sem,plainTs,Te.cs]
  |cons x suf ih2=>
   intro pre done e he;subst e;simp at hs2;have:=ih2 (pre++[x]) (done++[plainT z x]) (by simp) (by simp[he])
   simp only[zah]at this;simp only[zd7,List.append_assoc,List.cons_append,List.nil_append]at this;have hx:=fun H=>ih x (by simp) (hl.all x (by simp)) (zxv hs3 x (by simp)) H
   rw[zhx,zab,plainTs];simp only[↓reduceIte,go_sem,hx,zad (n:=pre.length) (by omega),show done.length<=1073741823 by omega,this]
 have loop0:∀(suf pre dl:List Lv),ls=pre++suf->dl.length=pre.length ->
   zhy H (H++[.lst 0 3 [],.lst 0 4 [],.lst dl.length 3 (Lv.css dl),.lst 0 4 [],.lst 0 3 [],.lst 0 4 []]) (.int .i64 pre.length) [.int .i64 k,.int .i64 n,.sl (Lv.css ls),.sl (Te.css ks)] z.cs
    [.int .i64 0,.int .i64 0,.ol H.length 0,.ol (H.length+1) 0] [.int .i64 k,.int .i64 n,.ol (H.length+2) dl.length,.ol (H.length+3) 0]=some (.ret (.agg (Te.mk k n (dl++suf.map fun x=>if unkB x=true then z else x) (plainTs z ks)).cs),H):=by
  intro suf
  induction suf with
  |nil=>
   intro pre dl e he;have:=loop1 dl ks [] [] rfl rfl;subst e;simp only[List.length_nil,Int.natCast_zero,Te.css,List.nil_append,List.append_nil]at this;rw[zhy,zab];simp only[↓reduceIte,go_sem,List.append_nil,List.map_nil,this]
  |cons x suf ih2=>
   intro pre dl e he;subst e;simp at hs1;have:=ih2 (pre++[x]) (dl++[if unkB x=true then z else x]) (by simp) (by simp[he])
   simp only[zah]at this;simp only[zd7,List.append_assoc,List.cons_append,List.nil_append]at this;have hx:=fun H=>z7a x (hl.all2 x (by simp)) H
   rcases z with⟨kz,nz,lz⟩;rcases x with⟨kx,nx,lx⟩;rw[zhy,zab,List.map_cons]
   cases hu:unkB (.mk kx nx lx) <;> rw[hu]at hx <;> simp only[hu,Bool.false_eq_true,↓reduceIte]at this
   ·rw[<- zpe]at this
    simp only[Lv.cs]at hx this;simp only[↓reduceIte,go_sem,Lv.cs,hx,zad (n:=pre.length) (by omega),show dl.length<=1073741823 by omega,this,Bool.false_eq_true]
   ·rw[<- zpe]at this
    simp only[Lv.cs]at hx this;simp only[↓reduceIte,go_sem,Lv.cs,hx,zad (n:=pre.length) (by omega),show dl.length<=1073741823 by omega,this]
 have:=loop0 ls [] [] rfl rfl;simp only[List.length_nil,Int.natCast_zero,Lv.css,List.nil_append]at this;rw[zzm,plainT];simp only[↓reduceIte,go_sem,Te.cs,this]
mutual
def succT:Te->Te
 |.mk k n ls ks=>if k=2 then .mk 2 0 [.mk 2 0 ls] [] else .mk k n ls (succTs ks)
def succTs:List Te->List Te
 |[]=>[]
 |x::r=>succT x::succTs r
end
theorem zwk:∀ks:List Te,(succTs ks).length=ks.length
 |[]=>rfl
 |x::r=>by rw[succTs];simp[zwk r]
theorem zwj{p:Te->Prop}:∀{ks:List Te},(∀x∈ks,p (succT x))->∀y∈succTs ks,p y
 |[],_,y,hy=>by cases hy
 |x::r,h,y,hy=>by
  rw[succTs]at hy;rcases List.mem_cons.1 hy with rfl|hy
  ·exact h x (by simp)
  ·exact zwj (fun w hw=>h w (by simp[hw])) y hy
theorem ye4(t:Te):t.ok->(succT t).ok:=by
 induction t using Te.ind with
 |h k n ls ks ih=>
 intro ht;rw[succT]
 split
 ·have h1:=ht.len2
  have h2:=ht.all2;simp only[zi7,zum,List.length_cons,List.length_nil,List.mem_singleton,forall_eq];exact⟨by omega,by omega,⟨h1,h2⟩,by intro x hx;cases hx⟩
 ·exact .mk (by rw[zwk];exact ht.len) ht.len2 ht.all2 (zwj fun x hx=>ih x hx (ht.all x hx))
theorem succ_ok(t:Te):t.ok->smT t=true->∀(H:List AO),F zj8 [.agg t.cs] H=some (.ret (.agg (succT t).cs),H):=by
 induction t using Te.ind with
 |h k n ls ks ih=>
 intro hl hs H;rw[smT]at hs;simp only[Bool.and_eq_true,decide_eq_true_eq]at hs;obtain⟨⟨hs1,hs2⟩,hs3⟩:=hs;have loop:∀(suf pre done:List Te),ks=pre++suf->done.length=pre.length ->
   ziz H (H++[.lst 0 3 [],.lst 0 4 [],.lst 0 3 [],.lst done.length 4 (Te.css done),.lst 0 3 [],.lst 0 4 []]) (.int .i64 pre.length) [.int .i64 k,.int .i64 n,.sl (Lv.css ls),.sl (Te.css ks)]
    [.int .i64 0,.int .i64 0,.ol H.length 0,.ol (H.length+1) 0] [.int .i64 k,.int .i64 n,.sl (Lv.css ls),.ol (H.length+3) done.length]=some (.ret (.agg (Te.mk k n ls (done++succTs suf)).cs),H):=by
  intro suf
  induction suf with
  |nil=>
   intro pre done e he;subst e;rw[ziz,zab];simp only[↓reduceIte,go_sem,succTs,Te.cs]
  |cons x suf ih2=>
   intro pre done e he;subst e;simp at hs2;have:=ih2 (pre++[x]) (done++[succT x]) (by simp) (by simp[he])
   simp only[zah]at this;simp only[zd7,List.append_assoc,List.cons_append,List.nil_append]at this;have hx:=fun H=>ih x (by simp) (hl.all x (by simp)) (zxv hs3 x (by simp)) H
   rw[ziz,zab,succTs];simp only[↓reduceIte,go_sem,hx,zad (n:=pre.length) (by omega),show done.length<=1073741823 by omega,this]
 have l0:=loop ks [] [] rfl rfl;simp only[List.length_nil,Int.natCast_zero,List.nil_append,Te.css,Te.cs]at l0;have hS:=fun H=>zcg (.mk 2 0 ls) H
 simp only[Lv.cs,Te.cs,Lv.css,Te.css]at hS;rw[z13,succT];by_cases h1:k=2
 ·subst h1
  simp only[↓reduceIte,go_sem,Te.cs,hS,Lv.css,Te.css,Lv.cs]
 ·simp only[↓reduceIte,go_sem,Te.cs,h1,l0]
end Go.Ab
end
section
set_option linter.unusedVariables false
set_option linter.unusedSimpArgs false
set_option maxRecDepth 100000
set_option maxHeartbeats 4000000
namespace Go.Ab
open Go.RowKit Go.Proofs
def zL1:Lv:=.mk 1 0 []
def tmS(L:List Int)(g:Gr)(d:Nat)(a:Int):Te×Int:=(if 0<g.metas then (ze2 L d 3 a).1 else plainT zL1 (ze2 L d 3 a).1,(ze2 L d 3 a).2)
theorem yik:zL1.ok:=by simp[zL1,zum]
theorem yio{L:List Int}(hL:zbr L)(g:Gr)(d:Nat)(a:Int):(tmS L g d a).1.ok:=by
 unfold tmS;dsimp only
 split
 ·exact ztl hL d 3 a
 ·exact yao yik _ (ztl hL d 3 a)
theorem tmS_sm{L:List Int}(hL:zbr L)(g:Gr)(d:Nat)(a:Int):smT (tmS L g (d+1) a).1=true:=by
 have h:=right_sm (zua hL d 3 a (by omega))
 unfold tmS;dsimp only
 split
 ·exact h
 ·rw[plain_sm];exact h
theorem tmS_at{L:List Int}(hL:zbr L)(g:Gr)(d:Nat)(a:Int):a<=(tmS L g d a).2/\(tmS L g d a).2<=a+40*4 ^ d:=zm7 hL d 3 a
theorem z24(L:List Int)(hL:zbr L)(hlen:L.length<=140737488355328)(g:Gr)(d:Nat)(hd:d<=6)(a:Int)(ha:0<=a/\a+40*4 ^ (d+1)<=500000)(id:Nat)(H:List AO)(hid:id<H.length):
  F zgz [.ptr id 0,.agg g.cs,.int .i64 ((d:Int)+1)] (H.set id (mkr L a))=some (.ret (.agg (tmS L g (d+1) a).1.cs),H.set id (mkr L (tmS L g (d+1) a).2)):=by
 have hT:=term_ok L hL hlen d hd 3 (by omega) a ha id H hid
 have hr:=right_sm (zua hL d 3 a (by omega))
 have hk:=ztl hL (d+1) 3 a;have hP:=fun H=>yf0 zL1 yik _ hk hr H
 unfold tmS;generalize ze2 L (d+1) 3 a=q at *;rcases q with⟨⟨k,n,ls,ks⟩,b⟩;rcases hp:plainT zL1 (.mk k n ls ks) with⟨k2,n2,ls2,ks2⟩;dsimp only at hP ⊢
 try simp only[hp]at hP
 simp only[Te.cs,zL1,Lv.cs,Lv.css]at hT hP;rw[z14];by_cases hm:0<g.metas
 ·simp only[↓reduceIte,go_sem,Gr.cs,hT,hm,Te.cs,List.length_set,hid,zbn,zco hid,zse]
 ·simp only[↓reduceIte,go_sem,Gr.cs,hT,hm,hP,Te.cs,List.length_set,hid,zbn,zco hid,zse]
def z7v(L:List Int)(g:Gr)(t:Te)(a:Int):Te×Int :=
 if (zh1 t 0 1).2≠0 then (t,a)
 else
  let up:=(zh1 t 0 1).1
  let v:Te:=.mk 1 0 [] []
  let k:=zaq L a 7
  if k=0 then (.mk 5 0 [] [sort0,.mk 4 0 [] [up,v]],a+1)
  else if k=1 then (.mk 7 0 [] [sort0,sort0,up],a+1)
  else if k=2 then (.mk 4 0 [] [.mk 5 0 [] [sort0,up],sort0],a+1)
  else if k=3 then (.mk 4 0 [] [.mk 5 0 [] [sort0,v],t],a+1)
  else if k=4 then (succT t,a+1)
  else if k=5 then tmS L g 3 (a+1)
  else (t,a+1)
theorem yf8{L:List Int}(hL:zbr L)(g:Gr)(t:Te)(ht:t.ok)(a:Int):(z7v L g t a).1.ok:=by
 have hu:=z68 ht 0 1;have h1:=yfd;have h2:=ye4 t ht;have h3:=yio hL g 3 (a+1);have h4:(Te.mk 1 0 [] []).ok:=by simp[zi7]
 unfold z7v
 split
 ·exact ht
 ·dsimp only
  repeat' split
  ·simp[zi7,h1,hu]
  ·simp[zi7,h1,hu]
  ·simp[zi7,h1,hu]
  ·simp[zi7,h1,ht]
  ·exact h2
  ·exact h3
  ·exact ht
theorem yd5(L:List Int)(hL:zbr L)(hlen:L.length<=140737488355328)(g:Gr)(t:Te)(ht:t.ok)(hs:smT t=true)(a:Int)(ha:0<=a/\a<=400000)(id:Nat)(H:List AO)(hid:id<H.length):
  F zmm [.agg t.cs,.ptr id 0,.agg g.cs] (H.set id (mkr L a))=some (.ret (.agg (z7v L g t a).1.cs),H.set id (mkr L (z7v L g t a).2)):=by
 have hU:=fun H=>yd9 t ht 0 1 H
 have hS:=fun H=>zcg (.mk 1 0 []) H
 have hV:=fun H=>zeh 0 H
 have hP:=zbz L hL hlen a (by omega) 7 (by omega) id H hid (by omega)
 have hk:=zar hL a (n:=7) (by omega)
 have hT:F zgz [.ptr id 0,.agg g.cs,.int .i64 3] (H.set id (mkr L (a+1)))=_:=z24 L hL hlen g 2 (by omega) (a+1) (by simp;omega) id H hid
 have hsu:=fun H=>succ_ok t ht hs H
 unfold z7v;rcases hl:zh1 t 0 1 with⟨up,e⟩;rw[hl]at hU;have c1:=fun H=>zd6 4 [up,.mk 1 0 [] []] H
 have c2:=fun H=>zd6 5 [sort0,.mk 4 0 [] [up,.mk 1 0 [] []]] H
 have c3:=fun H=>zd6 7 [sort0,sort0,up] H
 have c4:=fun H=>zd6 5 [sort0,up] H
 have c5:=fun H=>zd6 4 [.mk 5 0 [] [sort0,up],sort0] H
 have c6:=fun H=>zd6 5 [sort0,.mk 1 0 [] []] H
 have c7:=fun H=>zd6 4 [.mk 5 0 [] [sort0,.mk 1 0 [] []],t] H
 rw[show (2:Nat)+1=3 from rfl]at hT
 generalize tmS L g 3 (a+1)=q at *;rcases q with⟨⟨k3,n3,l3,s3⟩,b3⟩;rcases up with⟨k2,n2,l2,s2⟩;rcases hsc:succT t with⟨k4,n4,l4,s4⟩;rw[hsc]at hsu;rcases t with⟨k1,n1,l1,s1⟩;simp only[Te.cs,Te.css,Lv.cs,Lv.css,sort0,Gr.cs,zi4]at hU hS hV hT hsu c1 c2 c3 c4 c5 c6 c7;rw[z15];by_cases he:e=0
 ·subst he
  have hc:zaq L a 7=0\/zaq L a 7=1\/zaq L a 7=2\/zaq L a 7=3\/zaq L a 7=4\/zaq L a 7=5\/zaq L a 7=6:=by omega
  rcases hc with h|h|h|h|h|h|h <;> rw[h]at hP <;>
   simp only[↓reduceIte,go_sem,Gr.cs,Te.cs,Te.css,Lv.cs,Lv.css,sort0,hU,hS,hV,hP,hT,hsu,c1,c2,c3,c4,c5,c6,c7,h,z6v,List.length_set,hid,zbn,zco hid,zse,ne_eq,not_true_eq_false]
 ·simp only[↓reduceIte,go_sem,Gr.cs,Te.cs,hU,he,ne_eq,not_false_eq_true,List.length_set,hid,zbn,zco hid,zse]
end Go.Ab
end
section
set_option linter.unusedVariables false
set_option linter.unusedSimpArgs false
set_option maxRecDepth 100000
set_option maxHeartbeats 2000000
namespace Go.Ab
open Go.RowKit Go.Proofs
mutual
theorem right_min{p m:Int}:∀{t:Te} {v d v2 d2:Int},rightT p m t v d=true->rightT p m t v2 d2=true->rightT p m t v d2=true
 |.mk k n ls ks,v,d,v2,d2,h1,h2=>by
  rw[rightT]at h1 h2 ⊢
  split at h2
  ·cases h2
  rename_i hd;rw[if_neg hd]
  split at h1
  ·cases h1
  split at h1
  ·cases h1
  rename_i hk;rw[if_neg hk]at h2 ⊢
  split at h1
  ·cases h1
  rename_i hn;rw[if_neg hn]
  split at h2
  ·cases h2
  exact rights_min h1 h2
theorem rights_min{p m k:Int}:∀{ks:List Te} {i v d v2 d2:Int},rightTs p m k ks i v d=true->rightTs p m k ks i v2 d2=true->rightTs p m k ks i v d2=true
 |[],_,_,_,_,_,_,_=>rfl
 |x::r,i,v,d,v2,d2,h1,h2=>by
  rw[rightTs,Bool.and_eq_true]at h1 h2 ⊢;exact⟨right_min h1.1 h2.1,rights_min h1.2 h2.2⟩
end
mutual
theorem parts_sz:∀(t:Te) (m:Int),parts t m<=sz t
 |.mk k n ls ks,m=>by
  rw[parts,sz,subs,List.length_cons];have:=partss_sz ks m 1;omega
theorem partss_sz:∀(ks:List Te) (m n:Int),partsL ks m n<=n+(subss ks).length
 |[],m,n=>by rw[partsL,subss];simp
 |x::r,m,n=>by
  rw[partsL,subss,List.length_append];have h1:=partss_sz r m n;have h2:=partss_sz r m (n+parts x (m - n));have h3:=parts_sz x (m - n);unfold sz at h3
  split <;> omega
end
mutual
theorem rightB_mono{p m P M:Int}(hp:p<=P)(hm:m<=M):∀{l:Lv} {d:Int},rightB p m l d=true->rightB P M l d=true
 |.mk k n ks,d,h=>by
  rw[rightB]at h ⊢
  split at h
  ·cases h
  rename_i h1;rw[if_neg h1]
  split at h
  ·cases h
  rename_i h2;rw[if_neg h2]
  split
  ·rename_i h3;rw[if_pos h3]at h;simp at h ⊢;omega
  ·rename_i h3
   rw[if_neg h3]at h
   split
   ·rename_i h4;rw[if_pos h4]at h;simp at h ⊢;omega
   ·rename_i h4
    rw[if_neg h4]at h;simp only[Bool.and_eq_true]at h ⊢;exact⟨rightsB_mono hp hm h.1,h.2⟩
theorem rightsB_mono{p m P M:Int}(hp:p<=P)(hm:m<=M):∀{ks:List Lv} {d:Int},rightsB p m ks d=true->rightsB P M ks d=true
 |[],_,_=>rfl
 |x::r,d,h=>by
  rw[rightsB,Bool.and_eq_true]at h ⊢;exact⟨rightB_mono hp hm h.1,rightsB_mono hp hm h.2⟩
end
theorem z49{l:Lv}{p m P M:Int}(hp:p<=P)(hm:m<=M)(hP:P<=5)(hM:M<=10)(h:zax l p m=true):zax l P M=true:=by
 unfold zax at h ⊢;simp only[Bool.and_eq_true,decide_eq_true_eq]at h ⊢;exact⟨⟨⟨⟨⟨by omega,hP⟩,by omega⟩,hM⟩,h.1.2⟩,rightB_mono hp hm h.2⟩
mutual
theorem right_pm{p m P M:Int}(hp:p<=P)(hm:m<=M)(hP:P<=5)(hM:M<=10):∀{t:Te} {v d:Int},rightT p m t v d=true->rightT P M t v d=true
 |.mk k n ls ks,v,d,h=>by
  rw[rightT]at h ⊢
  split at h
  ·cases h
  rename_i h1;rw[if_neg h1]
  split at h
  ·cases h
  rename_i h2;rw[if_neg h2]
  split at h
  ·cases h
  rename_i h3;simp only[Bool.not_eq_false,Bool.and_eq_true,List.all_eq_true]at h3;have:(ls.all fun x=>zax x P M)=true:=List.all_eq_true.2 fun x hx=>z49 hp hm hP hM (h3.1 x hx)
  rw[this,h3.2];simp only[Bool.and_self,Bool.true_eq_false,if_false];exact rights_pm hp hm hP hM h
theorem rights_pm{p m P M:Int}(hp:p<=P)(hm:m<=M)(hP:P<=5)(hM:M<=10){k:Int}:∀{ks:List Te} {i v d:Int},rightTs p m k ks i v d=true->rightTs P M k ks i v d=true
 |[],_,_,_,_=>rfl
 |x::r,i,v,d,h=>by
  rw[rightTs,Bool.and_eq_true]at h ⊢;exact⟨right_pm hp hm hP hM h.1,rights_pm hp hm hP hM h.2⟩
end
mutual
theorem right_sub{ps ms:List Lv}{p m:Int}:∀{t:Te} {v d:Int},rightT p m t v d=true->okTm ps ms t=true->rightT 5 10 (subT ps ms t) v d=true
 |.mk k n ls ks,v,d,h,ho=>by
  rw[subT,rightT]at *;rw[okTm,Bool.and_eq_true]at ho
  split at h
  ·cases h
  rename_i h1;rw[if_neg h1]
  split at h
  ·cases h
  rename_i h2;rw[if_neg (by rw[zql,List.length_map];exact h2)]
  split at h
  ·cases h
  rename_i h3;simp only[Bool.not_eq_false,Bool.and_eq_true,List.all_eq_true]at h3;have e1:((ls.map fun l=>(zp5 l ps ms).1).all fun x=>zax x 5 10)=true:=by
   rw[List.all_map,List.all_eq_true];intro x hx;have:=List.all_eq_true.1 ho.1 x hx;simp only[decide_eq_true_eq]at this;show zax (zp5 x ps ms).1 5 10=true;unfold zp5 at this ⊢
   split at this
   ·simp at this
   ·rename_i g
    rw[if_neg g]
    split at this
    ·rename_i g2;rw[if_pos g2];exact g2
    ·simp at this
  have e2:zc9 k n (ls.map fun l=>(zp5 l ps ms).1) v=true:=by
   have:=h3.2;unfold zc9 at this ⊢;simp only[List.length_map];exact this
  rw[e1,e2];simp only[Bool.and_self,Bool.true_eq_false,if_false];exact rights_sub h ho.2
theorem rights_sub{ps ms:List Lv}{p m k:Int}:∀{ks:List Te} {i v d:Int},rightTs p m k ks i v d=true->okTms ps ms ks=true->rightTs 5 10 k (subTs ps ms ks) i v d=true
 |[],_,_,_,_,_=>rfl
 |x::r,i,v,d,h,ho=>by
  rw[subTs,rightTs,Bool.and_eq_true]at *;rw[okTms,Bool.and_eq_true]at ho;exact⟨right_sub h.1 ho.1,rights_sub h.2 ho.2⟩
end
theorem zxw{t:Te}{v d:Int}(h:rightT 5 10 t v d=true)(hv:v<=1000)(hd:d<=30)(hs:sz t<=600):za6 t=true:=by
 have h1:=right_mono t h hv hd;have h2:=parts_sz t 601;unfold za6 zc0;simp[h1];omega
def inv(t:Te):Prop:=sz t<=600/\rightT 5 10 t 2 30=true
theorem inv.shape{t:Te}(h:inv t):za6 t=true:=zxw h.2 (by omega) (by omega) h.1
theorem zo6{b v r:Te}{e:Int}(hb:sz b<=600)(hb2:rightT 5 10 b 3 29=true)(hv:inv v)(ho:zjp b v=(r,e)):e=0/\inv r\/e=2:=by
 have s1:=zxw hb2 (by omega) (by omega) hb
 have s2:=hv.shape;unfold zjp at ho;rw[if_neg (by simp[s1,s2])]at ho
 unfold zs7 at ho
 split at ho
 ·rename_i h
  cases ho;refine .inl ⟨rfl,zm9 h,?_⟩
  exact right_min (right_open b (v:=2) (f:=0) hb2 (by omega) (by omega) (by simpa using hv.2)) (ze9 h)
 ·cases ho;exact .inr rfl
theorem sz_let(N:Int)(ls:List Lv)(s v b:Te):sz (.mk 7 N ls [s,v,b])=sz s+sz v+sz b+1:=by
 simp[sz,subs,subss];omega
theorem yiq(k N:Int)(ls:List Lv)(f a:Te):sz (.mk k N ls [f,a])=sz f+sz a+1:=by
 simp[sz,subs,subss]
theorem z34{N:Int}{ls:List Lv}{s v b:Te}(h:inv (.mk 7 N ls [s,v,b])):inv v/\sz b<=600/\rightT 5 10 b 3 29=true:=by
 have h1:=h.1;rw[sz_let]at h1;have h2:=(zb8 h.2).2.2.2.2;simp[rightTs,binds]at h2;exact⟨⟨by omega,right_mono v h2.2.1 (by omega) (by omega)⟩,by omega,h2.2.2⟩
theorem zyk{N:Int}{ls:List Lv}{f a:Te}(h:inv (.mk 4 N ls [f,a])):inv f/\inv a:=by
 have h1:=h.1;rw[yiq]at h1;have h2:=(zb8 h.2).2.2.2.2;simp[rightTs,binds]at h2;exact⟨⟨by omega,right_mono f h2.1 (by omega) (by omega)⟩,by omega,right_mono a h2.2 (by omega) (by omega)⟩
theorem z35{N:Int}{ls:List Lv}{s b:Te}(h:inv (.mk 5 N ls [s,b])):sz b<=600/\rightT 5 10 b 3 29=true:=by
 have h1:=h.1;rw[yiq]at h1;have h2:=(zb8 h.2).2.2.2.2;simp[rightTs,binds]at h2;exact⟨by omega,h2.2⟩
theorem z2f:∀{env:List De} {a:Int} {j:Nat} {d:De},zov env a=true->env[j]?=some d->z4y d (a+j)=true
 |[],_,_,_,_,h=>by simp at h
 |x::r,a,0,d,h1,h2=>by
  rw[zov,Bool.and_eq_true]at h1;simp at h2;subst h2;simpa using h1.1
 |x::r,a,j+1,d,h1,h2=>by
  rw[zov,Bool.and_eq_true]at h1;have:=z2f h1.2 (show r[j]?=some d by simpa using h2)
  rwa [show a+1+(j:Int)=a+((j+1:Nat):Int) by omega]at this
theorem z3d{env:List De}(hR:zg5 env=true){n:Int}{ls:List Lv}{d:De}(hu:zt7 env n ls=some d):zc0 d.value 0 d.p 0=true:=by
 obtain⟨h1,h2,_⟩:=zle hu;unfold zg5 at hR;rw[Bool.and_eq_true]at hR;have:=z2f hR.1 h1;unfold z4y at this;rw[if_pos h2,Bool.and_eq_true]at this;have h3:=this.2;unfold yja at h3;rw[Bool.and_eq_true]at h3;exact h3.1
theorem zvm{env:List De}(hR:zg5 env=true){N:Int}{ls:List Lv}{ks:List Te}{d:De}{r:Te}{e:Int}(ht:inv (.mk 3 N ls ks))(hu:zt7 env N ls=some d)(hs:znl d.value ls []=(r,e)):e=0/\inv r\/e=2:=by
 have hv:=z3d hR hu;unfold zc0 at hv;simp only[Bool.and_eq_true,decide_eq_true_eq]at hv;have hp:0<=d.p/\d.p<=5:=by omega
 have hr:=right_pm (p:=d.p) (m:=0) (P:=5) (M:=10) hp.2 (by omega) (by omega) (by omega) hv.2
 have hsz:sz d.value<=600:=by
  have:=subs_parts d.value 601 (by omega)
  unfold sz;omega
 have hsh:=zxw hr (by omega) (by omega) hsz
 have hi:=zb8 ht.2;have hn:=hi.2.2.2.1;have hl:ls.length<=5:=by
  unfold zc9 at hn;simp at hn;exact hn.2
 have hls:zbm ls=true:=by
  have:=hi.2.2.1;unfold zbm;simpa using this
 unfold znl at hs;have g:¬ (za6 d.value=false\/5<ls.length\/10<([]:List Lv).length\/zbm ls=false\/zbm []=false):=by
  rw[hsh,hls,show zbm []=true from rfl];simp;exact hl
 rw[if_neg g]at hs
 split at hs
 ·rename_i ho
  cases hs;refine .inl ⟨rfl,?_,?_⟩
  ·unfold sz at *;rw[subs_subT];exact hsz
  ·exact right_mono _ (right_sub hr ho) (by omega) (by omega)
 ·cases hs;exact .inr rfl
theorem Hd.inv5{env:List De}(hR:zg5 env=true){n:Nat}{t t':Te}{n':Nat}(h:Hd env n t t' n'):inv t->t'.kind=5->inv t':=by
 induction h with
 |stuck=>exact fun h _=>h
 |lett ho _ ih=>
  intro h h5;obtain⟨a,b,c⟩:=z34 h;rcases zo6 b c a ho with⟨_,hr⟩|h
  ·exact ih hr h5
  ·cases h
 |const hN hu hs _ ih=>
  intro h h5;rcases zvm hR h hu hs with⟨_,hr⟩|h
  ·exact ih hr h5
  ·cases h
 |app=>exact fun _ h=>by cases h
 |beta _ ho _ ih1 ih2=>
  intro h h5;obtain⟨hf,ha⟩:=zyk h;obtain⟨b,c⟩:=z35 (ih1 hf rfl);rcases zo6 b c ha ho with⟨_,hr⟩|h
  ·exact ih2 hr h5
  ·cases h
theorem He.two{env:List De}(hR:zg5 env=true){n:Nat}{t:Te}{n':Nat}{e:Int}(h:He env n t n' e):inv t->e=2\/e=40:=by
 induction h with
 |let0=>exact fun _=>.inr rfl
 |let2 ho he=>
  intro h;obtain⟨a,b,c⟩:=z34 h;rcases zo6 b c a ho with⟨h,_⟩|h
  ·exact absurd h he
  ·exact .inl h
 |letr ho _ ih=>
  intro h;obtain⟨a,b,c⟩:=z34 h;rcases zo6 b c a ho with⟨_,hr⟩|h
  ·exact ih hr
  ·cases h
 |const0=>exact fun _=>.inr rfl
 |const2 hN hu hs he=>
  intro h;rcases zvm hR h hu hs with⟨h,_⟩|h
  ·exact absurd h he
  ·exact .inl h
 |constr hN hu hs _ ih=>
  intro h;rcases zvm hR h hu hs with⟨_,hr⟩|h
  ·exact ih hr
  ·cases h
 |appf _ ih=>exact fun h=>ih (zyk h).1
 |beta0=>exact fun _=>.inr rfl
 |beta2 hd ho he=>
  intro h;obtain⟨hf,ha⟩:=zyk h;obtain⟨b,c⟩:=z35 (hd.inv5 hR hf rfl);rcases zo6 b c ha ho with⟨h,_⟩|h
  ·exact absurd h he
  ·exact .inl h
 |betar hd ho _ ih=>
  intro h;obtain⟨hf,ha⟩:=zyk h;obtain⟨b,c⟩:=z35 (hd.inv5 hR hf rfl);rcases zo6 b c ha ho with⟨_,hr⟩|h
  ·exact ih hr
  ·cases h
theorem Hd.again{env:List De}{n:Nat}{t t':Te}{n':Nat}(h:Hd env n t t' n'):∀m,Hd env m t' t' m:=by
 induction h with
 |stuck h1 h2 h3=>exact fun m=>.stuck h1 h2 h3
 |lett _ _ ih=>exact ih
 |const _ _ _ _ ih=>exact ih
 |app _ hk ih=>exact fun m=>.app (ih m) hk
 |beta _ _ _ _ ih=>exact ih
theorem Hd.more{env:List De}{n:Nat}{t t':Te}{n':Nat}(h:Hd env n t t' n'):∀k,Hd env (n+k) t t' (n' + k):=by
 induction h with
 |stuck h1 h2 h3=>exact fun m=>.stuck h1 h2 h3
 |@lett n N ls s v b r t' n' ho _ ih=>
  intro k;rw[show n+1+k=(n+k)+1 by omega]
  exact .lett ho (ih k)
 |@const n N ls ks d r t' n' hN hu hs _ ih=>
  intro k;rw[show n+1+k=(n+k)+1 by omega]
  exact .const hN hu hs (ih k)
 |app _ hk ih=>exact fun k=>.app (ih k) hk
 |@beta n N ls f a N2 ls2 s b m r t' n' _ ho _ ih1 ih2=>
  intro k;have:=ih1 k;rw[show m+1+k=(m+k)+1 by omega]at this
  exact .beta this ho (ih2 k)
end Go.Ab
end
section
set_option linter.unusedVariables false
set_option linter.unusedSimpArgs false
set_option maxRecDepth 100000
set_option maxHeartbeats 2000000
namespace Go.Ab
open Go.RowKit Go.Proofs
theorem Hd.det{env:List De}{n:Nat}{t t1:Te}{n1:Nat}(h:Hd env n t t1 n1):∀{k N:Int} {ls:List Lv} {ks:List Te} {t2:Te} {n2:Nat},t = .mk k N ls ks->Hd env n (.mk k N ls ks) t2 n2->t1=t2/\n1=n2:=by
 induction h with
 |@stuck n k' N' ls' ks' h4 h7 h3=>
  intro k N ls ks t2 n2 e h2;cases e;generalize hq:Te.mk k' N' ls' ks' = q at h2
  cases h2 with
  |stuck=>exact⟨rfl,rfl⟩
  |lett=>cases hq;exact absurd rfl h7
  |const hN hu=>cases hq;rw[(h3 rfl).2]at hu;cases hu
  |app=>cases hq;exact absurd rfl h4
  |beta=>cases hq;exact absurd rfl h4
 |@lett n N' ls' s v b r t' n' ho hd ih=>
  intro k N ls ks t2 n2 e h2;cases e;generalize hq:Te.mk 7 N' ls' [s,v,b]=q at h2;generalize hn:n+1=m at h2
  cases h2 with
  |stuck h4 h7 h3=>cases hq;exact absurd rfl h7
  |@lett n N ls s2 v2 b2 r2 t' n' ho2 hd2=>
   cases hq;cases hn
   rw[ho]at ho2;cases ho2;rcases r with⟨k,N,ls,ks⟩;exact ih rfl hd2
  |const hN hu=>exact absurd (congrArg Te.kind hq) (show ¬ (7:Int)=3 by decide)
  |app=>exact absurd (congrArg Te.kind hq) (show ¬ (7:Int)=4 by decide)
  |beta=>exact absurd (congrArg Te.kind hq) (show ¬ (7:Int)=4 by decide)
 |@const n N' ls' ks' d r t' n' hN hu hs hd ih=>
  intro k N ls ks t2 n2 e h2;cases e;generalize hq:Te.mk 3 N' ls' ks' = q at h2;generalize hn:n+1=m at h2
  cases h2 with
  |stuck h4 h7 h3=>cases hq;rw[(h3 rfl).2]at hu;cases hu
  |lett=>exact absurd (congrArg Te.kind hq) (show ¬ (3:Int)=7 by decide)
  |const hN2 hu2 hs2 hd2=>
   cases hq;cases hn
   rw[hu]at hu2;cases hu2;rw[hs]at hs2;cases hs2;rcases r with⟨k,N,ls,ks⟩;exact ih rfl hd2
  |app=>exact absurd (congrArg Te.kind hq) (show ¬ (3:Int)=4 by decide)
  |beta=>exact absurd (congrArg Te.kind hq) (show ¬ (3:Int)=4 by decide)
 |@app n N' ls' f a f' n' hd hk ih=>
  intro k N ls ks t2 n2 e h2;cases e;generalize hq:Te.mk 4 N' ls' [f,a]=q at h2
  cases h2 with
  |stuck h4 h7 h3=>cases hq;exact absurd rfl h4
  |lett=>exact absurd (congrArg Te.kind hq) (show ¬ (4:Int)=7 by decide)
  |const hN2 hu2 hs2 hd2=>exact absurd (congrArg Te.kind hq) (show ¬ (4:Int)=3 by decide)
  |app hd2 hk2=>
   cases hq;rcases f with⟨k,N,ls,ks⟩
   obtain⟨rfl,rfl⟩:=ih rfl hd2;exact⟨rfl,rfl⟩
  |beta hd2 ho2 hd3=>
   cases hq;rcases f with⟨k,N,ls,ks⟩
   obtain⟨rfl,_⟩:=ih rfl hd2;exact absurd rfl hk
 |@beta n N' ls' f a N2 ls2 s b m r t' n' hd ho hd2 ih1 ih2=>
  intro k N ls ks t2 n2 e h2;cases e;generalize hq:Te.mk 4 N' ls' [f,a]=q at h2
  cases h2 with
  |stuck h4 h7 h3=>cases hq;exact absurd rfl h4
  |lett=>exact absurd (congrArg Te.kind hq) (show ¬ (4:Int)=7 by decide)
  |const hN2 hu2 hs2 hd2=>exact absurd (congrArg Te.kind hq) (show ¬ (4:Int)=3 by decide)
  |app hd2 hk2=>
   cases hq;rcases f with⟨k,N,ls,ks⟩
   obtain⟨rfl,_⟩:=ih1 rfl hd2;exact absurd rfl hk2
  |beta hd2 ho2 hd3=>
   cases hq;rcases f with⟨k,N,ls,ks⟩
   obtain⟨e1,e2⟩:=ih1 rfl hd2;cases e1;cases e2;rw[ho]at ho2;cases ho2;rcases r with⟨k,N,ls,ks⟩;exact ih2 rfl hd3
def Hx(env:List De)(t t':Te):Prop:=∃n n',Hd env n t t' n'
theorem Hd.hx{env:List De}{n:Nat}{t t':Te}{n':Nat}(h:Hd env n t t' n'):Hx env t t':=⟨n,n',h⟩
theorem Hx.det{env:List De}{t t1 t2:Te}(h1:Hx env t t1)(h2:Hx env t t2):t1=t2:=by
 obtain⟨n,n',h1⟩:=h1;obtain⟨m,m',h2⟩:=h2;have h3:=h1.more m;have h4:=h2.more n;rw[Nat.add_comm m n]at h4;rcases t with⟨k,N,ls,ks⟩;exact (h3.det rfl h4).1
theorem Hx.again{env:List De}{t t':Te}(h:Hx env t t'):Hx env t' t':=by
 obtain⟨n,n',h⟩:=h;exact⟨0,0,h.again 0⟩
noncomputable def yjc(g:Gr)(a b:Lv):Bool:=z6a g.cons g.params.toNat a b
noncomputable def z8z(g:Gr):List Lv->List Lv->Bool
 |a::xs,b::ys=>(yjc g a b && yjc g b a) && z8z g xs ys
 |_,_=>true
inductive Cw (g:Gr):Te->Te->Bool->Bool->Prop
 |lam2 {k N k' N':Int} {ls ls':List Lv} {s x s' y x' y':Te} {most r:Bool}:k=5->k' = 5->Hx g.env x x' -> Hx g.env y y' -> Cw g x' y' false r->Cw g (.mk k N ls [s,x]) (.mk k' N' ls' [s',y]) most r
 |lamL {k N k' N':Int} {ls ls':List Lv} {s x x' e':Te} {ks':List Te} {most r:Bool}:k=5->k' ≠ 5->Hx g.env x x' -> Hx g.env (z0d (.mk k' N' ls' ks')) e' -> Cw g x' e' false r->Cw g (.mk k N ls [s,x]) (.mk k' N' ls' ks') most r
 |lamR {k N k' N':Int} {ls ls':List Lv} {s y y' e':Te} {ks:List Te} {most r:Bool}:k≠5->k' = 5->Hx g.env (z0d (.mk k N ls ks)) e' -> Hx g.env y y' -> Cw g e' y' false r->Cw g (.mk k N ls ks) (.mk k' N' ls' [s,y]) most r
 |other {k N k' N':Int} {ls ls':List Lv} {ks ks':List Te} {most:Bool}:k≠5->k' ≠ 5->(k≠k' \/ N≠N' \/ ls.length≠ls'.length)->Cw g (.mk k N ls ks) (.mk k' N' ls' ks') most false
 |var {k N k' N':Int} {ls ls':List Lv} {ks ks':List Te} {most:Bool}:k=1->k' = 1->N=N' -> ls.length=ls'.length->Cw g (.mk k N ls ks) (.mk k' N' ls' ks') most true
 |sortM {k N k' N':Int} {x y:Lv} {ks ks':List Te}:k=2->k' = 2->N=N' -> Cw g (.mk k N [x] ks) (.mk k' N' [y] ks') true (yjc g x y)
 |lvls {k N k' N':Int} {ls ls':List Lv} {ks ks':List Te} {most:Bool}:(k=2/\most=false\/k=3)->k' = k->N=N' -> ls.length=ls'.length->Cw g (.mk k N ls ks) (.mk k' N' ls' ks') most (z8z g ls ls')
 |two1 {k N k' N':Int} {ls ls':List Lv} {f x f' x' f1 f1':Te} {most:Bool}:(k=4\/k=6)->k' = k->N=N' -> ls.length=ls'.length->Hx g.env f f1->Hx g.env f' f1' -> Cw g f1 f1' false false->Cw g (.mk k N ls [f,x]) (.mk k' N' ls' [f',x']) most false
 |two2 {k N k' N':Int} {ls ls':List Lv} {f x f' x' f1 f1' x1 x1':Te} {most r:Bool}:(k=4\/k=6)->k' = k->N=N' -> ls.length=ls'.length->Hx g.env f f1->Hx g.env f' f1' -> Cw g f1 f1' false true->Hx g.env x x1->Hx g.env x' x1' -> Cw g x1 x1' (decide (k=6) && most) r->Cw g (.mk k N ls [f,x]) (.mk k' N' ls' [f',x']) most r
theorem zts{g:Gr}(hm:g.mode=1){out:List Co}{a b:Lv}(h:(zjh g (0,out) a b).2.1=0):(zjh g (0,out) a b).1=yjc g a b/\(zjh g (0,out) a b).2.2=out:=by
 unfold zjh at h ⊢;rw[if_neg (by simp),if_neg (by omega)]at h ⊢
 split at h
 ·rename_i hh;rw[if_pos hh];exact⟨rfl,rfl⟩
 ·cases h
theorem z2r{g:Gr}(hm:g.mode=1){out:List Co}{a b:Lv}(h:(zqg g (0,out) a b).2.1=0):(zqg g (0,out) a b).1=(yjc g a b && yjc g b a)/\(zqg g (0,out) a b).2.2=out:=by
 unfold zqg at h ⊢
 split at h
 ·rename_i h1
  have h0:=(zq2 h1).2;obtain⟨e1,e2⟩:=zts hm h0;rw[if_pos h1];have e3:(zjh g (0,out) a b).2=(0,out):=Prod.ext h0 e2;rw[e3]at h ⊢;obtain⟨e4,e5⟩:=zts hm h;rw[<- e1,h1,Bool.true_and];exact⟨e4,e5⟩
 ·rename_i h1
  rw[if_neg h1];obtain⟨e1,e2⟩:=zts hm h;refine⟨?_,e2⟩;rw[<- e1];simp only[Bool.not_eq_true]at h1;rw[h1];rfl
theorem z64{g:Gr}(hm:g.mode=1){out:List Co}:∀{p q:List Lv},(zm3 g (0,out) p q).2.1=0->(zm3 g (0,out) p q).1=z8z g p q/\(zm3 g (0,out) p q).2.2=out
 |a::xs,b::ys,h=>by
  rw[zm3]at h ⊢;rw[z8z]
  split at h
  ·rename_i h1
   have h0:=(zxg h1).2;obtain⟨e1,e2⟩:=z2r hm h0;have e3:(zqg g (0,out) a b).2=(0,out):=Prod.ext h0 e2;rw[if_pos h1];rw[e3]at h ⊢;rw[<- e1,h1,Bool.true_and];exact z64 hm h
  ·rename_i h1
   rw[if_neg h1];obtain⟨e1,e2⟩:=z2r hm h;refine⟨?_,e2⟩;rw[<- e1];simp only[Bool.not_eq_true]at h1;rw[h1];rfl
 |[],_,h=>by simp[zm3,z8z]
 |_::_,[],h=>by simp[zm3,z8z]
theorem Al.cw{g:Gr}(hm:g.mode=1){n:Nat}{out:List Co}{a b:Te}{most r:Bool}{n':Nat}{e:Int}{out':List Co}(h:Al g n out a b most r n' e out'):e=0->out' = out/\∃a' b',Hx g.env a a' /\ Hx g.env b b' /\ Cw g a' b' most r:=by
 induction h with
 |burn0=>intro h;cases h
 |headA h=>exact fun e=>absurd e h.ne
 |headB _ h=>exact fun e=>absurd e h.ne
 |lam2 h1 h2 _ ih=>
  intro e;obtain⟨ho,x',y',k1,k2,k3⟩:=ih e;exact⟨ho,_,_,h1.hx,h2.hx,.lam2 rfl rfl k1 k2 k3⟩
 |@lamL n out a b b' s x N ls most r n1 n2 n' e out' h1 h2 hk _ _ ih=>
  intro e;obtain⟨ho,x',y',k1,k2,k3⟩:=ih e;rcases b' with⟨k,N,l,s⟩;exact⟨ho,_,_,h1.hx,h2.hx,.lamL rfl hk k1 k2 k3⟩
 |lamLe _ _ _ h=>exact fun e=>absurd e h
 |@lamR n out a b a' s y N ls most r n1 n2 n' e out' h1 hk h2 _ _ ih=>
  intro e;obtain⟨ho,x',y',k1,k2,k3⟩:=ih e;rcases a' with⟨k,N,l,s⟩;exact⟨ho,_,_,h1.hx,h2.hx,.lamR hk rfl k1 k2 k3⟩
 |lamRe _ _ _ h=>exact fun e=>absurd e h
 |other h1 k5 h2 k5' hne=>exact fun _=>⟨rfl,_,_,h1.hx,h2.hx,.other k5 k5' hne⟩
 |var h1 h2 hl=>exact fun _=>⟨rfl,_,_,h1.hx,h2.hx,.var rfl rfl rfl hl⟩
 |sortM h1 h2=>
  intro e;obtain⟨e1,e2⟩:=zts hm e;rw[e1];exact⟨e2,_,_,h1.hx,h2.hx,.sortM rfl rfl rfl⟩
 |lvls hk h1 h2 hl=>
  intro e;obtain⟨e1,e2⟩:=z64 hm e;rw[e1];exact⟨e2,_,_,h1.hx,h2.hx,.lvls hk rfl rfl hl⟩
 |two1 hk h1 h2 hl _ ih=>
  intro e;obtain⟨ho,x',y',k1,k2,k3⟩:=ih e;exact⟨ho,_,_,h1.hx,h2.hx,.two1 hk rfl rfl hl k1 k2 k3⟩
 |two2 hk h1 h2 hl _ _ ih1 ih2=>
  intro e;obtain⟨ho,x',y',k1,k2,k3⟩:=ih1 rfl;obtain⟨ho2,x2,y2,l1,l2,l3⟩:=ih2 e;exact⟨ho2.trans ho,_,_,h1.hx,h2.hx,.two2 hk rfl rfl hl k1 k2 k3 l1 l2 l3⟩
end Go.Ab
end
section
set_option linter.unusedVariables false
set_option linter.unusedSimpArgs false
set_option maxRecDepth 100000
set_option maxHeartbeats 2000000
namespace Go.Ab
open Go.RowKit Go.Proofs
theorem z21(g:Gr):∀(p q:List Lv),z8z g p q=z8z g q p
 |[],[]=>rfl
 |[],_::_=>rfl
 |_::_,[]=>rfl
 |a::p,b::q=>by rw[z8z,z8z,z21 g p q,Bool.and_comm (yjc g a b)]
theorem Cw.sym{g:Gr}{a b:Te}{m r:Bool}(h:Cw g a b m r):m=false->∀{r2:Bool},Cw g b a false r2->r=r2:=by
 induction h with
 |lam2 hk hk' hx hy _ ih=>
  intro hm r2 h2
  cases h2 with
  |lam2 _ _ hy2 hx2 h3=>cases hx.det hx2;cases hy.det hy2;exact ih rfl h3
  |lamL _ h5=>exact absurd hk h5
  |lamR h5=>exact absurd hk' h5
  |other h5=>exact absurd hk' h5
  |var h1=>omega
  |lvls h1=>omega
  |two1 h1=>omega
  |two2 h1=>omega
 |lamL hk hk' hx hy _ ih=>
  intro hm r2 h2
  cases h2 with
  |lam2 h5=>exact absurd h5 hk'
  |lamL h5=>exact absurd h5 hk'
  |lamR _ _ hy2 hx2 h3=>cases hx.det hx2;cases hy.det hy2;exact ih rfl h3
  |other _ h5=>exact absurd hk h5
  |var _ h1=>omega
  |lvls h1 h3=>omega
  |two1 h1 h3=>omega
  |two2 h1 h3=>omega
 |lamR hk hk' hx hy _ ih=>
  intro hm r2 h2
  cases h2 with
  |lam2 _ h5=>exact absurd h5 hk
  |lamL _ _ hy2 hx2 h3=>cases hx.det hx2;cases hy.det hy2;exact ih rfl h3
  |lamR h5=>exact absurd hk' h5
  |other h5=>exact absurd hk' h5
  |var h1=>omega
  |lvls h1 h3=>omega
  |two1 h1 h3=>omega
  |two2 h1 h3=>omega
 |other hk hk' hne=>
  intro hm r2 h2
  cases h2 with
  |lam2 h5=>exact absurd h5 hk'
  |lamL h5=>exact absurd h5 hk'
  |lamR _ h5=>exact absurd h5 hk
  |other=>rfl
  |var h1 h3 h4 h5=>exfalso;omega
  |lvls h1 h3 h4 h5=>exfalso;omega
  |two1 h1 h3 h4 h5=>rfl
  |two2 h1 h3 h4 h5=>exfalso;omega
 |var hk hk' hN hl=>
  intro hm r2 h2
  cases h2 with
  |lam2 h5=>omega
  |lamL h5=>omega
  |lamR _ h5=>omega
  |other _ _ h5=>exfalso;omega
  |var=>rfl
  |lvls h1 h3=>exfalso;omega
  |two1 h1 h3=>exfalso;omega
  |two2 h1 h3=>exfalso;omega
 |sortM=>intro hm;cases hm
 |lvls hk hk' hN hl=>
  intro hm r2 h2
  cases h2 with
  |lam2 h5=>omega
  |lamL h5=>omega
  |lamR _ h5=>omega
  |other _ _ h5=>exfalso;omega
  |var h1=>exfalso;omega
  |lvls=>exact z21 g _ _
  |two1 h1 h3=>exfalso;omega
  |two2 h1 h3=>exfalso;omega
 |two1 hk hk' hN hl hx hy _ ih=>
  intro hm r2 h2
  cases h2 with
  |lam2 h5=>omega
  |lamL h5=>omega
  |lamR _ h5=>omega
  |other _ _ h5=>rfl
  |var h1=>exfalso;omega
  |lvls h1=>exfalso;omega
  |two1=>rfl
  |two2 _ _ _ _ hy2 hx2 h3=>cases hx.det hx2;cases hy.det hy2;exact absurd (ih rfl h3) (by decide)
 |two2 hk hk' hN hl hx hy _ hu hv _ ih1 ih2=>
  intro hm r2 h2;subst hm
  cases h2 with
  |lam2 h5=>omega
  |lamL h5=>omega
  |lamR _ h5=>omega
  |other _ _ h5=>exfalso;omega
  |var h1=>exfalso;omega
  |lvls h1=>exfalso;omega
  |two1 _ _ _ _ hy2 hx2 h3=>cases hx.det hx2;cases hy.det hy2;exact absurd (ih1 rfl h3) (by decide)
  |two2 _ _ _ _ hy2 hx2 h3 hv2 hu2 h4=>
   cases hu.det hu2;cases hv.det hv2
   rw[Bool.and_false]at h4;exact ih2 (Bool.and_false _) h4
theorem Cw.det{g:Gr}{a b:Te}{m r:Bool}(h:Cw g a b m r):∀{m2 r2:Bool},Cw g a b m2 r2->(m=m2->r=r2)/\(m=false->r=true->r2=true):=by
 induction h with
 |lam2 hk hk' hx hy _ ih=>
  intro m2 r2 h2
  cases h2 with
  |lam2 _ _ hx2 hy2 h3=>cases hx.det hx2;cases hy.det hy2;have:=(ih h3).1 rfl;subst this;exact⟨fun _=>rfl,fun _=>id⟩
  |lamL _ h5=>exact absurd hk' h5
  |lamR h5=>exact absurd hk h5
  |other h5=>exact absurd hk h5
  |var h1=>omega
  |sortM h1=>omega
  |lvls h1=>omega
  |two1 h1=>omega
  |two2 h1=>omega
 |lamL hk hk' hx hy _ ih=>
  intro m2 r2 h2
  cases h2 with
  |lam2 _ h5=>exact absurd h5 hk'
  |lamL _ _ hx2 hy2 h3=>cases hx.det hx2;cases hy.det hy2;have:=(ih h3).1 rfl;subst this;exact⟨fun _=>rfl,fun _=>id⟩
  |lamR h5=>exact absurd hk h5
  |other h5=>exact absurd hk h5
  |var h1=>omega
  |sortM h1=>omega
  |lvls h1=>omega
  |two1 h1=>omega
  |two2 h1=>omega
 |lamR hk hk' hx hy _ ih=>
  intro m2 r2 h2
  cases h2 with
  |lam2 h5=>exact absurd h5 hk
  |lamL h5=>exact absurd h5 hk
  |lamR _ _ hx2 hy2 h3=>cases hx.det hx2;cases hy.det hy2;have:=(ih h3).1 rfl;subst this;exact⟨fun _=>rfl,fun _=>id⟩
  |other _ h5=>exact absurd hk' h5
  |var h1 h3=>omega
  |sortM h1 h3=>omega
  |lvls h1 h3=>omega
  |two1 h1 h3=>omega
  |two2 h1 h3=>omega
 |other hk hk' hne=>
  intro m2 r2 h2
  cases h2 with
  |lam2 h5=>exact absurd h5 hk
  |lamL h5=>exact absurd h5 hk
  |lamR _ h5=>exact absurd h5 hk'
  |other=>exact⟨fun _=>rfl,fun _ h=>by cases h⟩
  |var h1 h3 h4 h5=>exfalso;omega
  |sortM h1 h3 h4=>exfalso;simp at hne;omega
  |lvls h1 h3 h4 h5=>exfalso;omega
  |two1 h1 h3 h4 h5=>exfalso;omega
  |two2 h1 h3 h4 h5=>exfalso;omega
 |var hk hk' hN hl=>
  intro m2 r2 h2
  cases h2 with
  |lam2 h5=>omega
  |lamL h5=>omega
  |lamR _ h5=>omega
  |other _ _ h5=>exfalso;omega
  |var=>exact⟨fun _=>rfl,fun _=>id⟩
  |sortM h1=>exfalso;omega
  |lvls h1 h3=>exfalso;omega
  |two1 h1 h3=>exfalso;omega
  |two2 h1 h3=>exfalso;omega
 |sortM hk hk' hN=>
  intro m2 r2 h2
  cases h2 with
  |other _ _ h5=>exfalso;simp at h5;omega
  |var h1=>exfalso;omega
  |sortM=>exact⟨fun _=>rfl,fun h=>by cases h⟩
  |lvls h1 h3=>
   refine⟨fun h=>?_,fun h=>by cases h⟩
   rcases h1 with⟨_,h1⟩|h1
   ·subst h1;cases h
   ·omega
  |lam2 h5=>omega
  |lamL h5=>omega
  |lamR _ h5=>omega
  |two1 h1 h3=>exfalso;omega
  |two2 h1 h3=>exfalso;omega
 |lvls hk hk' hN hl=>
  intro m2 r2 h2
  cases h2 with
  |lam2 h5=>omega
  |lamL h5=>omega
  |lamR _ h5=>omega
  |other _ _ h5=>exfalso;omega
  |var h1=>exfalso;omega
  |sortM h1 h3=>
   refine⟨fun h=>?_,fun h hr=>?_⟩
   ·rcases hk with⟨_,h1⟩|h1
    ·subst h1;cases h
    ·omega
   ·simp only[z8z,Bool.and_true,Bool.and_eq_true]at hr
    exact hr.1
  |lvls=>exact⟨fun _=>rfl,fun _=>id⟩
  |two1 h1 h3=>exfalso;omega
  |two2 h1 h3=>exfalso;omega
 |two1 hk hk' hN hl hx hy _ ih=>
  intro m2 r2 h2
  cases h2 with
  |lam2 h5=>omega
  |lamL h5=>omega
  |lamR _ h5=>omega
  |other _ _ h5=>exfalso;omega
  |var h1=>exfalso;omega
  |sortM h1=>exfalso;omega
  |lvls h1=>exfalso;omega
  |two1=>exact⟨fun _=>rfl,fun _ h=>by cases h⟩
  |two2 _ _ _ _ hx2 hy2 h3=>cases hx.det hx2;cases hy.det hy2;exact absurd ((ih h3).1 rfl) (by decide)
 |@two2 k N k' N' ls ls' f x f' x' f1 f1' x1 x1' most r hk hk' hN hl hx hy _ hu hv _ ih1 ih2=>
  intro m2 r2 h2
  cases h2 with
  |lam2 h5=>omega
  |lamL h5=>omega
  |lamR _ h5=>omega
  |other _ _ h5=>exfalso;omega
  |var h1=>exfalso;omega
  |sortM h1=>exfalso;omega
  |lvls h1=>exfalso;omega
  |two1 _ _ _ _ hx2 hy2 h3=>cases hx.det hx2;cases hy.det hy2;exact absurd ((ih1 h3).1 rfl) (by decide)
  |two2 _ _ _ _ hx2 hy2 h3 hu2 hv2 h4=>
   cases hu.det hu2;cases hv.det hv2
   obtain⟨a1,a2⟩:=ih2 h4;exact⟨fun h=>a1 (by rw[h]),fun h hr=>a2 (by rw[h,Bool.and_false]) hr⟩
theorem z7k{l:List Cl}:∀{m:List Int},za8 l m=m->∀c∈l,zlb m c=m:=by
 induction l with
 |nil=>intro m _ c hc;cases hc
 |cons c l ih=>
  intro m h x hx;have e:za8 (c::l) m=za8 l (zlb m c):=rfl;have h1:zlb m c=m:=by
   have a:=z5k m c;have b:=zqs l (zlb m c);rw[<- e,h]at b;exact leM_eq b a
  rcases List.mem_cons.1 hx with rfl|hx
  ·exact h1
  ·rw[e,h1]at h
   exact ih h x hx
theorem z8v{f:Fl}{a:At}(h:a∈zbv f):0<=a.v/\a.v<(f.o.length:Int)+1:=by
 rw[zbv]at h;rcases List.mem_cons.1 h with rfl|h
 ·exact⟨Int.le_refl 0,by show (0:Int)<_;omega⟩
 ·have:=zsn a f.o 1 h
  omega
theorem z07(cons:List Co)(p:Nat)(x:Lv):z6a cons p x x=true:=by
 refine zq3.2 fun n hn hb=>?_
 obtain⟨a,ha,m,k,hr⟩:=hb;obtain⟨h1,h2,h3⟩:=hr.model rfl;have hc:(⟨[a],⟨a.v,a.o+1⟩⟩:Cl)∈zv5 cons (zfn n p) x a:=by
  unfold zv5;exact List.mem_append_right _ (List.mem_map.2 ⟨a,ha,rfl⟩)
 have h4:=z7k h1 _ hc;have hv:=z8v ha;have hl:=zsv x (zfn n p);rw[zhj]at h3 hl;simp only[List.length_replicate]at h3;have h5:=z7g (m:=m) (c:=⟨[a],⟨a.v,a.o+1⟩⟩) (by simp[z0e,z7y];omega) (by dsimp only;omega)
 exact h5.2 h4
theorem z22(g:Gr):∀p:List Lv,z8z g p p=true
 |[]=>rfl
 |a::p=>by rw[z8z,z22 g p,yjc,z07];rfl
theorem Cw.refl{g:Gr}{a b:Te}{m r:Bool}(h:Cw g a b m r):a=b->r=true:=by
 induction h with
 |lam2 hk hk' hx hy _ ih=>intro e;cases e;exact ih (hx.det hy)
 |lamL hk hk'=>intro e;cases e;exact absurd hk hk'
 |lamR hk hk'=>intro e;cases e;exact absurd hk' hk
 |other hk hk' hne=>intro e;cases e;simp at hne
 |var=>exact fun _=>rfl
 |sortM=>intro e;cases e;exact z07 _ _ _
 |lvls=>intro e;cases e;exact z22 _ _
 |two1 hk hk' hN hl hx hy _ ih=>intro e;cases e;exact ih (hx.det hy)
 |two2 hk hk' hN hl hx hy _ hu hv _ ih1 ih2=>intro e;cases e;exact ih2 (hu.det hv)
end Go.Ab
end
section
set_option linter.unusedVariables false
set_option linter.unusedSimpArgs false
set_option maxRecDepth 100000
set_option maxHeartbeats 8000000
namespace Go.Ab
open Go.RowKit Go.Proofs
theorem ConvS.cw{g:Gr}(hm:g.mode=1){a b:Te}{most:Bool}{f:Int}{r:Bool×List Co×Int×Int}(h:ConvS g a b most f r)(he:r.2.2.2=0):∃a' b',Hx g.env a a' /\ Hx g.env b b' /\ Cw g a' b' most r.1:=by
 cases h with
 |arg=>cases he
 |er _ _ _ _ _ _ h=>exact absurd he h
 |ok _ _ _ _ _ h=>exact (h.cw hm rfl).2
theorem z5d(l:List (List Int))(hl:BsOk l)(K:List Int)(hK:zbr K)(hKl:K.length<=140737488355328)(L:List Int)(hL:zbr L)(hlen:L.length<=140737488355328)(H:List AO):
  F zgd [.sl (yin l),.sl (u8s K),.sl (u8s L)] H=some (.ret (.bool true),H):=by
 have hG:=fun H=>ycf l hl K hK hKl false H
 have hg:=z72 hl hK false;have hmode:(zng l K false).mode=1:=rfl;have h0:AO.box [.sl (u8s L),.int .i64 0]=mkr L 0:=rfl;generalize zng l K false=g at *;have hT:F zgz [.ptr H.length 0,.agg g.cs,.int .i64 4] ((H++[mkr L 0]).set H.length (mkr L 0))=_:=z24 L hL hlen g 3 (by omega) 0 (by decide) H.length (H++[mkr L 0]) (by simp)
 have hat:=tmS_at hL g 4 0;have hsm:=tmS_sm hL g 3 0;have hok:=yio hL g 4 0;simp only[Int.reducePow,Nat.reduceAdd]at hT hat hsm;generalize tmS L g 4 0=q at *;rcases q with⟨a,b0⟩;dsimp only at hT hat hsm hok;have hN:=yd5 L hL hlen g a hok hsm b0 (by omega) H.length (H++[mkr L b0]) (by simp)
 have hnk:=yf8 hL g a hok b0;generalize z7v L g a b0=r at *;rcases r with⟨b,b1⟩;dsimp only at hN hnk;obtain⟨⟨rt,rn,e⟩,hr⟩:=yae g.env a 100;have hrk:=hr.ok' hg.1 hok;have R0:=fun H=>z5a g.env hg.1 a hok 100 _ hr H
 have R1:=fun H=>znm rt hrk 1000 3 0 H
 obtain⟨⟨x,c1,n1,f⟩,s1⟩:=zmz g a a false 400;obtain⟨⟨y,c2,n2,h⟩,s2⟩:=zmz g a b false 400;obtain⟨⟨z,c3,n3,i⟩,s3⟩:=zmz g b a false 400;obtain⟨⟨w,c4,n4,j⟩,s4⟩:=zmz g a b true 400;obtain⟨⟨v,c5,n5,n⟩,s5⟩:=zmz g a rt false 400;have t1:=fun H=>zep g hg a a hok hok false 400 _ s1 H
 have t2:=fun H=>zep g hg a b hok hnk false 400 _ s2 H
 have t3:=fun H=>zep g hg b a hnk hok false 400 _ s3 H
 have t4:=fun H=>zep g hg a b hok hnk true 400 _ s4 H
 have t5:=fun H=>zep g hg a rt hok hrk false 400 _ s5 H
 have u1:f=0->x=true:=by
  intro e;obtain⟨a',b',h1,h2,h3⟩:=s1.cw hmode e;exact h3.refl (h1.det h2)
 have u2:h=0->i=0->y=z:=by
  intro e1 e2;obtain⟨a',b',h1,h2,h3⟩:=s2.cw hmode e1;obtain⟨b2,a2,h4,h5,h6⟩:=s3.cw hmode e2
  cases h1.det h5
  cases h2.det h4
  exact h3.sym rfl h6
 have u3:h=0->j=0->y=true->w=true:=by
  intro e1 e2 e3;obtain⟨a',b',h1,h2,h3⟩:=s2.cw hmode e1;obtain⟨a2,b2,h4,h5,h6⟩:=s4.cw hmode e2
  cases h1.det h4
  cases h2.det h5
  exact (h3.det h6).2 rfl e3
 have u4:e=0->n=0->v=true:=by
  intro e1 e2;subst e1;obtain⟨a',b',h1,h2,h3⟩:=s5.cw hmode e2;have h4:Hx g.env a rt:=by
   generalize hq:((rt,rn,0):Te×Int×Int)=q at hr
   cases hr with
   |arg=>cases hq
   |er _ _ _ _ h=>cases hq;exact absurd rfl h.ne
   |long=>cases hq
   |ok _ _ _ _ h=>cases hq;exact h.hx
  cases h1.det h4
  cases h2.det h4.again
  exact h3.refl rfl
 clear s1 s2 s3 s4 s5 hr;rw[zpk,zpk]at hT hN;rcases a with⟨k1,m1,l1,q1⟩;rcases b with⟨k2,m2,l2,q2⟩;rcases rt with⟨k3,m3,l3,q3⟩;simp only[Te.cs,Gr.cs,yel,yfo]at hG hT hN R0 R1 t1 t2 t3 t4 t5;rw[zth];have tail:(¬ e=0\/e=0/\zc0 (.mk k3 m3 l3 q3) 1000 3 0=false\/e=0/\zc0 (.mk k3 m3 l3 q3) 1000 3 0=true/\¬ n=0\/e=0/\zc0 (.mk k3 m3 l3 q3) 1000 3 0=true/\n=0/\v=true):=by
  by_cases h1:e=0
  ·cases h2:zc0 (.mk k3 m3 l3 q3) 1000 3 0
   ·exact .inr (.inl ⟨h1,rfl⟩)
   ·by_cases h3:n=0
    ·exact .inr (.inr (.inr ⟨h1,rfl,h3,u4 h1 h3⟩))
    ·exact .inr (.inr (.inl ⟨h1,rfl,h3⟩))
  ·exact .inl h1
 have mid:(¬ h=0\/h=0/\¬ i=0/\¬ j=0\/h=0/\i=0/\y=z/\¬ j=0\/h=0/\¬ i=0/\j=0/\y=false\/h=0/\¬ i=0/\j=0/\y=true/\w=true\/h=0/\i=0/\j=0/\y=false/\z=false\/h=0/\i=0/\j=0/\y=true/\z=true/\w=true):=by
  by_cases h1:h=0 <;> by_cases h2:i=0 <;> by_cases h3:j=0 <;> cases hy:y <;> simp_all
 have ef:f=0/\x=true\/¬ f=0:=by
  by_cases h1:f=0
  ·exact .inl ⟨h1,u1 h1⟩
  ·exact .inr h1
 clear u1 u2 u3 u4 hok hnk hrk hsm hat hmode;rcases ef with⟨rfl,rfl⟩|ef <;>
 rcases mid with h1|⟨rfl,h2,h3⟩|⟨rfl,rfl,rfl,h3⟩|⟨rfl,h2,rfl,rfl⟩|⟨rfl,h2,rfl,rfl,rfl⟩|⟨rfl,rfl,rfl,rfl,rfl⟩|⟨rfl,rfl,rfl,rfl,rfl,rfl⟩ <;>
 rcases tail with h4|⟨rfl,h5⟩|⟨rfl,h5,h6⟩|⟨rfl,h5,rfl,rfl⟩ <;>
  (try simp only[h5]at R1) <;>
  simp only[↓reduceIte,go_sem,hG,h0,hT,hN,R0,R1,t1,t2,t3,t4,t5,z8u,Te.cs,beq_self_eq_true,Bool.not_true, *]
theorem z3a(l:List (List Int))(hl:BsOk l)(K:List Int)(hK:K.length<=140737488355328/\zbr K)(L:List Int)(hL:L.length<=140737488355328/\zbr L)(H:List AO):
  F zgd [.sl (l.map fun l=>[.sl (u8s l)]),.sl (u8s K),.sl (u8s L)] H=some (.ret (.bool true),H) :=
 z5d l hl K hK.2 hK.1 L hL.2 hL.1 H
end Go.Ab
end
