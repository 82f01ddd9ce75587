/- What the law ConvMany of layer 17 comes to, part 8. Conditions: none. -/
import Derived.Test.YthebfdakjfnpeaaGreatZdag
section
set_option linter.unusedVariables false
set_option linter.unusedSimpArgs false
namespace Go.Ab
open Go.RowKit
def LeO{α:Type}(x y:Option α):Prop:=∀r,x=some r->y=some r
theorem LeO.refl{α:Type}(x:Option α):LeO x x:=fun _ h=>h
theorem LeO.trans{α:Type}{x y z:Option α}(h:LeO x y)(k:LeO y z):LeO x z:=fun r e=>k r (h r e)
theorem LeO.bnd{β:Type}{x y:Option (Out×St)}{Q Q':Out->St->Option β}(h:LeO x y)(k:∀o σ,LeO (Q o σ) (Q' o σ)):LeO (bnd x Q) (bnd y Q'):=by
 intro r e;obtain⟨o,σ,h1,h2⟩:=zcy e;rw[h _ h1];exact k o σ r h2
theorem LeO.thn{β:Type}{K K':St->Option β}{Q Q':Out->St->Option β}(h:∀σ,LeO (K σ) (K' σ))(k:∀o σ,LeO (Q o σ) (Q' o σ))(o:Out)(σ:St):LeO (thn K Q o σ) (thn K' Q' o σ):=by
 cases o <;> first|exact h σ|exact k _ σ
def CLe(c d:zmp):Prop:=∀f vs H,LeO (c f vs H) (d f vs H)
set_option linter.unusedSectionVars false
section
variable {c d : zmp} (h : CLe c d)
include h
theorem zwy(i:AI)(σ:St):LeO (zio c i σ) (zio d i σ):=by
 obtain⟨dd,ak,g,af⟩:=i;have call:∀(f:AX) (l:List AX),LeO (match σ.a f,σ.as l with
   |some f,some vs=>z95 dd σ (c f vs σ.h)
   |_,_=>none) (match σ.a f,σ.as l with
   |some f,some vs=>z95 dd σ (d f vs σ.h)
   |_,_=>none):=by
  intro f l r e
  split at e
  ·rename_i f' vs h1 h2
   cases hx:c f' vs σ.h with
   |none=>rw[hx]at e;cases e
   |some p=>rw[hx]at e;rw[h _ _ _ _ hx];exact e
  ·cases e
 unfold zio
 cases ak with
 |call f l=>exact call f l
 |callW f l bs=>exact call f l
 |pan x=>exact .refl _
 |isn x=>exact .refl _
 |o op=>exact .refl _
 |fo op=>exact .refl _
theorem zmw:∀(is:List AI) (σ:St),LeO (zsf c is σ) (zsf d is σ)
 |[],σ=>.refl _
 |i::r,σ=>by
  have st:∀τ,LeO (bnd (zio c i τ) (thn (zsf c r) one)) (bnd (zio d i τ) (thn (zsf d r) one)):=fun τ=>
   (zwy h i τ).bnd (LeO.thn (zmw r) fun _ _=>.refl _)
  unfold zsf
  split
  ·exact st σ
  ·split
   ·split
    ·exact st _
    ·exact zmw r _
   ·exact zmw r _
   ·exact .refl _
theorem zwz(o:Option Nat)(k:AK)(σ:St):LeO (zg5 c o k σ) (zg5 d o k σ):=by
 intro r e;unfold zg5 at e ⊢
 cases k with
 |o op=>exact e
 |pan x=>exact e
 |isn x=>exact e
 |fo x=>exact e
 |call f l=>
  dsimp only at e ⊢
  split at e
  ·rename_i f' vs h1 h2
   cases e1:c f' vs σ.h with
   |none=>rw[e1]at e;cases e
   |some p=>rw[e1]at e;rw[h _ _ _ _ e1];exact e
  ·cases e
 |callW f l bs=>
  dsimp only at e ⊢
  split at e
  ·rename_i f' vs h1 h2
   cases e1:c f' vs σ.h with
   |none=>rw[e1]at e;cases e
   |some p=>rw[e1]at e;rw[h _ _ _ _ e1];exact e
  ·cases e
theorem zmx:∀(is:List AI) (σ:St),LeO (zj7 c is σ) (zj7 d is σ)
 |[],σ=>.refl _
 |⟨o,k,g,af⟩::r,σ=>by
  have st:∀σ:St,LeO (match zg5 c o k σ with
    |some σ'=>zj7 c r σ'
    |none=>none) (match zg5 d o k σ with
    |some σ'=>zj7 d r σ'
    |none=>none):=by
   intro σ q e
   split at e
   ·rename_i τ h1;rw[zwz h o k σ _ h1];exact zmx r _ _ e
   ·cases e
  cases g with
  |none=>unfold zj7;exact st _
  |some jw=>
   obtain⟨j,w⟩:=jw;have key:LeO (match tg j σ.t.l with
     |.v (.bool b)=>if b=w then (match zg5 c o k { σ with t:=σ.t.set j (.v (.bool w)) } with
      |some σ'=>zj7 c r σ'
      |none=>none) else zj7 c r ({ σ with t:=σ.t.set j (.v (.bool (!w))) }.put o .und)
     |.und=>zj7 c r (σ.put o .und)
     |_=>none) (match tg j σ.t.l with
     |.v (.bool b)=>if b=w then (match zg5 d o k { σ with t:=σ.t.set j (.v (.bool w)) } with
      |some σ'=>zj7 d r σ'
      |none=>none) else zj7 d r ({ σ with t:=σ.t.set j (.v (.bool (!w))) }.put o .und)
     |.und=>zj7 d r (σ.put o .und)
     |_=>none):=by
    split
    ·split
     ·exact st _
     ·exact zmx r _
    ·exact zmx r _
    ·exact .refl _
   unfold zj7;exact key
theorem zub{f g:St->Option (Out×St)}(hf:∀σ,LeO (f σ) (g σ))(kt kl:List Nat):∀(n m:Nat),n<=m->∀σ,LeO (itr f kt kl n σ) (itr g kt kl m σ)
 |0,m,hm,σ=>fun r e=>by cases e
 |n+1,m,hm,σ=>by
  obtain⟨m,rfl⟩:∃k,m=k+1:=⟨m - 1,by omega⟩
  unfold itr;exact (hf _).bnd (LeO.thn (zub hf kt kl n m (by omega)) fun _ _=>.refl _)
omit h in
theorem z6l{σ:St}{id:Nat}{ds:List Nat}{x y:Option RH}(k:LeO x y):LeO (rfA σ id ds x) (rfA σ id ds y):=by
 intro r e
 cases x with
 |none=>cases e
 |some p=>rw[k _ rfl];exact e
theorem z6k(f:AX)(ps kt:List Nat)(asg body:FC)(σ:St):LeO (rfF c f ps kt asg body σ) (rfF d f ps kt asg body σ):=by
 unfold rfF
 split
 ·split
  ·exact z6l (h _ _ _)
  ·split
   ·exact z6l (h _ _ _)
   ·exact .refl _
 ·exact .refl _
theorem zpp{n m:Nat}(hn:n<=m):∀(x:FC) (σ:St),LeO (run c n x σ) (run d m x σ):=by
 intro x
 induction x with
 |skip=>intro σ;exact .refl _
 |reg is=>intro σ;exact zmw h is σ
 |dreg is=>
  intro σ r e;unfold run at e ⊢
  cases he:zj7 c is σ with
  |none=>rw[he]at e;cases e
  |some τ=>rw[he]at e;rw[zmx h is σ _ he];exact e
 |seq a b iha ihb=>intro σ;exact (iha σ).bnd (LeO.thn ihb fun _ _=>.refl _)
 |cond y a b iha ihb=>
  intro σ;unfold run
  split
  ·split
   ·exact iha σ
   ·exact ihb σ
  ·exact .refl _
 |block id x ih=>
  intro σ r e;unfold run at e ⊢
  cases he:run c n x σ with
  |none=>rw[he]at e;cases e
  |some p=>rw[he]at e;rw[ih σ _ he];exact e
 |loop kt kl x ih=>intro σ;exact zub h ih kt kl n m hn σ
 |rf f ps kt asg body=>intro σ;exact z6k h f ps kt asg body σ
 |exit id=>intro σ;exact .refl _
 |ret=>intro σ;exact .refl _
end
theorem z9b{c d:zmp}(h:CLe c d){n m:Nat}(hn:n<=m)(id:Nat)(vs:List AV)(H:List AO):LeO (z5u c n id vs H) (z5u d m id vs H):=by
 unfold z5u
 split
 ·split
  ·refine LeO.bnd (zpp h hn _ _) fun o σ=>?_
   split
   ·split
    ·exact LeO.bnd (zpp h hn _ _) fun _ _=>.refl _
    ·exact .refl _
   ·exact .refl _
  ·exact .refl _
 ·exact .refl _
theorem zdz(T:Tab):∀(n m:Nat),n<=m->CLe (zc8 T n) (zc8 T m)
 |0,m,hm=>fun f vs H r e=>by cases e
 |n+1,m,hm=>fun f vs H=>by
  obtain⟨m,rfl⟩:∃k,m=k+1:=⟨m - 1,by omega⟩
  unfold zc8
  split
  ·unfold z5v
   split
   ·split
    ·exact LeO.bnd (zpp (zdz T n m (by omega)) (by omega) _ _) fun _ _=>.refl _
    ·exact .refl _
   ·exact .refl _
   ·exact .refl _
   ·exact .refl _
   ·exact .refl _
  ·exact z9b (zdz T n m (by omega)) (by omega) _ _ _
  ·unfold z5w
   split
   ·split
    ·exact LeO.bnd (zpp (zdz T n m (by omega)) (by omega) _ _) fun _ _=>.refl _
    ·exact .refl _
   ·exact .refl _
   ·exact .refl _
  ·exact .refl _
open Classical in
noncomputable def lim{α:Type}(s:Nat->Option α):Option α:=if h:∃n,(s n).isSome=true then s (Classical.choose h) else none
def Inc{α:Type}(s:Nat->Option α):Prop:=∀n m,n<=m->LeO (s n) (s m)
theorem ybt{α:Type}{s:Nat->Option α}(hs:Inc s){r:α}:lim s=some r ↔ ∃n,s n=some r:=by
 constructor
 ·intro h
  unfold lim at h
  split at h
  ·exact⟨_,h⟩
  ·cases h
 ·rintro ⟨n,h⟩
  have hx:∃n,(s n).isSome=true:=⟨n,by rw[h];rfl⟩
  unfold lim;rw[dif_pos hx];have h2:=Classical.choose_spec hx;obtain⟨q,hq⟩:=Option.isSome_iff_exists.1 h2;rcases Nat.le_total n (Classical.choose hx) with k|k
  ·exact hs _ _ k _ h
  ·have:=hs _ _ k _ hq
   rw[h]at this;cases this;exact hq
theorem zj4{α:Type}{x y:Option α}(h:∀r,x=some r ↔ y=some r):x=y:=by
 cases x with
 |none=>cases y with
  |none=>rfl
  |some b=>exact absurd ((h b).2 rfl) (by simp)
 |some a=>exact ((h a).1 rfl).symm
noncomputable def cfl(T:Tab):zmp:=fun f vs H=>lim fun n=>zc8 T n f vs H
noncomputable def fnF(T:Tab)(k:FuncId)(vs:List AV)(H:List AO):Option RH:=cfl T (.fn (.func k) [] []) vs H
noncomputable def fkF(T:Tab)(k:FuncId)(vs:List AV)(H:List AO):Option RH:=cfl T (.fk k) vs H
noncomputable def evl(T:Tab)(c:FC)(σ:St):Option (Out×St):=lim fun n=>run (zc8 T n) n c σ
variable {T : Tab}
theorem yhd(f:AV)(vs:List AV)(H:List AO):Inc fun n=>zc8 T n f vs H:=fun n m h=>zdz T n m h f vs H
theorem zss(c:FC)(σ:St):Inc fun n=>run (zc8 T n) n c σ:=fun n m h=>zpp (zdz T n m h) h c σ
theorem zlv{f:AV}{vs:List AV}{H:List AO}{r:RH}:cfl T f vs H=some r ↔ ∃n,zc8 T n f vs H=some r:=ybt (yhd f vs H)
theorem zcb{c:FC}{σ:St}{r:Out×St}:evl T c σ=some r ↔ ∃n,run (zc8 T n) n c σ=some r:=ybt (zss c σ)
theorem z0g(n:Nat):CLe (zc8 T n) (cfl T):=fun f vs H r e=>zlv.2 ⟨n,e⟩
theorem z70{i:AI}{σ:St}{r:Out×St}(h:zio (cfl T) i σ=some r):∃n,zio (zc8 T n) i σ=some r:=by
 obtain⟨dd,ak,g,af⟩:=i;have call:∀(f:AX) (l:List AX),(match σ.a f,σ.as l with
   |some f,some vs=>z95 dd σ (cfl T f vs σ.h)
   |_,_=>none)=some r->∃n,(match σ.a f,σ.as l with
   |some f,some vs=>z95 dd σ (zc8 T n f vs σ.h)
   |_,_=>none)=some r:=by
  intro f l e
  split at e
  ·rename_i f' vs h1 h2
   cases hx:cfl T f' vs σ.h with
   |none=>rw[hx]at e;cases e
   |some p=>
    obtain⟨n,hn⟩:=zlv.1 hx;exact⟨n,by rw[hn,<- hx];exact e⟩
  ·cases e
 unfold zio at h ⊢
 cases ak with
 |call f l=>exact call f l h
 |callW f l bs=>exact call f l h
 |pan x=>exact⟨0,h⟩
 |isn x=>exact⟨0,h⟩
 |o op=>exact⟨0,h⟩
 |fo op=>exact⟨0,h⟩
theorem zrc:∀{is:List AI} {σ:St} {r:Out×St},zsf (cfl T) is σ=some r->∃n,zsf (zc8 T n) is σ=some r
 |[],σ,r,h=>⟨0,h⟩
 |i::l,σ,r,h=>by
  have st:∀τ,bnd (zio (cfl T) i τ) (thn (zsf (cfl T) l) one)=some r->∃n,bnd (zio (zc8 T n) i τ) (thn (zsf (zc8 T n) l) one)=some r:=by
   intro τ h;obtain⟨o1,σ1,h1,h2⟩:=zcy h;obtain⟨n,hn⟩:=z70 h1
   cases o1 with
   |normal=>
    obtain⟨m,hm⟩:=zrc (show zsf (cfl T) l σ1=some r from h2)
    refine⟨max n m,?_⟩;rw[zwy (zdz T n (max n m) (by omega)) i τ _ hn]
    exact zmw (zdz T m (max n m) (by omega)) l σ1 _ hm
   |exit id=>exact⟨n,by rw[hn];exact h2⟩
   |ret=>exact⟨n,by rw[hn];exact h2⟩
   |pan v=>exact⟨n,by rw[hn];exact h2⟩
  unfold zsf at h ⊢
  split at h
  ·exact st _ h
  ·split at h
   ·split at h
    ·rename_i e;simp only[if_pos e];exact st _ h
    ·rename_i e;simp only[if_neg e];exact zrc h
   ·exact zrc h
   ·cases h
theorem z71{o:Option Nat}{k:AK}{σ σ':St}(h:zg5 (cfl T) o k σ=some σ'):∃n,zg5 (zc8 T n) o k σ=some σ':=by
 unfold zg5 at h ⊢
 cases k with
 |o op=>exact⟨0,h⟩
 |pan x=>exact⟨0,h⟩
 |isn x=>exact⟨0,h⟩
 |fo x=>exact⟨0,h⟩
 |call f l=>
  dsimp only at h ⊢
  split at h
  ·rename_i f' vs h1 h2
   cases e1:cfl T f' vs σ.h with
   |none=>rw[e1]at h;cases h
   |some p=>rw[e1]at h;obtain⟨n,hn⟩:=zlv.1 e1;exact⟨n,by rw[hn];exact h⟩
  ·cases h
 |callW f l bs=>
  dsimp only at h ⊢
  split at h
  ·rename_i f' vs h1 h2
   cases e1:cfl T f' vs σ.h with
   |none=>rw[e1]at h;cases h
   |some p=>rw[e1]at h;obtain⟨n,hn⟩:=zlv.1 e1;exact⟨n,by rw[hn];exact h⟩
  ·cases h
theorem zrd:∀{is:List AI} {σ σ':St},zj7 (cfl T) is σ=some σ' -> ∃n,zj7 (zc8 T n) is σ=some σ'
 |[],σ,r,h=>⟨0,h⟩
 |⟨o,k,g,af⟩::l,σ,r,h=>by
  have st:∀σ:St,(match zg5 (cfl T) o k σ with
    |some σ'=>zj7 (cfl T) l σ'
    |none=>none)=some r->∃n,(match zg5 (zc8 T n) o k σ with
    |some σ'=>zj7 (zc8 T n) l σ'
    |none=>none)=some r:=by
   intro σ h
   split at h
   ·rename_i τ h1
    obtain⟨n,hn⟩:=z71 h1;obtain⟨m,hm⟩:=zrd h;refine⟨max n m,?_⟩;rw[zwz (zdz T n (max n m) (by omega)) o k σ _ hn]
    exact zmx (zdz T m (max n m) (by omega)) l τ _ hm
   ·cases h
  cases g with
  |none=>unfold zj7 at h ⊢;exact st _ h
  |some jw=>
   obtain⟨j,w⟩:=jw;have key:(match tg j σ.t.l with
     |.v (.bool b)=>if b=w then (match zg5 (cfl T) o k { σ with t:=σ.t.set j (.v (.bool w)) } with
      |some σ'=>zj7 (cfl T) l σ'
      |none=>none) else zj7 (cfl T) l ({ σ with t:=σ.t.set j (.v (.bool (!w))) }.put o .und)
     |.und=>zj7 (cfl T) l (σ.put o .und)
     |_=>none)=some r->∃n,(match tg j σ.t.l with
     |.v (.bool b)=>if b=w then (match zg5 (zc8 T n) o k { σ with t:=σ.t.set j (.v (.bool w)) } with
      |some σ'=>zj7 (zc8 T n) l σ'
      |none=>none) else zj7 (zc8 T n) l ({ σ with t:=σ.t.set j (.v (.bool (!w))) }.put o .und)
     |.und=>zj7 (zc8 T n) l (σ.put o .und)
     |_=>none)=some r:=by
    intro h
    split at h
    ·split at h
     ·rename_i e;simp only[if_pos e];exact st _ h
     ·rename_i e;simp only[if_neg e];exact zrd h
    ·exact zrd h
    ·cases h
   unfold zj7 at h ⊢;exact key h
theorem yhv(σ:St):evl T .skip σ=some (.normal,σ):=zcb.2 ⟨0,rfl⟩
theorem yhx(id:Nat)(σ:St):evl T (.exit id) σ=some (.exit id,σ):=zcb.2 ⟨0,rfl⟩
theorem evl_ret(σ:St):evl T .ret σ=some (.ret,σ):=zcb.2 ⟨0,rfl⟩
theorem evl_reg(is:List AI)(σ:St):evl T (.reg is) σ=zsf (cfl T) is σ :=
 zj4 fun r=>zcb.trans ⟨fun⟨n,h⟩=>zmw (z0g n) is σ _ h,zrc⟩
theorem yhy(is:List AI)(σ:St):evl T (.dreg is) σ=(zj7 (cfl T) is σ).map fun τ=>(.normal,τ) :=
 zj4 fun r=>zcb.trans ⟨fun⟨n,h⟩=>by
  unfold run at h
  cases he:zj7 (zc8 T n) is σ with
  |none=>rw[he]at h;cases h
  |some τ=>rw[he]at h;rw[zmx (z0g n) is σ _ he];exact h,fun h=>by
  cases he:zj7 (cfl T) is σ with
  |none=>rw[he]at h;cases h
  |some τ=>rw[he]at h;obtain⟨n,hn⟩:=zrd he;exact⟨n,by unfold run;rw[hn];exact h⟩⟩
theorem evl_seq(a b:FC)(σ:St):evl T (.seq a b) σ=bnd (evl T a σ) (thn (evl T b) one) :=
 zj4 fun r=>zcb.trans ⟨fun⟨n,h⟩=>by
  obtain⟨o,σ1,h1,h2⟩:=zcy h;rw[zcb.2 ⟨n,h1⟩]
  cases o with
  |normal=>exact zcb.2 ⟨n,h2⟩
  |exit id=>exact h2
  |ret=>exact h2
  |pan v=>exact h2,fun h=>by
  obtain⟨o,σ1,h1,h2⟩:=zcy h;obtain⟨n,hn⟩:=zcb.1 h1
  cases o with
  |normal=>
   obtain⟨m,hm⟩:=zcb.1 (show evl T b σ1=some r from h2)
   refine⟨max n m,?_⟩;unfold run;rw[show run (zc8 T (max n m)) (max n m) a σ=_ from zss a σ n (max n m) (by omega) _ hn]
   exact zss b σ1 m (max n m) (by omega) _ hm
  |exit id=>exact⟨n,by unfold run;rw[hn];exact h2⟩
  |ret=>exact⟨n,by unfold run;rw[hn];exact h2⟩
  |pan v=>exact⟨n,by unfold run;rw[hn];exact h2⟩⟩
theorem yhz(x:AX)(a b:FC)(σ:St):evl T (.cond x a b) σ=match σ.a x with
  |some (.bool p)=>if p=true then evl T a σ else evl T b σ
  |_=>none :=
 zj4 fun r=>zcb.trans (by
  unfold run
  cases hx:σ.a x with
  |none=>simp
  |some v=>
   cases v with
   |bool p=>
    dsimp only;by_cases e:p=true
    ·simp only[if_pos e];exact zcb.symm
    ·simp only[if_neg e];exact zcb.symm
   |_=>simp)
theorem ydv(id:Nat)(c:FC)(σ:St):evl T (.block id c) σ=(evl T c σ).map fun p=>(ublk id p.1,p.2) :=
 zj4 fun r=>zcb.trans ⟨fun⟨n,h⟩=>by
  unfold run at h
  cases he:run (zc8 T n) n c σ with
  |none=>rw[he]at h;cases h
  |some τ=>rw[he]at h;rw[zcb.2 ⟨n,he⟩];exact h,fun h=>by
  cases he:evl T c σ with
  |none=>rw[he]at h;cases h
  |some τ=>rw[he]at h;obtain⟨n,hn⟩:=zcb.1 he;exact⟨n,by unfold run;rw[hn];exact h⟩⟩
theorem yhw(kt kl:List Nat)(c:FC)(σ:St):evl T (.loop kt kl c) σ=bnd (evl T c (nrm kt kl σ)) (thn (evl T (.loop kt kl c)) one) :=
 zj4 fun r=>zcb.trans ⟨fun⟨n,h⟩=>by
  have h:itr (run (zc8 T n) n c) kt kl n σ=some r:=h
  cases n with
  |zero=>cases h
  |succ n=>
   obtain⟨o,σ1,h1,h2⟩:=zcy h;rw[zcb.2 ⟨n+1,h1⟩]
   cases o with
   |normal=>exact zcb.2 ⟨n+1,zub (zdz T 0 0 (Nat.le_refl _)) (fun _=>.refl _) kt kl n (n+1) (by omega) σ1 r h2⟩
   |exit id=>exact h2
   |ret=>exact h2
   |pan v=>exact h2,fun h=>by
  obtain⟨o,σ1,h1,h2⟩:=zcy h;obtain⟨n,hn⟩:=zcb.1 h1;have up:∀k,n<=k+1->run (zc8 T (k+1)) (k+1) c (nrm kt kl σ)=some (o,σ1):=fun k hk=>zss c _ n (k+1) hk _ hn
  cases o with
  |normal=>
   obtain⟨m,hm⟩:=zcb.1 (show evl T (.loop kt kl c) σ1=some r from h2)
   refine⟨max n m+1,?_⟩;show itr _ kt kl (max n m+1) σ=some r;unfold itr;rw[up _ (by omega)]
   have hm:itr (run (zc8 T m) m c) kt kl m σ1=some r:=hm;exact zub (zdz T 0 0 (Nat.le_refl _)) (fun τ=>zpp (zdz T m (max n m+1) (by omega)) (by omega) c τ) kt kl m (max n m) (by omega) σ1 r hm
  |exit id=>exact⟨n+1,by show itr _ kt kl (n+1) σ=some r;unfold itr;rw[up _ (by omega)];exact h2⟩
  |ret=>exact⟨n+1,by show itr _ kt kl (n+1) σ=some r;unfold itr;rw[up _ (by omega)];exact h2⟩
  |pan v=>exact⟨n+1,by show itr _ kt kl (n+1) σ=some r;unfold itr;rw[up _ (by omega)];exact h2⟩⟩
theorem evl_rf(f:AX)(ps kt:List Nat)(asg body:FC)(σ:St):evl T (.rf f ps kt asg body) σ=rfF (cfl T) f ps kt asg body σ :=
 zj4 fun r=>zcb.trans ⟨fun⟨n,h⟩=>z6k (z0g n) f ps kt asg body σ _ h,fun h=>by
  have key:∀{id:Nat} {ds:List Nat} {c:AV} {vs:List AV} {H:List AO},rfA σ id ds (cfl T c vs H)=some r->∃n,rfA σ id ds (zc8 T n c vs H)=some r:=by
   intro id ds c vs H e
   cases hx:cfl T c vs H with
   |none=>rw[hx]at e;cases e
   |some p=>
    obtain⟨n,hn⟩:=zlv.1 hx;exact⟨n,by rw[hn,<- hx];exact e⟩
  unfold rfF at h;have goal:∃n,rfF (zc8 T n) f ps kt asg body σ=some r:=by
   unfold rfF
   split at h
   ·split at h
    ·exact key h
    ·split at h
     ·exact key h
     ·cases h
   ·cases h
  exact goal⟩
section
variable {β : Type} {Q : Out → St → Option β} {σ : St}
noncomputable def aw(T:Tab)(c:FC)(Q:Out->St->Option β)(σ:St):Option β:=bnd (evl T c σ) Q
noncomputable def wr(T:Tab)(is:List AI)(Q:Out->St->Option β)(σ:St):Option β:=bnd (zsf (cfl T) is σ) Q
noncomputable def wd(T:Tab)(is:List AI)(K:St->Option β)(σ:St):Option β :=
 match zj7 (cfl T) is σ with
 |some τ=>K τ
 |none=>none
noncomputable def awL(T:Tab)(kt kl:List Nat)(c:FC)(Q:Out->St->Option β)(τ:St):Option β:=aw T c (thn (fun σ=>aw T (.loop kt kl c) Q σ) Q) τ
def zao(id:Nat)(Q:Out->St->Option β):Out->St->Option β
 |.exit i,σ=>if i=id then Q .normal σ else Q (.exit i) σ
 |o,σ=>Q o σ
theorem z0h(x:Option (Out×St))(K:St->Option (Out×St)):bnd (bnd x (thn K one)) Q=bnd x (thn (fun σ=>bnd (K σ) Q) Q):=by
 cases x with
 |none=>rfl
 |some p=>obtain⟨o,σ⟩:=p;cases o <;> rfl
@[go_sem] theorem bnd_some'(o:Out)(σ:St):bnd (some (o,σ)) Q=Q o σ:=rfl
@[go_sem] theorem bnd_none:bnd none Q=none:=rfl
@[go_sem] theorem thn_normal(K:St->Option β):thn K Q .normal σ=K σ:=rfl
@[go_sem] theorem thn_exit(K:St->Option β)(id:Nat):thn K Q (.exit id) σ=Q (.exit id) σ:=rfl
@[go_sem] theorem thn_ret(K:St->Option β):thn K Q .ret σ=Q .ret σ:=rfl
@[go_sem] theorem thn_pan(K:St->Option β)(v:AV):thn K Q (.pan v) σ=Q (.pan v) σ:=rfl
@[go_sem] theorem blkF_normal(id:Nat):zao id Q .normal σ=Q .normal σ:=rfl
@[go_sem] theorem blkF_ret(id:Nat):zao id Q .ret σ=Q .ret σ:=rfl
@[go_sem] theorem blkF_pan(id:Nat)(v:AV):zao id Q (.pan v) σ=Q (.pan v) σ:=rfl
@[go_sem] theorem blkF_exit(id i:Nat):zao id Q (.exit i) σ=if i=id then Q .normal σ else Q (.exit i) σ:=rfl
@[go_sem] theorem aw_skip:aw T .skip Q σ=Q .normal σ:=by unfold aw;rw[yhv];rfl
@[go_sem] theorem aw_exit(id:Nat):aw T (.exit id) Q σ=Q (.exit id) σ:=by unfold aw;rw[yhx];rfl
@[go_sem] theorem aw_ret:aw T .ret Q σ=Q .ret σ:=by unfold aw;rw[evl_ret];rfl
@[go_sem] theorem aw_reg(is:List AI):aw T (.reg is) Q σ=wr T is Q σ:=by unfold aw;rw[evl_reg];rfl
@[go_sem] theorem aw_dreg(is:List AI):aw T (.dreg is) Q σ=wd T is (Q .normal) σ:=by
 unfold aw wd;rw[yhy]
 cases zj7 (cfl T) is σ <;> rfl
@[go_sem] theorem aw_seq(a b:FC):aw T (.seq a b) Q σ=aw T a (thn (aw T b Q) Q) σ:=by
 unfold aw;rw[evl_seq,z0h]
noncomputable def cndB(T:Tab)(v:Option AV)(a b:FC)(Q:Out->St->Option β)(σ:St):Option β :=
 match v with
 |some (.bool p)=>if p=true then aw T a Q σ else aw T b Q σ
 |_=>none
@[go_sem] theorem cndB_bool(p:Bool)(a b:FC):cndB T (some (.bool p)) a b Q σ=if p=true then aw T a Q σ else aw T b Q σ:=rfl
@[go_sem] theorem aw_cond(x:AX)(a b:FC):aw T (.cond x a b) Q σ=cndB T (σ.a x) a b Q σ:=by
 unfold aw cndB;rw[yhz]
 split
 ·split <;> rfl
 ·rfl
@[go_sem] theorem aw_block(id:Nat)(c:FC):aw T (.block id c) Q σ=aw T c (zao id Q) σ:=by
 unfold aw;rw[ydv]
 cases evl T c σ with
 |none=>rfl
 |some p=>
  obtain⟨o,τ⟩:=p
  cases o with
  |exit i=>
   show bnd (some (ublk id (.exit i),τ)) Q=zao id Q (.exit i) τ;simp only[ublk,bnd,zao];by_cases e:i=id
   ·rw[if_pos e,if_pos e]
   ·rw[if_neg e,if_neg e]
  |normal=>rfl
  |ret=>rfl
  |pan v=>rfl
noncomputable def rfB(T:Tab)(v:Option AV)(ps kt:List Nat)(asg body:FC)(Q:Out->St->Option β)(σ:St)(a b:Bool):Option β :=
 match v with
 |some (.fn (.func k) first cap)=>match a with
  |true=>bnd (rfA σ σ.h.length σ.ds (cfl T (.fn (.func k) first cap) [.yd σ.h.length] (σ.h++[.slp .ready σ.t.n (kpV σ.t.l kt) ps asg body]))) Q
  |false=>match b with
   |true=>bnd (rfA σ (σ.h.length+1) (σ.h.length::σ.ds) (cfl T (.fn (.func k) first cap) [.yd (σ.h.length+1)] (σ.h++[.dfr,.slp .ready σ.t.n (kpV σ.t.l kt) ps asg body]))) Q
   |false=>none
 |_=>none
@[go_sem] theorem aw_rf(f:AX)(ps kt:List Nat)(asg body:FC):aw T (.rf f ps kt asg body) Q σ=rfB T (σ.a f) ps kt asg body Q σ (yfs σ.h σ.ds) (yft σ.h σ.ds):=by
 unfold aw rfB;rw[evl_rf];unfold rfF;generalize σ.a f=v;generalize yfs σ.h σ.ds=x;generalize yft σ.h σ.ds=y
 cases v with
 |none=>rfl
 |some v=>
  cases v with
  |fn f0 fi ca=>cases f0 <;> first|rfl|(cases x <;> cases y <;> rfl)
  |_=>rfl
@[go_sem] theorem rfB_out(k:FuncId)(first cap:List AV)(ps kt:List Nat)(asg body:FC):rfB T (some (.fn (.func k) first cap)) ps kt asg body Q σ false true=bnd (rfA σ (σ.h.length+1) (σ.h.length::σ.ds) (cfl T (.fn (.func k) first cap) [.yd (σ.h.length+1)] (σ.h++[.dfr,.slp .ready σ.t.n (kpV σ.t.l kt) ps asg body]))) Q:=rfl
@[go_sem] theorem rfB_in(k:FuncId)(first cap:List AV)(ps kt:List Nat)(asg body:FC)(b:Bool):rfB T (some (.fn (.func k) first cap)) ps kt asg body Q σ true b=bnd (rfA σ σ.h.length σ.ds (cfl T (.fn (.func k) first cap) [.yd σ.h.length] (σ.h++[.slp .ready σ.t.n (kpV σ.t.l kt) ps asg body]))) Q:=rfl
def rfE(σ:St)(id:Nat)(ds:List Nat)(h:List AO):Option AO->Option (Out×St)
 |some (.slp .ready _ _ _ _ _)=>some (.normal,{ σ with h:=h.set id .dead,ds:=ds })
 |some (.slp (.done j) _ _ _ _ _)=>some (j.out,{ σ with h:=h.set id .dead,ds:=ds })
 |_=>none
@[go_sem] theorem rfE_ready(id:Nat)(ds:List Nat)(h:List AO)(n:Nat)(t:List (Nat×AV))(ps:List Nat)(a b:FC):rfE σ id ds h (some (.slp .ready n t ps a b))=some (.normal,{ σ with h:=h.set id .dead,ds:=ds }):=rfl
@[go_sem] theorem rfE_done(id:Nat)(ds:List Nat)(h:List AO)(j:Jmp)(n:Nat)(t:List (Nat×AV))(ps:List Nat)(a b:FC):rfE σ id ds h (some (.slp (.done j) n t ps a b))=some (j.out,{ σ with h:=h.set id .dead,ds:=ds }):=rfl
@[go_sem] theorem rfA_ret(id:Nat)(ds:List Nat)(v:AV)(h:List AO):rfA σ id ds (some (.ret v,h))=rfE σ id ds h h[id]?:=by
 unfold rfA rfE;dsimp only
 split <;> simp_all
@[go_sem] theorem rfA_pan(id:Nat)(ds:List Nat)(v:AV)(h:List AO):rfA σ id ds (some (.pan v,h))=some (.pan v,{ σ with h:=h,ds:=ds }):=rfl
theorem yem(kt kl:List Nat)(c:FC):aw T (.loop kt kl c) Q σ=awL T kt kl c Q (nrm kt kl σ):=by
 unfold awL;show bnd (evl T (.loop kt kl c) σ) Q=bnd (evl T c (nrm kt kl σ)) (thn (fun σ=>bnd (evl T (.loop kt kl c) σ) Q) Q)
 rw[yhw,z0h]
noncomputable def zc9(T:Tab)(kt kl:List Nat)(c:FC)(Q:Out->St->Option β)(σ:St):Option β:=awL T kt kl c Q (nrm kt kl σ)
@[go_sem] theorem again_eq(kt kl:List Nat)(c:FC):zc9 T kt kl c Q σ=awL T kt kl c Q (nrm kt kl σ):=rfl
theorem zab(kt kl:List Nat)(c:FC)(τ:St):awL T kt kl c Q τ=aw T c (thn (zc9 T kt kl c Q) Q) τ:=by
 have:(fun σ=>aw T (.loop kt kl c) Q σ)=fun σ=>awL T kt kl c Q (nrm kt kl σ):=funext fun σ=>yem kt kl c
 show aw T c (thn (fun σ=>aw T (.loop kt kl c) Q σ) Q) τ=_
 rw[this];rfl
@[go_sem] theorem wr_nil:wr T [] Q σ=Q .normal σ:=rfl
def evB(x:Option (TV×St))(k:TV->St->Option β):Option β :=
 match x with
 |some (x,σ)=>k x σ
 |none=>none
@[go_sem] theorem evB_some(x:TV)(k:TV->St->Option β):evB (some (x,σ)) k=k x σ:=rfl
@[go_sem] theorem evB_none(k:TV->St->Option β):evB none k=none:=rfl
noncomputable def kO(T:Tab)(d:Nat)(r:List AI)(Q:Out->St->Option β)(x:TV)(σ:St):Option β:=wr T r Q { σ with t:=σ.t.set d x }
@[go_sem] theorem kO_eq(d:Nat)(r:List AI)(x:TV):kO T d r Q x σ=wr T r Q { σ with t:=σ.t.set d x }:=rfl
noncomputable def kD(T:Tab)(d:Nat)(r:List AI)(K:St->Option β)(x:TV)(σ:St):Option β:=wd T r K { σ with t:=σ.t.set d x }
@[go_sem] theorem kD_eq(d:Nat)(r:List AI)(K:St->Option β)(x:TV):kD T d r K x σ=wd T r K { σ with t:=σ.t.set d x }:=rfl
@[go_sem] theorem yjb(d:Option Nat)(k:AK)(af:List Nat)(r:List AI):wr T (⟨d,k,none,af⟩::r) Q σ=bnd (zio (cfl T) ⟨d,k,none,af⟩ σ) (thn (wr T r Q) Q):=by
 show bnd (bnd _ (thn (zsf (cfl T) r) one)) Q=_;rw[z0h];rfl
noncomputable def grA(T:Tab)(g:TV)(d:Option Nat)(k:AK)(j:Nat)(w:Bool)(af:List Nat)(r:List AI)(Q:Out->St->Option β)(σ:St):Option β :=
 match g with
 |.v (.bool b)=>if b=w then bnd (zio (cfl T) ⟨d,k,none,af⟩ { σ with t:=σ.t.set j (.v (.bool w)) }) (thn (wr T r Q) Q) else wr T r Q ({ σ with t:=σ.t.set j (.v (.bool (!w))) }.put d .und)
 |.und=>wr T r Q (σ.put d .und)
 |_=>none
@[go_sem] theorem grA_bool(b:Bool)(d:Option Nat)(k:AK)(j:Nat)(w:Bool)(af:List Nat)(r:List AI):grA T (.v (.bool b)) d k j w af r Q σ=if b=w then bnd (zio (cfl T) ⟨d,k,none,af⟩ { σ with t:=σ.t.set j (.v (.bool w)) }) (thn (wr T r Q) Q) else wr T r Q ({ σ with t:=σ.t.set j (.v (.bool (!w))) }.put d .und):=rfl
@[go_sem] theorem grA_und(d:Option Nat)(k:AK)(j:Nat)(w:Bool)(af:List Nat)(r:List AI):grA T .und d k j w af r Q σ=wr T r Q (σ.put d .und):=rfl
@[go_sem] theorem wr_anyg(d:Option Nat)(k:AK)(j:Nat)(w:Bool)(af:List Nat)(r:List AI):wr T (⟨d,k,some (j,w),af⟩::r) Q σ=grA T (tg j σ.t.l) d k j w af r Q σ:=by
 have:zsf (cfl T) (⟨d,k,some (j,w),af⟩::r) σ=match tg j σ.t.l with
  |.v (.bool b)=>if b=w then bnd (zio (cfl T) ⟨d,k,none,af⟩ { σ with t:=σ.t.set j (.v (.bool w)) }) (thn (zsf (cfl T) r) one) else zsf (cfl T) r ({ σ with t:=σ.t.set j (.v (.bool (!w))) }.put d .und)
  |.und=>zsf (cfl T) r (σ.put d .und)
  |_=>none:=by
  rw[zsf];rfl
 unfold wr;rw[this];unfold grA
 split
 ·split
  ·rw[z0h];rfl
  ·rfl
 ·rfl
 ·rfl
@[go_sem] theorem wr_O(d:Nat)(o:AOp)(r:List AI):wr T (O d o::r) Q σ=evB (evo d o σ) (kO T d r Q):=by
 unfold O;rw[yjb];unfold zio;dsimp only[Option.getD_some]
 cases evo d o σ with
 |none=>rfl
 |some p=>rfl
noncomputable def grO(T:Tab)(g:TV)(d j:Nat)(w:Bool)(o:AOp)(r:List AI)(Q:Out->St->Option β)(σ:St):Option β :=
 match g with
 |.v (.bool b)=>if b=w then evB (evo d o { σ with t:=σ.t.set j (.v (.bool w)) }) (kO T d r Q) else wr T r Q { σ with t:=(σ.t.set j (.v (.bool (!w)))).set d .und }
 |.und=>wr T r Q { σ with t:=σ.t.set d .und }
 |_=>none
@[go_sem] theorem grO_bool(b:Bool)(d j:Nat)(w:Bool)(o:AOp)(r:List AI):grO T (.v (.bool b)) d j w o r Q σ=if b=w then evB (evo d o { σ with t:=σ.t.set j (.v (.bool w)) }) (kO T d r Q) else wr T r Q { σ with t:=(σ.t.set j (.v (.bool (!w)))).set d .und }:=rfl
@[go_sem] theorem grO_und(d j:Nat)(w:Bool)(o:AOp)(r:List AI):grO T .und d j w o r Q σ=wr T r Q { σ with t:=σ.t.set d .und }:=rfl
@[go_sem] theorem wr_Og(d j:Nat)(w:Bool)(o:AOp)(r:List AI):wr T (Og d j w o::r) Q σ=grO T (tg j σ.t.l) d j w o r Q σ:=by
 unfold Og;rw[wr_anyg];unfold grA grO
 split
 ·split
  ·unfold zio
   dsimp only[Option.getD_some]
   cases evo d o { σ with t:=σ.t.set j (.v (.bool w)) } with
   |none=>rfl
   |some p=>rfl
  ·rfl
 ·rfl
 ·rfl
noncomputable def yh8(T:Tab)(d:Option Nat)(f:Option AV)(l:Option (List AV))(σ:St):Option (Out×St) :=
 match f,l with
 |some c,some vs=>z95 d σ (cfl T c vs σ.h)
 |_,_=>none
@[go_sem] theorem callB_some(d:Option Nat)(c:AV)(vs:List AV):yh8 T d (some c) (some vs) σ=z95 d σ (cfl T c vs σ.h):=rfl
@[go_sem] theorem wr_C(d:Nat)(f:AX)(l:List AX)(r:List AI):wr T (C d f l::r) Q σ=bnd (yh8 T (some d) (σ.a f) (σ.as l) σ) (thn (wr T r Q) Q):=by
 unfold C;rw[yjb];rfl
@[go_sem] theorem step_o(d:Option Nat)(o:AOp)(g:Option (Nat×Bool))(af:List Nat)(cf:zmp):zio cf ⟨d,.o o,g,af⟩ σ=match evo (d.getD 0) o σ with
  |some (x,σ')=>some (.normal,σ'.put d x)
  |none=>none:=rfl
@[go_sem] theorem step_fo(d:Option Nat)(o:AOp)(g:Option (Nat×Bool))(af:List Nat)(cf:zmp):zio cf ⟨d,.fo o,g,af⟩ σ=match evo (d.getD 0) o σ with
  |some (.v a,σ')=>match zxm 0 a σ'.h with
   |(a',h')=>some (.normal,{ σ' with h:=h' }.put d (.v a'))
  |_=>none:=rfl
@[go_sem] theorem step_c(d:Option Nat)(f:AX)(l:List AX)(g:Option (Nat×Bool))(af:List Nat):zio (cfl T) ⟨d,.call f l,g,af⟩ σ=yh8 T d (σ.a f) (σ.as l) σ:=rfl
@[go_sem] theorem step_w(d:Option Nat)(f:AX)(l bs:List AX)(g:Option (Nat×Bool))(af:List Nat):zio (cfl T) ⟨d,.callW f l bs,g,af⟩ σ=yh8 T d (σ.a f) (σ.as l) σ:=rfl
@[go_sem] theorem step_n(d:Option Nat)(x:AX)(g:Option (Nat×Bool))(af:List Nat)(cf:zmp):zio cf ⟨d,.isn x,g,af⟩ σ=match σ.a x with
  |some a=>match elems σ a with
   |some (_::_)=>some (.normal,σ.put d (.v (.bool false)))
   |_=>none
  |none=>none:=rfl
@[go_sem] theorem step_p(d:Option Nat)(x:AX)(g:Option (Nat×Bool))(af:List Nat)(cf:zmp):zio cf ⟨d,.pan x,g,af⟩ σ=match σ.a x with
  |some (.iface t v)=>some (.pan (.iface t v),σ)
  |_=>none:=rfl
@[go_sem] theorem ansF_ret(d:Option Nat)(v:AV)(h:List AO):z95 d σ (some (.ret v,h))=some (.normal,{ σ with h:=h }.put d (.v v)):=rfl
@[go_sem] theorem ansF_pan(d:Option Nat)(v:AV)(h:List AO):z95 d σ (some (.pan v,h))=some (.pan v,{ σ with h:=h }):=rfl
open Classical in
@[go_sem] theorem ansD_ret(d:Option Nat)(v:AV)(h:List AO):ansD d σ (some (.ret v,h))=if h=σ.h then some (σ.put d (.v v)) else none:=rfl
open Classical in
@[go_sem] theorem ansW_ret(d:Option Nat)(v:AV)(h:List AO)(bs:List TV):ansW d σ bs (some (.ret v,h))=if kept σ.h h bs then some ({ σ with h:=h }.put d (.v v)) else none:=rfl
attribute [go_sem] kept
@[go_sem] theorem ansF_none(d:Option Nat):z95 d σ none=none:=rfl
variable (K : St → Option β) (r : List AI) (od : Option Nat) (d : Nat) (op : AOp) (f : AX) (l : List AX) (j : Nat) (w : Bool) (af : List Nat) (k : AK)
noncomputable def wdB(T:Tab)(x:Option St)(r:List AI)(K:St->Option β):Option β :=
 match x with
 |some σ=>wd T r K σ
 |none=>none
@[go_sem] theorem wdB_some:wdB T (some σ) r K=wd T r K σ:=rfl
@[go_sem] theorem wd_nil:wd T [] K σ=K σ:=rfl
@[go_sem] theorem yjc:wd T (⟨od,k,none,af⟩::r) K σ=wdB T (zg5 (cfl T) od k σ) r K:=by
 unfold wd;have:zj7 (cfl T) (⟨od,k,none,af⟩::r) σ=match zg5 (cfl T) od k σ with
  |some σ'=>zj7 (cfl T) r σ'
  |none=>none:=by rw[zj7];rfl
 rw[this]
 cases zg5 (cfl T) od k σ <;> rfl
@[go_sem] theorem wd_O:wd T (O d op::r) K σ=evB (evo d op σ) (kD T d r K):=by
 unfold O;rw[yjc];unfold zg5;dsimp only[Option.getD_some]
 cases evo d op σ <;> rfl
@[go_sem] theorem wd_C:wd T (C d f l::r) K σ=wdB T (zg5 (cfl T) (some d) (.call f l) σ) r K:=by
 unfold C;rw[yjc]
noncomputable def grD(T:Tab)(g:TV)(od:Option Nat)(k:AK)(j:Nat)(w:Bool)(r:List AI)(K:St->Option β)(σ:St):Option β :=
 match g with
 |.v (.bool b)=>if b=w then wdB T (zg5 (cfl T) od k { σ with t:=σ.t.set j (.v (.bool w)) }) r K else wd T r K ({ σ with t:=σ.t.set j (.v (.bool (!w))) }.put od .und)
 |.und=>wd T r K (σ.put od .und)
 |_=>none
@[go_sem] theorem grD_bool(b:Bool):grD T (.v (.bool b)) od k j w r K σ=if b=w then wdB T (zg5 (cfl T) od k { σ with t:=σ.t.set j (.v (.bool w)) }) r K else wd T r K ({ σ with t:=σ.t.set j (.v (.bool (!w))) }.put od .und):=rfl
@[go_sem] theorem grD_und:grD T .und od k j w r K σ=wd T r K (σ.put od .und):=rfl
theorem zx7:wd T (⟨od,k,some (j,w),af⟩::r) K σ=grD T (tg j σ.t.l) od k j w r K σ:=by
 unfold wd;have:zj7 (cfl T) (⟨od,k,some (j,w),af⟩::r) σ=match tg j σ.t.l with
  |.v (.bool b)=>if b=w then (match zg5 (cfl T) od k { σ with t:=σ.t.set j (.v (.bool w)) } with
   |some σ'=>zj7 (cfl T) r σ'
   |none=>none) else zj7 (cfl T) r ({ σ with t:=σ.t.set j (.v (.bool (!w))) }.put od .und)
  |.und=>zj7 (cfl T) r (σ.put od .und)
  |_=>none:=by
  rw[zj7];rfl
 rw[this];unfold grD;generalize tg j σ.t.l=y
 cases y with
 |v a=>
  cases a with
  |bool b=>
   by_cases e:b=w
   ·simp only[if_pos e];cases zg5 (cfl T) od k { σ with t:=σ.t.set j (.v (.bool w)) } <;> rfl
   ·simp only[if_neg e];rfl
  |_=>rfl
 |_=>rfl
@[go_sem] theorem wd_og:wd T (⟨od,.o op,some (j,w),af⟩::r) K σ=grD T (tg j σ.t.l) od (.o op) j w r K σ:=zx7 K r od j w af _
@[go_sem] theorem wd_cg:wd T (⟨od,.call f l,some (j,w),af⟩::r) K σ=grD T (tg j σ.t.l) od (.call f l) j w r K σ:=zx7 K r od j w af _
@[go_sem] theorem wd_wg(bs:List AX):wd T (⟨od,.callW f l bs,some (j,w),af⟩::r) K σ=grD T (tg j σ.t.l) od (.callW f l bs) j w r K σ:=zx7 K r od j w af _
noncomputable def callD(T:Tab)(d:Option Nat)(f:Option AV)(l:Option (List AV))(σ:St):Option St :=
 match f,l with
 |some c,some vs=>ansD d σ (cfl T c vs σ.h)
 |_,_=>none
@[go_sem] theorem callD_some(d:Option Nat)(c:AV)(vs:List AV):callD T d (some c) (some vs) σ=ansD d σ (cfl T c vs σ.h):=rfl
noncomputable def callW(T:Tab)(d:Option Nat)(f:Option AV)(l:Option (List AV))(bs:List TV)(σ:St):Option St :=
 match f,l with
 |some c,some vs=>ansW d σ bs (cfl T c vs σ.h)
 |_,_=>none
@[go_sem] theorem callW_some(d:Option Nat)(c:AV)(vs:List AV)(bs:List TV):callW T d (some c) (some vs) bs σ=ansW d σ bs (cfl T c vs σ.h):=rfl
@[go_sem] theorem stepD_o(cf:zmp):zg5 cf od (.o op) σ=match evo (od.getD 0) op σ with
  |some (x,σ')=>some (σ'.put od x)
  |none=>none:=rfl
@[go_sem] theorem stepD_c:zg5 (cfl T) od (.call f l) σ=callD T od (σ.a f) (σ.as l) σ:=rfl
@[go_sem] theorem stepD_w(bs:List AX):zg5 (cfl T) od (.callW f l bs) σ=callW T od (σ.a f) (σ.as l) (bs.map σ.x) σ:=rfl
end
end Go.Ab
end
