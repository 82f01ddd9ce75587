/- What the law ConvSelf of layer 17 comes to, part 8. Conditions: none. -/
import Derived.Test.YthebfdakjfnpeaaGreatZeag
section
set_option linter.unusedVariables false
set_option linter.unusedSimpArgs false
namespace Go.Ab
open Go.RowKit
def LeO{α:Type}(x y:Option α):Prop:=∀r,x=some r->y=some r
theorem LeO.refl{α:Type}(x:Option α):LeO x x:=fun _ h=>h
theorem LeO.trans{α:Type}{x y z:Option α}(h:LeO x y)(k:LeO y z):LeO x z:=fun r e=>k r (h r e)
theorem LeO.bnd{β:Type}{x y:Option (Out×St)}{Q Q':Out->St->Option β}(h:LeO x y)(k:∀o σ,LeO (Q o σ) (Q' o σ)):LeO (bnd x Q) (bnd y Q'):=by
 intro r e;obtain⟨o,σ,h1,h2⟩:=zdb e;rw[h _ h1];exact k o σ r h2
theorem LeO.thn{β:Type}{K K':St->Option β}{Q Q':Out->St->Option β}(h:∀σ,LeO (K σ) (K' σ))(k:∀o σ,LeO (Q o σ) (Q' o σ))(o:Out)(σ:St):LeO (thn K Q o σ) (thn K' Q' o σ):=by
 cases o <;> first|exact h σ|exact k _ σ
def CLe(c d:zl3):Prop:=∀f vs H,LeO (c f vs H) (d f vs H)
set_option linter.unusedSectionVars false
section
variable {c d : zl3} (h : CLe c d)
include h
theorem zwl(i:AI)(σ:St):LeO (zh8 c i σ) (zh8 d i σ):=by
 obtain⟨dd,ak,g,af⟩:=i;have call:∀(f:AX) (l:List AX),LeO (match σ.a f,σ.as l with
   |some f,some vs=>z9l dd σ (c f vs σ.h)
   |_,_=>none) (match σ.a f,σ.as l with
   |some f,some vs=>z9l dd σ (d f vs σ.h)
   |_,_=>none):=by
  intro f l r e
  split at e
  ·rename_i f' vs h1 h2
   cases hx:c f' vs σ.h with
   |none=>rw[hx]at e;cases e
   |some p=>rw[hx]at e;rw[h _ _ _ _ hx];exact e
  ·cases e
 unfold zh8
 cases ak with
 |call f l=>exact call f l
 |callW f l bs=>exact call f l
 |pan x=>exact .refl _
 |isn x=>exact .refl _
 |o op=>exact .refl _
 |fo op=>exact .refl _
theorem zma:∀(is:List AI) (σ:St),LeO (zrs c is σ) (zrs d is σ)
 |[],σ=>.refl _
 |i::r,σ=>by
  have st:∀τ,LeO (bnd (zh8 c i τ) (thn (zrs c r) one)) (bnd (zh8 d i τ) (thn (zrs d r) one)):=fun τ=>
   (zwl h i τ).bnd (LeO.thn (zma r) fun _ _=>.refl _)
  unfold zrs
  split
  ·exact st σ
  ·split
   ·split
    ·exact st _
    ·exact zma r _
   ·exact zma r _
   ·exact .refl _
theorem zwm(o:Option Nat)(k:AK)(σ:St):LeO (zgp c o k σ) (zgp d o k σ):=by
 intro r e;unfold zgp at e ⊢
 cases k with
 |o op=>exact e
 |pan x=>exact e
 |isn x=>exact e
 |fo x=>exact e
 |call f l=>
  dsimp only at e ⊢
  split at e
  ·rename_i f' vs h1 h2
   cases e1:c f' vs σ.h with
   |none=>rw[e1]at e;cases e
   |some p=>rw[e1]at e;rw[h _ _ _ _ e1];exact e
  ·cases e
 |callW f l bs=>
  dsimp only at e ⊢
  split at e
  ·rename_i f' vs h1 h2
   cases e1:c f' vs σ.h with
   |none=>rw[e1]at e;cases e
   |some p=>rw[e1]at e;rw[h _ _ _ _ e1];exact e
  ·cases e
theorem zmb:∀(is:List AI) (σ:St),LeO (zjq c is σ) (zjq d is σ)
 |[],σ=>.refl _
 |⟨o,k,g,af⟩::r,σ=>by
  have st:∀σ:St,LeO (match zgp c o k σ with
    |some σ'=>zjq c r σ'
    |none=>none) (match zgp d o k σ with
    |some σ'=>zjq d r σ'
    |none=>none):=by
   intro σ q e
   split at e
   ·rename_i τ h1;rw[zwm h o k σ _ h1];exact zmb r _ _ e
   ·cases e
  cases g with
  |none=>unfold zjq;exact st _
  |some jw=>
   obtain⟨j,w⟩:=jw;have key:LeO (match tg j σ.t.l with
     |.v (.bool b)=>if b=w then (match zgp c o k { σ with t:=σ.t.set j (.v (.bool w)) } with
      |some σ'=>zjq c r σ'
      |none=>none) else zjq c r ({ σ with t:=σ.t.set j (.v (.bool (!w))) }.put o .und)
     |.und=>zjq c r (σ.put o .und)
     |_=>none) (match tg j σ.t.l with
     |.v (.bool b)=>if b=w then (match zgp d o k { σ with t:=σ.t.set j (.v (.bool w)) } with
      |some σ'=>zjq d r σ'
      |none=>none) else zjq d r ({ σ with t:=σ.t.set j (.v (.bool (!w))) }.put o .und)
     |.und=>zjq d r (σ.put o .und)
     |_=>none):=by
    split
    ·split
     ·exact st _
     ·exact zmb r _
    ·exact zmb r _
    ·exact .refl _
   unfold zjq;exact key
theorem ztv{f g:St->Option (Out×St)}(hf:∀σ,LeO (f σ) (g σ))(kt kl:List Nat):∀(n m:Nat),n<=m->∀σ,LeO (itr f kt kl n σ) (itr g kt kl m σ)
 |0,m,hm,σ=>fun r e=>by cases e
 |n+1,m,hm,σ=>by
  obtain⟨m,rfl⟩:∃k,m=k+1:=⟨m - 1,by omega⟩
  unfold itr;exact (hf _).bnd (LeO.thn (ztv hf kt kl n m (by omega)) fun _ _=>.refl _)
omit h in
theorem z5t{σ:St}{id:Nat}{ds:List Nat}{x y:Option RH}(k:LeO x y):LeO (rfA σ id ds x) (rfA σ id ds y):=by
 intro r e
 cases x with
 |none=>cases e
 |some p=>rw[k _ rfl];exact e
theorem z5s(f:AX)(ps kt:List Nat)(asg body:FC)(σ:St):LeO (rfF c f ps kt asg body σ) (rfF d f ps kt asg body σ):=by
 unfold rfF
 split
 ·split
  ·exact z5t (h _ _ _)
  ·split
   ·exact z5t (h _ _ _)
   ·exact .refl _
 ·exact .refl _
theorem zo3{n m:Nat}(hn:n<=m):∀(x:FC) (σ:St),LeO (run c n x σ) (run d m x σ):=by
 intro x
 induction x with
 |skip=>intro σ;exact .refl _
 |reg is=>intro σ;exact zma h is σ
 |dreg is=>
  intro σ r e;unfold run at e ⊢
  cases he:zjq c is σ with
  |none=>rw[he]at e;cases e
  |some τ=>rw[he]at e;rw[zmb h is σ _ he];exact e
 |seq a b iha ihb=>intro σ;exact (iha σ).bnd (LeO.thn ihb fun _ _=>.refl _)
 |cond y a b iha ihb=>
  intro σ;unfold run
  split
  ·split
   ·exact iha σ
   ·exact ihb σ
  ·exact .refl _
 |block id x ih=>
  intro σ r e;unfold run at e ⊢
  cases he:run c n x σ with
  |none=>rw[he]at e;cases e
  |some p=>rw[he]at e;rw[ih σ _ he];exact e
 |loop kt kl x ih=>intro σ;exact ztv h ih kt kl n m hn σ
 |rf f ps kt asg body=>intro σ;exact z5s h f ps kt asg body σ
 |exit id=>intro σ;exact .refl _
 |ret=>intro σ;exact .refl _
end
theorem z8r{c d:zl3}(h:CLe c d){n m:Nat}(hn:n<=m)(id:Nat)(vs:List AV)(H:List AO):LeO (z42 c n id vs H) (z42 d m id vs H):=by
 unfold z42
 split
 ·split
  ·refine LeO.bnd (zo3 h hn _ _) fun o σ=>?_
   split
   ·split
    ·exact LeO.bnd (zo3 h hn _ _) fun _ _=>.refl _
    ·exact .refl _
   ·exact .refl _
  ·exact .refl _
 ·exact .refl _
theorem zed(T:Tab):∀(n m:Nat),n<=m->CLe (zdj T n) (zdj T m)
 |0,m,hm=>fun f vs H r e=>by cases e
 |n+1,m,hm=>fun f vs H=>by
  obtain⟨m,rfl⟩:∃k,m=k+1:=⟨m - 1,by omega⟩
  unfold zdj
  split
  ·unfold z43
   split
   ·split
    ·exact LeO.bnd (zo3 (zed T n m (by omega)) (by omega) _ _) fun _ _=>.refl _
    ·exact .refl _
   ·exact .refl _
   ·exact .refl _
   ·exact .refl _
   ·exact .refl _
  ·exact z8r (zed T n m (by omega)) (by omega) _ _ _
  ·unfold z44
   split
   ·split
    ·exact LeO.bnd (zo3 (zed T n m (by omega)) (by omega) _ _) fun _ _=>.refl _
    ·exact .refl _
   ·exact .refl _
   ·exact .refl _
  ·exact .refl _
open Classical in
noncomputable def lim{α:Type}(s:Nat->Option α):Option α:=if h:∃n,(s n).isSome=true then s (Classical.choose h) else none
def Inc{α:Type}(s:Nat->Option α):Prop:=∀n m,n<=m->LeO (s n) (s m)
theorem ya5{α:Type}{s:Nat->Option α}(hs:Inc s){r:α}:lim s=some r ↔ ∃n,s n=some r:=by
 constructor
 ·intro h
  unfold lim at h
  split at h
  ·exact⟨_,h⟩
  ·cases h
 ·rintro ⟨n,h⟩
  have hx:∃n,(s n).isSome=true:=⟨n,by rw[h];rfl⟩
  unfold lim;rw[dif_pos hx];have h2:=Classical.choose_spec hx;obtain⟨q,hq⟩:=Option.isSome_iff_exists.1 h2;rcases Nat.le_total n (Classical.choose hx) with k|k
  ·exact hs _ _ k _ h
  ·have:=hs _ _ k _ hq
   rw[h]at this;cases this;exact hq
theorem zjl{α:Type}{x y:Option α}(h:∀r,x=some r ↔ y=some r):x=y:=by
 cases x with
 |none=>cases y with
  |none=>rfl
  |some b=>exact absurd ((h b).2 rfl) (by simp)
 |some a=>exact ((h a).1 rfl).symm
noncomputable def cfl(T:Tab):zl3:=fun f vs H=>lim fun n=>zdj T n f vs H
noncomputable def fnF(T:Tab)(k:FuncId)(vs:List AV)(H:List AO):Option RH:=cfl T (.fn (.func k) [] []) vs H
noncomputable def fkF(T:Tab)(k:FuncId)(vs:List AV)(H:List AO):Option RH:=cfl T (.fk k) vs H
noncomputable def evl(T:Tab)(c:FC)(σ:St):Option (Out×St):=lim fun n=>run (zdj T n) n c σ
variable {T : Tab}
theorem ygk(f:AV)(vs:List AV)(H:List AO):Inc fun n=>zdj T n f vs H:=fun n m h=>zed T n m h f vs H
theorem zr8(c:FC)(σ:St):Inc fun n=>run (zdj T n) n c σ:=fun n m h=>zo3 (zed T n m h) h c σ
theorem zk8{f:AV}{vs:List AV}{H:List AO}{r:RH}:cfl T f vs H=some r ↔ ∃n,zdj T n f vs H=some r:=ya5 (ygk f vs H)
theorem zcl{c:FC}{σ:St}{r:Out×St}:evl T c σ=some r ↔ ∃n,run (zdj T n) n c σ=some r:=ya5 (zr8 c σ)
theorem zzx(n:Nat):CLe (zdj T n) (cfl T):=fun f vs H r e=>zk8.2 ⟨n,e⟩
theorem z7e{i:AI}{σ:St}{r:Out×St}(h:zh8 (cfl T) i σ=some r):∃n,zh8 (zdj T n) i σ=some r:=by
 obtain⟨dd,ak,g,af⟩:=i;have call:∀(f:AX) (l:List AX),(match σ.a f,σ.as l with
   |some f,some vs=>z9l dd σ (cfl T f vs σ.h)
   |_,_=>none)=some r->∃n,(match σ.a f,σ.as l with
   |some f,some vs=>z9l dd σ (zdj T n f vs σ.h)
   |_,_=>none)=some r:=by
  intro f l e
  split at e
  ·rename_i f' vs h1 h2
   cases hx:cfl T f' vs σ.h with
   |none=>rw[hx]at e;cases e
   |some p=>
    obtain⟨n,hn⟩:=zk8.1 hx;exact⟨n,by rw[hn,<- hx];exact e⟩
  ·cases e
 unfold zh8 at h ⊢
 cases ak with
 |call f l=>exact call f l h
 |callW f l bs=>exact call f l h
 |pan x=>exact⟨0,h⟩
 |isn x=>exact⟨0,h⟩
 |o op=>exact⟨0,h⟩
 |fo op=>exact⟨0,h⟩
theorem zqt:∀{is:List AI} {σ:St} {r:Out×St},zrs (cfl T) is σ=some r->∃n,zrs (zdj T n) is σ=some r
 |[],σ,r,h=>⟨0,h⟩
 |i::l,σ,r,h=>by
  have st:∀τ,bnd (zh8 (cfl T) i τ) (thn (zrs (cfl T) l) one)=some r->∃n,bnd (zh8 (zdj T n) i τ) (thn (zrs (zdj T n) l) one)=some r:=by
   intro τ h;obtain⟨o1,σ1,h1,h2⟩:=zdb h;obtain⟨n,hn⟩:=z7e h1
   cases o1 with
   |normal=>
    obtain⟨m,hm⟩:=zqt (show zrs (cfl T) l σ1=some r from h2)
    refine⟨max n m,?_⟩;rw[zwl (zed T n (max n m) (by omega)) i τ _ hn]
    exact zma (zed T m (max n m) (by omega)) l σ1 _ hm
   |exit id=>exact⟨n,by rw[hn];exact h2⟩
   |ret=>exact⟨n,by rw[hn];exact h2⟩
   |pan v=>exact⟨n,by rw[hn];exact h2⟩
  unfold zrs at h ⊢
  split at h
  ·exact st _ h
  ·split at h
   ·split at h
    ·rename_i e;simp only[if_pos e];exact st _ h
    ·rename_i e;simp only[if_neg e];exact zqt h
   ·exact zqt h
   ·cases h
theorem z7f{o:Option Nat}{k:AK}{σ σ':St}(h:zgp (cfl T) o k σ=some σ'):∃n,zgp (zdj T n) o k σ=some σ':=by
 unfold zgp at h ⊢
 cases k with
 |o op=>exact⟨0,h⟩
 |pan x=>exact⟨0,h⟩
 |isn x=>exact⟨0,h⟩
 |fo x=>exact⟨0,h⟩
 |call f l=>
  dsimp only at h ⊢
  split at h
  ·rename_i f' vs h1 h2
   cases e1:cfl T f' vs σ.h with
   |none=>rw[e1]at h;cases h
   |some p=>rw[e1]at h;obtain⟨n,hn⟩:=zk8.1 e1;exact⟨n,by rw[hn];exact h⟩
  ·cases h
 |callW f l bs=>
  dsimp only at h ⊢
  split at h
  ·rename_i f' vs h1 h2
   cases e1:cfl T f' vs σ.h with
   |none=>rw[e1]at h;cases h
   |some p=>rw[e1]at h;obtain⟨n,hn⟩:=zk8.1 e1;exact⟨n,by rw[hn];exact h⟩
  ·cases h
theorem zqu:∀{is:List AI} {σ σ':St},zjq (cfl T) is σ=some σ' -> ∃n,zjq (zdj T n) is σ=some σ'
 |[],σ,r,h=>⟨0,h⟩
 |⟨o,k,g,af⟩::l,σ,r,h=>by
  have st:∀σ:St,(match zgp (cfl T) o k σ with
    |some σ'=>zjq (cfl T) l σ'
    |none=>none)=some r->∃n,(match zgp (zdj T n) o k σ with
    |some σ'=>zjq (zdj T n) l σ'
    |none=>none)=some r:=by
   intro σ h
   split at h
   ·rename_i τ h1
    obtain⟨n,hn⟩:=z7f h1;obtain⟨m,hm⟩:=zqu h;refine⟨max n m,?_⟩;rw[zwm (zed T n (max n m) (by omega)) o k σ _ hn]
    exact zmb (zed T m (max n m) (by omega)) l τ _ hm
   ·cases h
  cases g with
  |none=>unfold zjq at h ⊢;exact st _ h
  |some jw=>
   obtain⟨j,w⟩:=jw;have key:(match tg j σ.t.l with
     |.v (.bool b)=>if b=w then (match zgp (cfl T) o k { σ with t:=σ.t.set j (.v (.bool w)) } with
      |some σ'=>zjq (cfl T) l σ'
      |none=>none) else zjq (cfl T) l ({ σ with t:=σ.t.set j (.v (.bool (!w))) }.put o .und)
     |.und=>zjq (cfl T) l (σ.put o .und)
     |_=>none)=some r->∃n,(match tg j σ.t.l with
     |.v (.bool b)=>if b=w then (match zgp (zdj T n) o k { σ with t:=σ.t.set j (.v (.bool w)) } with
      |some σ'=>zjq (zdj T n) l σ'
      |none=>none) else zjq (zdj T n) l ({ σ with t:=σ.t.set j (.v (.bool (!w))) }.put o .und)
     |.und=>zjq (zdj T n) l (σ.put o .und)
     |_=>none)=some r:=by
    intro h
    split at h
    ·split at h
     ·rename_i e;simp only[if_pos e];exact st _ h
     ·rename_i e;simp only[if_neg e];exact zqu h
    ·exact zqu h
    ·cases h
   unfold zjq at h ⊢;exact key h
theorem yg3(σ:St):evl T .skip σ=some (.normal,σ):=zcl.2 ⟨0,rfl⟩
theorem yg5(id:Nat)(σ:St):evl T (.exit id) σ=some (.exit id,σ):=zcl.2 ⟨0,rfl⟩
theorem evl_ret(σ:St):evl T .ret σ=some (.ret,σ):=zcl.2 ⟨0,rfl⟩
theorem evl_reg(is:List AI)(σ:St):evl T (.reg is) σ=zrs (cfl T) is σ :=
 zjl fun r=>zcl.trans ⟨fun⟨n,h⟩=>zma (zzx n) is σ _ h,zqt⟩
theorem yg6(is:List AI)(σ:St):evl T (.dreg is) σ=(zjq (cfl T) is σ).map fun τ=>(.normal,τ) :=
 zjl fun r=>zcl.trans ⟨fun⟨n,h⟩=>by
  unfold run at h
  cases he:zjq (zdj T n) is σ with
  |none=>rw[he]at h;cases h
  |some τ=>rw[he]at h;rw[zmb (zzx n) is σ _ he];exact h,fun h=>by
  cases he:zjq (cfl T) is σ with
  |none=>rw[he]at h;cases h
  |some τ=>rw[he]at h;obtain⟨n,hn⟩:=zqu he;exact⟨n,by unfold run;rw[hn];exact h⟩⟩
theorem evl_seq(a b:FC)(σ:St):evl T (.seq a b) σ=bnd (evl T a σ) (thn (evl T b) one) :=
 zjl fun r=>zcl.trans ⟨fun⟨n,h⟩=>by
  obtain⟨o,σ1,h1,h2⟩:=zdb h;rw[zcl.2 ⟨n,h1⟩]
  cases o with
  |normal=>exact zcl.2 ⟨n,h2⟩
  |exit id=>exact h2
  |ret=>exact h2
  |pan v=>exact h2,fun h=>by
  obtain⟨o,σ1,h1,h2⟩:=zdb h;obtain⟨n,hn⟩:=zcl.1 h1
  cases o with
  |normal=>
   obtain⟨m,hm⟩:=zcl.1 (show evl T b σ1=some r from h2)
   refine⟨max n m,?_⟩;unfold run;rw[show run (zdj T (max n m)) (max n m) a σ=_ from zr8 a σ n (max n m) (by omega) _ hn]
   exact zr8 b σ1 m (max n m) (by omega) _ hm
  |exit id=>exact⟨n,by unfold run;rw[hn];exact h2⟩
  |ret=>exact⟨n,by unfold run;rw[hn];exact h2⟩
  |pan v=>exact⟨n,by unfold run;rw[hn];exact h2⟩⟩
theorem yg7(x:AX)(a b:FC)(σ:St):evl T (.cond x a b) σ=match σ.a x with
  |some (.bool p)=>if p=true then evl T a σ else evl T b σ
  |_=>none :=
 zjl fun r=>zcl.trans (by
  unfold run
  cases hx:σ.a x with
  |none=>simp
  |some v=>
   cases v with
   |bool p=>
    dsimp only;by_cases e:p=true
    ·simp only[if_pos e];exact zcl.symm
    ·simp only[if_neg e];exact zcl.symm
   |_=>simp)
theorem ycy(id:Nat)(c:FC)(σ:St):evl T (.block id c) σ=(evl T c σ).map fun p=>(ublk id p.1,p.2) :=
 zjl fun r=>zcl.trans ⟨fun⟨n,h⟩=>by
  unfold run at h
  cases he:run (zdj T n) n c σ with
  |none=>rw[he]at h;cases h
  |some τ=>rw[he]at h;rw[zcl.2 ⟨n,he⟩];exact h,fun h=>by
  cases he:evl T c σ with
  |none=>rw[he]at h;cases h
  |some τ=>rw[he]at h;obtain⟨n,hn⟩:=zcl.1 he;exact⟨n,by unfold run;rw[hn];exact h⟩⟩
theorem yg4(kt kl:List Nat)(c:FC)(σ:St):evl T (.loop kt kl c) σ=bnd (evl T c (nrm kt kl σ)) (thn (evl T (.loop kt kl c)) one) :=
 zjl fun r=>zcl.trans ⟨fun⟨n,h⟩=>by
  have h:itr (run (zdj T n) n c) kt kl n σ=some r:=h
  cases n with
  |zero=>cases h
  |succ n=>
   obtain⟨o,σ1,h1,h2⟩:=zdb h;rw[zcl.2 ⟨n+1,h1⟩]
   cases o with
   |normal=>exact zcl.2 ⟨n+1,ztv (zed T 0 0 (Nat.le_refl _)) (fun _=>.refl _) kt kl n (n+1) (by omega) σ1 r h2⟩
   |exit id=>exact h2
   |ret=>exact h2
   |pan v=>exact h2,fun h=>by
  obtain⟨o,σ1,h1,h2⟩:=zdb h;obtain⟨n,hn⟩:=zcl.1 h1;have up:∀k,n<=k+1->run (zdj T (k+1)) (k+1) c (nrm kt kl σ)=some (o,σ1):=fun k hk=>zr8 c _ n (k+1) hk _ hn
  cases o with
  |normal=>
   obtain⟨m,hm⟩:=zcl.1 (show evl T (.loop kt kl c) σ1=some r from h2)
   refine⟨max n m+1,?_⟩;show itr _ kt kl (max n m+1) σ=some r;unfold itr;rw[up _ (by omega)]
   have hm:itr (run (zdj T m) m c) kt kl m σ1=some r:=hm;exact ztv (zed T 0 0 (Nat.le_refl _)) (fun τ=>zo3 (zed T m (max n m+1) (by omega)) (by omega) c τ) kt kl m (max n m) (by omega) σ1 r hm
  |exit id=>exact⟨n+1,by show itr _ kt kl (n+1) σ=some r;unfold itr;rw[up _ (by omega)];exact h2⟩
  |ret=>exact⟨n+1,by show itr _ kt kl (n+1) σ=some r;unfold itr;rw[up _ (by omega)];exact h2⟩
  |pan v=>exact⟨n+1,by show itr _ kt kl (n+1) σ=some r;unfold itr;rw[up _ (by omega)];exact h2⟩⟩
theorem evl_rf(f:AX)(ps kt:List Nat)(asg body:FC)(σ:St):evl T (.rf f ps kt asg body) σ=rfF (cfl T) f ps kt asg body σ :=
 zjl fun r=>zcl.trans ⟨fun⟨n,h⟩=>z5s (zzx n) f ps kt asg body σ _ h,fun h=>by
  have key:∀{id:Nat} {ds:List Nat} {c:AV} {vs:List AV} {H:List AO},rfA σ id ds (cfl T c vs H)=some r->∃n,rfA σ id ds (zdj T n c vs H)=some r:=by
   intro id ds c vs H e
   cases hx:cfl T c vs H with
   |none=>rw[hx]at e;cases e
   |some p=>
    obtain⟨n,hn⟩:=zk8.1 hx;exact⟨n,by rw[hn,<- hx];exact e⟩
  unfold rfF at h;have goal:∃n,rfF (zdj T n) f ps kt asg body σ=some r:=by
   unfold rfF
   split at h
   ·split at h
    ·exact key h
    ·split at h
     ·exact key h
     ·cases h
   ·cases h
  exact goal⟩
section
variable {β : Type} {Q : Out → St → Option β} {σ : St}
noncomputable def aw(T:Tab)(c:FC)(Q:Out->St->Option β)(σ:St):Option β:=bnd (evl T c σ) Q
noncomputable def wr(T:Tab)(is:List AI)(Q:Out->St->Option β)(σ:St):Option β:=bnd (zrs (cfl T) is σ) Q
noncomputable def wd(T:Tab)(is:List AI)(K:St->Option β)(σ:St):Option β :=
 match zjq (cfl T) is σ with
 |some τ=>K τ
 |none=>none
noncomputable def awL(T:Tab)(kt kl:List Nat)(c:FC)(Q:Out->St->Option β)(τ:St):Option β:=aw T c (thn (fun σ=>aw T (.loop kt kl c) Q σ) Q) τ
def za5(id:Nat)(Q:Out->St->Option β):Out->St->Option β
 |.exit i,σ=>if i=id then Q .normal σ else Q (.exit i) σ
 |o,σ=>Q o σ
theorem zzz(x:Option (Out×St))(K:St->Option (Out×St)):bnd (bnd x (thn K one)) Q=bnd x (thn (fun σ=>bnd (K σ) Q) Q):=by
 cases x with
 |none=>rfl
 |some p=>obtain⟨o,σ⟩:=p;cases o <;> rfl
@[go_sem] theorem bnd_some'(o:Out)(σ:St):bnd (some (o,σ)) Q=Q o σ:=rfl
@[go_sem] theorem bnd_none:bnd none Q=none:=rfl
@[go_sem] theorem thn_normal(K:St->Option β):thn K Q .normal σ=K σ:=rfl
@[go_sem] theorem thn_exit(K:St->Option β)(id:Nat):thn K Q (.exit id) σ=Q (.exit id) σ:=rfl
@[go_sem] theorem thn_ret(K:St->Option β):thn K Q .ret σ=Q .ret σ:=rfl
@[go_sem] theorem thn_pan(K:St->Option β)(v:AV):thn K Q (.pan v) σ=Q (.pan v) σ:=rfl
@[go_sem] theorem blkF_normal(id:Nat):za5 id Q .normal σ=Q .normal σ:=rfl
@[go_sem] theorem blkF_ret(id:Nat):za5 id Q .ret σ=Q .ret σ:=rfl
@[go_sem] theorem blkF_pan(id:Nat)(v:AV):za5 id Q (.pan v) σ=Q (.pan v) σ:=rfl
@[go_sem] theorem blkF_exit(id i:Nat):za5 id Q (.exit i) σ=if i=id then Q .normal σ else Q (.exit i) σ:=rfl
@[go_sem] theorem aw_skip:aw T .skip Q σ=Q .normal σ:=by unfold aw;rw[yg3];rfl
@[go_sem] theorem aw_exit(id:Nat):aw T (.exit id) Q σ=Q (.exit id) σ:=by unfold aw;rw[yg5];rfl
@[go_sem] theorem aw_ret:aw T .ret Q σ=Q .ret σ:=by unfold aw;rw[evl_ret];rfl
@[go_sem] theorem aw_reg(is:List AI):aw T (.reg is) Q σ=wr T is Q σ:=by unfold aw;rw[evl_reg];rfl
@[go_sem] theorem aw_dreg(is:List AI):aw T (.dreg is) Q σ=wd T is (Q .normal) σ:=by
 unfold aw wd;rw[yg6]
 cases zjq (cfl T) is σ <;> rfl
@[go_sem] theorem aw_seq(a b:FC):aw T (.seq a b) Q σ=aw T a (thn (aw T b Q) Q) σ:=by
 unfold aw;rw[evl_seq,zzz]
noncomputable def cndB(T:Tab)(v:Option AV)(a b:FC)(Q:Out->St->Option β)(σ:St):Option β :=
 match v with
 |some (.bool p)=>if p=true then aw T a Q σ else aw T b Q σ
 |_=>none
@[go_sem] theorem cndB_bool(p:Bool)(a b:FC):cndB T (some (.bool p)) a b Q σ=if p=true then aw T a Q σ else aw T b Q σ:=rfl
@[go_sem] theorem aw_cond(x:AX)(a b:FC):aw T (.cond x a b) Q σ=cndB T (σ.a x) a b Q σ:=by
 unfold aw cndB;rw[yg7]
 split
 ·split <;> rfl
 ·rfl
@[go_sem] theorem aw_block(id:Nat)(c:FC):aw T (.block id c) Q σ=aw T c (za5 id Q) σ:=by
 unfold aw;rw[ycy]
 cases evl T c σ with
 |none=>rfl
 |some p=>
  obtain⟨o,τ⟩:=p
  cases o with
  |exit i=>
   show bnd (some (ublk id (.exit i),τ)) Q=za5 id Q (.exit i) τ;simp only[ublk,bnd,za5];by_cases e:i=id
   ·rw[if_pos e,if_pos e]
   ·rw[if_neg e,if_neg e]
  |normal=>rfl
  |ret=>rfl
  |pan v=>rfl
noncomputable def rfB(T:Tab)(v:Option AV)(ps kt:List Nat)(asg body:FC)(Q:Out->St->Option β)(σ:St)(a b:Bool):Option β :=
 match v with
 |some (.fn (.func k) first cap)=>match a with
  |true=>bnd (rfA σ σ.h.length σ.ds (cfl T (.fn (.func k) first cap) [.yd σ.h.length] (σ.h++[.slp .ready σ.t.n (kpV σ.t.l kt) ps asg body]))) Q
  |false=>match b with
   |true=>bnd (rfA σ (σ.h.length+1) (σ.h.length::σ.ds) (cfl T (.fn (.func k) first cap) [.yd (σ.h.length+1)] (σ.h++[.dfr,.slp .ready σ.t.n (kpV σ.t.l kt) ps asg body]))) Q
   |false=>none
 |_=>none
@[go_sem] theorem aw_rf(f:AX)(ps kt:List Nat)(asg body:FC):aw T (.rf f ps kt asg body) Q σ=rfB T (σ.a f) ps kt asg body Q σ (yet σ.h σ.ds) (yeu σ.h σ.ds):=by
 unfold aw rfB;rw[evl_rf];unfold rfF;generalize σ.a f=v;generalize yet σ.h σ.ds=x;generalize yeu σ.h σ.ds=y
 cases v with
 |none=>rfl
 |some v=>
  cases v with
  |fn f0 fi ca=>cases f0 <;> first|rfl|(cases x <;> cases y <;> rfl)
  |_=>rfl
@[go_sem] theorem rfB_out(k:FuncId)(first cap:List AV)(ps kt:List Nat)(asg body:FC):rfB T (some (.fn (.func k) first cap)) ps kt asg body Q σ false true=bnd (rfA σ (σ.h.length+1) (σ.h.length::σ.ds) (cfl T (.fn (.func k) first cap) [.yd (σ.h.length+1)] (σ.h++[.dfr,.slp .ready σ.t.n (kpV σ.t.l kt) ps asg body]))) Q:=rfl
@[go_sem] theorem rfB_in(k:FuncId)(first cap:List AV)(ps kt:List Nat)(asg body:FC)(b:Bool):rfB T (some (.fn (.func k) first cap)) ps kt asg body Q σ true b=bnd (rfA σ σ.h.length σ.ds (cfl T (.fn (.func k) first cap) [.yd σ.h.length] (σ.h++[.slp .ready σ.t.n (kpV σ.t.l kt) ps asg body]))) Q:=rfl
def rfE(σ:St)(id:Nat)(ds:List Nat)(h:List AO):Option AO->Option (Out×St)
 |some (.slp .ready _ _ _ _ _)=>some (.normal,{ σ with h:=h.set id .dead,ds:=ds })
 |some (.slp (.done j) _ _ _ _ _)=>some (j.out,{ σ with h:=h.set id .dead,ds:=ds })
 |_=>none
@[go_sem] theorem rfE_ready(id:Nat)(ds:List Nat)(h:List AO)(n:Nat)(t:List (Nat×AV))(ps:List Nat)(a b:FC):rfE σ id ds h (some (.slp .ready n t ps a b))=some (.normal,{ σ with h:=h.set id .dead,ds:=ds }):=rfl
@[go_sem] theorem rfE_done(id:Nat)(ds:List Nat)(h:List AO)(j:Jmp)(n:Nat)(t:List (Nat×AV))(ps:List Nat)(a b:FC):rfE σ id ds h (some (.slp (.done j) n t ps a b))=some (j.out,{ σ with h:=h.set id .dead,ds:=ds }):=rfl
@[go_sem] theorem rfA_ret(id:Nat)(ds:List Nat)(v:AV)(h:List AO):rfA σ id ds (some (.ret v,h))=rfE σ id ds h h[id]?:=by
 unfold rfA rfE;dsimp only
 split <;> simp_all
@[go_sem] theorem rfA_pan(id:Nat)(ds:List Nat)(v:AV)(h:List AO):rfA σ id ds (some (.pan v,h))=some (.pan v,{ σ with h:=h,ds:=ds }):=rfl
theorem ydp(kt kl:List Nat)(c:FC):aw T (.loop kt kl c) Q σ=awL T kt kl c Q (nrm kt kl σ):=by
 unfold awL;show bnd (evl T (.loop kt kl c) σ) Q=bnd (evl T c (nrm kt kl σ)) (thn (fun σ=>bnd (evl T (.loop kt kl c) σ) Q) Q)
 rw[yg4,zzz]
noncomputable def again(T:Tab)(kt kl:List Nat)(c:FC)(Q:Out->St->Option β)(σ:St):Option β:=awL T kt kl c Q (nrm kt kl σ)
@[go_sem] theorem again_eq(kt kl:List Nat)(c:FC):again T kt kl c Q σ=awL T kt kl c Q (nrm kt kl σ):=rfl
theorem zab(kt kl:List Nat)(c:FC)(τ:St):awL T kt kl c Q τ=aw T c (thn (again T kt kl c Q) Q) τ:=by
 have:(fun σ=>aw T (.loop kt kl c) Q σ)=fun σ=>awL T kt kl c Q (nrm kt kl σ):=funext fun σ=>ydp kt kl c
 show aw T c (thn (fun σ=>aw T (.loop kt kl c) Q σ) Q) τ=_
 rw[this];rfl
@[go_sem] theorem wr_nil:wr T [] Q σ=Q .normal σ:=rfl
def evB(x:Option (TV×St))(k:TV->St->Option β):Option β :=
 match x with
 |some (x,σ)=>k x σ
 |none=>none
@[go_sem] theorem evB_some(x:TV)(k:TV->St->Option β):evB (some (x,σ)) k=k x σ:=rfl
@[go_sem] theorem evB_none(k:TV->St->Option β):evB none k=none:=rfl
noncomputable def kO(T:Tab)(d:Nat)(r:List AI)(Q:Out->St->Option β)(x:TV)(σ:St):Option β:=wr T r Q { σ with t:=σ.t.set d x }
@[go_sem] theorem kO_eq(d:Nat)(r:List AI)(x:TV):kO T d r Q x σ=wr T r Q { σ with t:=σ.t.set d x }:=rfl
noncomputable def kD(T:Tab)(d:Nat)(r:List AI)(K:St->Option β)(x:TV)(σ:St):Option β:=wd T r K { σ with t:=σ.t.set d x }
@[go_sem] theorem kD_eq(d:Nat)(r:List AI)(K:St->Option β)(x:TV):kD T d r K x σ=wd T r K { σ with t:=σ.t.set d x }:=rfl
@[go_sem] theorem yil(d:Option Nat)(k:AK)(af:List Nat)(r:List AI):wr T (⟨d,k,none,af⟩::r) Q σ=bnd (zh8 (cfl T) ⟨d,k,none,af⟩ σ) (thn (wr T r Q) Q):=by
 show bnd (bnd _ (thn (zrs (cfl T) r) one)) Q=_;rw[zzz];rfl
noncomputable def grA(T:Tab)(g:TV)(d:Option Nat)(k:AK)(j:Nat)(w:Bool)(af:List Nat)(r:List AI)(Q:Out->St->Option β)(σ:St):Option β :=
 match g with
 |.v (.bool b)=>if b=w then bnd (zh8 (cfl T) ⟨d,k,none,af⟩ { σ with t:=σ.t.set j (.v (.bool w)) }) (thn (wr T r Q) Q) else wr T r Q ({ σ with t:=σ.t.set j (.v (.bool (!w))) }.put d .und)
 |.und=>wr T r Q (σ.put d .und)
 |_=>none
@[go_sem] theorem grA_bool(b:Bool)(d:Option Nat)(k:AK)(j:Nat)(w:Bool)(af:List Nat)(r:List AI):grA T (.v (.bool b)) d k j w af r Q σ=if b=w then bnd (zh8 (cfl T) ⟨d,k,none,af⟩ { σ with t:=σ.t.set j (.v (.bool w)) }) (thn (wr T r Q) Q) else wr T r Q ({ σ with t:=σ.t.set j (.v (.bool (!w))) }.put d .und):=rfl
@[go_sem] theorem grA_und(d:Option Nat)(k:AK)(j:Nat)(w:Bool)(af:List Nat)(r:List AI):grA T .und d k j w af r Q σ=wr T r Q (σ.put d .und):=rfl
@[go_sem] theorem wr_anyg(d:Option Nat)(k:AK)(j:Nat)(w:Bool)(af:List Nat)(r:List AI):wr T (⟨d,k,some (j,w),af⟩::r) Q σ=grA T (tg j σ.t.l) d k j w af r Q σ:=by
 have:zrs (cfl T) (⟨d,k,some (j,w),af⟩::r) σ=match tg j σ.t.l with
  |.v (.bool b)=>if b=w then bnd (zh8 (cfl T) ⟨d,k,none,af⟩ { σ with t:=σ.t.set j (.v (.bool w)) }) (thn (zrs (cfl T) r) one) else zrs (cfl T) r ({ σ with t:=σ.t.set j (.v (.bool (!w))) }.put d .und)
  |.und=>zrs (cfl T) r (σ.put d .und)
  |_=>none:=by
  rw[zrs];rfl
 unfold wr;rw[this];unfold grA
 split
 ·split
  ·rw[zzz];rfl
  ·rfl
 ·rfl
 ·rfl
@[go_sem] theorem wr_O(d:Nat)(o:AOp)(r:List AI):wr T (O d o::r) Q σ=evB (evo d o σ) (kO T d r Q):=by
 unfold O;rw[yil];unfold zh8;dsimp only[Option.getD_some]
 cases evo d o σ with
 |none=>rfl
 |some p=>rfl
noncomputable def grO(T:Tab)(g:TV)(d j:Nat)(w:Bool)(o:AOp)(r:List AI)(Q:Out->St->Option β)(σ:St):Option β :=
 match g with
 |.v (.bool b)=>if b=w then evB (evo d o { σ with t:=σ.t.set j (.v (.bool w)) }) (kO T d r Q) else wr T r Q { σ with t:=(σ.t.set j (.v (.bool (!w)))).set d .und }
 |.und=>wr T r Q { σ with t:=σ.t.set d .und }
 |_=>none
@[go_sem] theorem grO_bool(b:Bool)(d j:Nat)(w:Bool)(o:AOp)(r:List AI):grO T (.v (.bool b)) d j w o r Q σ=if b=w then evB (evo d o { σ with t:=σ.t.set j (.v (.bool w)) }) (kO T d r Q) else wr T r Q { σ with t:=(σ.t.set j (.v (.bool (!w)))).set d .und }:=rfl
@[go_sem] theorem grO_und(d j:Nat)(w:Bool)(o:AOp)(r:List AI):grO T .und d j w o r Q σ=wr T r Q { σ with t:=σ.t.set d .und }:=rfl
@[go_sem] theorem wr_Og(d j:Nat)(w:Bool)(o:AOp)(r:List AI):wr T (Og d j w o::r) Q σ=grO T (tg j σ.t.l) d j w o r Q σ:=by
 unfold Og;rw[wr_anyg];unfold grA grO
 split
 ·split
  ·unfold zh8
   dsimp only[Option.getD_some]
   cases evo d o { σ with t:=σ.t.set j (.v (.bool w)) } with
   |none=>rfl
   |some p=>rfl
  ·rfl
 ·rfl
 ·rfl
noncomputable def yhm(T:Tab)(d:Option Nat)(f:Option AV)(l:Option (List AV))(σ:St):Option (Out×St) :=
 match f,l with
 |some c,some vs=>z9l d σ (cfl T c vs σ.h)
 |_,_=>none
@[go_sem] theorem callB_some(d:Option Nat)(c:AV)(vs:List AV):yhm T d (some c) (some vs) σ=z9l d σ (cfl T c vs σ.h):=rfl
@[go_sem] theorem wr_C(d:Nat)(f:AX)(l:List AX)(r:List AI):wr T (C d f l::r) Q σ=bnd (yhm T (some d) (σ.a f) (σ.as l) σ) (thn (wr T r Q) Q):=by
 unfold C;rw[yil];rfl
@[go_sem] theorem step_o(d:Option Nat)(o:AOp)(g:Option (Nat×Bool))(af:List Nat)(cf:zl3):zh8 cf ⟨d,.o o,g,af⟩ σ=match evo (d.getD 0) o σ with
  |some (x,σ')=>some (.normal,σ'.put d x)
  |none=>none:=rfl
@[go_sem] theorem step_fo(d:Option Nat)(o:AOp)(g:Option (Nat×Bool))(af:List Nat)(cf:zl3):zh8 cf ⟨d,.fo o,g,af⟩ σ=match evo (d.getD 0) o σ with
  |some (.v a,σ')=>match zw5 0 a σ'.h with
   |(a',h')=>some (.normal,{ σ' with h:=h' }.put d (.v a'))
  |_=>none:=rfl
@[go_sem] theorem step_c(d:Option Nat)(f:AX)(l:List AX)(g:Option (Nat×Bool))(af:List Nat):zh8 (cfl T) ⟨d,.call f l,g,af⟩ σ=yhm T d (σ.a f) (σ.as l) σ:=rfl
@[go_sem] theorem step_w(d:Option Nat)(f:AX)(l bs:List AX)(g:Option (Nat×Bool))(af:List Nat):zh8 (cfl T) ⟨d,.callW f l bs,g,af⟩ σ=yhm T d (σ.a f) (σ.as l) σ:=rfl
@[go_sem] theorem step_n(d:Option Nat)(x:AX)(g:Option (Nat×Bool))(af:List Nat)(cf:zl3):zh8 cf ⟨d,.isn x,g,af⟩ σ=match σ.a x with
  |some a=>match elems σ a with
   |some (_::_)=>some (.normal,σ.put d (.v (.bool false)))
   |_=>none
  |none=>none:=rfl
@[go_sem] theorem step_p(d:Option Nat)(x:AX)(g:Option (Nat×Bool))(af:List Nat)(cf:zl3):zh8 cf ⟨d,.pan x,g,af⟩ σ=match σ.a x with
  |some (.iface t v)=>some (.pan (.iface t v),σ)
  |_=>none:=rfl
@[go_sem] theorem ansF_ret(d:Option Nat)(v:AV)(h:List AO):z9l d σ (some (.ret v,h))=some (.normal,{ σ with h:=h }.put d (.v v)):=rfl
@[go_sem] theorem ansF_pan(d:Option Nat)(v:AV)(h:List AO):z9l d σ (some (.pan v,h))=some (.pan v,{ σ with h:=h }):=rfl
open Classical in
@[go_sem] theorem ansD_ret(d:Option Nat)(v:AV)(h:List AO):ansD d σ (some (.ret v,h))=if h=σ.h then some (σ.put d (.v v)) else none:=rfl
open Classical in
@[go_sem] theorem ansW_ret(d:Option Nat)(v:AV)(h:List AO)(bs:List TV):ansW d σ bs (some (.ret v,h))=if kept σ.h h bs then some ({ σ with h:=h }.put d (.v v)) else none:=rfl
attribute [go_sem] kept
@[go_sem] theorem ansF_none(d:Option Nat):z9l d σ none=none:=rfl
variable (K : St → Option β) (r : List AI) (od : Option Nat) (d : Nat) (op : AOp) (f : AX) (l : List AX) (j : Nat) (w : Bool) (af : List Nat) (k : AK)
noncomputable def wdB(T:Tab)(x:Option St)(r:List AI)(K:St->Option β):Option β :=
 match x with
 |some σ=>wd T r K σ
 |none=>none
@[go_sem] theorem wdB_some:wdB T (some σ) r K=wd T r K σ:=rfl
@[go_sem] theorem wd_nil:wd T [] K σ=K σ:=rfl
@[go_sem] theorem yim:wd T (⟨od,k,none,af⟩::r) K σ=wdB T (zgp (cfl T) od k σ) r K:=by
 unfold wd;have:zjq (cfl T) (⟨od,k,none,af⟩::r) σ=match zgp (cfl T) od k σ with
  |some σ'=>zjq (cfl T) r σ'
  |none=>none:=by rw[zjq];rfl
 rw[this]
 cases zgp (cfl T) od k σ <;> rfl
@[go_sem] theorem wd_O:wd T (O d op::r) K σ=evB (evo d op σ) (kD T d r K):=by
 unfold O;rw[yim];unfold zgp;dsimp only[Option.getD_some]
 cases evo d op σ <;> rfl
@[go_sem] theorem wd_C:wd T (C d f l::r) K σ=wdB T (zgp (cfl T) (some d) (.call f l) σ) r K:=by
 unfold C;rw[yim]
noncomputable def grD(T:Tab)(g:TV)(od:Option Nat)(k:AK)(j:Nat)(w:Bool)(r:List AI)(K:St->Option β)(σ:St):Option β :=
 match g with
 |.v (.bool b)=>if b=w then wdB T (zgp (cfl T) od k { σ with t:=σ.t.set j (.v (.bool w)) }) r K else wd T r K ({ σ with t:=σ.t.set j (.v (.bool (!w))) }.put od .und)
 |.und=>wd T r K (σ.put od .und)
 |_=>none
@[go_sem] theorem grD_bool(b:Bool):grD T (.v (.bool b)) od k j w r K σ=if b=w then wdB T (zgp (cfl T) od k { σ with t:=σ.t.set j (.v (.bool w)) }) r K else wd T r K ({ σ with t:=σ.t.set j (.v (.bool (!w))) }.put od .und):=rfl
@[go_sem] theorem grD_und:grD T .und od k j w r K σ=wd T r K (σ.put od .und):=rfl
theorem zxp:wd T (⟨od,k,some (j,w),af⟩::r) K σ=grD T (tg j σ.t.l) od k j w r K σ:=by
 unfold wd;have:zjq (cfl T) (⟨od,k,some (j,w),af⟩::r) σ=match tg j σ.t.l with
  |.v (.bool b)=>if b=w then (match zgp (cfl T) od k { σ with t:=σ.t.set j (.v (.bool w)) } with
   |some σ'=>zjq (cfl T) r σ'
   |none=>none) else zjq (cfl T) r ({ σ with t:=σ.t.set j (.v (.bool (!w))) }.put od .und)
  |.und=>zjq (cfl T) r (σ.put od .und)
  |_=>none:=by
  rw[zjq];rfl
 rw[this];unfold grD;generalize tg j σ.t.l=y
 cases y with
 |v a=>
  cases a with
  |bool b=>
   by_cases e:b=w
   ·simp only[if_pos e];cases zgp (cfl T) od k { σ with t:=σ.t.set j (.v (.bool w)) } <;> rfl
   ·simp only[if_neg e];rfl
  |_=>rfl
 |_=>rfl
@[go_sem] theorem wd_og:wd T (⟨od,.o op,some (j,w),af⟩::r) K σ=grD T (tg j σ.t.l) od (.o op) j w r K σ:=zxp K r od j w af _
@[go_sem] theorem wd_cg:wd T (⟨od,.call f l,some (j,w),af⟩::r) K σ=grD T (tg j σ.t.l) od (.call f l) j w r K σ:=zxp K r od j w af _
@[go_sem] theorem wd_wg(bs:List AX):wd T (⟨od,.callW f l bs,some (j,w),af⟩::r) K σ=grD T (tg j σ.t.l) od (.callW f l bs) j w r K σ:=zxp K r od j w af _
noncomputable def callD(T:Tab)(d:Option Nat)(f:Option AV)(l:Option (List AV))(σ:St):Option St :=
 match f,l with
 |some c,some vs=>ansD d σ (cfl T c vs σ.h)
 |_,_=>none
@[go_sem] theorem callD_some(d:Option Nat)(c:AV)(vs:List AV):callD T d (some c) (some vs) σ=ansD d σ (cfl T c vs σ.h):=rfl
noncomputable def callW(T:Tab)(d:Option Nat)(f:Option AV)(l:Option (List AV))(bs:List TV)(σ:St):Option St :=
 match f,l with
 |some c,some vs=>ansW d σ bs (cfl T c vs σ.h)
 |_,_=>none
@[go_sem] theorem callW_some(d:Option Nat)(c:AV)(vs:List AV)(bs:List TV):callW T d (some c) (some vs) bs σ=ansW d σ bs (cfl T c vs σ.h):=rfl
@[go_sem] theorem stepD_o(cf:zl3):zgp cf od (.o op) σ=match evo (od.getD 0) op σ with
  |some (x,σ')=>some (σ'.put od x)
  |none=>none:=rfl
@[go_sem] theorem stepD_c:zgp (cfl T) od (.call f l) σ=callD T od (σ.a f) (σ.as l) σ:=rfl
@[go_sem] theorem stepD_w(bs:List AX):zgp (cfl T) od (.callW f l bs) σ=callW T od (σ.a f) (σ.as l) (bs.map σ.x) σ:=rfl
end
end Go.Ab
end
