/- What the law ConvMany of layer 17 comes to, part 23. Conditions: none. -/
import Derived.Test.YthebfdakjfnpeaaGreatZau
section
set_option linter.unusedVariables false
set_option linter.unusedSimpArgs false
set_option maxRecDepth 100000
set_option maxHeartbeats 2000000
namespace Go.Ab
open Go.RowKit Go.Proofs
variable {α S E : Type}
def fold (stp:S->α->Option (S ⊕ E)):List α->S->Option (S ⊕ E)
 | [],s =>some (.inl s)
 | x::r,s =>match stp s x with
  | some (.inl s') =>fold stp r s'
  | some (.inr e) =>some (.inr e)
  | none =>none
theorem fold_app (stp:S->α->Option (S ⊕ E)):∀ (a b:List α) (s:S),fold stp (a++b) s=match fold stp a s with
  | some (.inl s') =>fold stp b s'
  | some (.inr e) =>some (.inr e)
  | none =>none
 | [],b,s =>rfl
 | x::a,b,s =>by
  rw [List.cons_append,fold,fold]
  cases stp s x with
  | none =>rfl
  | some r =>cases r with
   | inl s' =>exact fold_app stp a b s'
   | inr e =>rfl
def hp (W:S->List AO) (WE:E->List AO):S ⊕ E->List AO
 | .inl s =>W s
 | .inr e =>WE e
@[go_sem] theorem hp_inl (W:S->List AO) (WE:E->List AO) (s:S):hp W WE (.inl s)=W s:=rfl
@[go_sem] theorem hp_inr (W:S->List AO) (WE:E->List AO) (e:E):hp W WE (.inr e)=WE e:=rfl
def isL:S ⊕ E->Bool
 | .inl _ =>true
 | .inr _ =>false
structure Ys (y:AV) (n:Nat) (enc:α->List AV) (W:S->List AO) (WE:E->List AO) (stp:S->α->Option (S ⊕ E)):Prop where
 one:y.one=true
 lt:Lt n y
 len:∀ r,(hp W WE r).length=n
 fr:∀ s r (id:Nat) (o:AO),(hp W WE r)[id]? = some o->(W s)[id]? = some o\/LtO n o
 call:∀ s x X r,stp s x=some r->cfl T y (enc x) (W s++X)=some (.ret (.bool (isL r)),hp W WE r++X)
def IsSeq (fv:AV) (enc:α->List AV) (xs:List α):Prop :=
 ∀ (S E:Type) (y:AV) (n:Nat) (W:S->List AO) (WE:E->List AO) (stp:S->α->Option (S ⊕ E)),Ys y n enc W WE stp -> ∀ s X r,fold stp xs s=some r->cfl T fv [y] (W s++X)=some (.ret (.tup []),hp W WE r++X)
theorem Lt.mono {n m:Nat} (hm:n<=m) {a:AV} (h:Lt n a):Lt m a:=by
 induction h with
 | bool b =>exact .bool b
 | int k x =>exact .int k x
 | str s =>exact .str s
 | nilp =>exact .nilp
 | ptr h =>exact .ptr (by omega)
 | nils z =>exact .nils z
 | sl h ih =>exact .sl ih
 | ol h =>exact .ol (by omega)
 | nilm =>exact .nilm
 | fmap hk hv ihk ihv =>exact .fmap ihk ihv
 | mp h =>exact .mp (by omega)
 | fn ha hb iha ihb =>exact .fn iha ihb
 | nilf =>exact .nilf
 | agg h ih =>exact .agg ih
 | tup h ih =>exact .tup ih
 | iface h ih =>exact .iface ih
 | nili =>exact .nili
 | fp h ih =>exact .fp ih
 | yd h =>exact .yd (by omega)
 | ze =>exact .ze
 | ov h =>exact .ov (by omega)
 | fk k =>exact .fk k
 | junk =>exact .junk
theorem LtO.mono {n m:Nat} (hm:n<=m) {o:AO} (h:LtO n o):LtO m o:=by
 cases o with
 | dead =>trivial
 | box cs =>exact fun a ha =>(h a ha).mono hm
 | lst v s es =>exact fun a ha =>(h a ha).mono hm
 | mapo es =>exact ⟨fun p hp =>(h.1 p hp).mono hm,fun p hp =>(h.2 p hp).mono hm⟩
 | dfr =>trivial
 | slp st k t ps x y =>exact fun p hp =>(h p hp).mono hm
theorem fin1_yd {H A X J:List AO} {r:Res} (hlen:A.length=H.length) (hfr:∀ (id:Nat) (o:AO),A[id]? = some o->H[id]? = some o\/LtO H.length o) (hr:LtR (H++X).length r):fin1F (H++X) r (A++X++J)=some (r,A++X):=by
 unfold fin1F
 have e:(A++X++J).take (H++X).length=A++X:=List.take_left' (by simp [hlen])
 have hc:∀ (id:Nat) (o:AO),(A++X++J)[id]? = some o->id<(H++X).length->(H++X)[id]? = some o\/LtO (H++X).length o:=by
  intro id o ho hi
  have hi2:id<(A++X).length:=by rw [List.length_append] at hi ⊢; omega
  rw [List.getElem?_append_left hi2] at ho
  by_cases h1:id<A.length
  ·rw [List.getElem?_append_left h1] at ho
   rcases hfr id o ho with k | k
   ·exact .inl (by rw [List.getElem?_append_left (by omega)]; exact k)
   ·exact .inr (k.mono (by simp))
  ·rw [List.getElem?_append_right (by omega)] at ho
   exact .inl (by rw [List.getElem?_append_right (by omega),<- hlen]; exact ho)
 rw [if_pos ⟨hr,hc⟩,e]
@[go_sem] theorem lt_fp {n:Nat} {l:List AV}:Lt n (.fp l) = ∀ a∈l,Lt n a:=propext ⟨fun h =>by cases h; assumption,.fp⟩
def lstO (JE:E->Jmp):S ⊕ E->LSt
 | .inl _ =>.ready
 | .inr e =>.done (JE e)
theorem yEnd_mid {H D D' X J:List AO} {nn:Nat} {t:List (Nat × AV)} {ps:List Nat} {asg body:FC} {st:LSt} {b:Bool} (hl:D'.length=D.length)
  (hfr:∀ (i:Nat) (o:AO),D'[i]? = some o->D[i]? = some o\/LtO (H.length+D.length+2) o) (ht:∀ p∈t,Lt (H.length+D.length+2) p.2) :
  yEndF (H++(D++(.dfr :: .slp .ready nn t ps asg body::X))) (H.length+D.length+1) st b (H++(D' ++ (.dfr :: .slp .busy nn t ps asg body::(X++J))))=some (.ret (.bool b),H++(D' ++ (.dfr :: .slp st nn t ps asg body::X))):=by
 have hg:(H++(D' ++ (.dfr :: .slp .busy nn t ps asg body::(X++J))))[H.length+D.length+1]? = some (.slp .busy nn t ps asg body):=by
  rw [List.getElem?_append_right (by omega),List.getElem?_append_right (by omega),show H.length+D.length+1 - H.length - D'.length=1 by omega]; rfl
 rw [yEndF_at hg]
 have hs:(H++(D' ++ (.dfr :: .slp .busy nn t ps asg body::(X++J)))).set (H.length+D.length+1) (.slp st nn t ps asg body)=(H++(D' ++ (.dfr :: .slp st nn t ps asg body::X)))++J:=by
  rw [List.set_append_right _ _ (by omega),List.set_append_right _ _ (by omega),show H.length+D.length+1 - H.length - D'.length=1 by omega]; simp
 rw [hs]
 unfold fin1F
 have hlen:(H++(D++(.dfr :: .slp .ready nn t ps asg body::X))).length=(H++(D' ++ (.dfr :: .slp st nn t ps asg body::X))).length:=by simp [hl]
 have hle:H.length+D.length+2<=(H++(D++(AO.dfr :: .slp .ready nn t ps asg body::X))).length:=by simp; omega
 rw [List.take_left' hlen.symm,if_pos]
 refine ⟨.bool _,fun id o ho hi =>?_⟩
 rw [hlen] at hi
 rw [List.getElem?_append_left hi] at ho
 by_cases h1:id<H.length
 ·rw [List.getElem?_append_left h1] at ho ⊢; exact .inl ho
 rw [List.getElem?_append_right (by omega)] at ho ⊢
 by_cases h2:id - H.length<D.length
 ·rw [List.getElem?_append_left (by omega)] at ho ⊢
  rcases hfr _ _ ho with k | k
  ·exact .inl k
  ·exact .inr (k.mono hle)
 rw [List.getElem?_append_right (by omega),hl] at ho
 rw [List.getElem?_append_right (by omega)]
 match hj:id - H.length - D.length,ho with
 | 0,ho =>exact .inl ho
 | 1,ho =>simp at ho; subst ho; exact .inr fun p hp =>(ht p hp).mono hle
 | j+2,ho =>exact .inl ho
theorem ys_of (H:List AO) (k:Nat) (enc:α->List AV) (D:S->List AO) (DE:E->List AO) (JE:E->Jmp) (stp:S->α->Option (S ⊕ E)) (nn:Nat) (t:List (Nat × AV)) (ps:List Nat) (asg body:FC) (ha:asg.okd=true) (hb:body.okd=true) (hps:∀ x,(enc x).length=ps.length)
  (hk:∀ r,(hp D DE r).length=k) (hfr:∀ s r (i:Nat) (o:AO),(hp D DE r)[i]? = some o->(D s)[i]? = some o\/LtO (H.length+k+2) o) (ht:∀ p∈t,Lt (H.length+k+2) p.2)
  (call:∀ s x X r,stp s x=some r -> ∃ J,aw T asg (yK T (H++(D s++(.dfr :: .slp .ready nn t ps asg body::X))) (H.length+k+1) body) ⟨setPs ps (enc x) ⟨nn,rnd0 t⟩,[],H++(D s++(.dfr :: .slp .ready nn t ps asg body::X)),[H.length+k+1]⟩ =
   yEndF (H++(D s++(.dfr :: .slp .ready nn t ps asg body::X))) (H.length+k+1) (lstO JE r) (isL r) (H++(hp D DE r++(.dfr :: .slp .busy nn t ps asg body::(X++J))))) :
  Ys (.yd (H.length+k+1)) (H.length+k+2) enc (fun s =>H++(D s++[.dfr,.slp .ready nn t ps asg body])) (fun e =>H++(DE e++[.dfr,.slp (.done (JE e)) nn t ps asg body])) stp:=by
 have hhp:∀ r:S ⊕ E,hp (fun s =>H++(D s++[AO.dfr,.slp .ready nn t ps asg body])) (fun e =>H++(DE e++[.dfr,.slp (.done (JE e)) nn t ps asg body])) r=H++(hp D DE r++[.dfr,.slp (lstO JE r) nn t ps asg body]):=fun r =>by cases r <;> rfl
 have hkD:∀ s,(D s).length=k:=fun s =>hk (.inl s)
 refine ⟨rfl,.yd (by omega),fun r =>?_,fun s r id o ho =>?_,fun s x X r hst =>?_⟩
 ·rw [hhp]; have:=hk r; simp; omega
 ·rw [hhp] at ho
  by_cases h1:id<H.length
  ·rw [List.getElem?_append_left h1] at ho ⊢; exact .inl ho
  rw [List.getElem?_append_right (by omega)] at ho ⊢
  by_cases h2:id - H.length<k
  ·rw [List.getElem?_append_left (by rw [hk]; omega)] at ho
   rw [List.getElem?_append_left (by rw [hkD]; omega)]
   exact hfr s r _ _ ho
  rw [List.getElem?_append_right (by rw [hk]; omega),hk] at ho
  rw [List.getElem?_append_right (by rw [hkD]; omega),hkD]
  match hj:id - H.length - k,ho with
  | 0,ho =>exact .inl ho
  | 1,ho =>simp at ho; subst ho; exact .inr ht
  | j+2,ho =>simp at ho
 ·obtain ⟨J,e⟩:=call s x X r hst
  rw [hhp]
  have hg:(H++(D s++(AO.dfr :: .slp .ready nn t ps asg body::X)))[H.length+k+1]? = some (.slp .ready nn t ps asg body):=by
   rw [List.getElem?_append_right (by omega),List.getElem?_append_right (by rw [hkD]; omega),hkD,show H.length+k+1 - H.length - k=1 by omega]; rfl
  simp only [List.append_assoc,List.cons_append,List.nil_append]
  rw [cfl_yd hg (hps x) ha hb,e]
  have:=yEnd_mid (H:=H) (D:=D s) (D':=hp D DE r) (X:=X) (J:=J) (nn:=nn) (t:=t) (ps:=ps) (asg:=asg) (body:=body) (st:=lstO JE r) (b:=isL r) (by rw [hk,hkD]) (fun i o h =>by rw [hkD]; exact hfr s r i o h) (by rw [hkD]; exact ht)
  rw [hkD] at this
  exact this
theorem rf_end {H DR:List AO} {k:Nat} (hk:DR.length=k) {st:LSt} {nn:Nat} {t:List (Nat × AV)} {ps:List Nat} {asg body:FC} :
  (H++(DR++[AO.dfr,.slp st nn t ps asg body]))[H.length+k+1]? = some (.slp st nn t ps asg body)/\(H++(DR++[AO.dfr,.slp st nn t ps asg body])).set (H.length+k+1) .dead=H++(DR++[.dfr,.dead]):=by
 constructor
 ·rw [List.getElem?_append_right (by omega),List.getElem?_append_right (by omega),show H.length+k+1 - H.length - DR.length=1 by omega]; rfl
 ·rw [List.set_append_right _ _ (by omega),List.set_append_right _ _ (by omega),show H.length+k+1 - H.length - DR.length=1 by omega]; rfl
end Go.Ab
end
section
set_option linter.unusedVariables false
set_option linter.unusedSimpArgs false
set_option maxRecDepth 100000
set_option maxHeartbeats 2000000
namespace Go.Ab
open Go.RowKit Go.Proofs
theorem fin1_mid {A A' W Z:List AO} {o o':AO} {r:Res} (hlen:A'.length=A.length) (hfr:∀ (id:Nat) (x:AO),A'[id]? = some x->A[id]? = some x\/LtO A.length x) (ho:LtO (A++(W++o::Z)).length o') (hr:LtR (A++(W++o::Z)).length r) :
  fin1F (A++(W++o::Z)) r (A' ++ (W++o' :: Z))=some (r,A' ++ (W++o' :: Z)):=by
 unfold fin1F
 have e:(A' ++ (W++o' :: Z)).take (A++(W++o::Z)).length=A' ++ (W++o' :: Z):=List.take_of_length_le (by simp [hlen])
 have hc:∀ (id:Nat) (x:AO),(A' ++ (W++o' :: Z))[id]? = some x->id<(A++(W++o::Z)).length->(A++(W++o::Z))[id]? = some x\/LtO (A++(W++o::Z)).length x:=by
  intro id x hx hi
  by_cases h1:id<A'.length
  ·rw [List.getElem?_append_left h1] at hx
   rcases hfr id x hx with k | k
   ·exact .inl (by rw [List.getElem?_append_left (by omega)]; exact k)
   ·exact .inr (k.mono (by simp))
  ·rw [List.getElem?_append_right (by omega)] at hx
   rw [List.getElem?_append_right (by omega),<- hlen]
   by_cases h2:id - A'.length<W.length
   ·rw [List.getElem?_append_left h2] at hx ⊢; exact .inl hx
   ·rw [List.getElem?_append_right (by omega)] at hx ⊢
    cases h3:id - A'.length - W.length with
    | zero =>rw [h3] at hx; simp at hx; subst hx; exact .inr ho
    | succ j =>rw [h3] at hx; simp at hx ⊢; exact .inl hx
 rw [if_pos ⟨hr,hc⟩,e]
theorem mid_get {A W Z:List AO} {o:AO}:(A++(W++o::Z))[A.length+W.length]? = some o:=by
 rw [List.getElem?_append_right (by omega),List.getElem?_append_right (by omega)]; simp
theorem mid_set {A W Z:List AO} {o p:AO}:(A++(W++o::Z)).set (A.length+W.length) p=A++(W++p::Z):=by
 rw [List.set_append_right _ _ (by omega),List.set_append_right _ _ (by omega)]; simp
end Go.Ab
end
section
set_option linter.unusedVariables false
set_option linter.unusedSimpArgs false
set_option maxRecDepth 100000
set_option maxHeartbeats 2000000
namespace Go.Ab
open Go.RowKit Go.Proofs
def jk:Nat->List AO
 | 0 =>[]
 | m+1 =>jk m++[.dfr,.dead]
def dsl (b:Nat):Nat->List Nat
 | 0 =>[]
 | m+1 =>(b+2*m)::dsl b m
theorem jk_len:∀ m,(jk m).length=2*m
 | 0 =>rfl
 | m+1 =>by rw [jk,List.length_append,jk_len m]; simp; omega
theorem jk_at (A Z:List AO) (m:Nat):(A++(jk (m+1)++Z))[A.length+2*m]? = some .dfr:=by
 rw [List.getElem?_append_right (by omega),show A.length+2*m - A.length=2*m by omega,jk,List.append_assoc,List.getElem?_append_right (by rw [jk_len]; omega),jk_len]
 simp
theorem dsl_range (b:Nat):∀ m,∀ i∈dsl b m,b<=i/\i<b+2*m
 | 0,i,h =>by simp [dsl] at h
 | m+1,i,h =>by
  simp [dsl] at h
  rcases h with rfl | h
  ·omega
  ·have:=dsl_range b m i h; omega
theorem dsl_nodup (b:Nat):∀ m,(dsl b m).Nodup
 | 0 =>by simp [dsl]
 | m+1 =>by
  rw [dsl,List.nodup_cons]
  exact ⟨fun h =>by have:=dsl_range b m _ h; omega,dsl_nodup b m⟩
theorem dfrs_jk (A:List AO):∀ (m:Nat) (Z:List AO),dfrs (A++(jk m++Z)) (dsl A.length m)=true
 | 0,Z =>rfl
 | m+1,Z =>by
  rw [dsl,dfrs,jk_at]
  dsimp only
  have:=dfrs_jk A m ([.dfr,.dead]++Z)
  rw [jk,List.append_assoc]
  exact this
theorem inRd_jk (A:List AO):∀ (m:Nat) (Z:List AO),inRd (A++(jk m++Z)) (dsl A.length m)=false
 | 0,Z =>rfl
 | 1,Z =>by
  have:=jk_at A Z 0
  simp only [dsl,inRd,Nat.mul_zero,Nat.add_zero] at this ⊢
  rw [this]
 | m+2,Z =>rfl
theorem set_jk (A Z:List AO) (m:Nat):∃ D,D.length=2/\(A++(jk (m+1)++Z)).set (A.length+2*m) .dead=A++(jk m++(D++Z)):=by
 refine ⟨[.dead,.dead],rfl,?_⟩
 rw [List.set_append_right _ _ (by omega),show A.length+2*m - A.length=2*m by omega,jk,List.append_assoc,List.set_append_right _ _ (by rw [jk_len]; omega),jk_len]
 simp
theorem clean_jk (A:List AO):∀ (m:Nat) (Z:List AO),∃ D,D.length=2*m+Z.length/\clean (A++(jk m++Z)) (dsl A.length m)=A++D
 | 0,Z =>⟨Z,by simp,rfl⟩
 | m+1,Z =>by
  obtain ⟨D,hD,e⟩:=set_jk A Z m
  obtain ⟨D',hD',e'⟩:=clean_jk A m (D++Z)
  refine ⟨D',by simp at hD'; omega,?_⟩
  rw [dsl,clean,e,e']
theorem finF_jk {A H0:List AO} (hA:A.length=H0.length) (m:Nat):∃ D:List AO,∀ (rs:List RS) (o:Out) (t:Ts) (ls:List (Nat × List AV)),finF H0 rs o ⟨t,ls,A++jk m,dsl A.length m⟩=finF H0 rs o ⟨t,ls,A++D,[]⟩:=by
 obtain ⟨D,_,e⟩:=clean_jk A m []
 rw [List.append_nil] at e
 refine ⟨D,fun rs o t ls =>?_⟩
 cases m with
 | zero =>simp only [dsl,clean] at e; rw [dsl,e]
 | succ m =>
  have h1:∀ i∈dsl A.length (m+1),H0.length<=i:=fun i hi =>by have:=dsl_range _ _ i hi; omega
  have h2:=dsl_nodup A.length (m+1)
  rw [dsl] at h1 h2 e ⊢
  rw [finF_ds,if_pos ⟨h1,h2⟩,e]
theorem finY_jk {S E α:Type} {y:AV} {n:Nat} {enc:α->List AV} {W:S->List AO} {WE:E->List AO} {stp:S->α->Option (S ⊕ E)} (hy:Ys y n enc W WE stp) (s:S) (r:S ⊕ E) (X:List AO) (m:Nat) {o:Out} (ho:o = .normal\/o = .ret) (t:Ts) (ls:List (Nat × List AV)) :
  finF (W s++X) [] o ⟨t,ls,hp W WE r++(X++jk m),dsl (n+X.length) m⟩=some (.ret (.tup []),hp W WE r++X):=by
 have l1:(W s).length=n:=hy.len (.inl s)
 have l2:=hy.len r
 obtain ⟨D,e⟩:=finF_jk (A:=hp W WE r++X) (H0:=W s++X) (by simp [l1,l2]) m
 rw [<- List.append_assoc,show n+X.length=(hp W WE r++X).length by simp [l2],e]
 have hf:=fin1_yd (H:=W s) (A:=hp W WE r) (X:=X) (J:=D) (r:=.ret (.tup [])) (by rw [l1,l2]) (by rw [l1]; exact hy.fr s r) (show Lt _ _ from .tup (by simp))
 rcases ho with rfl | rfl
 ·rw [finF_normal]; simp only [rvals]; exact hf
 ·rw [finF_ret]; simp only [rvals]; exact hf
end Go.Ab
end
section
set_option linter.unusedVariables false
set_option linter.unusedSimpArgs false
set_option maxRecDepth 100000
set_option maxHeartbeats 2000000
namespace Go.Ab
open Go.RowKit Go.Proofs
def i64s (L:List Int):List (List AV):=L.map fun b =>[.int .i64 b]
@[go_sem] theorem i64s_len (L:List Int):(i64s L).length=L.length:=by simp [i64s]
@[go_sem] theorem i64s_get (L:List Int) (i:Nat):(i64s L)[i]? = L[i]?.map fun b =>[.int .i64 b]:=by simp [i64s]
@[go_sem] theorem i64s_nil:i64s []=[]:=rfl
theorem i64s_snoc (a:List Int) (n:Int):i64s a++[[.int .i64 n]]=i64s (a++[n]):=by simp [i64s]
theorem i64s_lt (n:Nat) (L:List Int):∀ a∈(i64s L).flatten,Lt n a:=by
 intro a ha
 obtain ⟨e,he,h2⟩:=List.mem_flatten.1 ha
 obtain ⟨x,hx,rfl⟩:=List.mem_map.1 he
 simp at h2; subst h2
 exact .int _ _
@[go_sem] theorem lt_i64s (n:Nat) (L:List Int):(∀ a∈(i64s L).flatten,Lt n a)=True:=eq_true (i64s_lt n L)
def onceL:List Int->List Int->List Int
 | out,[] =>out
 | out,n::r =>onceL (if out.contains n then out else out++[n]) r
theorem onceL_app:∀ (a b out:List Int),onceL out (a++b)=onceL (onceL out a) b
 | [],b,out =>rfl
 | n::a,b,out =>by rw [List.cons_append,onceL,onceL,onceL_app a b]
theorem onceL_len:∀ (a out:List Int),(onceL out a).length<=out.length+a.length
 | [],out =>by simp [onceL]
 | n::a,out =>by
  rw [onceL]
  have:=onceL_len a (if out.contains n then out else out++[n])
  split at this <;> simp at * <;> split <;> simp_all <;> omega
def noE {β:Type} (e:Empty):β:=e.elim
end Go.Ab
end
section
set_option linter.unusedVariables false
set_option linter.unusedSimpArgs false
set_option maxRecDepth 100000
set_option maxHeartbeats 2000000
namespace Go.Ab
open Go.RowKit Go.Proofs
theorem css_snoc (a:List Lv) (x:Lv):Lv.css a++[x.cs]=Lv.css (a++[x]):=by rw [css_app]; rfl
def byL (ps ms:List Lv) (k n:Int):Option Lv:=if k=5 then ps[n.toNat]? else if k=6 then ms[n.toNat]? else none
mutual
def subL (ps ms:List Lv):Lv->Lv
 | .mk k n ks =>match byL ps ms k n with
  | some x =>x
  | none =>.mk k n (subLs ps ms ks)
def subLs (ps ms:List Lv):List Lv->List Lv
 | [] =>[]
 | x::r =>subL ps ms x::subLs ps ms r
end
theorem subLs_eq (ps ms:List Lv):∀ ks:List Lv,subLs ps ms ks=ks.map (subL ps ms)
 | [] =>rfl
 | x::r =>by rw [subLs,subLs_eq ps ms r]; rfl
theorem rightB_inv {p m k n:Int} {ks:List Lv} {d:Int} (h:rightB p m (.mk k n ks) d=true):1<=d/\(ks.length:Int)=kids02 k/\0<=n/\(k=5->n<p)/\(k=6->n<m)/\(k ≠ 5->k ≠ 6->n=0)/\rightsB p m ks (d - 1)=true:=by
 rw [rightB] at h
 split at h
 ·cases h
 split at h
 ·cases h
 rename_i h1 h2
 have h2:(ks.length:Int)=kids02 k:=by simpa using h2
 split at h
 ·rename_i h5
  subst h5
  have:ks=[]:=List.eq_nil_of_length_eq_zero (by simp [kids02] at h2; simp [h2])
  subst this
  simp at h
  exact ⟨by omega,h2,h.1,fun _ =>h.2,by omega,by omega,rfl⟩
 split at h
 ·rename_i h5
  subst h5
  have:ks=[]:=List.eq_nil_of_length_eq_zero (by simp [kids02] at h2; simp [h2])
  subst this
  simp at h
  exact ⟨by omega,h2,h.1,by omega,fun _ =>h.2,by omega,rfl⟩
 ·simp at h
  exact ⟨by omega,h2,by omega,by omega,by omega,fun _ _ =>h.2,h.1⟩
theorem rightsB_at {p m:Int} {ks:List Lv} {d:Int} (h:rightsB p m ks d=true) {x:Lv} (hx:x∈ks):rightB p m x d=true:=by
 rw [rightsB_all,List.all_eq_true] at h; exact h x hx
theorem RightB_right {l:Lv} {p m:Int} (h:RightB l p m=true):rightB p m l 12=true:=by
 unfold RightB at h; simp only [Bool.and_eq_true] at h; exact h.2
theorem kids02_le (k:Int):kids02 k<=2:=by unfold kids02; grind
def okLs (l:List Lv):Prop:=∀ x∈l,x.ok
theorem byL_ok {ps ms:List Lv} (hp:okLs ps) (hm:okLs ms) {k n:Int} {x:Lv} (h:byL ps ms k n=some x):x.ok:=by
 unfold byL at h
 split at h
 ·exact hp x (List.mem_of_getElem? h)
 ·split at h
  ·exact hm x (List.mem_of_getElem? h)
  ·cases h
theorem subL_ok {ps ms:List Lv} (hp:okLs ps) (hm:okLs ms) (l:Lv):l.ok->(subL ps ms l).ok:=by
 induction l using Lv.ind with
 | h k n ks ih =>
 intro hl
 rw [subL]
 split
 ·rename_i x h; exact byL_ok hp hm h
 ·rw [subLs_eq]
  refine .mk (by simpa using hl.len) fun x hx =>?_
  obtain ⟨y,hy,rfl⟩:=List.mem_map.1 hx
  exact ih y hy (hl.all y hy)
def resL:Lv × Int->AV
 | (l,e) =>.tup [.agg l.cs,.int .i64 e]
def zeroL:Lv:=.mk 0 0 []
def rightLs (l:List Lv):Bool:=l.all fun x =>RightB x 5 10
def SubS (l:Lv) (ps ms:List Lv):Lv × Int :=
 if RightB l 5 10=false\/5<ps.length\/10<ms.length\/rightLs ps=false\/rightLs ms=false then (zeroL,1)
 else if RightB (subL ps ms l) 5 10 then (subL ps ms l,0) else (zeroL,2)
theorem right05_ok (xs:List Lv) (hlen:xs.length<=140737488355328) (hx:okLs xs) (H:List AO):F ref05_right [.sl (Lv.css xs)] H=some (.ret (.bool (rightLs xs)),H):=by
 have loop:∀ (suf pre:List Lv),xs=pre++suf->L_ref05_right_0 H H (.sl (Lv.css xs)) (.int .i64 pre.length)=some (.ret (.bool (rightLs suf)),H):=by
  intro suf
  induction suf with
  | nil =>
   intro pre e
   subst e
   rw [L_ref05_right_0,awL_eq]
   simp only [↓reduceIte,go_sem,rightLs,List.all_nil]
  | cons x suf ih =>
   intro pre e
   subst e
   simp at hlen
   have:=ih (pre++[x]) (by simp)
   simp only [len_app] at this
   have hr:=Right02_ok x (hx x (by simp)) 5 10 H
   rw [L_ref05_right_0,awL_eq]
   unfold rightLs at *
   rw [List.all_cons]
   cases h:RightB x 5 10 <;> simp only [h] at hr <;> simp only [↓reduceIte,go_sem,hr,nat_wrap (n:=pre.length) (by omega),this,Bool.true_and,Bool.false_and]
 have:=loop xs [] rfl
 simp only [List.length_nil,Int.natCast_zero] at this
 rw [f_ref05_right]
 simp only [↓reduceIte,go_sem,this]
theorem sub05_ok (p m:Int) (ps ms:List Lv) (l:Lv):l.ok -> ∀ (d:Int),rightB p m l d=true -> ∀ (H:List AO),F ref05_sub [.agg l.cs,.sl (Lv.css ps),.sl (Lv.css ms)] H=some (.ret (.agg (subL ps ms l).cs),H):=by
 induction l using Lv.ind with
 | h k n ks ih =>
 intro hl d hr H
 obtain ⟨hd,hk,hn,h5,h6,h0,hks⟩:=rightB_inv hr
 have hk3:=kids02_le k
 have loop:∀ (suf pre done:List Lv),ks=pre++suf->done.length=pre.length ->
   L_ref05_sub_0 H (H++[.lst 0 3 [],.lst done.length 3 (Lv.css done),.lst 0 3 []]) (.sl (Lv.css ps)) (.sl (Lv.css ms)) (.int .i64 pre.length) [.int .i64 k,.int .i64 n,.sl (Lv.css ks)]
    [.int .i64 0,.int .i64 0,.ol H.length 0] [.int .i64 k,.int .i64 n,.ol (H.length+1) done.length]=some (.ret (.agg (Lv.mk k n (done++subLs ps ms suf)).cs),H):=by
  intro suf
  induction suf with
  | nil =>
   intro pre done e he
   subst e
   rw [L_ref05_sub_0,awL_eq]
   simp only [↓reduceIte,go_sem,subLs,Lv.cs]
  | cons x suf ih2 =>
   intro pre done e he
   subst e
   simp at hk
   have:=ih2 (pre++[x]) (done++[subL ps ms x]) (by simp) (by simp [he])
   simp only [len_app] at this
   simp only [len_snoc,List.append_assoc,List.cons_append,List.nil_append] at this
   have hdl:done.length<=1073741823:=by omega
   rw [L_ref05_sub_0,awL_eq,subLs]
   simp only [↓reduceIte,go_sem,ih x (by simp) (hl.all x (by simp)) (d - 1) (rightsB_at hks (by simp)),nat_wrap (n:=pre.length) (by omega),hdl,css_snoc,this]
 have l0:=loop ks [] [] rfl rfl
 simp only [List.length_nil,Int.natCast_zero,List.nil_append,Lv.css,Lv.cs] at l0
 rw [f_ref05_sub,subL,byL]
 have hN:(n.toNat:Int)=n:=Int.toNat_of_nonneg hn
 by_cases e5:k=5
 ·subst e5
  by_cases hlt:n<(ps.length:Int)
  ·obtain ⟨x,hx⟩:∃ x,ps[n.toNat]? = some x:=⟨ps[n.toNat],by simp⟩
   simp only [↓reduceIte,go_sem,Lv.cs,hlt,hn,hx]
  ·have hx:ps[n.toNat]? = none:=List.getElem?_eq_none (by omega)
   simp only [↓reduceIte,go_sem,Lv.cs,hlt,hx,l0]
 ·by_cases e6:k=6
  ·subst e6
   by_cases hlt:n<(ms.length:Int)
   ·obtain ⟨x,hx⟩:∃ x,ms[n.toNat]? = some x:=⟨ms[n.toNat],by simp⟩
    simp only [↓reduceIte,go_sem,Lv.cs,hlt,hn,hx]
   ·have hx:ms[n.toNat]? = none:=List.getElem?_eq_none (by omega)
    simp only [↓reduceIte,go_sem,Lv.cs,hlt,hx,l0]
  ·simp only [↓reduceIte,go_sem,Lv.cs,e5,e6,l0]
theorem Sub05_ok (l:Lv) (ps ms:List Lv) (hl:l.ok) (hp:okLs ps) (hm:okLs ms) (hpl:ps.length<=140737488355328) (hml:ms.length<=140737488355328) (H:List AO) :
  F ref05_Sub [.agg l.cs,.sl (Lv.css ps),.sl (Lv.css ms)] H=some (.ret (resL (SubS l ps ms)),H):=by
 rw [f_ref05_Sub,SubS]
 have h1:=Right02_ok l hl 5 10 H
 have h2:=right05_ok ps hpl hp H
 have h3:=right05_ok ms hml hm H
 by_cases hr:RightB l 5 10=true
 ·by_cases a1:5<ps.length
  ·have a1':(5:Int)<ps.length:=by omega
   simp only [↓reduceIte,go_sem,h1,hr,a1,a1',resL,zeroL,Lv.cs,Lv.css,Bool.true_eq_false,false_or,true_or]
  by_cases a2:10<ms.length
  ·have a1':¬ (5:Int)<ps.length:=by omega
   have a2':(10:Int)<ms.length:=by omega
   simp only [↓reduceIte,go_sem,h1,hr,a1,a1',a2,a2',resL,zeroL,Lv.cs,Lv.css,Bool.true_eq_false,false_or,true_or]
  have a1':¬ (5:Int)<ps.length:=by omega
  have a2':¬ (10:Int)<ms.length:=by omega
  cases b1:rightLs ps with
  | false =>simp only [↓reduceIte,go_sem,h1,h2,hr,a1,a1',a2,a2',b1,resL,zeroL,Lv.cs,Lv.css,Bool.true_eq_false,false_or,true_or]
  | true =>
  cases b2:rightLs ms with
  | false =>simp only [↓reduceIte,go_sem,h1,h2,h3,hr,a1,a1',a2,a2',b1,b2,resL,zeroL,Lv.cs,Lv.css,Bool.true_eq_false,false_or,true_or]
  | true =>
  have h4:=sub05_ok 5 10 ps ms l hl 12 (RightB_right hr) H
  have h5:=Right02_ok (subL ps ms l) (subL_ok hp hm l hl) 5 10 H
  cases b3:RightB (subL ps ms l) 5 10 <;> simp only [b3] at h5 <;> simp only [↓reduceIte,go_sem,h1,h2,h3,h4,h5,hr,a1,a1',a2,a2',b1,b2,b3,resL,zeroL,Lv.cs,Lv.css,Bool.true_eq_false,Bool.false_eq_true,or_self,true_or]
 ·simp only [Bool.not_eq_true] at hr
  simp only [↓reduceIte,go_sem,h1,hr,resL,zeroL,Lv.cs,Lv.css,true_or]
theorem odd_ok (l:Lv) (hl:l.ok) (H:List AO):F lsub_odd [.agg l.cs] H=some (.ret (.bool (!RightB l 5 10)),H):=by
 rw [f_lsub_odd]
 simp only [↓reduceIte,go_sem,RightP_ok l hl]
theorem grow_ok (n:Int) (h0:0<=n) (hn:n<=1073741824) (H:List AO):F slices_Grow_Level [.ze,.int .i64 n] H=if n=0 then some (.ret .ze,H) else some (.ret (.ol H.length 1),H++[.lst 1 3 []]):=by
 rw [f_slices_Grow_Level]
 by_cases h:n=0
 ·subst h
  have e1:IntKind.wrap .i64 0=0:=wrap64 (by omega) (by omega)
  simp only [↓reduceIte,go_sem,Int.sub_self,e1]
 ·simp only [↓reduceIte,go_sem,h,show ¬ n<0 by omega,show 0<n by omega,Int.sub_self,Int.sub_zero,wrap64 (n:=0) (by omega) (by omega),wrap64 (n:=n) (by omega) (by omega),hn]
inductive AccL (H:List AO):AV->List Lv->List AO->Prop
 | ze:AccL H .ze [] H
 | ol (ver:Nat) (es:List Lv):AccL H (.ol H.length ver) es (H++[.lst ver 3 (Lv.css es)])
def sls (xs:List (List Lv)):List (List AV):=xs.map fun x =>[.sl (Lv.css x)]
@[go_sem] theorem sls_len (xs:List (List Lv)):(sls xs).length=xs.length:=by simp [sls]
@[go_sem] theorem sls_get (xs:List (List Lv)) (i:Nat):(sls xs)[i]? = xs[i]?.map fun x =>[.sl (Lv.css x)]:=by simp [sls]
@[go_sem] theorem css_all3 (ks:List Lv):(∀ e∈Lv.css ks,e.length=3)=True:=by
 refine eq_true fun e he =>?_
 rw [Lv.css_eq] at he
 obtain ⟨x,_,rfl⟩:=List.mem_map.1 he
 exact cs_len x
theorem concat_ok (xs:List (List Lv)) (hlen:xs.length<=1000) (ht:xs.flatten.length<=1073741824) (H:List AO) :
  F slices_Concat_Level [.sl (sls xs)] H=some (.ret (.sl (Lv.css xs.flatten)),H):=by
 have loop1:∀ (suf pre:List (List Lv)) {v:AV} {es:List Lv} {H1:List AO},xs=pre++suf->AccL (H++[.lst 0 3 []]) v es H1->es.length+suf.flatten.length<=1073741824 ->
   L_slices_Concat_Level_1 H H1 v (.sl (sls xs)) (.int .i64 xs.length) (.int .i64 pre.length)=some (.ret (.sl (Lv.css (es++suf.flatten))),H):=by
  intro suf
  induction suf with
  | nil =>
   intro pre v es H1 e ha hb
   subst e
   rw [L_slices_Concat_Level_1,awL_eq]
   cases ha with
   | ze =>simp only [↓reduceIte,go_sem,List.flatten_nil,Lv.css]
   | ol ver =>simp only [↓reduceIte,go_sem,List.flatten_nil]
  | cons x suf ih =>
   intro pre v es H1 e ha hb
   subst e
   simp at hlen
   rw [List.flatten_cons,List.length_append] at hb
   rw [L_slices_Concat_Level_1,awL_eq]
   cases ha with
   | ze =>
    cases x with
    | nil =>
     have:=ih (pre++[[]]) (by simp) (AccL.ze (H:=H++[.lst 0 3 []])) (by simpa using hb)
     simp only [len_app] at this
     simp only [↓reduceIte,go_sem,Lv.css,nat_wrap (n:=pre.length) (by omega),this,List.flatten_cons]
    | cons y ys =>
     have:=ih (pre++[y::ys]) (by simp) (AccL.ol (H:=H++[.lst 0 3 []]) 0 (y::ys)) (by simpa using hb)
     simp only [len_app] at this
     simp only [↓reduceIte,go_sem,Lv.css] at this
     simp at hb
     simp only [↓reduceIte,go_sem,Lv.css,nat_wrap (n:=pre.length) (by omega),show ys.length<1073741824 by omega,this,List.flatten_cons]
   | ol ver =>
    have:=ih (pre++[x]) (by simp) (AccL.ol (H:=H++[.lst 0 3 []]) (ver+1) (es++x)) (by simp at hb ⊢; omega)
    simp only [len_app] at this
    simp only [↓reduceIte,go_sem] at this
    simp only [↓reduceIte,go_sem,nat_wrap (n:=pre.length) (by omega),show es.length+x.length<=1073741824 by omega,<- css_app,this,List.flatten_cons,List.append_assoc]
 have loop0:∀ (suf pre:List (List Lv)),xs=pre++suf ->
   L_slices_Concat_Level_0 H (H++[.lst 0 3 []]) (.sl (sls xs)) (.int .i64 pre.flatten.length) (.sl (sls xs)) (.int .i64 xs.length) (.int .i64 pre.length)=some (.ret (.sl (Lv.css xs.flatten)),H):=by
  intro suf
  induction suf with
  | nil =>
   intro pre e
   subst e
   simp only [List.append_nil] at *
   have hg:=grow_ok pre.flatten.length (by omega) (by omega) (H++[.lst 0 3 []])
   rw [L_slices_Concat_Level_0,awL_eq]
   by_cases h0:pre.flatten.length=0
   ·have h1:=loop1 pre [] rfl (AccL.ze (H:=H++[.lst 0 3 []])) (by simpa using ht)
    simp only [List.length_nil,Int.natCast_zero,List.nil_append] at h1
    rw [if_pos (by omega)] at hg
    simp only [↓reduceIte,go_sem,hg,h1]
   ·have h1:=loop1 pre [] rfl (AccL.ol (H:=H++[.lst 0 3 []]) 1 []) (by simpa using ht)
    simp only [List.length_nil,Int.natCast_zero,List.nil_append] at h1
    rw [if_neg (by omega)] at hg
    simp only [↓reduceIte,go_sem,Lv.css] at hg h1
    simp only [↓reduceIte,go_sem,hg,h1]
  | cons x suf ih =>
   intro pre e
   subst e
   simp at hlen
   have:=ih (pre++[x]) (by simp)
   have hl:((pre++[x]).flatten.length:Int)=(pre.flatten.length:Int)+(x.length:Int):=by simp
   rw [hl] at this
   simp only [len_app] at this
   simp only [List.flatten_append,List.flatten_cons,List.length_append] at ht
   rw [L_slices_Concat_Level_0,awL_eq]
   simp only [↓reduceIte,go_sem,nat_wrap (n:=pre.length) (by omega),wrap64 (n:=(pre.flatten.length:Int)+(x.length:Int)) (by omega) (by omega),show ¬ (pre.flatten.length:Int)+(x.length:Int)<0 by omega]
   rw [this]
 have h0:=loop0 xs [] rfl
 simp only [List.length_nil,Int.natCast_zero,List.flatten_nil] at h0
 rw [f_slices_Concat_Level]
 simp only [↓reduceIte,go_sem,h0]
def GoodL (fv:AV) (ps ms:List Lv) (H:List AO):Prop:=∀ (X:List AO) (k n:Int) (ks:List Lv),0<=n->cfl T fv [.agg (Lv.mk k n ks).cs] (H++X)=some (.ret (.tup [.agg ((byL ps ms k n).getD (.mk k n ks)).cs,.bool (byL ps ms k n).isSome]),H++X)
theorem GoodL.ext {fv:AV} {ps ms:List Lv} {H:List AO} (h:GoodL fv ps ms H) (Y:List AO):GoodL fv ps ms (H++Y):=fun X k n ks hn =>by rw [List.append_assoc]; exact h (Y++X) k n ks hn
theorem turnL_ok (p m:Int) (fv:AV) (hfv:fv.one=true) (ps ms:List Lv) (l:Lv):l.ok -> ∀ (d:Int),rightB p m l d=true -> ∀ (H:List AO),GoodL fv ps ms H ->
  F lsub_turn [.agg l.cs,fv] H=some (.ret (.agg (subL ps ms l).cs),H):=by
 induction l using Lv.ind with
 | h k n ks ih =>
 intro hl d hr H hg
 obtain ⟨hd,hk,hn,h5,h6,h0,hks⟩:=rightB_inv hr
 have hk3:=kids02_le k
 have loop:∀ (suf pre done:List Lv),ks=pre++suf->done.length=pre.length ->
   L_lsub_turn_0 H (H++[.lst 0 3 [],.lst 0 3 [],.lst done.length 3 (Lv.css done),.lst 0 3 []]) fv (.sl (Lv.css ks)) (.int .i64 ks.length) (.int .i64 pre.length)
    [.int .i64 0,.int .i64 0,.ol H.length 0] [.int .i64 k,.int .i64 n,.ol (H.length+2) done.length]=some (.ret (.agg (Lv.mk k n (done++subLs ps ms suf)).cs),H):=by
  intro suf
  induction suf with
  | nil =>
   intro pre done e he
   subst e
   rw [L_lsub_turn_0,awL_eq]
   simp only [↓reduceIte,go_sem,subLs,Lv.cs]
  | cons x suf ih2 =>
   intro pre done e he
   subst e
   simp at hk
   have:=ih2 (pre++[x]) (done++[subL ps ms x]) (by simp) (by simp [he])
   simp only [len_app] at this
   simp only [len_snoc,List.append_assoc,List.cons_append,List.nil_append] at this
   have hdl:done.length<=1073741823:=by omega
   rw [L_lsub_turn_0,awL_eq,subLs]
   simp only [↓reduceIte,go_sem,ih x (by simp) (hl.all x (by simp)) (d - 1) (rightsB_at hks (by simp)) _ (hg.ext _),nat_wrap (n:=pre.length) (by omega),hdl,css_snoc,this]
 have l0:=loop ks [] [] rfl rfl
 simp only [List.length_nil,Int.natCast_zero,List.nil_append,Lv.css,Lv.cs] at l0
 have hb:=hg [.lst 0 3 []] k n ks hn
 rw [f_lsub_turn,subL]
 cases hx:byL ps ms k n with
 | some x =>
  simp only [hx,Option.getD_some,Option.isSome_some] at hb
  rw [Lv.cs] at hb ⊢
  simp only [↓reduceIte,go_sem,hb]
 | none =>
  simp only [hx,Option.getD_none,Option.isSome_none] at hb
  rw [Lv.cs] at hb
  rw [Lv.cs]
  simp only [↓reduceIte,go_sem,hb,l0]
  rfl
theorem Sub_ok (l:Lv) (ps ms:List Lv) (hl:l.ok) (hp:okLs ps) (hm:okLs ms) (hpl:ps.length<=140737488355328) (hml:ms.length<=140737488355328) (H:List AO) :
  F lsub_Sub [.agg l.cs,.sl (Lv.css ps),.sl (Lv.css ms)] H=some (.ret (resL (SubS l ps ms)),H):=by
 have h1:=odd_ok l hl (H++[.box [.sl (Lv.css ps)],.box [.sl (Lv.css ms)]])
 rw [f_lsub_Sub,SubS]
 by_cases hr:RightB l 5 10=true
 ·by_cases a1:5<ps.length
  ·have a1':(5:Int)<ps.length:=by omega
   simp only [↓reduceIte,go_sem,h1,hr,a1,a1',resL,zeroL,Lv.cs,Lv.css,Bool.true_eq_false,false_or,true_or]
  by_cases a2:10<ms.length
  ·have a1':¬ (5:Int)<ps.length:=by omega
   have a2':(10:Int)<ms.length:=by omega
   simp only [↓reduceIte,go_sem,h1,hr,a1,a1',a2,a2',resL,zeroL,Lv.cs,Lv.css,Bool.true_eq_false,false_or,true_or]
  have a1':¬ (5:Int)<ps.length:=by omega
  have a2':¬ (10:Int)<ms.length:=by omega
  have hc:=concat_ok [ps,ms] (by simp) (by simp; omega) (H++[.box [.sl (Lv.css ps)],.box [.sl (Lv.css ms)]])
  simp only [sls,List.map_cons,List.map_nil,List.flatten_cons,List.flatten_nil,List.append_nil] at hc
  have ha:=anyL_ok (ps++ms) (by simp; omega) (.fn (.func lsub_odd) [] []) (fun x =>!RightB x 5 10) (H++[.box [.sl (Lv.css ps)],.box [.sl (Lv.css ms)]]) (fun x hx =>by
   simp only [cfl_f0]
   exact odd_ok x (by rcases List.mem_append.1 hx with h | h; exact hp x h; exact hm x h) _)
  rw [<- List.not_all_eq_any_not,List.all_append] at ha
  rw [show (ps.all fun x =>RightB x 5 10)=rightLs ps from rfl,show (ms.all fun x =>RightB x 5 10)=rightLs ms from rfl] at ha
  by_cases hb:(rightLs ps && rightLs ms)=true
  ·have hb2:=hb
   rw [Bool.and_eq_true] at hb2
   have hg:GoodL (.fn (.func lsub_Sub_1) [] [.ptr H.length 0,.ptr (H.length+1) 0]) ps ms (H++[.box [.sl (Lv.css ps)],.box [.sl (Lv.css ms)]]):=by
    intro X k n ks hn
    simp only [cfl_f1,List.cons_append,List.nil_append,List.append_assoc,f_lsub_Sub_1]
    have e:((H++AO.box [.sl (Lv.css ps)]::AO.box [.sl (Lv.css ms)]::X)[H.length+1]?)=some (.box [.sl (Lv.css ms)]):=by rw [app_getN]; rfl
    have e0:((H++AO.box [.sl (Lv.css ps)]::AO.box [.sl (Lv.css ms)]::X)[H.length]?)=some (.box [.sl (Lv.css ps)]):=by rw [app_get0]; rfl
    generalize H++AO.box [.sl (Lv.css ps)]::AO.box [.sl (Lv.css ms)]::X=H' at *
    unfold byL
    have hN:(n.toNat:Int)=n:=Int.toNat_of_nonneg hn
    by_cases e5:k=5
    ·subst e5
     by_cases hlt:n<(ps.length:Int)
     ·obtain ⟨x,hx⟩:∃ x,ps[n.toNat]? = some x:=⟨ps[n.toNat],by simp⟩
      simp only [↓reduceIte,go_sem,Lv.cs,e,e0,hlt,hn,hx,Option.getD_some,Option.isSome_some]
     ·have hx:ps[n.toNat]? = none:=List.getElem?_eq_none (by omega)
      simp only [↓reduceIte,go_sem,Lv.cs,e,e0,hlt,hx,Option.getD_none,Option.isSome_none]
    ·by_cases e6:k=6
     ·subst e6
      by_cases hlt:n<(ms.length:Int)
      ·obtain ⟨x,hx⟩:∃ x,ms[n.toNat]? = some x:=⟨ms[n.toNat],by simp⟩
       simp only [↓reduceIte,go_sem,Lv.cs,e,e0,hlt,hn,hx,Option.getD_some,Option.isSome_some]
      ·have hx:ms[n.toNat]? = none:=List.getElem?_eq_none (by omega)
       simp only [↓reduceIte,go_sem,Lv.cs,e,e0,hlt,hx,Option.getD_none,Option.isSome_none]
     ·simp only [↓reduceIte,go_sem,Lv.cs,e,e0,e5,e6,Option.getD_none,Option.isSome_none]
   have ht:=turnL_ok 5 10 _ rfl ps ms l hl 12 (RightB_right hr) _ hg
   have h5:=odd_ok (subL ps ms l) (subL_ok hp hm l hl) (H++[.box [.sl (Lv.css ps)],.box [.sl (Lv.css ms)]])
   simp only [hb] at ha
   cases b3:RightB (subL ps ms l) 5 10 <;> simp only [b3] at h5 <;> simp only [↓reduceIte,go_sem,h1,hr,a1,a1',a2,a2',hb2.1,hb2.2,hc,ha,ht,h5,b3,resL,zeroL,Lv.cs,Lv.css,Bool.true_eq_false,Bool.false_eq_true,or_self,true_or,false_or]
  ·have hb':rightLs ps=false\/rightLs ms=false:=by
    cases h1:rightLs ps <;> cases h2:rightLs ms <;> simp_all
   simp only [Bool.not_eq_true] at hb
   simp only [hb] at ha
   simp only [↓reduceIte,go_sem,h1,hr,a1,a1',a2,a2',hb',hc,ha,resL,zeroL,Lv.cs,Lv.css,Bool.true_eq_false,or_self,true_or,or_true,false_or]
 ·simp only [Bool.not_eq_true] at hr
  simp only [↓reduceIte,go_sem,h1,hr,resL,zeroL,Lv.cs,Lv.css,true_or]
end Go.Ab
end
section
set_option linter.unusedVariables false
set_option linter.unusedSimpArgs false
set_option maxRecDepth 100000
set_option maxHeartbeats 2000000
namespace Go.Ab
open Go.RowKit Go.Proofs
mutual
def rightT (p m:Int):Te->Int->Int->Bool
 | .mk k n ls ks,v,d =>if d<1 then false else if (ks.length:Int) ≠ kids13 k then false else if ((ls.all fun x =>RightB x p m) && namedB k n ls v)=false then false else rightTs p m k ks 0 v (d - 1)
def rightTs (p m:Int) (k:Int):List Te->Int->Int->Int->Bool
 | [],_,_,_ =>true
 | x::r,i,v,d =>rightT p m x (v+binds k i) d && rightTs p m k r (i+1) v d
end
theorem right13_ok (p m:Int) (t:Te):t.ok -> ∀ (v d:Int),-1000<=d/\d<=1000->0<=v/\v+d<=1000000 -> ∀ (H:List AO),F ref13_right [.agg t.cs,.int .i64 v,.int .i64 p,.int .i64 m,.int .i64 d] H=some (.ret (.bool (rightT p m t v d)),H):=by
 induction t using Te.ind with
 | h k n ls ks ih =>
 intro hl v d hd hv H
 have hlen:=hl.len
 have loop:¬ d<1 -> ∀ (suf pre:List Te),ks=pre++suf ->
   L_ref13_right_0 H H (.int .i64 v) (.int .i64 p) (.int .i64 m) (.int .i64 d) (.int .i64 pre.length) [.int .i64 k,.int .i64 n,.sl (Lv.css ls),.sl (Te.css ks)]=some (.ret (.bool (rightTs p m k suf pre.length v (d - 1))),H):=by
  intro hd1 suf
  induction suf with
  | nil =>
   intro pre e
   subst e
   rw [L_ref13_right_0,awL_eq]
   simp only [↓reduceIte,go_sem,rightTs]
  | cons x suf ih2 =>
   intro pre e
   subst e
   simp at hlen
   have:=ih2 (pre++[x]) (by simp)
   simp only [len_app] at this
   have hb:=binds_range k pre.length
   rw [L_ref13_right_0,awL_eq,rightTs]
   simp only [↓reduceIte,go_sem,binds13_ok,wrap64 (n:=d - 1) (by omega) (by omega),wrap64 (n:=v+binds k pre.length) (by omega) (by omega),ih x (by simp) (hl.all x (by simp)) (v+binds k pre.length) (d - 1) (by omega) (by omega) H,nat_wrap (n:=pre.length) (by omega),this]
   cases rightT p m x (v+binds k pre.length) (d - 1) <;> simp
 have:=fun h =>loop h ks [] rfl
 simp only [List.length_nil,Int.natCast_zero] at this
 rw [f_ref13_right,rightT]
 simp only [↓reduceIte,go_sem,Te.cs,kids13_ok,named13_ok k n ls ks hl.len2 hl.all2]
 by_cases h1:d<1
 ·simp [h1]
 ·simp only [this h1]
  grind
def RightT (t:Te) (v p m:Int):Bool:=decide (0<=v) && decide (v<=1000) && decide (0<=p) && decide (p<=5) && decide (0<=m) && decide (m<=10) && decide (parts t 601<=600) && rightT p m t v 30
theorem RightT13_ok (t:Te) (hl:t.ok) (v p m:Int) (H:List AO):F ref13_Right [.agg t.cs,.int .i64 v,.int .i64 p,.int .i64 m] H=some (.ret (.bool (RightT t v p m)),H):=by
 rw [f_ref13_Right,RightT]
 have hr:0<=v->v<=1000->F ref13_right [.agg t.cs,.int .i64 v,.int .i64 p,.int .i64 m,.int .i64 30] H=some (.ret (.bool (rightT p m t v 30)),H):=fun h1 h2 =>right13_ok p m t hl v 30 (by omega) (by omega) H
 by_cases h1:0<=v <;> by_cases h2:v<=1000 <;> simp only [↓reduceIte,go_sem,h1,h2,parts13_ok t hl 601 (by omega),hr] <;> grind
def ShapeB (t:Te):Bool:=RightT t 1000 5 10
theorem Shape13_ok (t:Te) (hl:t.ok) (H:List AO):F ref13_Shape [.agg t.cs] H=some (.ret (.bool (ShapeB t)),H):=by
 rw [f_ref13_Shape,ShapeB]
 simp only [↓reduceIte,go_sem,RightT13_ok t hl]
mutual
def teEq:Te->Te->Bool
 | .mk a b l ks,.mk c d m js =>decide (a=c) && decide (b=d) && lvsEq l m && tesEq ks js
def tesEq:List Te->List Te->Bool
 | [],[] =>true
 | x::l,y::m =>teEq x y && tesEq l m
 | _,_ =>false
end
theorem tesEq_len:∀ {l m:List Te},l.length ≠ m.length->tesEq l m=false
 | [],[],h =>absurd rfl h
 | [],_::_,_ =>by rw [tesEq]; all_goals simp
 | _::_,[],_ =>by rw [tesEq]; all_goals simp
 | x::l,y::m,h =>by rw [tesEq,tesEq_len (l:=l) (m:=m) (by simpa using h)]; simp
theorem same13_ok (a:Te):a.ok -> ∀ (b:Te) (H:List AO),F ref13_Same [.agg a.cs,.agg b.cs] H=some (.ret (.bool (teEq a b)),H):=by
 induction a using Te.ind with
 | h k n ls ks ih =>
 intro hl b H
 obtain ⟨k',n',ls',ks'⟩:=b
 have hlen:=hl.len
 have hlen2:=hl.len2
 have loop2:ks.length=ks'.length -> ∀ (suf pre suf' pre':List Te),ks=pre++suf->ks' = pre' ++ suf' -> pre.length=pre'.length ->
   L_ref13_Same_1 H H (.int .i64 pre.length) [.int .i64 k,.int .i64 n,.sl (Lv.css ls),.sl (Te.css ks)] [.int .i64 k',.int .i64 n',.sl (Lv.css ls'),.sl (Te.css ks')]=some (.ret (.bool (tesEq suf suf')),H):=by
  intro hll suf
  induction suf with
  | nil =>
   intro pre suf' pre' e e' he
   subst e
   subst e'
   have:suf' = []:=List.eq_nil_of_length_eq_zero (by simp at hll; omega)
   subst this
   rw [L_ref13_Same_1,awL_eq]
   simp only [↓reduceIte,go_sem,tesEq]
  | cons x suf ih2 =>
   intro pre suf' pre' e e' he
   subst e
   subst e'
   simp at hlen
   cases suf' with
   | nil =>simp at hll; omega
   | cons y suf' =>
   have hy:(pre' ++ y::suf')[pre.length]? = some y:=by rw [he]; simp
   have:=ih2 (pre++[x]) suf' (pre' ++ [y]) (by simp) (by simp) (by simp [he])
   simp only [len_app] at this
   rw [L_ref13_Same_1,awL_eq,tesEq]
   simp only [↓reduceIte,go_sem,hy,ih x (by simp) (hl.all x (by simp)) y H,nat_wrap (n:=pre.length) (by omega),this]
   cases teEq x y <;> simp
 have loop1:ks.length=ks'.length->ls.length=ls'.length -> ∀ (suf pre suf' pre':List Lv),ls=pre++suf->ls' = pre' ++ suf' -> pre.length=pre'.length ->
   L_ref13_Same_0 H H (.int .i64 pre.length) [.int .i64 k,.int .i64 n,.sl (Lv.css ls),.sl (Te.css ks)] [.int .i64 k',.int .i64 n',.sl (Lv.css ls'),.sl (Te.css ks')]=some (.ret (.bool (lvsEq suf suf' && tesEq ks ks')),H):=by
  intro hkk hll suf
  induction suf with
  | nil =>
   intro pre suf' pre' e e' he
   subst e
   subst e'
   have:suf' = []:=List.eq_nil_of_length_eq_zero (by simp at hll; omega)
   subst this
   rw [L_ref13_Same_0,awL_eq]
   have:=loop2 hkk ks [] ks' [] rfl rfl rfl
   simp only [List.length_nil,Int.natCast_zero,List.append_nil] at this
   simp only [↓reduceIte,go_sem,lvsEq,this,Bool.true_and]
  | cons x suf ih2 =>
   intro pre suf' pre' e e' he
   subst e
   subst e'
   simp at hlen2
   cases suf' with
   | nil =>simp at hll; omega
   | cons y suf' =>
   have hy:(pre' ++ y::suf')[pre.length]? = some y:=by rw [he]; simp
   have:=ih2 (pre++[x]) suf' (pre' ++ [y]) (by simp) (by simp) (by simp [he])
   simp only [len_app] at this
   rw [L_ref13_Same_0,awL_eq,lvsEq]
   simp only [↓reduceIte,go_sem,hy,same02_ok x (hl.all2 x (by simp)) y H,nat_wrap (n:=pre.length) (by omega),this]
   cases lvEq x y <;> simp
 rw [f_ref13_Same,teEq]
 simp only [↓reduceIte,go_sem,Te.cs]
 by_cases h3:ks.length=ks'.length
 ·by_cases h4:ls.length=ls'.length
  ·have:=loop1 h3 h4 ls [] ls' [] rfl rfl rfl
   simp only [List.length_nil,Int.natCast_zero] at this
   rw [this]
   grind
  ·have h4':¬ (ls.length:Int)=(ls'.length:Int):=by omega
   rw [lvsEq_len h4]
   simp [h4']
 ·have h3':¬ (ks.length:Int)=(ks'.length:Int):=by omega
  rw [tesEq_len h3]
  simp [h3']
end Go.Ab
end
section
set_option linter.unusedVariables false
set_option linter.unusedSimpArgs false
set_option maxRecDepth 100000
set_option maxHeartbeats 2000000
namespace Go.Ab
open Go.RowKit Go.Proofs
mutual
def liftT (b:Int):Te->Int->Te
 | .mk k n ls ks,f =>.mk k (if k=1/\f<=n then n+b else n) ls (liftTs b k ks 0 f)
def liftTs (b k:Int):List Te->Int->Int->List Te
 | [],_,_ =>[]
 | x::r,i,f =>liftT b x (f+binds k i)::liftTs b k r (i+1) f
end
mutual
def openT (u:Te):Te->Int->Te
 | .mk k n ls ks,f =>if k=1/\n=f then liftT f u 0 else .mk k (if k=1/\f<n then n - 1 else n) ls (openTs u k ks 0 f)
def openTs (u:Te) (k:Int):List Te->Int->Int->List Te
 | [],_,_ =>[]
 | x::r,i,f =>openT u x (f+binds k i)::openTs u k r (i+1) f
end
theorem kids13_le (k:Int):kids13 k<=3:=by unfold kids13; grind
theorem rightT_inv {p m k n v d:Int} {ls:List Lv} {ks:List Te} (h:rightT p m (.mk k n ls ks) v d=true) :
  1<=d/\(ks.length:Int)=kids13 k/\(ls.all fun x =>RightB x p m)=true/\namedB k n ls v=true/\rightTs p m k ks 0 v (d - 1)=true:=by
 rw [rightT] at h
 split at h
 ·cases h
 ·split at h
  ·cases h
  ·split at h
   ·cases h
   ·rename_i h1 h2 h3
    simp at h3
    exact ⟨by omega,by simpa using h2,by simpa using h3.1,h3.2,h⟩
theorem rightTs_app {p m k v d:Int}:∀ {a b:List Te} {i:Int},rightTs p m k (a++b) i v d=true->rightTs p m k a i v d=true/\rightTs p m k b (i+a.length) v d=true
 | [],b,i,h =>⟨rfl,by simpa using h⟩
 | x::a,b,i,h =>by
  rw [List.cons_append,rightTs,Bool.and_eq_true] at h
  obtain ⟨h1,h2⟩:=rightTs_app h.2
  refine ⟨by rw [rightTs,h.1,h1]; rfl,?_⟩
  have:i+((x::a).length:Int)=i+1+(a.length:Int):=by simp; omega
  rw [this]; exact h2
theorem rightTs_mid {p m k v d:Int} {a b:List Te} {x:Te} (h:rightTs p m k (a++x::b) 0 v d=true):rightT p m x (v+binds k a.length) d=true:=by
 have:=(rightTs_app h).2
 rw [rightTs,Bool.and_eq_true] at this
 simpa using this.1
theorem named_var {n v:Int} {ls:List Lv} (h:namedB 1 n ls v=true):0<=n/\n<v/\ls=[]:=by
 unfold namedB at h
 simp at h
 exact ⟨h.1.1,h.1.2,h.2⟩
theorem lift13_ok (p m b:Int) (hb:0<=b/\b<=1000000) (t:Te):t.ok -> ∀ (v d f:Int),rightT p m t v d=true->d<=1000->0<=v/\v+d<=1000000 -> -1000000<=f/\f+d<=1000000 -> ∀ (H:List AO),
  F ref13_lift [.agg t.cs,.int .i64 f,.int .i64 b] H=some (.ret (.agg (liftT b t f).cs),H):=by
 induction t using Te.ind with
 | h k n ls ks ih =>
 intro hl v d f hr hd hv hf H
 obtain ⟨hd1,hk,hls,hn,hks⟩:=rightT_inv hr
 have hk3:=kids13_le k
 have loop:∀ (n':Int) (suf pre done:List Te),ks=pre++suf->done.length=pre.length ->
   L_ref13_lift_0 H (H++[.lst 0 3 [],.lst 0 4 [],.lst 0 3 [],.lst done.length 4 (Te.css done),.lst 0 3 [],.lst 0 4 []]) (.int .i64 f) (.int .i64 b) (.int .i64 pre.length) [.int .i64 k,.int .i64 n,.sl (Lv.css ls),.sl (Te.css ks)]
    [.int .i64 0,.int .i64 0,.ol H.length 0,.ol (H.length+1) 0] [.int .i64 k,.int .i64 n',.sl (Lv.css ls),.ol (H.length+3) done.length]=some (.ret (.agg (Te.mk k n' ls (done++liftTs b k suf pre.length f)).cs),H):=by
  intro n' suf
  induction suf with
  | nil =>
   intro pre done e he
   subst e
   rw [L_ref13_lift_0,awL_eq]
   simp only [↓reduceIte,go_sem,liftTs,Te.cs]
  | cons x suf ih2 =>
   intro pre done e he
   subst e
   simp at hk
   have:=ih2 (pre++[x]) (done++[liftT b x (f+binds k pre.length)]) (by simp) (by simp [he])
   simp only [len_app] at this
   simp only [len_snoc,List.append_assoc,List.cons_append,List.nil_append] at this
   have hdl:done.length<=1073741823:=by omega
   have hbr:=binds_range k pre.length
   rw [L_ref13_lift_0,awL_eq,liftTs]
   simp only [↓reduceIte,go_sem,binds13_ok,wrap64 (n:=f+binds k pre.length) (by omega) (by omega),ih x (by simp) (hl.all x (by simp)) (v+binds k pre.length) (d - 1) (f+binds k pre.length) (rightTs_mid hks) (by omega) (by omega) (by omega),nat_wrap (n:=pre.length) (by omega),hdl,this]
 have l0:=fun n' =>loop n' ks [] [] rfl rfl
 simp only [List.length_nil,Int.natCast_zero,List.nil_append,Te.css,Te.cs] at l0
 rw [f_ref13_lift,liftT]
 by_cases h1:k=1
 ·subst h1
  obtain ⟨h2,h3,h4⟩:=named_var hn
  simp only [↓reduceIte,go_sem,Te.cs,wrap64 (n:=n+b) (by omega) (by omega),l0]
  split <;> simp_all
 ·simp only [↓reduceIte,go_sem,Te.cs,h1,l0,false_and]
theorem css_ok {k n:Int} {ls:List Lv} {ks:List Te} (h:(Te.mk k n ls ks).ok) (n':Int) {js:List Te} (hl:js.length=ks.length) (hj:∀ x∈js,x.ok):(Te.mk k n' ls js).ok:=by
 cases h with
 | mk a b c d =>exact .mk (by omega) b c hj
theorem liftTs_len (b k:Int):∀ (ks:List Te) (i f:Int),(liftTs b k ks i f).length=ks.length
 | [],_,_ =>rfl
 | x::r,i,f =>by rw [liftTs]; simp [liftTs_len b k r]
theorem openTs_len (u:Te) (k:Int):∀ (ks:List Te) (i f:Int),(openTs u k ks i f).length=ks.length
 | [],_,_ =>rfl
 | x::r,i,f =>by rw [openTs]; simp [openTs_len u k r]
theorem liftTs_mem {b k:Int} {p:Te->Prop}:∀ {ks:List Te} {i f:Int},(∀ x∈ks,∀ f,p (liftT b x f)) -> ∀ y∈liftTs b k ks i f,p y
 | [],_,_,_,y,hy =>by cases hy
 | x::r,i,f,h,y,hy =>by
  rw [liftTs] at hy
  rcases List.mem_cons.1 hy with rfl | hy
  ·exact h x (by simp) _
  ·exact liftTs_mem (fun z hz =>h z (by simp [hz])) y hy
theorem openTs_mem {u:Te} {k:Int} {p:Te->Prop}:∀ {ks:List Te} {i f:Int},(∀ x∈ks,∀ f,p (openT u x f)) -> ∀ y∈openTs u k ks i f,p y
 | [],_,_,_,y,hy =>by cases hy
 | x::r,i,f,h,y,hy =>by
  rw [openTs] at hy
  rcases List.mem_cons.1 hy with rfl | hy
  ·exact h x (by simp) _
  ·exact openTs_mem (fun z hz =>h z (by simp [hz])) y hy
theorem lift_ok (b:Int) (t:Te):t.ok -> ∀ f,(liftT b t f).ok:=by
 induction t using Te.ind with
 | h k n ls ks ih =>intro h f; rw [liftT]; exact css_ok h _ (liftTs_len _ _ _ _ _) (liftTs_mem fun x hx =>ih x hx (h.all x hx))
theorem open_ok (u:Te) (hu:u.ok) (t:Te):t.ok -> ∀ f,(openT u t f).ok:=by
 induction t using Te.ind with
 | h k n ls ks ih =>
  intro h f
  rw [openT]
  split
  ·exact lift_ok f u hu 0
  ·exact css_ok h _ (openTs_len _ _ _ _ _) (openTs_mem fun x hx =>ih x hx (h.all x hx))
theorem open13_ok (p m:Int) (u:Te) (huk:u.ok) (vu du:Int) (hu:rightT p m u vu du=true) (hdu:du<=1000) (hvu:0<=vu/\vu+du<=1000000) (t:Te):t.ok -> ∀ (v d f:Int),rightT p m t v d=true->d<=1000->0<=v/\v+d<=1000000->0<=f/\f+d<=1000000 -> ∀ (H:List AO),
  F ref13_open [.agg t.cs,.int .i64 f,.agg u.cs] H=some (.ret (.agg (openT u t f).cs),H):=by
 induction t using Te.ind with
 | h k n ls ks ih =>
 intro hl v d f hr hd hv hf H
 obtain ⟨hd1,hk,hls,hn,hks⟩:=rightT_inv hr
 have hk3:=kids13_le k
 have loop:∀ (n':Int) (suf pre done:List Te),ks=pre++suf->done.length=pre.length ->
   L_ref13_open_0 H (H++[.lst 0 3 [],.lst 0 4 [],.lst 0 3 [],.lst done.length 4 (Te.css done),.lst 0 3 [],.lst 0 4 []]) (.int .i64 f) (.int .i64 pre.length) [.int .i64 k,.int .i64 n,.sl (Lv.css ls),.sl (Te.css ks)] u.cs
    [.int .i64 0,.int .i64 0,.ol H.length 0,.ol (H.length+1) 0] [.int .i64 k,.int .i64 n',.sl (Lv.css ls),.ol (H.length+3) done.length]=some (.ret (.agg (Te.mk k n' ls (done++openTs u k suf pre.length f)).cs),H):=by
  intro n' suf
  induction suf with
  | nil =>
   intro pre done e he
   subst e
   rw [L_ref13_open_0,awL_eq]
   simp only [↓reduceIte,go_sem,openTs,Te.cs]
  | cons x suf ih2 =>
   intro pre done e he
   subst e
   simp at hk
   have:=ih2 (pre++[x]) (done++[openT u x (f+binds k pre.length)]) (by simp) (by simp [he])
   simp only [len_app] at this
   simp only [len_snoc,List.append_assoc,List.cons_append,List.nil_append] at this
   have hdl:done.length<=1073741823:=by omega
   have hbr:=binds_range k pre.length
   rw [L_ref13_open_0,awL_eq,openTs]
   simp only [↓reduceIte,go_sem,binds13_ok,wrap64 (n:=f+binds k pre.length) (by omega) (by omega),ih x (by simp) (hl.all x (by simp)) (v+binds k pre.length) (d - 1) (f+binds k pre.length) (rightTs_mid hks) (by omega) (by omega) (by omega),nat_wrap (n:=pre.length) (by omega),hdl,this]
 have l0:=fun n' =>loop n' ks [] [] rfl rfl
 simp only [List.length_nil,Int.natCast_zero,List.nil_append,Te.css,Te.cs] at l0
 have hL:=fun h1 =>lift13_ok p m f ⟨h1,by omega⟩ u huk vu du 0 hu hdu hvu (by omega)
 rw [f_ref13_open,openT]
 by_cases h1:k=1
 ·subst h1
  obtain ⟨h2,h3,h4⟩:=named_var hn
  by_cases h5:n=f
  ·simp only [↓reduceIte,go_sem,Te.cs,h5,hL hf.1,and_self]
  ·simp only [↓reduceIte,go_sem,Te.cs,wrap64 (n:=n - 1) (by omega) (by omega),l0,h5]
   split <;> simp_all
 ·simp only [↓reduceIte,go_sem,Te.cs,h1,l0,false_and]
end Go.Ab
end
section
set_option linter.unusedVariables false
set_option linter.unusedSimpArgs false
set_option maxRecDepth 100000
set_option maxHeartbeats 2000000
namespace Go.Ab
open Go.RowKit Go.Proofs
def zeroT:Te:=.mk 0 0 [] []
theorem shape_inv {t:Te} (h:ShapeB t=true):rightT 5 10 t 1000 30=true:=by
 unfold ShapeB RightT at h
 simp at h
 exact h.2
def toldT (t:Te):Te × Int:=if ShapeB t=true then (t,0) else (zeroT,2)
abbrev resT (x:Te × Int):AV:=.tup [.agg x.1.cs,.int .i64 x.2]
def LiftS (t:Te) (f b:Int):Te × Int:=if ShapeB t=false\/f<0\/1000<f\/b<0\/1000<b then (zeroT,1) else toldT (liftT b t f)
def OpenS (t u:Te):Te × Int:=if ShapeB t=false\/ShapeB u=false then (zeroT,1) else toldT (openT u t 0)
theorem Lift13_ok (t:Te) (hl:t.ok) (f b:Int) (H:List AO):F ref13_Lift [.agg t.cs,.int .i64 f,.int .i64 b] H=some (.ret (resT (LiftS t f b)),H):=by
 rw [f_ref13_Lift,LiftS]
 by_cases h:ShapeB t=false\/f<0\/1000<f\/b<0\/1000<b
 ·simp only [h,↓reduceIte]
  by_cases h1:ShapeB t=true
  ·simp [h1] at h
   by_cases h2:f<0
   ·simp only [↓reduceIte,go_sem,Shape13_ok t hl,h1,h2,resT,zeroT,Te.cs,Lv.css,Te.css]
   by_cases h3:1000<f
   ·simp only [↓reduceIte,go_sem,Shape13_ok t hl,h1,h2,h3,resT,zeroT,Te.cs,Lv.css,Te.css]
   by_cases h4:b<0
   ·simp only [↓reduceIte,go_sem,Shape13_ok t hl,h1,h2,h3,h4,resT,zeroT,Te.cs,Lv.css,Te.css]
   have h5:1000<b:=by omega
   simp only [↓reduceIte,go_sem,Shape13_ok t hl,h1,h2,h3,h4,h5,resT,zeroT,Te.cs,Lv.css,Te.css]
  ·simp only [Bool.not_eq_true] at h1
   simp only [↓reduceIte,go_sem,Shape13_ok t hl,h1,resT,zeroT,Te.cs,Lv.css,Te.css]
 ·simp only [h,↓reduceIte]
  simp at h
  have hs:=shape_inv h.1
  have h2:¬ f<0:=by omega
  have h3:¬ 1000<f:=by omega
  have h4:¬ b<0:=by omega
  have h5:¬ 1000<b:=by omega
  have hL:=lift13_ok 5 10 b (by omega) t hl 1000 30 f hs (by omega) (by omega) (by omega)
  have ho:=Shape13_ok _ (lift_ok b t hl f)
  unfold toldT resT
  simp only [↓reduceIte,go_sem,Shape13_ok t hl,h.1,h2,h3,h4,h5,hL,ho,resT,zeroT,Te.cs,Lv.css,Te.css]
  cases ShapeB (liftT b t f) <;> simp [Te.cs,Lv.css,Te.css]
theorem Open13_ok (t u:Te) (hl:t.ok) (hu:u.ok) (H:List AO):F ref13_Open [.agg t.cs,.agg u.cs] H=some (.ret (resT (OpenS t u)),H):=by
 rw [f_ref13_Open,OpenS]
 by_cases h:ShapeB t=false\/ShapeB u=false
 ·simp only [h,↓reduceIte]
  cases h1:ShapeB t with
  | true =>
   have h2:ShapeB u=false:=by simpa [h1] using h
   simp only [↓reduceIte,go_sem,Shape13_ok t hl,Shape13_ok u hu,h1,h2,resT,zeroT,Te.cs,Lv.css,Te.css]
  | false =>simp only [↓reduceIte,go_sem,Shape13_ok t hl,h1,resT,zeroT,Te.cs,Lv.css,Te.css]
 ·simp only [h,↓reduceIte]
  simp at h
  have hO:=open13_ok 5 10 u hu 1000 30 (shape_inv h.2) (by omega) (by omega) t hl 1000 30 0 (shape_inv h.1) (by omega) (by omega) (by omega)
  have ho:=Shape13_ok _ (open_ok u hu t hl 0)
  unfold toldT resT
  simp only [↓reduceIte,go_sem,Shape13_ok t hl,Shape13_ok u hu,h.1,h.2,hO,ho,resT,zeroT,Te.cs,Lv.css,Te.css]
  cases ShapeB (openT u t 0) <;> simp [Te.cs,Lv.css,Te.css]
end Go.Ab
end
section
set_option linter.unusedVariables false
set_option linter.unusedSimpArgs false
set_option maxRecDepth 100000
set_option maxHeartbeats 2000000
namespace Go.Ab
open Go.RowKit Go.Proofs
def shapesV:List (AV × AV):=[(.int .i64 1,.agg [.int .i64 0,.int .i64 (-1)]),(.int .i64 2,.agg [.int .i64 0,.int .i64 (-1)]),(.int .i64 3,.agg [.int .i64 0,.int .i64 (-1)]),(.int .i64 4,.agg [.int .i64 2,.int .i64 (-1)]),
 (.int .i64 5,.agg [.int .i64 2,.int .i64 1]),(.int .i64 6,.agg [.int .i64 2,.int .i64 1]),(.int .i64 7,.agg [.int .i64 3,.int .i64 2])]
theorem shapes_ok (H:List AO):F term_shapes [] H=some (.ret (.fmap shapesV),H):=by
 rw [f_term_shapes]
 simp only [↓reduceIte,go_sem,keysI,findI,shapesV]
def belowI (k:Int):Int:=if k=5\/k=6 then 1 else if k=7 then 2 else -1
theorem shapes_keys:keysI .i64 shapesV=true:=rfl
theorem shapes_find (k:Int) (h:1<=k/\k<=7):findI k shapesV=some (some (.agg [.int .i64 (kids13 k),.int .i64 (belowI k)])):=by
 have:k=1\/k=2\/k=3\/k=4\/k=5\/k=6\/k=7:=by omega
 rcases this with rfl | rfl | rfl | rfl | rfl | rfl | rfl <;> rfl
theorem shapes_none (k:Int) (h:¬ (1<=k/\k<=7)):findI k shapesV=some none:=by
 simp only [findI,shapesV]
 repeat' split
 all_goals first | omega | rfl
theorem kids13_none (k:Int) (h:¬ (1<=k/\k<=7)):kids13 k = -1:=by
 unfold kids13; grind
theorem kids13_some {k:Int} (h:0<=kids13 k):1<=k/\k<=7:=by
 unfold kids13 at h; grind
theorem belowI_binds (k i:Int) (hi:0<=i):(if belowI k=i then (1:Int) else 0)=binds k i:=by
 unfold belowI binds; grind
theorem below_ok (k n:Int) (ls:List Lv) (ks:List Te) (i:Int) (hk:1<=k/\k<=7) (hi:0<=i) (H:List AO):F term_below [.agg [.int .i64 k,.int .i64 n,.sl (Lv.css ls),.sl (Te.css ks)],.int .i64 i] H=some (.ret (.int .i64 (binds k i)),H):=by
 rw [f_term_below,<- belowI_binds k i hi]
 simp only [↓reduceIte,go_sem,shapes_ok,shapes_keys,shapes_find k hk]
 split <;> simp_all
theorem below_ok' (k n:Int) (ls:List Lv) (ks:List Te) (i:Int) (hk:0<=kids13 k) (hi:0<=i) (H:List AO):F term_below [.agg [.int .i64 k,.int .i64 n,.sl (Lv.css ls),.sl (Te.css ks)],.int .i64 i] H=some (.ret (.int .i64 (binds k i)),H) :=
 below_ok k n ls ks i (kids13_some hk) hi H
theorem namedT_ok (v p m k n:Int) (ls:List Lv) (ks:List Te) (H:List AO):F term_room_named [.agg [.int .i64 v,.int .i64 p,.int .i64 m],.agg [.int .i64 k,.int .i64 n,.sl (Lv.css ls),.sl (Te.css ks)]] H=some (.ret (.bool (namedB k n ls v)),H):=by
 rw [f_term_room_named]
 simp only [↓reduceIte,go_sem,namedB]
 repeat' split
 all_goals (simp_all; try omega)
theorem rightTP_ok (p m:Int) (t:Te):t.ok -> ∀ (v d:Int),0<=d/\d<=1000->0<=v/\v+d<=1000000 -> ∀ (H:List AO),F term_room_right [.agg [.int .i64 v,.int .i64 p,.int .i64 m],.agg t.cs,.int .i64 d] H=some (.ret (.bool (rightT p m t v d)),H):=by
 induction t using Te.ind with
 | h k n ls ks ih =>
 intro hl v d hd hv H
 have hlen:=hl.len
 have hc:F slices_ContainsFunc_Level [.sl (Lv.css ls),.fn (.func term_room_right_1) [] [.ptr H.length 0]] (H++[.box [.int .i64 v,.int .i64 p,.int .i64 m]])=some (.ret (.bool (ls.any fun x =>!RightB x p m)),H++[.box [.int .i64 v,.int .i64 p,.int .i64 m]]):=by
  refine anyL_ok ls hl.len2 _ _ _ fun x hx =>?_
  simp only [↓reduceIte,go_sem,f_term_room_right_1,RightP_ok x (hl.all2 x hx)]
 rw [<- List.not_all_eq_any_not] at hc
 have loop:0<=kids13 k -> ¬ d<1 -> ∀ (suf pre:List Te),ks=pre++suf ->
   L_term_room_right_0 H (H++[.box [.int .i64 v,.int .i64 p,.int .i64 m]]) (.int .i64 d) (.ptr H.length 0) (.sl (Te.css ks)) (.int .i64 ks.length) (.int .i64 pre.length) [.int .i64 k,.int .i64 n,.sl (Lv.css ls),.sl (Te.css ks)]=some (.ret (.bool (rightTs p m k suf pre.length v (d - 1))),H):=by
  intro hk0 hd1 suf
  induction suf with
  | nil =>
   intro pre e
   subst e
   rw [L_term_room_right_0,awL_eq]
   simp only [↓reduceIte,go_sem,rightTs]
  | cons x suf ih2 =>
   intro pre e
   subst e
   simp at hlen
   have:=ih2 (pre++[x]) (by simp)
   simp only [len_app] at this
   have hb:=binds_range k pre.length
   rw [L_term_room_right_0,awL_eq,rightTs]
   simp only [↓reduceIte,go_sem,below_ok' k n ls _ pre.length hk0 (by omega),wrap64 (n:=d - 1) (by omega) (by omega),wrap64 (n:=v+binds k pre.length) (by omega) (by omega),ih x (by simp) (hl.all x (by simp)) (v+binds k pre.length) (d - 1) (by omega) (by omega),nat_wrap (n:=pre.length) (by omega),this]
   cases rightT p m x (v+binds k pre.length) (d - 1) <;> simp
 have:=fun h0 h1 =>loop h0 h1 ks [] rfl
 simp only [List.length_nil,Int.natCast_zero] at this
 rw [f_term_room_right,rightT]
 by_cases hk:1<=k/\k<=7
 ·by_cases hd0:d=0
  ·subst hd0
   simp only [↓reduceIte,go_sem,Te.cs,shapes_ok,shapes_keys,shapes_find k hk,show (0:Int)<1 from by decide]
  ·have hd1:¬ d<1:=by omega
   by_cases hkl:(ks.length:Int)=kids13 k
   ·simp only [↓reduceIte,go_sem,Te.cs,shapes_ok,shapes_keys,shapes_find k hk,hd0,hd1,hkl,namedT_ok,hc]
    rw [<- hkl,this (by omega) hd1]
    cases namedB k n ls v <;> cases (ls.all fun x =>RightB x p m) <;> simp
   ·simp only [↓reduceIte,go_sem,Te.cs,shapes_ok,shapes_keys,shapes_find k hk,hd0,hd1,hkl]
    simp [hkl]
 ·simp only [↓reduceIte,go_sem,Te.cs,shapes_ok,shapes_keys,shapes_none k hk]
  have:¬ (ks.length:Int)=kids13 k:=by rw [kids13_none k hk]; omega
  simp [this]
theorem fits_ok (t:Te) (hl:t.ok) (v p m:Int) (hv:0<=v/\v<=1000) (H:List AO):F term_room_fits [.agg [.int .i64 v,.int .i64 p,.int .i64 m],.agg t.cs] H=some (.ret (.bool (decide (parts t 601<=600) && rightT p m t v 30)),H):=by
 rw [f_term_room_fits]
 simp only [↓reduceIte,go_sem,partsP_ok t hl 601 (by omega),rightTP_ok p m t hl v 30 (by omega) (by omega)]
 grind
theorem all_ok (H:List AO):F term_all [] H=some (.ret (.agg [.int .i64 1000,.int .i64 5,.int .i64 10]),H):=by
 rw [f_term_all]
 simp only [↓reduceIte,go_sem]
theorem shape_fits (t:Te):(decide (parts t 601<=600) && rightT 5 10 t 1000 30)=ShapeB t:=by simp [ShapeB,RightT]
theorem RightTP_ok (t:Te) (hl:t.ok) (v p m:Int) (H:List AO):F term_Right [.agg t.cs,.int .i64 v,.int .i64 p,.int .i64 m] H=some (.ret (.bool (RightT t v p m)),H):=by
 rw [f_term_Right,RightT]
 by_cases h1:v<0
 ·simp only [↓reduceIte,go_sem,h1]
  simp; omega
 by_cases h2:1000<v
 ·simp only [↓reduceIte,go_sem,h1,h2]
  simp; omega
 simp only [↓reduceIte,go_sem,h1,h2,fits_ok t hl v p m (by omega)]
 have h3:0<=v:=by omega
 have h4:v<=1000:=by omega
 simp only [h3,h4,decide_true,Bool.true_and]
 by_cases h5:p<0
 ·simp [h5]; omega
 by_cases h6:5<p
 ·simp [h5,h6]; omega
 by_cases h7:m<0
 ·simp [h5,h6,h7]; omega
 by_cases h8:10<m
 ·simp [h5,h6,h7,h8]; omega
 simp [h5,h6,h7,h8]
 simp [show 0<=p by omega,show p<=5 by omega,show 0<=m by omega,show m<=10 by omega]
mutual
def turnT (g:Int->Int->Te):Te->Int->Te
 | .mk k n ls ks,f =>if k=1 then g n f else .mk k n ls (turnTs g k ks 0 f)
def turnTs (g:Int->Int->Te) (k:Int):List Te->Int->Int->List Te
 | [],_,_ =>[]
 | x::r,i,f =>turnT g x (f+binds k i)::turnTs g k r (i+1) f
end
def Good (fv:AV) (g:Int->Int->Te) (B:Int) (H:List AO):Prop:=∀ (X:List AO) (n f:Int),0<=n/\n<=B->0<=f/\f<=B->cfl T fv [.int .i64 n,.int .i64 f] (H++X)=some (.ret (.agg (g n f).cs),H++X)
theorem Good.ext {fv:AV} {g:Int->Int->Te} {B:Int} {H:List AO} (h:Good fv g B H) (Y:List AO):Good fv g B (H++Y):=fun X n f hn hf =>by rw [List.append_assoc]; exact h (Y++X) n f hn hf
theorem turn_ok (p m:Int) (fv:AV) (hfv:fv.one=true) (g:Int->Int->Te) (B:Int) (t:Te):t.ok -> ∀ (v d f:Int),rightT p m t v d=true->d<=1000->0<=v/\v+d<=B+1->0<=f/\f+d<=B+1->B<=1000000 -> ∀ (H:List AO),Good fv g B H ->
  F term_turn [.agg t.cs,.int .i64 f,fv] H=some (.ret (.agg (turnT g t f).cs),H):=by
 induction t using Te.ind with
 | h k n ls ks ih =>
 intro hl v d f hr hd hv hf hB H hg
 obtain ⟨hd1,hk,hls,hn,hks⟩:=rightT_inv hr
 have hk3:=kids13_le k
 have loop:∀ (suf pre done:List Te),ks=pre++suf->done.length=pre.length ->
   L_term_turn_0 H (H++[.lst 0 3 [],.lst 0 4 [],.lst 0 3 [],.lst done.length 4 (Te.css done),.lst 0 3 [],.lst 0 4 []]) (.int .i64 f) fv (.sl (Te.css ks)) (.int .i64 ks.length) (.int .i64 pre.length) [.int .i64 k,.int .i64 n,.sl (Lv.css ls),.sl (Te.css ks)]
    [.int .i64 0,.int .i64 0,.ol H.length 0,.ol (H.length+1) 0] [.int .i64 k,.int .i64 n,.sl (Lv.css ls),.ol (H.length+3) done.length]=some (.ret (.agg (Te.mk k n ls (done++turnTs g k suf pre.length f)).cs),H):=by
  intro suf
  induction suf with
  | nil =>
   intro pre done e he
   subst e
   rw [L_term_turn_0,awL_eq]
   simp only [↓reduceIte,go_sem,turnTs,Te.cs]
  | cons x suf ih2 =>
   intro pre done e he
   subst e
   simp at hk
   have:=ih2 (pre++[x]) (done++[turnT g x (f+binds k pre.length)]) (by simp) (by simp [he])
   simp only [len_app] at this
   simp only [len_snoc,List.append_assoc,List.cons_append,List.nil_append] at this
   have hdl:done.length<=1073741823:=by omega
   have hbr:=binds_range k pre.length
   rw [L_term_turn_0,awL_eq,turnTs]
   simp only [↓reduceIte,go_sem,below_ok' k n ls _ pre.length (by omega) (by omega),wrap64 (n:=f+binds k pre.length) (by omega) (by omega),ih x (by simp) (hl.all x (by simp)) (v+binds k pre.length) (d - 1) (f+binds k pre.length) (rightTs_mid hks) (by omega) (by omega) (by omega) hB _ (hg.ext _),nat_wrap (n:=pre.length) (by omega),hdl,this]
 have l0:=loop ks [] [] rfl rfl
 simp only [List.length_nil,Int.natCast_zero,List.nil_append,Te.css,Te.cs] at l0
 rw [f_term_turn,turnT]
 by_cases h1:k=1
 ·subst h1
  obtain ⟨h2,h3,h4⟩:=named_var hn
  have:=hg [.lst 0 3 [],.lst 0 4 []] n f (by omega) (by omega)
  simp only [↓reduceIte,go_sem,Te.cs,this]
 ·simp only [↓reduceIte,go_sem,Te.cs,h1,l0]
theorem variable_ok (n:Int) (H:List AO):F term_variable [.int .i64 n] H=some (.ret (.agg (Te.mk 1 n [] []).cs),H):=by
 rw [f_term_variable]
 simp only [↓reduceIte,go_sem,Te.cs,Lv.css,Te.css]
def liftG (f b:Int) (n d:Int):Te:=.mk 1 (if f+d<=n then n+b else n) [] []
mutual
theorem turn_lift (p m f b:Int):∀ (t:Te) (v d δ:Int),rightT p m t v d=true->turnT (liftG f b) t δ=liftT b t (f+δ)
 | .mk k n ls ks,v,d,δ,h =>by
  obtain ⟨hd1,hk,hls,hn,hks⟩:=rightT_inv h
  rw [turnT,liftT]
  by_cases h1:k=1
  ·subst h1
   obtain ⟨h2,h3,h4⟩:=named_var hn
   have:ks=[]:=List.eq_nil_of_length_eq_zero (by simp [kids13] at hk; simp [hk])
   subst this
   subst h4
   simp [liftG,liftTs]
  ·rw [if_neg h1,turn_lifts p m f b k ks 0 v (d - 1) δ hks]
   simp [h1]
theorem turn_lifts (p m f b k:Int):∀ (ks:List Te) (i v d δ:Int),rightTs p m k ks i v d=true->turnTs (liftG f b) k ks i δ=liftTs b k ks i (f+δ)
 | [],i,v,d,δ,h =>rfl
 | x::r,i,v,d,δ,h =>by
  rw [rightTs,Bool.and_eq_true] at h
  rw [turnTs,liftTs,turn_lift p m f b x _ _ _ h.1,turn_lifts p m f b k r _ _ _ _ h.2,Int.add_assoc]
end
theorem liftP_ok (p m:Int) (t:Te) (hl:t.ok) (v d f b:Int) (hr:rightT p m t v d=true) (hd:d<=1000) (hv:0<=v/\v+d<=100000) (hf:0<=f/\f<=100000) (hb:0<=b/\b<=100000) (H:List AO) :
  F term_lift [.agg t.cs,.int .i64 f,.int .i64 b] H=some (.ret (.agg (liftT b t f).cs),H):=by
 have hg:Good (.fn (.func term_lift_1) [] [.ptr H.length 0,.ptr (H.length+1) 0]) (liftG f b) 100000 (H++[.box [.int .i64 f],.box [.int .i64 b]]):=by
  intro X n δ hn hδ
  simp only [cfl_f1,List.cons_append,List.nil_append,f_term_lift_1,List.append_assoc]
  have e:((H++AO.box [.int .i64 f]::AO.box [.int .i64 b]::X)[H.length+1]?)=some (.box [.int .i64 b]):=by rw [app_getN]; rfl
  have e0:((H++AO.box [.int .i64 f]::AO.box [.int .i64 b]::X)[H.length]?)=some (.box [.int .i64 f]):=by rw [app_get0]; rfl
  generalize H++AO.box [.int .i64 f]::AO.box [.int .i64 b]::X=H' at *
  unfold liftG
  simp only [↓reduceIte,go_sem,e,e0,variable_ok,wrap64 (n:=f+δ) (by omega) (by omega),wrap64 (n:=n+b) (by omega) (by omega)]
  split <;> simp_all
 have:=turn_ok p m (.fn (.func term_lift_1) [] [.ptr H.length 0,.ptr (H.length+1) 0]) rfl (liftG f b) 100000 t hl v d 0 hr hd (by omega) (by omega) (by omega) _ hg
 rw [turn_lift p m f b t v d 0 hr,Int.add_zero] at this
 rw [f_term_lift]
 simp only [↓reduceIte,go_sem,this]
def openG (u:Te) (n d:Int):Te:=if n=d then liftT d u 0 else if d<n then .mk 1 (n - 1) [] [] else .mk 1 n [] []
mutual
theorem turn_open (p m:Int) (u:Te):∀ (t:Te) (v d δ:Int),rightT p m t v d=true->turnT (openG u) t δ=openT u t δ
 | .mk k n ls ks,v,d,δ,h =>by
  obtain ⟨hd1,hk,hls,hn,hks⟩:=rightT_inv h
  rw [turnT,openT]
  by_cases h1:k=1
  ·subst h1
   obtain ⟨h2,h3,h4⟩:=named_var hn
   have:ks=[]:=List.eq_nil_of_length_eq_zero (by simp [kids13] at hk; simp [hk])
   subst this
   subst h4
   simp [openG,openTs]
   by_cases h5:n=δ
   ·simp [h5]
   ·simp [h5]
    split <;> rfl
  ·rw [if_neg h1,turn_opens p m u k ks 0 v (d - 1) δ hks]
   simp [h1]
theorem turn_opens (p m:Int) (u:Te) (k:Int):∀ (ks:List Te) (i v d δ:Int),rightTs p m k ks i v d=true->turnTs (openG u) k ks i δ=openTs u k ks i δ
 | [],i,v,d,δ,h =>rfl
 | x::r,i,v,d,δ,h =>by
  rw [rightTs,Bool.and_eq_true] at h
  rw [turnTs,openTs,turn_open p m u x _ _ _ h.1,turn_opens p m u k r _ _ _ _ h.2]
end
theorem told_ok (t:Te) (hl:t.ok) (H:List AO):F term_told [.agg t.cs] H=some (.ret (resT (toldT t)),H):=by
 rw [f_term_told,toldT]
 simp only [↓reduceIte,go_sem,all_ok,fits_ok t hl 1000 5 10 (by omega),shape_fits,resT,zeroT,Te.cs,Lv.css,Te.css]
 cases ShapeB t <;> simp [Te.cs,Lv.css,Te.css]
theorem LiftP_ok (t:Te) (hl:t.ok) (f b:Int) (H:List AO):F term_Lift [.agg t.cs,.int .i64 f,.int .i64 b] H=some (.ret (resT (LiftS t f b)),H):=by
 rw [f_term_Lift,LiftS]
 by_cases h:ShapeB t=false\/f<0\/1000<f\/b<0\/1000<b
 ·simp only [h,↓reduceIte]
  by_cases h1:ShapeB t=true
  ·simp [h1] at h
   by_cases h2:f<0
   ·simp only [↓reduceIte,go_sem,all_ok,fits_ok t hl 1000 5 10 (by omega),shape_fits,h1,h2,resT,zeroT,Te.cs,Lv.css,Te.css]
   by_cases h3:1000<f
   ·simp only [↓reduceIte,go_sem,all_ok,fits_ok t hl 1000 5 10 (by omega),shape_fits,h1,h2,h3,resT,zeroT,Te.cs,Lv.css,Te.css]
   by_cases h4:b<0
   ·simp only [↓reduceIte,go_sem,all_ok,fits_ok t hl 1000 5 10 (by omega),shape_fits,h1,h2,h3,h4,resT,zeroT,Te.cs,Lv.css,Te.css]
   have h5:1000<b:=by omega
   simp only [↓reduceIte,go_sem,all_ok,fits_ok t hl 1000 5 10 (by omega),shape_fits,h1,h2,h3,h4,h5,resT,zeroT,Te.cs,Lv.css,Te.css]
  ·simp only [Bool.not_eq_true] at h1
   simp only [↓reduceIte,go_sem,all_ok,fits_ok t hl 1000 5 10 (by omega),shape_fits,h1,resT,zeroT,Te.cs,Lv.css,Te.css]
 ·simp only [h,↓reduceIte]
  simp at h
  have h2:¬ f<0:=by omega
  have h3:¬ 1000<f:=by omega
  have h4:¬ b<0:=by omega
  have h5:¬ 1000<b:=by omega
  have hL:=liftP_ok 5 10 t hl 1000 30 f b (shape_inv h.1) (by omega) (by omega) (by omega) (by omega)
  simp only [↓reduceIte,go_sem,all_ok,fits_ok t hl 1000 5 10 (by omega),shape_fits,h.1,h2,h3,h4,h5,hL,told_ok _ (lift_ok b t hl f)]
theorem OpenP_ok (t u:Te) (hl:t.ok) (hu:u.ok) (H:List AO):F term_Open [.agg t.cs,.agg u.cs] H=some (.ret (resT (OpenS t u)),H):=by
 rw [f_term_Open,OpenS]
 by_cases h:ShapeB t=false\/ShapeB u=false
 ·simp only [h,↓reduceIte]
  cases h1:ShapeB t with
  | true =>
   have h2:ShapeB u=false:=by simpa [h1] using h
   simp only [↓reduceIte,go_sem,all_ok,fits_ok t hl 1000 5 10 (by omega),fits_ok u hu 1000 5 10 (by omega),shape_fits,h1,h2,resT,zeroT,Te.cs,Lv.css,Te.css]
  | false =>simp only [↓reduceIte,go_sem,all_ok,fits_ok t hl 1000 5 10 (by omega),shape_fits,h1,resT,zeroT,Te.cs,Lv.css,Te.css]
 ·simp only [h,↓reduceIte]
  simp at h
  have hsu:=shape_inv h.2
  have hg:Good (.fn (.func term_Open_1) [] [.ptr H.length 0]) (openG u) 2000 (H++[.box u.cs]):=by
   intro X n δ hn hδ
   simp only [cfl_f1,List.cons_append,List.nil_append,f_term_Open_1,List.append_assoc]
   have e0:((H++AO.box u.cs::X)[H.length]?)=some (.box u.cs):=by rw [app_get0]; rfl
   generalize H++AO.box u.cs::X=H' at *
   have hL:=fun f hf =>liftP_ok 5 10 u hu 1000 30 0 f hsu (by omega) (by omega) (by omega) hf
   unfold openG
   by_cases h5:n=δ
   ·subst h5
    simp only [↓reduceIte,go_sem,e0,hL n (by omega)]
   ·by_cases h6:δ<n
    ·simp only [↓reduceIte,go_sem,e0,h5,h6,wrap64 (n:=n - 1) (by omega) (by omega),variable_ok]
    ·simp only [↓reduceIte,go_sem,e0,h5,h6,variable_ok]
  have hT:=turn_ok 5 10 (.fn (.func term_Open_1) [] [.ptr H.length 0]) rfl (openG u) 2000 t hl 1000 30 0 (shape_inv h.1) (by omega) (by omega) (by omega) (by omega) _ hg
  rw [turn_open 5 10 u t 1000 30 0 (shape_inv h.1)] at hT
  simp only [↓reduceIte,go_sem,all_ok,fits_ok t hl 1000 5 10 (by omega),fits_ok u hu 1000 5 10 (by omega),shape_fits,h.1,h.2,hT,told_ok _ (open_ok u hu t hl 0)]
theorem eqT_ok (a b:List Te) (hlen:a.length<=140737488355328) (f:AV) (H:List AO) (hf:∀ x∈a,∀ y,cfl T f [.agg x.cs,.agg y.cs] H=some (.ret (.bool (teEq x y)),H)) :
  F slices_EqualFunc_Term [.sl (Te.css a),.sl (Te.css b),f] H=some (.ret (.bool (tesEq a b)),H):=by
 have loop:a.length=b.length -> ∀ (suf pre suf' pre':List Te),a=pre++suf->b=pre' ++ suf' -> pre.length=pre'.length ->
   L_slices_EqualFunc_Term_0 H H (.sl (Te.css b)) f (.sl (Te.css a)) (.int .i64 a.length) (.int .i64 pre.length)=some (.ret (.bool (tesEq suf suf')),H):=by
  intro hll suf
  induction suf with
  | nil =>
   intro pre suf' pre' e e' he
   subst e
   subst e'
   have:suf' = []:=List.eq_nil_of_length_eq_zero (by simp at hll; omega)
   subst this
   rw [L_slices_EqualFunc_Term_0,awL_eq]
   simp only [↓reduceIte,go_sem,tesEq]
  | cons x suf ih2 =>
   intro pre suf' pre' e e' he
   subst e
   subst e'
   simp at hlen
   cases suf' with
   | nil =>simp at hll; omega
   | cons y suf' =>
   have hy:(pre' ++ y::suf')[pre.length]? = some y:=by rw [he]; simp
   have:=ih2 (pre++[x]) suf' (pre' ++ [y]) (by simp) (by simp) (by simp [he])
   simp only [len_app] at this
   rw [L_slices_EqualFunc_Term_0,awL_eq,tesEq]
   simp only [↓reduceIte,go_sem,hy,hf x (by simp) y,nat_wrap (n:=pre.length) (by omega),this]
   cases teEq x y <;> simp
 rw [f_slices_EqualFunc_Term]
 by_cases h3:a.length=b.length
 ·have:=loop h3 a [] b [] rfl rfl rfl
  simp only [List.length_nil,Int.natCast_zero] at this
  have h3':(a.length:Int)=b.length:=by omega
  simp only [↓reduceIte,go_sem,h3',not_true_eq_false]
  rw [<- h3',this]
 ·have h3':¬ (a.length:Int)=(b.length:Int):=by omega
  simp only [↓reduceIte,go_sem,h3',tesEq_len h3]
theorem sameTP_ok (a:Te):a.ok -> ∀ (b:Te) (H:List AO),F term_Same [.agg a.cs,.agg b.cs] H=some (.ret (.bool (teEq a b)),H):=by
 induction a using Te.ind with
 | h k n ls ks ih =>
 intro hl b H
 obtain ⟨k',n',ls',ks'⟩:=b
 have h1:=eqL_ok ls ls' hl.len2 (.fn (.func level_Same) [] []) H (fun x hx y =>sameP_ok x (hl.all2 x hx) y H)
 have h2:=eqT_ok ks ks' hl.len (.fn (.func term_Same) [] []) H (fun x hx y =>ih x hx (hl.all x hx) y H)
 rw [f_term_Same,teEq]
 simp only [↓reduceIte,go_sem,Te.cs,h1,h2]
 grind
end Go.Ab
end
section
set_option linter.unusedVariables false
set_option linter.unusedSimpArgs false
set_option maxRecDepth 100000
set_option maxHeartbeats 2000000
namespace Go.Ab
open Go.RowKit Go.Proofs
def mxE (a b:Int):Int:=if b > a then b else a
mutual
def subT (ps ms:List Lv):Te->Te
 | .mk k n ls ks =>.mk k n (ls.map fun l =>(SubS l ps ms).1) (subTs ps ms ks)
def subTs (ps ms:List Lv):List Te->List Te
 | [] =>[]
 | x::r =>subT ps ms x::subTs ps ms r
end
mutual
def errT (ps ms:List Lv):Te->Int->Int
 | .mk _ _ ls ks,e =>errTs ps ms ks (errLs ps ms ls e)
def errTs (ps ms:List Lv):List Te->Int->Int
 | [],e =>e
 | x::r,e =>errTs ps ms r (errT ps ms x e)
def errLs (ps ms:List Lv):List Lv->Int->Int
 | [],e =>e
 | l::r,e =>errLs ps ms r (mxE e (SubS l ps ms).2)
end
mutual
def okTm (ps ms:List Lv):Te->Bool
 | .mk _ _ ls ks =>(ls.all fun l =>decide ((SubS l ps ms).2=0)) && okTms ps ms ks
def okTms (ps ms:List Lv):List Te->Bool
 | [] =>true
 | x::r =>okTm ps ms x && okTms ps ms r
end
theorem SubS_err (l:Lv) (ps ms:List Lv):(SubS l ps ms).2=0\/(SubS l ps ms).2=1\/(SubS l ps ms).2=2:=by
 unfold SubS; split
 ·simp
 ·split <;> simp
theorem errLs_zero (ps ms:List Lv):∀ (ls:List Lv) (e:Int),0<=e->(0<=errLs ps ms ls e/\(errLs ps ms ls e=0 ↔ e=0/\(ls.all fun l =>decide ((SubS l ps ms).2=0))=true))
 | [],e,h =>by simp [errLs,h]
 | l::r,e,h =>by
  have hs:=SubS_err l ps ms
  have hm:0<=mxE e (SubS l ps ms).2:=by unfold mxE; split <;> omega
  have hz:mxE e (SubS l ps ms).2=0 ↔ e=0/\(SubS l ps ms).2=0:=by unfold mxE; split <;> omega
  have:=errLs_zero ps ms r _ hm
  rw [errLs]
  refine ⟨this.1,?_⟩
  rw [this.2,hz]
  simp [and_assoc]
mutual
theorem errT_zero (ps ms:List Lv):∀ (t:Te) (e:Int),0<=e->(0<=errT ps ms t e/\(errT ps ms t e=0 ↔ e=0/\okTm ps ms t=true))
 | .mk k n ls ks,e,h =>by
  have h1:=errLs_zero ps ms ls e h
  have h2:=errTs_zero ps ms ks _ h1.1
  rw [errT,okTm]
  refine ⟨h2.1,?_⟩
  rw [h2.2,h1.2,Bool.and_eq_true,and_assoc]
theorem errTs_zero (ps ms:List Lv):∀ (ks:List Te) (e:Int),0<=e->(0<=errTs ps ms ks e/\(errTs ps ms ks e=0 ↔ e=0/\okTms ps ms ks=true))
 | [],e,h =>by simp [errTs,okTms,h]
 | x::r,e,h =>by
  have h1:=errT_zero ps ms x e h
  have h2:=errTs_zero ps ms r _ h1.1
  rw [errTs,okTms]
  refine ⟨h2.1,?_⟩
  rw [h2.2,h1.2,Bool.and_eq_true,and_assoc]
end
theorem SubS_ok' {l:Lv} {ps ms:List Lv} (hl:l.ok) (hp:okLs ps) (hm:okLs ms):(SubS l ps ms).1.ok:=by
 have hz:zeroL.ok:=.mk (by simp) (by intro x hx; cases hx)
 unfold SubS
 split
 ·exact hz
 ·split
  ·exact subL_ok hp hm l hl
  ·exact hz
theorem subTs_eq (ps ms:List Lv):∀ ks:List Te,subTs ps ms ks=ks.map (subT ps ms)
 | [] =>rfl
 | x::r =>by rw [subTs,subTs_eq ps ms r]; rfl
theorem subT_ok {ps ms:List Lv} (hp:okLs ps) (hm:okLs ms) (t:Te):t.ok->(subT ps ms t).ok:=by
 induction t using Te.ind with
 | h k n ls ks ih =>
 intro hl
 rw [subT,subTs_eq]
 refine .mk (by simpa using hl.len) (by simpa using hl.len2) (fun x hx =>?_) (fun x hx =>?_)
 ·obtain ⟨y,hy,rfl⟩:=List.mem_map.1 hx
  exact SubS_ok' (hl.all2 y hy) hp hm
 ·obtain ⟨y,hy,rfl⟩:=List.mem_map.1 hx
  exact ih y hy (hl.all y hy)
def TSubS (t:Te) (ps ms:List Lv):Te × Int :=
 if ShapeB t=false\/5<ps.length\/10<ms.length\/rightLs ps=false\/rightLs ms=false then (zeroT,1)
 else if okTm ps ms t=true then (subT ps ms t,0) else (zeroT,2)
theorem TSubS_ok {t:Te} {ps ms:List Lv} (ht:t.ok) (hp:okLs ps) (hm:okLs ms):(TSubS t ps ms).1.ok:=by
 have hz:zeroT.ok:=.mk (by simp) (by simp) (by intro x hx; cases hx) (by intro x hx; cases hx)
 unfold TSubS
 split
 ·exact hz
 ·split
  ·exact subT_ok hp hm t ht
  ·exact hz
open Classical in
theorem fin1F_mid1 {A X J:List AO} {o o':AO} {r:Res} (ho:LtO (A.length+(X.length+1)) o'):fin1F (A++(o::X)) r (A++(o' :: (X++J)))=if LtR (A++(o::X)).length r then some (r,A++(o' :: X)) else none:=by
 have e:A++(o' :: (X++J))=(A++(o::X)).set A.length o' ++ J:=by simp
 have hl:(A++(o::X)).length=A.length+(X.length+1):=by simp
 rw [e,fin1F_set (by rw [hl]; exact ho)]
 simp
open Classical in
theorem fin1F_mid0 {A X:List AO} {o o':AO} {r:Res} (ho:LtO (A.length+(X.length+1)) o'):fin1F (A++(o::X)) r (A++(o' :: X))=if LtR (A++(o::X)).length r then some (r,A++(o' :: X)) else none:=by
 have:=fin1F_mid1 (A:=A) (X:=X) (J:=[]) (o:=o) (o':=o') (r:=r) ho
 rwa [List.append_nil] at this
theorem putB_lt (n:Nat) (ps ms:List Lv) (e:Int):LtO n (.box [.sl (Lv.css ps),.sl (Lv.css ms),.int .i64 e]):=by
 intro a ha
 simp at ha
 rcases ha with rfl | rfl | rfl
 ·exact .sl fun a ha =>of_eq_true (lt_css n ps) a ha
 ·exact .sl fun a ha =>of_eq_true (lt_css n ms) a ha
 ·exact .int _ _
theorem putter_ok (ps ms:List Lv) (hp:okLs ps) (hm:okLs ms) (hpl:ps.length<=140737488355328) (hml:ms.length<=140737488355328) (p m:Int) (t:Te):t.ok -> ∀ (v d:Int),rightT p m t v d=true -> ∀ (A X:List AO) (e:Int),
  F tsub_putter_term [.ptr A.length 0,.agg t.cs] (A++(.box [.sl (Lv.css ps),.sl (Lv.css ms),.int .i64 e]::X))=some (.ret (.agg (subT ps ms t).cs),A++(.box [.sl (Lv.css ps),.sl (Lv.css ms),.int .i64 (errT ps ms t e)]::X)):=by
 induction t using Te.ind with
 | h k n ls ks ih =>
 intro hl v d hr A X e
 obtain ⟨hd1,hk,hls,hn,hks⟩:=rightT_inv hr
 have hk3:=kids13_le k
 have hl5:ls.length<=5:=by
  unfold namedB at hn
  split at hn
  ·simp at hn; simp [hn.2]
  ·split at hn
   ·simp at hn; omega
   ·split at hn
    ·simp at hn; exact hn.2
    ·simp at hn; simp [hn.2]
 have hf:=fun (o o':AO) r J (ho:LtO (A.length+(X.length+1)) o') =>fin1F_mid1 (A:=A) (X:=X) (J:=J) (o:=o) (o':=o') (r:=r) ho
 have loop1:∀ (suf pre done:List Te) (e':Int),ks=pre++suf->done.length=pre.length ->
   L_tsub_putter_term_1 (A++(.box [.sl (Lv.css ps),.sl (Lv.css ms),.int .i64 e]::X)) (A++(.box [.sl (Lv.css ps),.sl (Lv.css ms),.int .i64 e']::(X++[.lst 0 3 [],.lst 0 4 [],.lst ls.length 3 (Lv.css (ls.map fun l =>(SubS l ps ms).1)),.lst done.length 4 (Te.css done),.lst 0 3 [],.lst 0 4 []])))
    (.ptr A.length 0) (.sl (Te.css ks)) (.int .i64 ks.length) (.int .i64 pre.length) [.int .i64 0,.int .i64 0,.ol (A.length+(X.length+1)) 0,.ol (A.length+(X.length+2)) 0] [.int .i64 k,.int .i64 n,.ol (A.length+(X.length+3)) ls.length,.ol (A.length+(X.length+4)) done.length] =
   some (.ret (.agg (Te.mk k n (ls.map fun l =>(SubS l ps ms).1) (done++subTs ps ms suf)).cs),A++(.box [.sl (Lv.css ps),.sl (Lv.css ms),.int .i64 (errTs ps ms suf e')]::X)):=by
  intro suf
  induction suf with
  | nil =>
   intro pre done e' eq he
   subst eq
   rw [L_tsub_putter_term_1,awL_eq]
   simp only [↓reduceIte,go_sem,subTs,Te.cs,errTs,hf,putB_lt,Nat.add_le_add_iff_left,Nat.reduceLeDiff]
  | cons x suf ih2 =>
   intro pre done e' eq he
   subst eq
   simp at hk
   have:=ih2 (pre++[x]) (done++[subT ps ms x]) (errT ps ms x e') (by simp) (by simp [he])
   simp only [len_app] at this
   simp only [len_snoc,List.append_assoc,List.cons_append,List.nil_append] at this
   have hdl:done.length<=1073741823:=by omega
   rw [L_tsub_putter_term_1,awL_eq,subTs,errTs]
   simp only [↓reduceIte,go_sem,ih x (by simp) (hl.all x (by simp)) _ _ (rightTs_mid hks),nat_wrap (n:=pre.length) (by omega),hdl,this]
 have loop0:∀ (suf pre:List Lv) (e':Int),ls=pre++suf ->
   L_tsub_putter_term_0 (A++(.box [.sl (Lv.css ps),.sl (Lv.css ms),.int .i64 e]::X)) (A++(.box [.sl (Lv.css ps),.sl (Lv.css ms),.int .i64 e']::(X++[.lst 0 3 [],.lst 0 4 [],.lst pre.length 3 (Lv.css (pre.map fun l =>(SubS l ps ms).1)),.lst 0 4 [],.lst 0 3 [],.lst 0 4 []])))
    (.ptr A.length 0) (.sl (Lv.css ls)) (.int .i64 ls.length) (.int .i64 pre.length) [.int .i64 k,.int .i64 n,.sl (Lv.css ls),.sl (Te.css ks)] [.int .i64 0,.int .i64 0,.ol (A.length+(X.length+1)) 0,.ol (A.length+(X.length+2)) 0] [.int .i64 k,.int .i64 n,.ol (A.length+(X.length+3)) pre.length,.ol (A.length+(X.length+4)) 0] =
   some (.ret (.agg (Te.mk k n (ls.map fun l =>(SubS l ps ms).1) (subTs ps ms ks)).cs),A++(.box [.sl (Lv.css ps),.sl (Lv.css ms),.int .i64 (errTs ps ms ks (errLs ps ms suf e'))]::X)):=by
  intro suf
  induction suf with
  | nil =>
   intro pre e' eq
   subst eq
   rw [List.append_nil] at *
   have h1:=loop1 ks [] [] e' rfl rfl
   simp only [List.length_nil,Int.natCast_zero,List.nil_append,Te.css] at h1
   rw [L_tsub_putter_term_0,awL_eq]
   simp only [↓reduceIte,go_sem,errLs,h1]
  | cons l suf ih2 =>
   intro pre e' eq
   subst eq
   simp at hl5
   have:=ih2 (pre++[l]) (mxE e' (SubS l ps ms).2) (by simp)
   simp only [len_app] at this
   simp only [len_snoc,List.map_append,List.map_cons,List.map_nil] at this
   have hs:=fun H =>Sub_ok l ps ms (hl.all2 l (by simp)) hp hm hpl hml H
   simp only [resL] at hs
   rw [L_tsub_putter_term_0,awL_eq,errLs]
   simp only [↓reduceIte,go_sem,hs,nat_wrap (n:=pre.length) (by omega),css_snoc,List.length_map,show pre.length+(0+1)<=1073741824 by omega]
   unfold mxE at this ⊢
   rw [this]
   simp only [List.map_append,List.map_cons]
 have h0:=loop0 ls [] e rfl
 simp only [List.length_nil,Int.natCast_zero,List.map_nil,Lv.css] at h0
 rw [f_tsub_putter_term,subT,errT]
 simp only [↓reduceIte,go_sem,Te.cs]
 exact h0
theorem tsodd_ok (l:Lv) (hl:l.ok) (H:List AO):F tsub_odd [.agg l.cs] H=some (.ret (.bool (!RightB l 5 10)),H):=by
 rw [f_tsub_odd]
 simp only [↓reduceIte,go_sem,RightP_ok l hl]
theorem RightT_shape (t:Te):RightT t 1000 5 10=ShapeB t:=rfl
theorem TSub_ok (t:Te) (ps ms:List Lv) (ht:t.ok) (hp:okLs ps) (hm:okLs ms) (hpl:ps.length<=140737488355328) (hml:ms.length<=140737488355328) (H:List AO) :
  F tsub_Sub [.agg t.cs,.sl (Lv.css ps),.sl (Lv.css ms)] H=some (.ret (resT (TSubS t ps ms)),H):=by
 have h1:=fun H =>RightTP_ok t ht 1000 5 10 H
 simp only [RightT_shape] at h1
 rw [f_tsub_Sub,TSubS]
 by_cases hr:ShapeB t=true
 ·by_cases a1:5<ps.length
  ·have a1':(5:Int)<ps.length:=by omega
   simp only [↓reduceIte,go_sem,h1,hr,a1,a1',resT,zeroT,Te.cs,Lv.css,Te.css,Bool.true_eq_false,false_or,true_or]
  by_cases a2:10<ms.length
  ·have a1':¬ (5:Int)<ps.length:=by omega
   have a2':(10:Int)<ms.length:=by omega
   simp only [↓reduceIte,go_sem,h1,hr,a1,a1',a2,a2',resT,zeroT,Te.cs,Lv.css,Te.css,Bool.true_eq_false,false_or,true_or]
  have a1':¬ (5:Int)<ps.length:=by omega
  have a2':¬ (10:Int)<ms.length:=by omega
  have hc:=concat_ok [ps,ms] (by simp) (by simp; omega) H
  simp only [sls,List.map_cons,List.map_nil,List.flatten_cons,List.flatten_nil,List.append_nil] at hc
  have ha:=anyL_ok (ps++ms) (by simp; omega) (.fn (.func tsub_odd) [] []) (fun x =>!RightB x 5 10) H (fun x hx =>by
   simp only [cfl_f0]
   exact tsodd_ok x (by rcases List.mem_append.1 hx with h | h; exact hp x h; exact hm x h) _)
  rw [<- List.not_all_eq_any_not,List.all_append] at ha
  rw [show (ps.all fun x =>RightB x 5 10)=rightLs ps from rfl,show (ms.all fun x =>RightB x 5 10)=rightLs ms from rfl] at ha
  by_cases hb:(rightLs ps && rightLs ms)=true
  ·have hb2:=hb
   rw [Bool.and_eq_true] at hb2
   have hq:=putter_ok ps ms hp hm hpl hml 5 10 t ht 1000 30 (shape_inv hr) H [] 0
   have hz:=errT_zero ps ms t 0 (by omega)
   simp only [hb] at ha
   by_cases b3:okTm ps ms t=true
   ·have b4:errT ps ms t 0=0:=hz.2.2 ⟨rfl,b3⟩
    rw [b4] at hq
    simp only [↓reduceIte,go_sem,h1,hr,a1,a1',a2,a2',hb2.1,hb2.2,hc,ha,hq,b3,resT,zeroT,Te.cs,Lv.css,Te.css,Bool.true_eq_false,Bool.false_eq_true,or_self,true_or,false_or]
   ·have b4:¬ errT ps ms t 0=0:=fun h =>b3 (hz.2.1 h).2
    simp only [Bool.not_eq_true] at b3
    simp only [↓reduceIte,go_sem,h1,hr,a1,a1',a2,a2',hb2.1,hb2.2,hc,ha,hq,b3,b4,resT,zeroT,Te.cs,Lv.css,Te.css,Bool.true_eq_false,Bool.false_eq_true,or_self,true_or,false_or]
  ·have hb':rightLs ps=false\/rightLs ms=false:=by
    cases h1:rightLs ps <;> cases h2:rightLs ms <;> simp_all
   simp only [Bool.not_eq_true] at hb
   simp only [hb] at ha
   simp only [↓reduceIte,go_sem,h1,hr,a1,a1',a2,a2',hb',hc,ha,resT,zeroT,Te.cs,Lv.css,Te.css,Bool.true_eq_false,or_self,true_or,or_true,false_or]
 ·simp only [Bool.not_eq_true] at hr
  simp only [↓reduceIte,go_sem,h1,hr,resT,zeroT,Te.cs,Lv.css,Te.css,true_or]
theorem right15_ok (xs:List Lv) (hlen:xs.length<=140737488355328) (hx:okLs xs) (H:List AO):F ref15_right [.sl (Lv.css xs)] H=some (.ret (.bool (rightLs xs)),H):=by
 have loop:∀ (suf pre:List Lv),xs=pre++suf->L_ref15_right_0 H H (.sl (Lv.css xs)) (.int .i64 pre.length)=some (.ret (.bool (rightLs suf)),H):=by
  intro suf
  induction suf with
  | nil =>
   intro pre e
   subst e
   rw [L_ref15_right_0,awL_eq]
   simp only [↓reduceIte,go_sem,rightLs,List.all_nil]
  | cons x suf ih =>
   intro pre e
   subst e
   simp at hlen
   have:=ih (pre++[x]) (by simp)
   simp only [len_app] at this
   have hr:=Right02_ok x (hx x (by simp)) 5 10 H
   rw [L_ref15_right_0,awL_eq]
   unfold rightLs at *
   rw [List.all_cons]
   cases h:RightB x 5 10 <;> simp only [h] at hr <;> simp only [↓reduceIte,go_sem,hr,nat_wrap (n:=pre.length) (by omega),this,Bool.true_and,Bool.false_and]
 have:=loop xs [] rfl
 simp only [List.length_nil,Int.natCast_zero] at this
 rw [f_ref15_right]
 simp only [↓reduceIte,go_sem,this]
def resO (ps ms:List Lv) (t:Te):AV:=.tup [.agg (if okTm ps ms t=true then subT ps ms t else zeroT).cs,.bool (okTm ps ms t)]
theorem sub15_ok (ps ms:List Lv) (hp:okLs ps) (hm:okLs ms) (hpl:ps.length<=140737488355328) (hml:ms.length<=140737488355328) (p m:Int) (t:Te):t.ok -> ∀ (v d:Int),rightT p m t v d=true -> ∀ (H:List AO),
  F ref15_sub [.agg t.cs,.sl (Lv.css ps),.sl (Lv.css ms)] H=some (.ret (resO ps ms t),H):=by
 induction t using Te.ind with
 | h k n ls ks ih =>
 intro hl v d hr H
 obtain ⟨hd1,hk,hls,hn,hks⟩:=rightT_inv hr
 have hk3:=kids13_le k
 have hl5:ls.length<=5:=by
  unfold namedB at hn
  split at hn
  ·simp at hn; simp [hn.2]
  ·split at hn
   ·simp at hn; omega
   ·split at hn
    ·simp at hn; exact hn.2
    ·simp at hn; simp [hn.2]
 have loop1:(ls.all fun l =>decide ((SubS l ps ms).2=0))=true -> ∀ (suf pre done:List Te),ks=pre++suf->done.length=pre.length->(okTms ps ms ks=true->done=subTs ps ms pre)->okTms ps ms ks=okTms ps ms suf ->
   L_ref15_sub_1 H (H++[.lst 0 3 [],.lst 0 4 [],.lst ls.length 3 (Lv.css (ls.map fun l =>(SubS l ps ms).1)),.lst done.length 4 (Te.css done),.lst 0 3 [],.lst 0 4 []])
    (.sl (Lv.css ps)) (.sl (Lv.css ms)) (.int .i64 pre.length) [.int .i64 k,.int .i64 n,.sl (Lv.css ls),.sl (Te.css ks)] [.int .i64 0,.int .i64 0,.ol H.length 0,.ol (H.length+1) 0] [.int .i64 k,.int .i64 n,.ol (H.length+2) ls.length,.ol (H.length+3) done.length] =
   some (.ret (resO ps ms (.mk k n ls ks)),H):=by
  intro hls0 suf
  induction suf with
  | nil =>
   intro pre done eq he hdn hok
   subst eq
   rw [List.append_nil] at *
   have h1:okTms ps ms pre=true:=hok
   have h2:okTm ps ms (.mk k n ls pre)=true:=by rw [okTm,hls0,h1]; rfl
   rw [L_ref15_sub_1,awL_eq]
   unfold resO
   rw [h2,if_pos rfl,subT,<- hdn h1]
   simp only [↓reduceIte,go_sem,Te.cs]
  | cons x suf ih2 =>
   intro pre done eq he hdn hok
   subst eq
   simp at hk
   have hx:=ih x (by simp) (hl.all x (by simp)) _ _ (rightTs_mid hks)
   unfold resO at hx
   have hdl:done.length<=1073741823:=by omega
   rw [L_ref15_sub_1,awL_eq]
   rw [okTms] at hok
   cases hxk:okTm ps ms x with
   | true =>
    rw [hxk,Bool.true_and] at hok
    have:=ih2 (pre++[x]) (done++[subT ps ms x]) (by simp) (by simp [he]) (fun h =>by rw [hdn h]; simp [subTs_eq]) hok
    simp only [len_app] at this
    simp only [len_snoc,List.append_assoc,List.cons_append,List.nil_append] at this
    simp only [hxk] at hx
    simp only [↓reduceIte,go_sem,hx,nat_wrap (n:=pre.length) (by omega),hdl,tcss_snoc,this]
   | false =>
    rw [hxk,Bool.false_and] at hok
    simp only [hxk] at hx
    have h2:okTm ps ms (.mk k n ls (pre++x::suf))=false:=by rw [okTm,hok]; simp
    unfold resO
    rw [h2]
    simp only [↓reduceIte,go_sem,hx,zeroT,Te.cs,Lv.css,Te.css,Bool.false_eq_true,Nat.add_le_add_iff_left,Nat.reduceLeDiff]
 have loop0:∀ (suf pre:List Lv),ls=pre++suf->(ls.all fun l =>decide ((SubS l ps ms).2=0))=(suf.all fun l =>decide ((SubS l ps ms).2=0)) ->
   L_ref15_sub_0 H (H++[.lst 0 3 [],.lst 0 4 [],.lst pre.length 3 (Lv.css (pre.map fun l =>(SubS l ps ms).1)),.lst 0 4 [],.lst 0 3 [],.lst 0 4 []])
    (.sl (Lv.css ps)) (.sl (Lv.css ms)) (.int .i64 pre.length) [.int .i64 k,.int .i64 n,.sl (Lv.css ls),.sl (Te.css ks)] [.int .i64 0,.int .i64 0,.ol H.length 0,.ol (H.length+1) 0] [.int .i64 k,.int .i64 n,.ol (H.length+2) pre.length,.ol (H.length+3) 0] =
   some (.ret (resO ps ms (.mk k n ls ks)),H):=by
  intro suf
  induction suf with
  | nil =>
   intro pre eq hall
   subst eq
   rw [List.append_nil] at *
   have h1:=loop1 (by rw [hall]; rfl) ks [] [] rfl rfl (fun _ =>rfl) rfl
   simp only [List.length_nil,Int.natCast_zero,Te.css] at h1
   rw [L_ref15_sub_0,awL_eq]
   simp only [↓reduceIte,go_sem,h1]
  | cons l suf ih2 =>
   intro pre eq hall
   subst eq
   simp at hl5
   have hs:=fun H =>Sub05_ok l ps ms (hl.all2 l (by simp)) hp hm hpl hml H
   simp only [resL] at hs
   rw [L_ref15_sub_0,awL_eq]
   by_cases h0:(SubS l ps ms).2=0
   ·have:=ih2 (pre++[l]) (by simp) (by rw [hall]; simp [h0])
    simp only [len_app] at this
    simp only [len_snoc,List.map_append,List.map_cons,List.map_nil] at this
    simp only [↓reduceIte,go_sem,hs,h0,nat_wrap (n:=pre.length) (by omega),css_snoc,List.length_map,show pre.length+(0+1)<=1073741824 by omega]
    exact this
   ·have h2:okTm ps ms (.mk k n (pre++l::suf) ks)=false:=by rw [okTm,hall]; simp [h0]
    unfold resO
    rw [h2]
    simp only [↓reduceIte,go_sem,hs,h0,zeroT,Te.cs,Lv.css,Te.css,Bool.false_eq_true,Nat.add_le_add_iff_left,Nat.reduceLeDiff]
 have h0:=loop0 ls [] rfl rfl
 simp only [List.length_nil,Int.natCast_zero,List.map_nil,Lv.css] at h0
 rw [f_ref15_sub]
 simp only [↓reduceIte,go_sem,Te.cs]
 exact h0
theorem TSub15_ok (t:Te) (ps ms:List Lv) (ht:t.ok) (hp:okLs ps) (hm:okLs ms) (hpl:ps.length<=140737488355328) (hml:ms.length<=140737488355328) (H:List AO) :
  F ref15_Sub [.agg t.cs,.sl (Lv.css ps),.sl (Lv.css ms)] H=some (.ret (resT (TSubS t ps ms)),H):=by
 have h1:=fun H =>Shape13_ok t ht H
 have h2:=right15_ok ps hpl hp H
 have h3:=right15_ok ms hml hm H
 rw [f_ref15_Sub,TSubS]
 by_cases hr:ShapeB t=true
 ·by_cases a1:5<ps.length
  ·have a1':(5:Int)<ps.length:=by omega
   simp only [↓reduceIte,go_sem,h1,hr,a1,a1',resT,zeroT,Te.cs,Lv.css,Te.css,Bool.true_eq_false,false_or,true_or]
  by_cases a2:10<ms.length
  ·have a1':¬ (5:Int)<ps.length:=by omega
   have a2':(10:Int)<ms.length:=by omega
   simp only [↓reduceIte,go_sem,h1,hr,a1,a1',a2,a2',resT,zeroT,Te.cs,Lv.css,Te.css,Bool.true_eq_false,false_or,true_or]
  have a1':¬ (5:Int)<ps.length:=by omega
  have a2':¬ (10:Int)<ms.length:=by omega
  cases b1:rightLs ps with
  | false =>simp only [↓reduceIte,go_sem,h1,h2,hr,a1,a1',a2,a2',b1,resT,zeroT,Te.cs,Lv.css,Te.css,Bool.true_eq_false,false_or,true_or]
  | true =>
  cases b2:rightLs ms with
  | false =>simp only [↓reduceIte,go_sem,h1,h2,h3,hr,a1,a1',a2,a2',b1,b2,resT,zeroT,Te.cs,Lv.css,Te.css,Bool.true_eq_false,false_or,true_or]
  | true =>
  have h4:=sub15_ok ps ms hp hm hpl hml 5 10 t ht 1000 30 (shape_inv hr) H
  unfold resO at h4
  by_cases b3:okTm ps ms t=true
  ·simp only [b3,if_true] at h4
   simp only [↓reduceIte,go_sem,h1,h2,h3,h4,hr,a1,a1',a2,a2',b1,b2,b3,resT,zeroT,Te.cs,Lv.css,Te.css,Bool.true_eq_false,Bool.false_eq_true,or_self,true_or]
  ·simp only [Bool.not_eq_true] at b3
   simp only [b3,Bool.false_eq_true,if_false] at h4
   simp only [↓reduceIte,go_sem,h1,h2,h3,h4,hr,a1,a1',a2,a2',b1,b2,b3,resT,zeroT,Te.cs,Lv.css,Te.css,Bool.true_eq_false,Bool.false_eq_true,or_self,true_or]
 ·simp only [Bool.not_eq_true] at hr
  simp only [↓reduceIte,go_sem,h1,hr,resT,zeroT,Te.cs,Lv.css,Te.css,true_or]
end Go.Ab
end
section
set_option linter.unusedVariables false
set_option linter.unusedSimpArgs false
set_option maxRecDepth 100000
set_option maxHeartbeats 2000000
namespace Go.Ab
open Go.RowKit Go.Proofs
mutual
def subs:Te->List Te
 | .mk k n ls ks =>.mk k n ls ks::subss ks
def subss:List Te->List Te
 | [] =>[]
 | x::r =>subs x++subss r
end
abbrev encT (t:Te):List AV:=[.agg t.cs]
def allV (t:Te):AV:=.fn (.func tsub_all_1) [] [.fp t.cs]
theorem allV_ok (t:Te) (H:List AO):F tsub_all [.agg t.cs] H=some (.ret (allV t),H):=by
 rw [f_tsub_all]
 cases t with
 | mk k n ls ks =>
 have h:Lt H.length (.fn (.func tsub_all_1) [] [.fp [.int .i64 k,.int .i64 n,.sl (Lv.css ls),.sl (Te.css ks)]])=True:=by
  simp only [eq_iff_iff,iff_true]
  refine .fn (by simp) ?_
  intro x hx
  simp at hx
  subst hx
  exact .fp (tcs_lt H.length (.mk k n ls ks))
 simp only [↓reduceIte,go_sem,allV,Te.cs,h]
def slpA (y:AV) (st:LSt):AO:=.slp st 25 [(2,.fp [y])] [19] s_tsub_all_1_0 y_tsub_all_1_0
theorem all_ys {S E:Type} {y:AV} {m:Nat} {W:S->List AO} {WE:E->List AO} {stp:S->Te->Option (S ⊕ E)} (hy:Ys y m encT W WE stp) (V:List AO) :
  Ys (.yd (m+V.length)) (m+V.length+1) encT (fun s =>W s++(V++[slpA y .ready])) (fun e =>WE e++(V++[slpA y (.done .ret)])) stp:=by
 have hhp:∀ r:S ⊕ E,hp (fun s =>W s++(V++[slpA y .ready])) (fun e =>WE e++(V++[slpA y (.done .ret)])) r=hp W WE r++(V++[slpA y (if isL r=true then .ready else .done .ret)]):=fun r =>by cases r <;> rfl
 refine ⟨rfl,.yd (by omega),?_,?_,?_⟩
 ·intro r
  have:=hy.len r
  rw [hhp]; simp; omega
 ·intro s r id o ho
  have l1:=hy.len (.inl s)
  have l2:=hy.len r
  have l1:(W s).length=m:=l1
  rw [hhp] at ho
  by_cases h1:id<m
  ·rw [List.getElem?_append_left (by omega)] at ho
   rcases hy.fr s r id o ho with k | k
   ·exact .inl (by rw [List.getElem?_append_left (by omega)]; exact k)
   ·exact .inr (k.mono (by omega))
  ·rw [List.getElem?_append_right (by omega)] at ho
   rw [List.getElem?_append_right (by omega),l1,<- l2]
   by_cases h2:id - (hp W WE r).length<V.length
   ·rw [List.getElem?_append_left h2] at ho ⊢; exact .inl ho
   ·rw [List.getElem?_append_right (by omega)] at ho
    cases h3:id - (hp W WE r).length - V.length with
    | zero =>
     rw [h3] at ho; simp at ho; subst ho
     refine .inr fun p hp =>?_
     simp at hp; subst hp
     exact .fp (by intro a ha; simp at ha; subst ha; exact hy.lt.mono (by omega))
    | succ j =>rw [h3] at ho; simp at ho
 ·intro s x Z r hst
  rw [hhp]
  have hl:(W s).length=m:=hy.len (.inl s)
  have hl2:=hy.len r
  have hfr:∀ (id:Nat) (o:AO),(hp W WE r)[id]? = some o->(W s)[id]? = some o\/LtO (W s).length o:=by rw [hl]; exact hy.fr s r
  have hc:=hy.call s x (V++slpA y .busy::Z) r hst
  have hlt:∀ (st:LSt),LtO (W s++(V++slpA y .ready::Z)).length (slpA y st):=fun st p hp =>by
   simp at hp; subst hp
   exact .fp (by intro a ha; simp at ha; subst ha; exact hy.lt.mono (by simp; omega))
  have g1:(W s++(V++slpA y .ready::Z))[m+V.length]? = some (slpA y .ready):=by rw [<- hl]; exact mid_get
  have s1:(W s++(V++slpA y .ready::Z)).set (m+V.length) (slpA y .busy)=W s++(V++slpA y .busy::Z):=by rw [<- hl]; exact mid_set
  have g2:(hp W WE r++(V++slpA y .busy::Z))[m+V.length]? = some (slpA y .busy):=by rw [<- hl2]; exact mid_get
  have s2:∀ st,(hp W WE r++(V++slpA y .busy::Z)).set (m+V.length) (slpA y st)=hp W WE r++(V++slpA y st::Z):=fun st =>by rw [<- hl2]; exact mid_set
  have e1:∀ st b,yEndF (W s++(V++slpA y .ready::Z)) (m+V.length) st b (hp W WE r++(V++slpA y .busy::Z))=some (.ret (.bool b),hp W WE r++(V++slpA y st::Z)):=fun st b =>by
   have:=yEndF_at (H:=W s++(V++slpA y .ready::Z)) (st:=st) (b:=b) g2
   rw [this]
   show fin1F _ _ ((hp W WE r++(V++slpA y .busy::Z)).set (m+V.length) (slpA y st))=_
   rw [s2 st]
   exact fin1_mid (by rw [hl2,hl]) hfr (hlt st) (.bool _)
  simp only [List.append_assoc,List.cons_append,List.nil_append]
  rw [cfl_yd g1 rfl o_s_tsub_all_1_0 o_y_tsub_all_1_0]
  unfold slpA at g1 s1 hc e1
  unfold slpA
  cases x with
  | mk xk xn xls xks =>
  simp only [encT,Te.cs] at hc ⊢
  cases h:isL r with
  | true =>simp only [↓reduceIte,go_sem,g1,s1,hc,h,e1]
  | false =>simp only [↓reduceIte,go_sem,g1,s1,hc,h,e1]
theorem all_seq (t:Te):t.ok->IsSeq (allV t) encT (subs t):=by
 induction t using Te.ind with
 | h k n ls ks ih =>
 intro hl S E y m W WE stp hy s X r hr
 rw [allV]
 simp only [cfl_f1,List.cons_append,List.nil_append]
 have hlen:=hl.len
 have hone:=hy.one
 have hcell:y.cells=[y]:=by cases y <;> first | rfl | (simp [AV.one] at hone)
 unfold AV.cells at hcell
 unfold AV.one at hone
 have loop:∀ (suf pre:List Te) (a:S),ks=pre++suf->fold stp (subss suf) a=some r ->
   L_tsub_all_1_0 (W s++X) (W a++(X++jk pre.length)) (dsl (m+X.length) pre.length) (.fp [y]) (.sl (Te.css ks)) (.int .i64 ks.length) (.int .i64 pre.length)=some (.ret (.tup []),hp W WE r++X):=by
  intro suf
  induction suf with
  | nil =>
   intro pre a e hq2
   subst e
   simp only [subss,fold] at hq2
   cases hq2
   rw [L_tsub_all_1_0,awL_eq]
   simp only [↓reduceIte,go_sem]
   exact finY_jk hy s (.inl a) X pre.length (.inl rfl) _ _
  | cons x suf ih2 =>
   intro pre a e hq2
   subst e
   simp at hlen
   have lA:(W a).length=m:=hy.len (.inl a)
   have hn:(W a++(X++jk pre.length)).length=m+(X.length+2*pre.length):=by simp [lA,jk_len]
   have hd:dfrs (W a++(X++jk pre.length)) (dsl (m+X.length) pre.length)=true:=by
    have:=dfrs_jk (W a++X) pre.length []
    simpa [lA] using this
   have hrd:inRd (W a++(X++jk pre.length)) (dsl (m+X.length) pre.length)=false:=by
    have:=inRd_jk (W a++X) pre.length []
    simpa [lA] using this
   rw [subss,fold_app] at hq2
   obtain ⟨q,hq⟩:∃ q,fold stp (subs x) a=some q:=by
    cases h:fold stp (subs x) a with
    | none =>rw [h] at hq2; cases hq2
    | some q =>exact ⟨q,rfl⟩
   rw [hq] at hq2
   have hx:=ih x (by simp) (hl.all x (by simp)) _ _ _ _ _ _ _ (all_ys hy (X++(jk pre.length++[.dfr]))) a [] q hq
   have lA':=hy.len q
   simp only [allV,cfl_f1,List.append_nil,List.append_assoc,List.cons_append,List.nil_append,List.length_append,jk_len,List.length_cons,List.length_nil,slpA] at hx
   have hds:(m+(X.length+2*pre.length))::dsl (m+X.length) pre.length=dsl (m+X.length) (pre.length+1):=by rw [dsl]; congr 1; omega
   have hg:∀ st,(hp W WE q++(X++(jk pre.length++[AO.dfr,AO.slp st 25 [(2,.fp [y])] [19] s_tsub_all_1_0 y_tsub_all_1_0])))[m+(X.length+(2*pre.length+1))]? = some (AO.slp st 25 [(2,.fp [y])] [19] s_tsub_all_1_0 y_tsub_all_1_0):=by
    intro st
    rw [<- lA',List.getElem?_append_right (by omega),List.getElem?_append_right (by omega),List.getElem?_append_right (by rw [jk_len]; omega),jk_len]
    rw [show (hp W WE q).length+(X.length+(2*pre.length+1)) - (hp W WE q).length - X.length - 2*pre.length=1 by omega]
    rfl
   have hs:∀ st,(hp W WE q++(X++(jk pre.length++[AO.dfr,AO.slp st 25 [(2,.fp [y])] [19] s_tsub_all_1_0 y_tsub_all_1_0]))).set (m+(X.length+(2*pre.length+1))) .dead=hp W WE q++(X++jk (pre.length+1)):=by
    intro st
    rw [<- lA',List.set_append_right _ _ (by omega),List.set_append_right _ _ (by omega),List.set_append_right _ _ (by rw [jk_len]; omega),jk_len]
    rw [show (hp W WE q).length+(X.length+(2*pre.length+1)) - (hp W WE q).length - X.length - 2*pre.length=1 by omega]
    rfl
   rw [L_tsub_all_1_0,awL_eq]
   cases q with
   | inl a' =>
    have:=ih2 (pre++[x]) a' (by simp) hq2
    simp only [len_app,len_snoc,Int.natCast_add,Int.natCast_one] at this
    simp only [hp_inl] at hx hg hs
    rw [<- this]
    simp only [↓reduceIte,go_sem,allV_ok,allV,hn,hd,hrd,hx,hg,hs,hds,nat_wrap (n:=pre.length) (by omega)]
   | inr e =>
    dsimp only at hq2
    cases hq2
    have:=fun t ls =>finY_jk hy s (.inr e) X (pre.length+1) (o:=.ret) (.inr rfl) t ls
    simp only [hp_inr] at hx hg hs this ⊢
    simp only [↓reduceIte,go_sem,allV_ok,allV,hn,hd,hrd,hx,hg,hs,hds,this]
 rw [show subs (.mk k n ls ks) = .mk k n ls ks::subss ks by rw [subs],fold] at hr
 obtain ⟨q,hq⟩:∃ q,stp s (.mk k n ls ks)=some q:=by
  cases h:stp s (.mk k n ls ks) with
  | none =>rw [h] at hr; cases hr
  | some q =>exact ⟨q,rfl⟩
 have hc:=hy.call s _ X q hq
 rw [hq] at hr
 simp only [encT,Te.cs] at hc
 show F tsub_all_1 _ _=_
 rw [f_tsub_all_1]
 cases q with
 | inl a =>
  have h0:=loop ks [] a rfl hr
  simp only [List.length_nil,Int.natCast_zero,jk,dsl,List.append_nil] at h0
  rw [<- h0]
  simp only [hp_inl] at hc
  simp only [↓reduceIte,go_sem,Te.cs,hone,hcell,hc,isL]
 | inr e =>
  dsimp only at hr
  cases hr
  simp only [hp_inr] at hc
  have l1:(W s).length=m:=hy.len (.inl s)
  have l2:(WE e).length=m:=hy.len (.inr e)
  have hf:=fin1_yd (H:=W s) (A:=WE e) (X:=X) (J:=[]) (r:=.ret (.tup [])) (by rw [l2]; exact l1.symm) (by rw [l1]; exact hy.fr s (.inr e)) (show Lt _ _ from .tup (by simp))
  rw [List.append_nil] at hf
  simp only [↓reduceIte,go_sem,Te.cs,hone,hcell,hc,isL]
  exact hf
def hadE (L:List Int):List (AV × AV):=L.map fun n =>(.int .i64 n,.agg [])
@[go_sem] theorem hadE_keys:∀ L:List Int,keysI .i64 (hadE L)=true
 | [] =>rfl
 | n::r =>by show keysI .i64 ((.int .i64 n,.agg [])::hadE r)=true; simp only [keysI,if_pos,hadE_keys r]
@[go_sem] theorem hadE_find (n:Int):∀ L:List Int,findI n (hadE L)=some (if L.contains n then some (.agg []) else none)
 | [] =>rfl
 | m::r =>by
  show findI n ((.int .i64 m,.agg [])::hadE r)=_
  rw [findI,hadE_find n r]
  by_cases h:n=m
  ·subst h; simp
  ·simp [h]
@[go_sem] theorem hadE_nil:hadE []=[]:=rfl
theorem hadE_snoc (L:List Int) (n:Int):hadE L++[(.int .i64 n,.agg [])]=hadE (L++[n]):=by simp [hadE]
theorem hadE_lt (n:Nat) (L:List Int):LtO n (.mapo (hadE L)):=by
 constructor
 ·intro p hp; obtain ⟨x,_,rfl⟩:=List.mem_map.1 hp; exact .int _ _
 ·intro p hp; obtain ⟨x,_,rfl⟩:=List.mem_map.1 hp; exact .agg (by simp)
def onceP:Nat × List Int->List Int->Nat × List Int
 | p,[] =>p
 | p,n::r =>onceP (if p.2.contains n then p else (p.1+1,p.2++[n])) r
theorem onceP_two:∀ (xs:List Int) (p:Nat × List Int),(onceP p xs).2=onceL p.2 xs
 | [],p =>rfl
 | n::r,p =>by
  rw [onceP,onceL,onceP_two r]
  by_cases h:p.2.contains n=true
  ·rw [if_pos h,if_pos h]
  ·rw [if_neg h,if_neg h]
theorem fin1F_same {H H':List AO} {r:Res} (hl:H'.length=H.length) (hr:LtR H.length r) (h:∀ (id:Nat) (o:AO),H'[id]? = some o->H[id]? = some o\/LtO H.length o):fin1F H r H' = some (r,H'):=by
 unfold fin1F
 rw [if_pos ⟨hr,fun id o ho _ =>h id o ho⟩,<- hl,List.take_length]
theorem fin1F_samej {H H':List AO} {r:Res} (J:List AO) (hl:H'.length=H.length) (hr:LtR H.length r) (h:∀ (id:Nat) (o:AO),H'[id]? = some o->H[id]? = some o\/LtO H.length o):fin1F H r (H' ++ J)=some (r,H'):=by
 unfold fin1F
 rw [if_pos ⟨hr,fun id o ho hi =>h id o (by rwa [List.getElem?_append_left (by omega)] at ho)⟩,List.take_left' hl]
theorem app_three {A Z:List AO} {o1 o1' b o2 o2':AO} {n:Nat} (h1:LtO n o1') (h2:LtO n o2'):∀ (id:Nat) (o:AO),(A++(o1' :: b::o2' :: Z))[id]? = some o->(A++(o1::b::o2::Z))[id]? = some o\/LtO n o:=by
 intro id o ho
 by_cases hi:id<A.length
 ·rw [List.getElem?_append_left hi] at ho ⊢; exact .inl ho
 rw [List.getElem?_append_right (by omega)] at ho ⊢
 match id - A.length,ho with
 | 0,ho =>simp at ho; subst ho; exact .inr h1
 | 1,ho =>simp at ho; subst ho; exact .inl (by simp)
 | 2,ho =>simp at ho; subst ho; exact .inr h2
 | j+3,ho =>simp at ho; exact .inl (by simpa using ho)
theorem oncel_ok (b:AO) (xs:List Int) (hx:xs.length<=140737488355328) (A Z:List AO) (ver:Nat) (es:List Int) (hs:es.length+xs.length<=1073741824) :
  F tsub_once [.ol A.length ver,.mp (A.length+2),.sl (i64s xs)] (A++(.lst ver 1 (i64s es)::b :: .mapo (hadE es)::Z)) =
   some (.ret (.ol A.length (onceP (ver,es) xs).1),A++(.lst (onceP (ver,es) xs).1 1 (i64s (onceP (ver,es) xs).2)::b :: .mapo (hadE (onceP (ver,es) xs).2)::Z)):=by
 have hf:∀ (v v2:Nat) (es':List Int),fin1F (A++(.lst ver 1 (i64s es)::b :: .mapo (hadE es)::Z)) (.ret (.ol A.length v2)) (A++(.lst v 1 (i64s es')::b :: .mapo (hadE es')::(Z++[.lst 0 1 []])))=some (.ret (.ol A.length v2),A++(.lst v 1 (i64s es')::b :: .mapo (hadE es')::Z)):=by
  intro v v2 es'
  have:=fin1F_samej (H:=A++(.lst ver 1 (i64s es)::b :: .mapo (hadE es)::Z)) (H':=A++(.lst v 1 (i64s es')::b :: .mapo (hadE es')::Z)) (r:=.ret (.ol A.length v2)) [.lst 0 1 []] (by simp) (.ol (by simp)) (app_three (fun a ha =>i64s_lt _ _ a ha) (hadE_lt _ _))
  simpa using this
 have hn:¬ (A.length+(Z.length+3)<=A.length):=by omega
 have loop:∀ (suf pre:List Int) (p:Nat × List Int),xs=pre++suf->p.2.length+suf.length<=1073741824 ->
   L_tsub_once_0 (A++(.lst ver 1 (i64s es)::b :: .mapo (hadE es)::Z)) (A++(.lst p.1 1 (i64s p.2)::b :: .mapo (hadE p.2)::(Z++[.lst 0 1 []]))) (.ol A.length p.1) (.mp (A.length+2)) (.sl (i64s xs)) (.int .i64 xs.length) (.int .i64 pre.length) =
   some (.ret (.ol A.length (onceP p suf).1),A++(.lst (onceP p suf).1 1 (i64s (onceP p suf).2)::b :: .mapo (hadE (onceP p suf).2)::Z)):=by
  intro suf
  induction suf with
  | nil =>
   intro pre p e hp
   subst e
   rw [L_tsub_once_0,awL_eq]
   simp only [↓reduceIte,go_sem,onceP,hn,hf]
  | cons n suf ih =>
   rintro pre ⟨v,l⟩ e hp
   subst e
   simp at hp hx
   rw [L_tsub_once_0,awL_eq,onceP]
   by_cases h:l.contains n=true
   ·have:=ih (pre++[n]) (v,l) (by simp) (by simp; omega)
    simp only [len_app] at this
    rw [if_pos h]
    simp only [↓reduceIte,go_sem,h,nat_wrap (n:=pre.length) (by omega),this]
   ·have:=ih (pre++[n]) (v+1,l++[n]) (by simp) (by simp; omega)
    simp only [len_app] at this
    rw [if_neg h]
    simp only [Bool.not_eq_true] at h
    simp only [↓reduceIte,go_sem,h,nat_wrap (n:=pre.length) (by omega),hadE_snoc,i64s_snoc,show l.length+(0+1)<=1073741824 by omega,this]
 have:=loop xs [] (ver,es) rfl hs
 simp only [List.length_nil,Int.natCast_zero] at this
 rw [f_tsub_once]
 simp only [↓reduceIte,go_sem,this]
def Te.kind:Te->Int
 | .mk k _ _ _ =>k
def Te.n:Te->Int
 | .mk _ n _ _ =>n
def consN:List Te->List Int
 | [] =>[]
 | x::r =>(if x.kind=3 then [x.n] else [])++consN r
theorem consN_app:∀ a b:List Te,consN (a++b)=consN a++consN b
 | [],b =>rfl
 | x::a,b =>by rw [List.cons_append,consN,consN,consN_app a b,List.append_assoc]
def constD (n:Nat) (p:Nat × List Int):List AO:=[.lst p.1 1 (i64s p.2),.box [.ol n p.1],.mapo (hadE p.2),.box [.mp (n+2)]]
def constS (p:Nat × List Int) (x:Te):Option ((Nat × List Int) ⊕ Empty):=if p.2.length<1073741824 then some (.inl (if x.kind=3 then onceP p [x.n] else p)) else none
theorem const_ys (H:List AO):Ys (.yd (H.length+4+1)) (H.length+4+2) encT (fun p =>H++(constD H.length p++[.dfr,.slp .ready 19 [(2,.ptr (H.length+1) 0),(3,.ptr (H.length+3) 0)] [8] s_tsub_Consts_0 y_tsub_Consts_0])) (fun e:Empty =>H++(noE e++[.dfr,.slp (.done (noE e)) 19 [(2,.ptr (H.length+1) 0),(3,.ptr (H.length+3) 0)] [8] s_tsub_Consts_0 y_tsub_Consts_0])) constS:=by
 refine ys_of H 4 encT (constD H.length) noE noE constS 19 [(2,.ptr (H.length+1) 0),(3,.ptr (H.length+3) 0)] [8] s_tsub_Consts_0 y_tsub_Consts_0 o_s_tsub_Consts_0 o_y_tsub_Consts_0 (fun _ =>rfl) ?_ ?_ ?_ ?_
 ·rintro (p | e)
  ·rfl
  ·exact e.elim
 ·rintro s (p | e) i o ho
  ·match i,ho with
   | 0,ho =>simp [hp_inl,constD] at ho; subst ho; exact .inr fun a ha =>i64s_lt _ _ a ha
   | 1,ho =>simp [hp_inl,constD] at ho; subst ho; exact .inr fun a ha =>by simp at ha; subst ha; exact .ol (by omega)
   | 2,ho =>simp [hp_inl,constD] at ho; subst ho; exact .inr (hadE_lt _ _)
   | 3,ho =>simp [hp_inl,constD] at ho; subst ho; exact .inl (by simp [constD])
   | j+4,ho =>simp [hp_inl,constD] at ho
  ·exact e.elim
 ·intro p hp; simp at hp; rcases hp with rfl | rfl <;> exact .ptr (by omega)
 ·rintro ⟨ver,es⟩ ⟨k,n,ls,ks⟩ X r hst
  refine ⟨[],?_⟩
  unfold constS at hst
  split at hst
  ·rename_i h2
   dsimp only at h2
   cases hst
   have hc:=oncel_ok (.box [.ol H.length ver]) [n] (by simp) H (.box [.mp (H.length+2)] :: .dfr :: .slp .busy 19 [(2,.ptr (H.length+1) 0),(3,.ptr (H.length+3) 0)] [8] s_tsub_Consts_0 y_tsub_Consts_0::X) ver es (by simp; omega)
   simp only [i64s,List.map_cons,List.map_nil] at hc
   by_cases h1:k=3
   ·simp only [↓reduceIte,go_sem,constD,i64s,encT,Te.cs,Te.kind,Te.n,hc,h1,lstO,isL]
   ·simp only [↓reduceIte,go_sem,constD,i64s,encT,Te.cs,Te.kind,Te.n,h1,lstO,isL]
  ·cases hst
theorem const_fold:∀ (xs:List Te) (ver:Nat) (es:List Int),es.length+xs.length<=1073741824 -> ∃ v,fold constS xs (ver,es)=some (.inl (v,onceL es (consN xs)))
 | [],ver,es,_ =>⟨ver,rfl⟩
 | x::r,ver,es,h =>by
  simp at h
  rw [fold,consN,onceL_app]
  unfold constS
  rw [if_pos (show es.length<1073741824 by omega)]
  by_cases h1:x.kind=3
  ·rw [if_pos h1,if_pos h1]
   have:=onceP_two [x.n] (ver,es)
   rw [show onceP (ver,es) [x.n]=((onceP (ver,es) [x.n]).1,onceL es [x.n]) from Prod.ext rfl this]
   have hl:=onceL_len [x.n] es
   simp at hl
   exact const_fold r _ _ (by omega)
  ·rw [if_neg h1,if_neg h1]; exact const_fold r ver es (by omega)
def constL (t:Te):List Int:=onceL [] (consN (subs t))
theorem Consts_ok (t:Te) (ht:t.ok) (hx:(subs t).length<=1073741824) (H:List AO):F tsub_Consts [.agg t.cs] H=some (.ret (.sl (i64s (constL t))),H):=by
 obtain ⟨v,hv⟩:=const_fold (subs t) 0 [] (by simpa using hx)
 have hr:=all_seq t ht _ _ _ _ _ _ _ (const_ys H) (0,[]) [] _ hv
 have he:=rf_end (H:=H) (DR:=constD H.length (v,constL t)) (k:=4) rfl (st:=.ready) (nn:=19) (t:=[(2,.ptr (H.length+1) 0),(3,.ptr (H.length+3) 0)]) (ps:=[8]) (asg:=s_tsub_Consts_0) (body:=y_tsub_Consts_0)
 have ha:=allV_ok t
 cases t with
 | mk k n ls ks =>
 unfold constL at he ⊢
 simp only [allV,Te.cs] at ha hr
 simp only [hp_inl,constD,cfl_f1,List.cons_append,List.nil_append,List.append_nil,Nat.add_assoc,Nat.reduceAdd,i64s_nil,hadE_nil] at hr he
 rw [f_tsub_Consts]
 simp only [↓reduceIte,go_sem,Te.cs,ha,hr,he,List.mem_cons,List.not_mem_nil,or_false,forall_eq,List.nodup_cons,List.nodup_nil,not_false_eq_true,and_self]
theorem onceL_mem:∀ (xs out:List Int) (n:Int),out.contains n=true->(onceL out xs).contains n=true
 | [],out,n,h =>h
 | x::r,out,n,h =>by
  rw [onceL]
  refine onceL_mem r _ n ?_
  split
  ·exact h
  ·simp at h ⊢; exact .inl h
theorem onceL_once:∀ (xs acc out:List Int),onceL out (onceL acc xs)=onceL (onceL out acc) xs
 | [],acc,out =>rfl
 | n::r,acc,out =>by
  rw [onceL,onceL_once r,onceL]
  by_cases h:acc.contains n=true
  ·rw [if_pos h]
   have:(onceL out acc).contains n=true:=by
    clear onceL_once
    induction acc generalizing out with
    | nil =>simp at h
    | cons a acc ih =>
     rw [onceL]
     by_cases ha:n=a
     ·subst ha
      refine onceL_mem _ _ _ ?_
      split
      ·assumption
      ·simp
     ·have:acc.contains n=true:=by simpa [ha] using h
      exact ih _ this
   rw [if_pos this]
  ·rw [if_neg h,onceL_app,onceL,onceL]
def consTs:List Te->List Int
 | [] =>[]
 | x::r =>consN (subs x)++consTs r
theorem consN_subss:∀ ks:List Te,consN (subss ks)=consTs ks
 | [] =>rfl
 | x::r =>by rw [subss,consN_app,consN_subss r]; rfl
theorem consN_len:∀ xs:List Te,(consN xs).length<=xs.length
 | [] =>Nat.le_refl _
 | x::r =>by
  have:=consN_len r
  rw [consN]; split <;> simp <;> omega
theorem Consts15_ok (t:Te):t.ok->(subs t).length<=1073741824 -> ∀ (H:List AO),F ref15_Consts [.agg t.cs] H=some (.ret (.sl (i64s (constL t))),H):=by
 induction t using Te.ind with
 | h k n ls ks ih =>
 intro hl hx H
 have hlen:=hl.len
 have loop0:∀ (j:Nat) (m:List Int) (x:Int) (x4:AV),m[j]? = some x->m.length<=1073741824 -> ∀ (es:List Int) (ver:Nat),es.length<1073741824 -> ∀ (suf pre:List Int),es=pre++suf ->
   L_ref15_Consts_0 H (H++[.lst 0 1 [],.lst ver 1 (i64s es)]) (.ol (H.length+1) ver) x4 (.sl (i64s m)) (.int .i64 j) (.bool (pre.contains x)) (.int .i64 pre.length) (Te.mk k n ls ks).cs =
   L_ref15_Consts_1 H (H++[.lst 0 1 [],.lst (if es.contains x then ver else ver+1) 1 (i64s (if es.contains x then es else es++[x]))]) (.ol (H.length+1) (if es.contains x then ver else ver+1)) x4 (.sl (i64s m)) (.int .i64 (j+1)) (Te.mk k n ls ks).cs:=by
  intro j m x x4 hj hm es ver hs suf
  have hjm:j<m.length:=by
   rcases Nat.lt_or_ge j m.length with h | h
   ·exact h
   ·rw [List.getElem?_eq_none h] at hj; cases hj
  induction suf with
  | nil =>
   intro pre e
   rw [List.append_nil] at e
   subst e
   rw [L_ref15_Consts_0,awL_eq]
   by_cases h:es.contains x=true
   ·simp only [h]
    simp only [↓reduceIte,go_sem,nat_wrap (n:=j) (by omega)]
   ·simp only [Bool.not_eq_true] at h
    simp only [h]
    simp only [↓reduceIte,go_sem,hj,hjm,nat_wrap (n:=j) (by omega),i64s_snoc,show es.length+(0+1)<=1073741824 by omega,show es.length<=1073741823 by omega]
  | cons y suf ih2 =>
   intro pre e
   have:=ih2 (pre++[y]) (by rw [e]; simp)
   simp only [len_app] at this
   rw [<- this,L_ref15_Consts_0,awL_eq]
   have hc:(pre++[y]).contains x=(pre.contains x || decide (y=x)):=by
    rw [Bool.eq_iff_iff]; simp only [List.contains_iff_mem,List.mem_append,List.mem_singleton,Bool.or_eq_true,decide_eq_true_eq]; exact or_congr_right eq_comm
   have hp:(pre.length:Int)<(es.length:Int):=by rw [e]; simp; omega
   have hg:es[pre.length]? = some y:=by rw [e]; simp
   have hp2:pre.length<es.length:=by rw [e]; simp
   rw [hc]
   cases h:pre.contains x with
   | true =>simp only [↓reduceIte,go_sem,hp,hp2,hg,nat_wrap (n:=pre.length) (by omega),Bool.true_or]
   | false =>simp only [↓reduceIte,go_sem,hp,hp2,hg,hj,hjm,nat_wrap (n:=pre.length) (by omega),Bool.false_or]
 have loop1:∀ (i:Int) (suf pre out:List Int) (ver:Nat),out.length+suf.length<=1073741824->pre.length+suf.length<=1073741824 -> ∃ v,
   L_ref15_Consts_1 H (H++[.lst 0 1 [],.lst ver 1 (i64s out)]) (.ol (H.length+1) ver) (.int .i64 i) (.sl (i64s (pre++suf))) (.int .i64 pre.length) (Te.mk k n ls ks).cs =
   L_ref15_Consts_2 H (H++[.lst 0 1 [],.lst v 1 (i64s (onceL out suf))]) (.ol (H.length+1) v) (.int .i64 (IntKind.i64.wrap (i+1))) (Te.mk k n ls ks).cs:=by
  intro i suf
  induction suf with
  | nil =>
   intro pre out ver h1 h2
   refine ⟨ver,?_⟩
   rw [L_ref15_Consts_1,awL_eq,List.append_nil,onceL]
   simp only [↓reduceIte,go_sem]
  | cons x suf ih2 =>
   intro pre out ver h1 h2
   simp at h1 h2
   have h0:=loop0 pre.length (pre++x::suf) x (.int .i64 i) (by simp) (by simp; omega) out ver (by omega) out [] rfl
   simp only [List.length_nil,Int.natCast_zero,List.contains_nil] at h0
   have hl:=onceL_len [x] out
   simp only [onceL] at hl
   obtain ⟨v,h3⟩:=ih2 (pre++[x]) (if out.contains x then out else out++[x]) (if out.contains x then ver else ver+1) (by simp only [List.length_cons,List.length_nil] at hl; omega) (by simp; omega)
   simp only [len_app,List.append_assoc,List.cons_append,List.nil_append] at h3
   refine ⟨v,?_⟩
   rw [onceL,<- h3,<- h0,L_ref15_Consts_1,awL_eq]
   simp only [↓reduceIte,go_sem]
 have loop2:∀ (suf pre:List Te) (out:List Int) (ver:Nat),ks=pre++suf->out.length+(consTs suf).length<=1073741824->(∀ x∈suf,(subs x).length<=1073741824) ->
   L_ref15_Consts_2 H (H++[.lst 0 1 [],.lst ver 1 (i64s out)]) (.ol (H.length+1) ver) (.int .i64 pre.length) (Te.mk k n ls ks).cs=some (.ret (.sl (i64s (onceL out (consTs suf)))),H):=by
  intro suf
  induction suf with
  | nil =>
   intro pre out ver e h1 h2
   subst e
   rw [L_ref15_Consts_2,awL_eq,consTs,onceL]
   simp only [↓reduceIte,go_sem,Te.cs]
  | cons x suf ih2 =>
   intro pre out ver e h1 h2
   subst e
   rw [consTs] at h1
   simp at h1 hlen
   have hx1:=h2 x (by simp)
   have hc:=consN_len (subs x)
   have hle:=onceL_len (consN (subs x)) []
   simp at hle
   obtain ⟨v,h3⟩:=loop1 pre.length (constL x) [] out ver (by unfold constL; omega) (by unfold constL; simp; omega)
   simp only [List.length_nil,Int.natCast_zero,List.nil_append,nat_wrap (n:=pre.length) (by omega)] at h3
   have hr:=ih x (by simp) (hl.all x (by simp)) hx1
   have hle2:=onceL_len (consN (subs x)) out
   have h4:=ih2 (pre++[x]) (onceL out (consN (subs x))) v (by simp) (by omega) (fun y hy =>h2 y (by simp [hy]))
   simp only [len_app] at h4
   rw [consTs,onceL_app,<- h4]
   rw [show onceL out (constL x)=onceL out (consN (subs x)) from onceL_once _ [] out] at h3
   rw [<- h3,L_ref15_Consts_2,awL_eq]
   simp only [↓reduceIte,go_sem,Te.cs,hr]
 have hsub:∀ x∈ks,(subs x).length<=(subss ks).length:=by
  clear loop0 loop1 loop2 hlen hl ih hx
  induction ks with
  | nil =>simp
  | cons y r ih =>
   intro x hx
   rw [subss,List.length_append]
   rcases List.mem_cons.1 hx with rfl | hx
   ·omega
   ·have:=ih x hx; omega
 rw [subs,List.length_cons] at hx
 have hcl:=consN_len (subss ks)
 rw [consN_subss] at hcl
 have e:constL (.mk k n ls ks)=onceL (if k=3 then [n] else []) (consTs ks):=by
  rw [constL,subs,consN,onceL_app,consN_subss]
  rw [show Te.kind (.mk k n ls ks)=k from rfl,show Te.n (.mk k n ls ks)=n from rfl]
  split <;> rfl
 have h0:=loop2 ks [] (if k=3 then [n] else []) (if k=3 then 1 else 0) rfl (by split <;> simp <;> omega) (fun x hx' =>by have:=hsub x hx'; omega)
 rw [<- e] at h0
 rw [f_ref15_Consts,<- h0]
 by_cases h:k=3
 ·simp only [h] at *
  simp only [↓reduceIte,go_sem,Te.cs,i64s,List.map_cons,List.map_nil]
 ·simp only [↓reduceIte,go_sem,Te.cs,h]
end Go.Ab
end
section
set_option linter.unusedVariables false
set_option linter.unusedSimpArgs false
set_option maxRecDepth 100000
set_option maxHeartbeats 2000000
namespace Go.Ab
open Go.RowKit Go.Proofs
inductive Co | mk (a b:Lv)
def Co.a:Co->Lv | .mk a _ =>a
def Co.b:Co->Lv | .mk _ b =>b
def Co.cs (c:Co):List AV:=c.a.cs++c.b.cs
def Co.css (l:List Co):List (List AV):=l.map Co.cs
def Co.ok (c:Co):Prop:=c.a.ok/\c.b.ok
inductive De | mk (p:Int) (cons:List Co) (type:Te) (has:Bool) (value:Te)
def De.p:De->Int | .mk p _ _ _ _ =>p
def De.cons:De->List Co | .mk _ c _ _ _ =>c
def De.type:De->Te | .mk _ _ t _ _ =>t
def De.has:De->Bool | .mk _ _ _ h _ =>h
def De.value:De->Te | .mk _ _ _ _ v =>v
def De.cs (d:De):List AV:=[.int .i64 d.p,.sl (Co.css d.cons)]++d.type.cs++[.bool d.has]++d.value.cs
def De.css (l:List De):List (List AV):=l.map De.cs
def De.ok (d:De):Prop:=d.cons.length<=140737488355328/\(∀ c∈d.cons,c.ok)/\d.type.ok/\d.value.ok
@[go_sem] theorem cocs_len (c:Co):c.cs.length=6:=by rcases c with ⟨⟨k,n,ks⟩,⟨k2,n2,ks2⟩⟩; rfl
@[go_sem] theorem cocs_rd (c:Co):rd 6 true c.cs=some (.v (.agg c.cs)):=rd_all (cocs_len c)
@[go_sem] theorem cocs_rd0 (c:Co):rd 3 true c.cs=some (.v (.agg c.a.cs)):=by rcases c with ⟨⟨k,n,ks⟩,⟨k2,n2,ks2⟩⟩; rfl
@[go_sem] theorem cocs_rd3 (c:Co):rd 3 true (List.drop 3 c.cs)=some (.v (.agg c.b.cs)):=by rcases c with ⟨⟨k,n,ks⟩,⟨k2,n2,ks2⟩⟩; rfl
@[go_sem] theorem cocss_len (l:List Co):(Co.css l).length=l.length:=by simp [Co.css]
@[go_sem] theorem cocss_get (l:List Co) (j:Nat):(Co.css l)[j]? = l[j]?.map Co.cs:=by simp [Co.css]
@[go_sem] theorem decs_len (d:De):d.cs.length=11:=by rcases d with ⟨p,c,⟨k,n,ls,ks⟩,h,⟨k2,n2,ls2,ks2⟩⟩; rfl
@[go_sem] theorem decs_rd (d:De):rd 11 true d.cs=some (.v (.agg d.cs)):=rd_all (decs_len d)
@[go_sem] theorem decs_rd0 (d:De):rd 1 false d.cs=some (.v (.int .i64 d.p)):=by rcases d with ⟨p,c,⟨k,n,ls,ks⟩,h,⟨k2,n2,ls2,ks2⟩⟩; rfl
@[go_sem] theorem decs_rd1 (d:De):rd 1 false (List.drop 1 d.cs)=some (.v (.sl (Co.css d.cons))):=by rcases d with ⟨p,c,⟨k,n,ls,ks⟩,h,⟨k2,n2,ls2,ks2⟩⟩; rfl
@[go_sem] theorem decs_rd2 (d:De):rd 4 true (List.drop 2 d.cs)=some (.v (.agg d.type.cs)):=by rcases d with ⟨p,c,⟨k,n,ls,ks⟩,h,⟨k2,n2,ls2,ks2⟩⟩; rfl
@[go_sem] theorem decs_rd6 (d:De):rd 1 false (List.drop 6 d.cs)=some (.v (.bool d.has)):=by rcases d with ⟨p,c,⟨k,n,ls,ks⟩,h,⟨k2,n2,ls2,ks2⟩⟩; rfl
@[go_sem] theorem decs_rd7 (d:De):rd 4 true (List.drop 7 d.cs)=some (.v (.agg d.value.cs)):=by rcases d with ⟨p,c,⟨k,n,ls,ks⟩,h,⟨k2,n2,ls2,ks2⟩⟩; rfl
@[go_sem] theorem over_decs (a b c d e f g h i j k:AV) (x:De):over [a,b,c,d,e,f,g,h,i,j,k] 0 x.cs=x.cs:=by rcases x with ⟨p,c,⟨k,n,ls,ks⟩,h,⟨k2,n2,ls2,ks2⟩⟩; rfl
@[go_sem] theorem decss_len (l:List De):(De.css l).length=l.length:=by simp [De.css]
@[go_sem] theorem decss_get (l:List De) (j:Nat):(De.css l)[j]? = l[j]?.map De.cs:=by simp [De.css]
@[go_sem] theorem decs_one (d:De):d.cs.all AV.one=true:=by rcases d with ⟨p,c,⟨k,n,ls,ks⟩,h,⟨k2,n2,ls2,ks2⟩⟩; rfl
@[go_sem] theorem cocs_one (c:Co):c.cs.all AV.one=true:=by rcases c with ⟨⟨k,n,ks⟩,⟨k2,n2,ks2⟩⟩; rfl
mutual
theorem subs_parts:∀ (t:Te) (m:Int),parts t m<m->((subs t).length:Int)<=parts t m
 | .mk k n ls ks,m,h =>by
  rw [parts] at h ⊢
  rw [subs,List.length_cons]
  have:=subss_parts ks m 1 h
  omega
theorem subss_parts:∀ (ks:List Te) (m n:Int),partsL ks m n<m->n+((subss ks).length:Int)<=partsL ks m n
 | [],m,n,h =>by rw [partsL,subss]; simp
 | x::r,m,n,h =>by
  rw [partsL] at h ⊢
  have hn:n<m:=by
   rcases Int.lt_or_le n m with h1 | h1
   ·exact h1
   ·rw [if_neg (by omega)] at h
    have:=partsL_le r m n
    omega
  rw [if_pos hn] at h ⊢
  have h1:=partsL_le r m (n+parts x (m - n))
  have h2:=subs_parts x (m - n) (by omega)
  have h3:=subss_parts r m (n+parts x (m - n)) h
  rw [subss,List.length_append]
  omega
end
theorem right_subs {t:Te} {v p m:Int} (h:RightT t v p m=true):(subs t).length<=1073741824:=by
 have:parts t 601<=600:=by unfold RightT at h; simp at h; exact h.1.2
 have:=subs_parts t 601 (by omega)
 omega
theorem anyFC_ok (xs:List (List AV)) (hlen:xs.length<=140737488355328) (hsz:∀ e∈xs,e.length=6) (f:AV) (p:List AV->Bool) (H:List AO) (hf:∀ e∈xs,cfl T f [.agg e] H=some (.ret (.bool (p e)),H)) :
  F slices_ContainsFunc_Con [.sl xs,f] H=some (.ret (.bool (xs.any p)),H):=by
 have loop:∀ (suf pre:List (List AV)),xs=pre++suf -> ∃ r:Int,L_slices_IndexFunc_Con_0 H H (.sl xs) f (.int .i64 xs.length) (.int .i64 pre.length)=some (.ret (.int .i64 r),H)/\decide (0<=r)=suf.any p:=by
  intro suf
  induction suf with
  | nil =>
   intro pre e
   subst e
   refine ⟨-1,?_,rfl⟩
   rw [L_slices_IndexFunc_Con_0,awL_eq]
   simp only [↓reduceIte,go_sem]
  | cons x suf ih =>
   intro pre e
   subst e
   obtain ⟨r,h1,h2⟩:=ih (pre++[x]) (by simp)
   simp only [len_app] at h1
   have hx:=hsz x (by simp)
   have hfx:=hf x (by simp)
   simp at hlen
   cases hp:p x with
   | true =>
    refine ⟨pre.length,?_,by simp [hp]⟩
    rw [L_slices_IndexFunc_Con_0,awL_eq]
    simp only [↓reduceIte,go_sem,hx,rd_all hx,hfx,hp]
   | false =>
    refine ⟨r,?_,by simp [hp,h2]⟩
    rw [L_slices_IndexFunc_Con_0,awL_eq]
    simp only [↓reduceIte,go_sem,hx,rd_all hx,hfx,hp,nat_wrap (n:=pre.length) (by omega),h1]
 obtain ⟨r,h1,h2⟩:=loop xs [] rfl
 simp only [List.length_nil,Int.natCast_zero] at h1
 rw [f_slices_ContainsFunc_Con]
 have:F slices_IndexFunc_Con [.sl xs,f] H=some (.ret (.int .i64 r),H):=by
  rw [f_slices_IndexFunc_Con]
  simp only [↓reduceIte,go_sem,h1]
 simp only [↓reduceIte,go_sem,this,h2]
theorem anyFI_ok (xs:List Int) (hlen:xs.length<=140737488355328) (f:AV) (p:Int->Bool) (H:List AO) (hf:∀ e∈xs,cfl T f [.int .i64 e] H=some (.ret (.bool (p e)),H)) :
  F slices_ContainsFunc_int [.sl (i64s xs),f] H=some (.ret (.bool (xs.any p)),H):=by
 have loop:∀ (suf pre:List Int),xs=pre++suf -> ∃ r:Int,L_slices_IndexFunc_int_0 H H (.sl (i64s xs)) f (.int .i64 xs.length) (.int .i64 pre.length)=some (.ret (.int .i64 r),H)/\decide (0<=r)=suf.any p:=by
  intro suf
  induction suf with
  | nil =>
   intro pre e
   subst e
   refine ⟨-1,?_,rfl⟩
   rw [L_slices_IndexFunc_int_0,awL_eq]
   simp only [↓reduceIte,go_sem]
  | cons x suf ih =>
   intro pre e
   subst e
   obtain ⟨r,h1,h2⟩:=ih (pre++[x]) (by simp)
   simp only [len_app] at h1
   have hfx:=hf x (by simp)
   simp at hlen
   cases hp:p x with
   | true =>
    refine ⟨pre.length,?_,by simp [hp]⟩
    rw [L_slices_IndexFunc_int_0,awL_eq]
    simp only [↓reduceIte,go_sem,hfx,hp]
   | false =>
    refine ⟨r,?_,by simp [hp,h2]⟩
    rw [L_slices_IndexFunc_int_0,awL_eq]
    simp only [↓reduceIte,go_sem,hfx,hp,nat_wrap (n:=pre.length) (by omega),h1]
 obtain ⟨r,h1,h2⟩:=loop xs [] rfl
 simp only [List.length_nil,Int.natCast_zero] at h1
 rw [f_slices_ContainsFunc_int]
 have:F slices_IndexFunc_int [.sl (i64s xs),f] H=some (.ret (.int .i64 r),H):=by
  rw [f_slices_IndexFunc_int]
  simp only [↓reduceIte,go_sem,h1]
 simp only [↓reduceIte,go_sem,this,h2]
def rightC (p:Int) (c:Co):Bool:=RightB c.a p 0 && RightB c.b p 0
def RightCs (l:List Co) (p:Int):Bool:=decide (0<=p) && decide (p<=5) && decide (l.length<=8) && l.all (rightC p)
def mayT (t:Te) (p a:Int):Bool:=RightT t 0 p 0 && (constL t).all fun n =>decide (n<a)
def declB (d:De) (a:Int):Bool:=RightCs d.cons d.p && mayT d.type d.p a && (if d.has=true then mayT d.value d.p a else teEq d.value zeroT)
def declsB:List De->Int->Bool
 | [],_ =>true
 | d::r,a =>declB d a && declsB r (a+1)
def RightD (env:List De):Bool:=declsB env 0 && decide (env.length<=20)
theorem may_ok (t:Te) (ht:t.ok) (p a:Int) (H:List AO):F reduce_may [.agg t.cs,.int .i64 p,.int .i64 a] H=some (.ret (.bool (mayT t p a)),H):=by
 have h1:=fun H =>RightTP_ok t ht 0 p 0 H
 rw [f_reduce_may,mayT]
 by_cases h:RightT t 0 p 0=true
 ·have h2:=fun H =>Consts_ok t ht (right_subs h) H
  have hl:=onceL_len (consN (subs t)) []
  have hl2:=consN_len (subs t)
  have hl3:=right_subs h
  have h3:=anyFI_ok (constL t) (by unfold constL; simp at hl; omega) (.fn (.func reduce_may_1) [] [.ptr H.length 0]) (fun n =>decide (a<=n)) (H++[.box [.int .i64 a]]) (fun n hn =>by
   simp only [cfl_f1,List.cons_append,List.nil_append]
   show F reduce_may_1 _ _=_
   rw [f_reduce_may_1]
   simp only [↓reduceIte,go_sem])
  have e:(!(constL t).any fun n =>decide (a<=n))=(constL t).all fun n =>decide (n<a):=by
   rw [List.not_any_eq_all_not]; congr 1; funext n
   rw [Bool.eq_iff_iff]; simp
  simp only [↓reduceIte,go_sem,h1,h,h2,h3,e]
 ·simp only [Bool.not_eq_true] at h
  simp only [↓reduceIte,go_sem,h1,h]
theorem below16_ok (t:Te) (ht:t.ok) (hs:(subs t).length<=1073741824) (a:Int) (H:List AO):F ref16_below [.agg t.cs,.int .i64 a] H=some (.ret (.bool ((constL t).all fun n =>decide (n<a))),H):=by
 have h2:=fun H =>Consts15_ok t ht hs H
 have hl:=onceL_len (consN (subs t)) []
 have hl2:=consN_len (subs t)
 have hlen:(constL t).length<=1073741824:=by unfold constL; simp at hl; omega
 have loop:∀ (suf pre:List Int),constL t=pre++suf->L_ref16_below_0 H H (.int .i64 a) (.sl (i64s (constL t))) (.int .i64 pre.length)=some (.ret (.bool (suf.all fun n =>decide (n<a))),H):=by
  generalize constL t=xs at hlen
  intro suf
  induction suf with
  | nil =>
   intro pre e
   subst e
   rw [L_ref16_below_0,awL_eq]
   simp only [↓reduceIte,go_sem,List.all_nil]
  | cons x suf ih =>
   intro pre e
   subst e
   simp at hlen
   have:=ih (pre++[x]) (by simp)
   simp only [len_app] at this
   rw [L_ref16_below_0,awL_eq,List.all_cons]
   by_cases h:x<a
   ·simp only [↓reduceIte,go_sem,show ¬ a<=x by omega,h,nat_wrap (n:=pre.length) (by omega),this,Bool.true_and]
   ·simp only [↓reduceIte,go_sem,show a<=x by omega,h,Bool.false_and]
 have:=loop (constL t) [] rfl
 simp only [List.length_nil,Int.natCast_zero] at this
 cases t with
 | mk k n ls ks =>
 simp only [Te.cs] at h2
 rw [f_ref16_below]
 simp only [↓reduceIte,go_sem,Te.cs,h2,this]
theorem cons12_ok (l:List Co) (hlen:l.length<=140737488355328) (hl:∀ c∈l,c.ok) (p:Int) (H:List AO):F ref12_Right [.sl (Co.css l),.int .i64 p] H=some (.ret (.bool (RightCs l p)),H):=by
 have loop:∀ (suf pre:List Co),l=pre++suf->L_ref12_Right_0 H H (.sl (Co.css l)) (.int .i64 p) (.int .i64 pre.length)=some (.ret (.bool (suf.all (rightC p) && (decide (0<=p) && decide (p<=5) && decide (l.length<=8)))),H):=by
  intro suf
  induction suf with
  | nil =>
   intro pre e
   rw [List.append_nil] at e
   subst e
   rw [L_ref12_Right_0,awL_eq]
   simp only [↓reduceIte,go_sem,List.all_nil]
   repeat' split
   all_goals (simp_all <;> try omega)
  | cons x suf ih =>
   intro pre e
   have:=ih (pre++[x]) (by rw [e]; simp)
   simp only [len_app] at this
   have hg:l[pre.length]? = some x:=by rw [e]; simp
   have hp:(pre.length:Int)<(l.length:Int):=by rw [e]; simp; omega
   obtain ⟨ha,hb⟩:=hl x (by rw [e]; simp)
   rw [L_ref12_Right_0,awL_eq,List.all_cons]
   have r1:=fun H =>Right02_ok x.a ha p 0 H
   have r2:=fun H =>Right02_ok x.b hb p 0 H
   unfold rightC at this ⊢
   cases h1:RightB x.a p 0 <;> cases h2:RightB x.b p 0 <;> simp only [h1,h2] at r1 r2 <;>
    simp only [↓reduceIte,go_sem,hp,hg,r1,r2,nat_wrap (n:=pre.length) (by omega),this,Bool.true_and,Bool.false_and]
 have:=loop l [] rfl
 simp only [List.length_nil,Int.natCast_zero] at this
 rw [f_ref12_Right,RightCs]
 simp only [↓reduceIte,go_sem,this]
 grind
theorem anyCo_ok (ks:List Co) (hlen:ks.length<=140737488355328) (f:AV) (p:Co->Bool) (H:List AO) (hf:∀ x∈ks,cfl T f [.agg x.cs] H=some (.ret (.bool (p x)),H)) :
  F slices_ContainsFunc_Con [.sl (Co.css ks),f] H=some (.ret (.bool (ks.any p)),H):=by
 let q:List AV->Bool:=fun e =>match cfl T f [.agg e] H with
  | some (.ret (.bool b),_) =>b
  | _ =>false
 have hq:∀ x∈ks,q x.cs=p x:=fun x hx =>by simp only [q,hf x hx]
 have:=anyFC_ok (Co.css ks) (by rw [cocss_len]; exact hlen) (fun e he =>by obtain ⟨x,_,rfl⟩:=List.mem_map.1 he; exact cocs_len x) f q H (fun e he =>by
  obtain ⟨x,hx,rfl⟩:=List.mem_map.1 he
  rw [hf x hx,hq x hx])
 rw [this,Co.css,List.any_map]
 congr 4
 have:∀ l:List Co,(∀ x∈l,q x.cs=p x)->l.any (q ∘ Co.cs)=l.any p:=by
  intro l
  induction l with
  | nil =>intro _; rfl
  | cons a l ih =>intro h; simp [h a (by simp),ih fun x hx =>h x (by simp [hx])]
 exact this ks hq
theorem consP_ok (l:List Co) (hlen:l.length<=140737488355328) (hl:∀ c∈l,c.ok) (p:Int) (H:List AO):F under_Right [.sl (Co.css l),.int .i64 p] H=some (.ret (.bool (RightCs l p)),H):=by
 have h3:=anyCo_ok l hlen (.fn (.func under_Right_1) [] [.ptr H.length 0]) (fun c =>!rightC p c) (H++[.box [.int .i64 p]]) (fun x hx =>by
  obtain ⟨ha,hb⟩:=hl x hx
  have r1:=fun H =>RightP_ok x.a ha p 0 H
  have r2:=fun H =>RightP_ok x.b hb p 0 H
  simp only [cfl_f1,List.cons_append,List.nil_append]
  show F under_Right_1 _ _=_
  rw [f_under_Right_1]
  unfold rightC
  rcases x with ⟨⟨k,n,ks⟩,⟨k2,n2,ks2⟩⟩
  simp only [Co.a,Co.b,Lv.cs] at r1 r2
  cases h1:RightB (.mk k n ks) p 0 <;> cases h2:RightB (.mk k2 n2 ks2) p 0 <;> simp only [h1,h2] at r1 r2 <;>
   simp only [↓reduceIte,go_sem,Co.cs,Co.a,Co.b,Lv.cs,r1,r2,h1,h2,Bool.and_self,Bool.and_false,Bool.false_and,Bool.and_true])
 rw [<- List.not_all_eq_any_not] at h3
 rw [f_under_Right,RightCs]
 simp only [↓reduceIte,go_sem,h3]
 cases h:l.all (rightC p)
 all_goals (simp [h]; try grind)
theorem decl16_ok (d:De) (hd:d.ok) (a:Int) (H:List AO):F ref16_decl [.agg d.cs,.int .i64 a] H=some (.ret (.bool (declB d a)),H):=by
 rcases d with ⟨p,cons,t,has,v⟩
 obtain ⟨h1,h2,h3,h4⟩:=hd
 simp only [De.cons,De.type,De.value] at h1 h2 h3 h4
 have r1:=fun H =>cons12_ok cons h1 h2 p H
 have r2:=fun H =>RightT13_ok t h3 0 p 0 H
 have r3:=fun (h:RightT t 0 p 0=true) H =>below16_ok t h3 (right_subs h) a H
 have r4:=fun H =>RightT13_ok v h4 0 p 0 H
 have r5:=fun (h:RightT v 0 p 0=true) H =>below16_ok v h4 (right_subs h) a H
 have r6:=fun H =>same13_ok v h4 zeroT H
 rw [f_ref16_decl,declB]
 simp only [De.cons,De.type,De.value,De.p,De.has,mayT]
 rcases t with ⟨k,n,ls,ks⟩
 rcases v with ⟨k2,n2,ls2,ks2⟩
 simp only [Te.cs,zeroT,Lv.css,Te.css] at r6
 simp only [Te.cs] at r2 r3 r4 r5
 cases e1:RightCs cons p
 ·simp only [↓reduceIte,go_sem,De.cs,De.cons,De.type,De.value,De.p,De.has,Te.cs,List.cons_append,List.nil_append,r1,e1,Bool.false_and]
 cases e2:RightT (.mk k n ls ks) 0 p 0
 ·simp only [↓reduceIte,go_sem,De.cs,De.cons,De.type,De.value,De.p,De.has,Te.cs,List.cons_append,List.nil_append,r1,r2,e1,e2,Bool.false_and,Bool.and_false]
 have r3:=r3 e2
 cases e3:(constL (.mk k n ls ks)).all fun n =>decide (n<a)
 ·simp only [↓reduceIte,go_sem,De.cs,De.cons,De.type,De.value,De.p,De.has,Te.cs,List.cons_append,List.nil_append,r1,r2,r3,e1,e2,e3,Bool.false_and,Bool.and_false]
 cases has
 ·simp only [↓reduceIte,go_sem,De.cs,De.cons,De.type,De.value,De.p,De.has,Te.cs,List.cons_append,List.nil_append,r1,r2,r3,e1,e2,e3,r6,zeroT,Bool.false_and,Bool.and_false,Bool.true_and,Bool.and_true,Bool.false_eq_true]
 cases e4:RightT (.mk k2 n2 ls2 ks2) 0 p 0
 ·simp only [↓reduceIte,go_sem,De.cs,De.cons,De.type,De.value,De.p,De.has,Te.cs,List.cons_append,List.nil_append,r1,r2,r3,r4,e1,e2,e3,e4,Bool.false_and,Bool.and_false,Bool.true_and,Bool.and_true]
 have r5:=r5 e4
 simp only [↓reduceIte,go_sem,De.cs,De.cons,De.type,De.value,De.p,De.has,Te.cs,List.cons_append,List.nil_append,r1,r2,r3,r4,r5,e1,e2,e3,e4,Bool.false_and,Bool.and_false,Bool.true_and,Bool.and_true]
def okDs (env:List De):Prop:=env.length<=140737488355328 /\ ∀ d∈env,d.ok
theorem Right16_ok (env:List De) (he:okDs env) (H:List AO):F ref16_Right [.sl (De.css env)] H=some (.ret (.bool (RightD env)),H):=by
 obtain ⟨hlen,hd⟩:=he
 have loop:∀ (suf pre:List De),env=pre++suf->L_ref16_Right_0 H H (.sl (De.css env)) (.int .i64 pre.length)=some (.ret (.bool (declsB suf pre.length && decide (env.length<=20))),H):=by
  intro suf
  induction suf with
  | nil =>
   intro pre e
   rw [List.append_nil] at e
   subst e
   rw [L_ref16_Right_0,awL_eq,declsB]
   simp only [↓reduceIte,go_sem,Bool.true_and]
   congr 4
   rw [Bool.eq_iff_iff]; simp; omega
  | cons x suf ih =>
   intro pre e
   have:=ih (pre++[x]) (by rw [e]; simp)
   simp only [len_app] at this
   have hg:env[pre.length]? = some x:=by rw [e]; simp
   have hp:(pre.length:Int)<(env.length:Int):=by rw [e]; simp; omega
   have hr:=fun H =>decl16_ok x (hd x (by rw [e]; simp)) pre.length H
   rw [L_ref16_Right_0,awL_eq,declsB]
   cases h1:declB x pre.length <;> simp only [h1] at hr <;>
    simp only [↓reduceIte,go_sem,hp,hg,hr,nat_wrap (n:=pre.length) (by omega),this,Bool.true_and,Bool.false_and]
 have:=loop env [] rfl
 simp only [List.length_nil,Int.natCast_zero] at this
 rw [f_ref16_Right,RightD]
 simp only [↓reduceIte,go_sem,this]
theorem RightDP_ok (env:List De) (he:okDs env) (H:List AO):F reduce_Right [.sl (De.css env)] H=some (.ret (.bool (RightD env)),H):=by
 obtain ⟨hlen,hd⟩:=he
 have loop:∀ (suf pre:List De),env=pre++suf->L_reduce_Right_0 H H (.sl (De.css env)) (.sl (De.css env)) (.int .i64 env.length) (.int .i64 pre.length)=some (.ret (.bool (declsB suf pre.length && decide (env.length<=20))),H):=by
  intro suf
  induction suf with
  | nil =>
   intro pre e
   rw [List.append_nil] at e
   subst e
   rw [L_reduce_Right_0,awL_eq,declsB]
   simp only [↓reduceIte,go_sem,Bool.true_and]
   congr 4
   rw [Bool.eq_iff_iff]; simp; omega
  | cons x suf ih =>
   intro pre e
   have:=ih (pre++[x]) (by rw [e]; simp)
   simp only [len_app] at this
   have hg:env[pre.length]? = some x:=by rw [e]; simp
   have hp:(pre.length:Int)<(env.length:Int):=by rw [e]; simp; omega
   obtain ⟨q1,q2,q3,q4⟩:=hd x (by rw [e]; simp)
   have r1:=fun H =>consP_ok x.cons q1 q2 x.p H
   have r2:=fun H =>may_ok x.type q3 x.p pre.length H
   have r3:=fun H =>may_ok x.value q4 x.p pre.length H
   have r4:=fun H =>sameTP_ok x.value q4 zeroT H
   simp only [zeroT,Te.cs,Lv.css,Te.css] at r4
   rw [L_reduce_Right_0,awL_eq,declsB,declB]
   cases e1:RightCs x.cons x.p <;> cases e2:mayT x.type x.p pre.length <;> cases e0:x.has <;> cases e3:mayT x.value x.p pre.length <;> cases e4:teEq x.value (.mk 0 0 [] []) <;> simp only [e1,e2,e3,e4] at r1 r2 r3 r4 <;>
    simp only [↓reduceIte,go_sem,hp,hg,r1,r2,r3,r4,e0,zeroT,e1,e2,e3,e4,nat_wrap (n:=pre.length) (by omega),this,Bool.true_and,Bool.false_and,Bool.and_false,Bool.and_true,Bool.false_eq_true]
 have:=loop env [] rfl
 simp only [List.length_nil,Int.natCast_zero] at this
 rw [f_reduce_Right,RightD]
 simp only [↓reduceIte,go_sem,this]
end Go.Ab
end
section
set_option linter.unusedVariables false
set_option linter.unusedSimpArgs false
set_option maxRecDepth 100000
set_option maxHeartbeats 2000000
namespace Go.Ab
open Go.RowKit Go.Proofs
def bls (z:List Bool):List (List AV):=z.map fun b =>[.bool b]
@[go_sem] theorem bls_len (z:List Bool):(bls z).length=z.length:=by simp [bls]
@[go_sem] theorem bls_get (z:List Bool) (i:Nat):(bls z)[i]? = z[i]?.map fun b =>[.bool b]:=by simp [bls]
theorem bls_lt (n:Nat) (z:List Bool):∀ a∈(bls z).flatten,Lt n a:=by
 intro a ha
 obtain ⟨e,he,h2⟩:=List.mem_flatten.1 ha
 obtain ⟨b,_,rfl⟩:=List.mem_map.1 he
 simp at h2; subst h2; exact .bool b
@[go_sem] theorem lt_bls (n:Nat) (z:List Bool):(∀ a∈(bls z).flatten,Lt n a)=True:=eq_true (bls_lt n z)
structure Fl where
 c:Int
 o:List Int
def Fl.cs (f:Fl):List AV:=[.int .i64 f.c,.sl (i64s f.o)]
@[go_sem] theorem flcs_len (f:Fl):f.cs.length=2:=rfl
@[go_sem] theorem flcs_rd (f:Fl):rd 2 true f.cs=some (.v (.agg f.cs)):=rfl
@[go_sem] theorem flcs_rd0 (f:Fl):rd 1 false f.cs=some (.v (.int .i64 f.c)):=rfl
@[go_sem] theorem flcs_rd1 (f:Fl):rd 1 false (List.drop 1 f.cs)=some (.v (.sl (i64s f.o))):=rfl
@[go_sem] theorem flcs_one (f:Fl):f.cs.all AV.one=true:=rfl
@[go_sem] theorem flcs_over (x y:AV) (f:Fl):over [x,y] 0 f.cs=f.cs:=rfl
@[go_sem] theorem flcs_frz (n:Nat) (f:Fl) (h:List AO):frzC n f.cs h=(f.cs,h):=by simp [Fl.cs,frzC,frz0]
theorem flcs_lt (n:Nat) (f:Fl):∀ a∈f.cs,Lt n a:=by
 intro a ha
 simp [Fl.cs] at ha
 rcases ha with rfl | rfl
 ·exact .int _ _
 ·exact .sl (by intro a ha; obtain ⟨e,he,h2⟩:=List.mem_flatten.1 ha; obtain ⟨x,_,rfl⟩:=List.mem_map.1 he; simp at h2; subst h2; exact .int _ _)
@[go_sem] theorem lt_flcs (n:Nat) (f:Fl):(∀ a∈f.cs,Lt n a)=True:=eq_true (flcs_lt n f)
def noneF (p:Nat):Fl:=⟨0,List.replicate p (-1)⟩
def bothF (a b:Fl):Fl:=⟨max a.c b.c,List.zipWith max a.o b.o⟩
def noughtF (f:Fl):Bool:=decide (f.c=0) && f.o.all fun n =>decide (n<0)
def succF (f:Fl):Fl:=⟨f.c+1,f.o.map fun n =>if 0<=n then n+1 else n⟩
def combF (z:List Bool) (k n:Int):List Fl->Fl
 | [] =>if k=5 then (if z[n.toNat]? = some false then ⟨0,(List.replicate z.length (-1)).set n.toNat 0⟩ else noneF z.length) else noneF z.length
 | [a] =>if k=2 then succF a else noneF z.length
 | a::b::_ =>if k=3 then bothF a b else if k=4 then (if noughtF b then b else bothF a b) else noneF z.length
mutual
def rawF (z:List Bool):Lv->Fl
 | .mk k n ks =>combF z k n (rawFs z ks)
def rawFs (z:List Bool):List Lv->List Fl
 | [] =>[]
 | x::r =>rawF z x::rawFs z r
end
structure Fl.good (p:Nat) (d:Int) (f:Fl):Prop where
 len:f.o.length=p
 c0:0<=f.c
 cd:f.c<=d
 o0:∀ n∈f.o,-1<=n
 od:∀ n∈f.o,n<=d
theorem zip_mem {a b:List Int} {n:Int} (h:n∈List.zipWith max a b):∃ x∈a,∃ y∈b,n=max x y:=by
 induction a generalizing b with
 | nil =>simp at h
 | cons x a ih =>
  cases b with
  | nil =>simp at h
  | cons y b =>
   simp at h
   rcases h with rfl | h
   ·exact ⟨x,by simp,y,by simp,rfl⟩
   ·obtain ⟨u,hu,v,hv,e⟩:=ih h; exact ⟨u,by simp [hu],v,by simp [hv],e⟩
theorem good_none (p:Nat) {d:Int} (h:0<=d):(noneF p).good p d :=
 ⟨by simp [noneF],by simp [noneF],by simpa [noneF] using h,fun n hn =>by simp [noneF] at hn; omega,fun n hn =>by simp [noneF] at hn; omega⟩
theorem good_both {p:Nat} {d:Int} {a b:Fl} (ha:a.good p d) (hb:b.good p d):(bothF a b).good p d :=
 ⟨by simp [bothF,ha.len,hb.len],by have:=ha.c0; simp [bothF]; omega,by have:=ha.cd; have:=hb.cd; simp [bothF]; omega,
  fun n hn =>by obtain ⟨x,hx,y,hy,rfl⟩:=zip_mem hn; have:=ha.o0 x hx; omega,fun n hn =>by obtain ⟨x,hx,y,hy,rfl⟩:=zip_mem hn; have:=ha.od x hx; have:=hb.od y hy; omega⟩
theorem good_succ {p:Nat} {d:Int} {a:Fl} (ha:a.good p d):(succF a).good p (d+1) :=
 ⟨by simp [succF,ha.len],by have:=ha.c0; simp [succF]; omega,by have:=ha.cd; simp [succF]; omega,
  fun n hn =>by simp [succF] at hn; obtain ⟨x,hx,rfl⟩:=hn; have:=ha.o0 x hx; split <;> omega,fun n hn =>by simp [succF] at hn; obtain ⟨x,hx,rfl⟩:=hn; have:=ha.od x hx; split <;> omega⟩
theorem Fl.good.up {p:Nat} {d e:Int} {a:Fl} (ha:a.good p d) (h:d<=e):a.good p e :=
 ⟨ha.len,ha.c0,by have:=ha.cd; omega,ha.o0,fun n hn =>by have:=ha.od n hn; omega⟩
theorem raw_good (z:List Bool) (l:Lv):∀ d,rightB z.length 0 l d=true->(rawF z l).good z.length d:=by
 induction l using Lv.ind with
 | h k n ks ih =>
 intro d h
 rw [rightB] at h
 split at h
 ·cases h
 split at h
 ·cases h
 rename_i hd hk
 have hk:(ks.length:Int)=kids02 k:=by simpa using hk
 have hz:∀ e:Int,0<=e->(noneF z.length).good z.length e:=fun e he =>good_none _ he
 rw [rawF]
 unfold kids02 at hk
 match ks,hk,ih,h with
 | [],hk,ih,h =>
  rw [rawFs,combF]
  split
  ·split
   ·refine ⟨by simp,by simp,by simp; omega,fun n hn =>?_,fun n hn =>?_⟩
    ·rcases List.mem_or_eq_of_mem_set hn with hn | rfl
     ·simp at hn; omega
     ·omega
    ·rcases List.mem_or_eq_of_mem_set hn with hn | rfl
     ·simp at hn; omega
     ·omega
   ·exact hz d (by omega)
  ·exact hz d (by omega)
 | [a],hk,ih,h =>
  rw [rawFs,rawFs,combF]
  have k2:k=2:=by simp at hk; grind
  subst k2
  simp [rightsB] at h
  have:=good_succ (ih a (by simp) (d - 1) h.1)
  simp
  exact this.up (by omega)
 | a::b::r,hk,ih,h =>
  rw [rawFs,rawFs,combF]
  have h2:¬ k=5 /\ ¬ k=6:=by
   constructor <;> (rintro rfl; simp at hk; omega)
  rw [if_neg h2.1,if_neg h2.2] at h
  simp [rightsB] at h
  have ha:=(ih a (by simp) (d - 1) h.1.1).up (show d - 1<=d by omega)
  have hb:=(ih b (by simp) (d - 1) h.1.2.1).up (show d - 1<=d by omega)
  split
  ·exact good_both ha hb
  ·split
   ·split
    ·exact hb
    ·exact good_both ha hb
   ·exact hz d (by omega)
theorem none06K_ok (p:Nat) (hp:p<=1000) (H:List AO):∃ ver,FK ref06_none [.int .i64 0,.int .i64 p] H=some (.ret (.agg [.int .i64 0,.ol (H.length+1) ver]),H++[.lst 0 1 [],.lst ver 1 (i64s (List.replicate p (-1))),.lst 0 1 []]):=by
 have loop:∀ (j i:Nat) (ver:Nat) ,i+j=p -> ∃ ver',L_ref06_noneK_0 H (H++[.lst 0 1 [],.lst ver 1 (i64s (List.replicate i (-1))),.lst 0 1 []]) (.int .i64 p) (.int .i64 i) [.int .i64 0,.ol H.length 0] [.int .i64 0,.ol (H.length+1) ver]=some (.ret (.agg [.int .i64 0,.ol (H.length+1) ver']),H++[.lst 0 1 [],.lst ver' 1 (i64s (List.replicate p (-1))),.lst 0 1 []]):=by
  intro j
  induction j with
  | zero =>
   intro i ver h
   refine ⟨ver,?_⟩
   rw [L_ref06_noneK_0,awL_eq]
   simp only [↓reduceIte,go_sem,show ¬ (i:Int)<(p:Int) by omega]
   rw [show i=p by omega]
  | succ j ih =>
   intro i ver h
   obtain ⟨ver',h1⟩:=ih (i+1) (ver+1) (by omega)
   refine ⟨ver',?_⟩
   have hsn:i64s (List.replicate i (-1))++[[AV.int .i64 (-1)]]=i64s (List.replicate (i+1) (-1)):=by rw [i64s_snoc,List.replicate_succ']
   simp only [Int.natCast_add,Int.natCast_one,List.replicate_succ] at h1
   rw [L_ref06_noneK_0,awL_eq]
   simp only [↓reduceIte,go_sem,show (i:Int)<(p:Int) by omega,nat_wrap (n:=i) (by omega),List.length_replicate,show i<=1073741823 by omega,hsn,h1]
 obtain ⟨ver,h⟩:=loop p 0 0 (by omega)
 refine ⟨ver,?_⟩
 rw [f_ref06_noneK]
 simp only [↓reduceIte,go_sem]
 exact h
theorem none06_ok (p:Nat) (hp:p<=1000) (H:List AO):F ref06_none [.int .i64 0,.int .i64 p] H=some (.ret (.agg (noneF p).cs),H):=by
 have loop:∀ (j i:Nat) (ver:Nat) ,i+j=p->L_ref06_none_0 H (H++[.lst 0 1 [],.lst ver 1 (i64s (List.replicate i (-1))),.lst 0 1 []]) (.int .i64 p) (.int .i64 i) [.int .i64 0,.ol H.length 0] [.int .i64 0,.ol (H.length+1) ver]=some (.ret (.agg (noneF p).cs),H):=by
  intro j
  induction j with
  | zero =>
   intro i ver h
   rw [L_ref06_none_0,awL_eq]
   obtain rfl:i=p:=by omega
   simp only [↓reduceIte,go_sem,noneF,Fl.cs]
  | succ j ih =>
   intro i ver h
   have h1:=ih (i+1) (ver+1) (by omega)
   have hsn:i64s (List.replicate i (-1))++[[AV.int .i64 (-1)]]=i64s (List.replicate (i+1) (-1)):=by rw [i64s_snoc,List.replicate_succ']
   simp only [Int.natCast_add,Int.natCast_one,List.replicate_succ] at h1
   rw [L_ref06_none_0,awL_eq]
   simp only [↓reduceIte,go_sem,show (i:Int)<(p:Int) by omega,nat_wrap (n:=i) (by omega),List.length_replicate,show i<=1073741823 by omega,hsn,h1]
 have h:=loop p 0 0 (by omega)
 rw [f_ref06_none]
 simp only [↓reduceIte,go_sem]
 exact h
theorem both06_ok (a b:Fl) (hl:a.o.length=b.o.length) (hlen:a.o.length<=1000) (H:List AO):F ref06_both [.agg a.cs,.agg b.cs] H=some (.ret (.agg (bothF a b).cs),H):=by
 have loop:∀ (sa sb pa pb:List Int) (ver:Nat),a.o=pa++sa->b.o=pb++sb->pa.length=pb.length ->
   L_ref06_both_0 H (H++[.lst 0 1 [],.lst ver 1 (i64s (List.zipWith max pa pb)),.lst 0 1 []]) (.int .i64 pa.length) a.cs b.cs [.int .i64 0,.ol H.length 0] [.int .i64 (max a.c b.c),.ol (H.length+1) ver]=some (.ret (.agg (bothF a b).cs),H):=by
  intro sa
  induction sa with
  | nil =>
   intro sb pa pb ver ha hb hp
   have:sb=[]:=by
    rw [ha,hb] at hl; simp at hl
    exact List.eq_nil_of_length_eq_zero (by omega)
   subst this
   rw [List.append_nil] at ha hb
   rw [L_ref06_both_0,awL_eq]
   simp only [↓reduceIte,go_sem,bothF,Fl.cs,ha,hb]
  | cons x sa ih =>
   intro sb pa pb ver ha hb hp
   cases sb with
   | nil =>rw [ha,hb] at hl; simp at hl; omega
   | cons y sb =>
   have h1:=ih sb (pa++[x]) (pb++[y]) (ver+1) (by rw [ha]; simp) (by rw [hb]; simp) (by simp [hp])
   have hz:List.zipWith max (pa++[x]) (pb++[y])=List.zipWith max pa pb++[max x y]:=by rw [List.zipWith_append (h:=hp)]; rfl
   have hzl:(List.zipWith max pa pb).length=pa.length:=by rw [List.length_zipWith]; omega
   have hpa:pa.length<=1000:=by rw [ha] at hlen; simp at hlen; omega
   have hga:a.o[pa.length]? = some x:=by rw [ha]; simp
   have hgb:b.o[pa.length]? = some y:=by rw [hb,hp]; simp
   have hlt:pa.length<a.o.length:=by rw [ha]; simp
   have hmax:(if y > x then y else x)=max x y:=by rcases Int.lt_or_le x y with h | h <;> simp [Int.max_def] <;> omega
   rw [hz,<- i64s_snoc] at h1
   simp only [len_app] at h1
   rw [L_ref06_both_0,awL_eq]
   simp only [↓reduceIte,go_sem,Fl.cs,show (pa.length:Int)<(a.o.length:Int) by omega,hga,hgb,hzl,hmax,nat_wrap (n:=pa.length) (by omega),show pa.length<=1073741823 by omega]
   simp only [Fl.cs] at h1
   exact h1
 have:=loop a.o b.o [] [] 0 rfl rfl rfl
 have hmax:(if b.c > a.c then b.c else a.c)=max a.c b.c:=by rcases Int.lt_or_le a.c b.c with h | h <;> simp [Int.max_def] <;> omega
 rw [f_ref06_both]
 simp only [List.length_nil,Int.natCast_zero,List.zipWith_nil_left,i64s_nil,Fl.cs] at this
 simp only [↓reduceIte,go_sem,Fl.cs,hmax]
 exact this
theorem nought06_ok (a:Fl) (hlen:a.o.length<=1000) (H:List AO):F ref06_nought [.agg a.cs] H=some (.ret (.bool (noughtF a)),H):=by
 have loop:∀ (sa pa:List Int),a.o=pa++sa->L_ref06_nought_0 H H (.int .i64 pa.length) a.cs=some (.ret (.bool ((sa.all fun n =>decide (n<0)) && decide (a.c=0))),H):=by
  intro sa
  induction sa with
  | nil =>
   intro pa ha
   rw [List.append_nil] at ha
   rw [L_ref06_nought_0,awL_eq]
   simp only [↓reduceIte,go_sem,Fl.cs,ha,List.all_nil]
  | cons x sa ih =>
   intro pa ha
   have h1:=ih (pa++[x]) (by rw [ha]; simp)
   have hpa:pa.length<=1000:=by rw [ha] at hlen; simp at hlen; omega
   have hga:a.o[pa.length]? = some x:=by rw [ha]; simp
   have hlt:pa.length<a.o.length:=by rw [ha]; simp
   simp only [len_app,Fl.cs] at h1
   rw [L_ref06_nought_0,awL_eq,List.all_cons]
   by_cases hx:0<=x
   ·simp only [↓reduceIte,go_sem,Fl.cs,show (pa.length:Int)<(a.o.length:Int) by omega,hga,hx,show ¬ x<0 by omega]
   ·simp only [↓reduceIte,go_sem,Fl.cs,show (pa.length:Int)<(a.o.length:Int) by omega,hga,hx,show x<0 by omega,nat_wrap (n:=pa.length) (by omega),h1]
 have:=loop a.o [] rfl
 simp only [List.length_nil,Int.natCast_zero] at this
 rw [f_ref06_nought,noughtF,Bool.and_comm]
 simp only [↓reduceIte,go_sem,Fl.cs] at this ⊢
 exact this
end Go.Ab
end
section
set_option linter.unusedVariables false
set_option linter.unusedSimpArgs false
set_option maxRecDepth 100000
set_option maxHeartbeats 2000000
namespace Go.Ab
open Go.RowKit Go.Proofs
structure At where
 v:Int
 o:Int
structure Cl where
 f:List At
 t:At
def At.cs (a:At):List AV:=[.int .i64 a.v,.int .i64 a.o]
def At.css (l:List At):List (List AV):=l.map At.cs
def Cl.cs (c:Cl):List AV:=[.sl (At.css c.f),.int .i64 c.t.v,.int .i64 c.t.o]
def Cl.css (l:List Cl):List (List AV):=l.map Cl.cs
@[go_sem] theorem atcss_len (l:List At):(At.css l).length=l.length:=by simp [At.css]
@[go_sem] theorem atcss_get (l:List At) (i:Nat):(At.css l)[i]? = l[i]?.map At.cs:=by simp [At.css]
@[go_sem] theorem clcss_len (l:List Cl):(Cl.css l).length=l.length:=by simp [Cl.css]
@[go_sem] theorem clcss_get (l:List Cl) (i:Nat):(Cl.css l)[i]? = l[i]?.map Cl.cs:=by simp [Cl.css]
theorem atcss_lt (n:Nat) (l:List At):∀ a∈(At.css l).flatten,Lt n a:=by
 intro a ha
 obtain ⟨e,he,h2⟩:=List.mem_flatten.1 ha
 obtain ⟨x,_,rfl⟩:=List.mem_map.1 he
 simp [At.cs] at h2
 rcases h2 with rfl | rfl <;> exact .int _ _
theorem clcs_lt (n:Nat) (c:Cl):∀ a∈c.cs,Lt n a:=by
 intro a ha
 simp [Cl.cs] at ha
 rcases ha with rfl | rfl | rfl
 ·exact .sl (atcss_lt n _)
 ·exact .int _ _
 ·exact .int _ _
theorem clcss_lt (n:Nat) (l:List Cl):∀ a∈(Cl.css l).flatten,Lt n a:=by
 intro a ha
 obtain ⟨e,he,h2⟩:=List.mem_flatten.1 ha
 obtain ⟨x,_,rfl⟩:=List.mem_map.1 he
 exact clcs_lt n x a h2
@[go_sem] theorem lt_atcss (n:Nat) (l:List At):(∀ a∈(At.css l).flatten,Lt n a)=True:=eq_true (atcss_lt n l)
@[go_sem] theorem lt_clcss (n:Nat) (l:List Cl):(∀ a∈(Cl.css l).flatten,Lt n a)=True:=eq_true (clcss_lt n l)
@[go_sem] theorem atcs_len (a:At):a.cs.length=2:=rfl
@[go_sem] theorem atcs_rd (a:At):rd 2 true a.cs=some (.v (.agg a.cs)):=rfl
@[go_sem] theorem atcs_rd0 (a:At):rd 1 false a.cs=some (.v (.int .i64 a.v)):=rfl
@[go_sem] theorem atcs_rd1 (a:At):rd 1 false (List.drop 1 a.cs)=some (.v (.int .i64 a.o)):=rfl
@[go_sem] theorem atcs_one (a:At):a.cs.all AV.one=true:=rfl
@[go_sem] theorem atcs_over (x y:AV) (a:At):over [x,y] 0 a.cs=a.cs:=rfl
@[go_sem] theorem atcs_frz (n:Nat) (f:At) (h:List AO):frzC n f.cs h=(f.cs,h):=by simp [At.cs,frzC,frz0]
theorem atcs_lt (n:Nat) (f:At):∀ a∈f.cs,Lt n a:=by
 intro a ha
 simp [At.cs] at ha
 rcases ha with rfl | rfl <;> exact .int _ _
@[go_sem] theorem lt_atcs (n:Nat) (f:At):(∀ a∈f.cs,Lt n a)=True:=eq_true (atcs_lt n f)
@[go_sem] theorem clcs_len (c:Cl):c.cs.length=3:=rfl
@[go_sem] theorem clcs_rd (c:Cl):rd 3 true c.cs=some (.v (.agg c.cs)):=rfl
@[go_sem] theorem clcs_rd0 (c:Cl):rd 1 false c.cs=some (.v (.sl (At.css c.f))):=rfl
@[go_sem] theorem clcs_rd1 (c:Cl):rd 2 true (List.drop 1 c.cs)=some (.v (.agg c.t.cs)):=rfl
@[go_sem] theorem clcs_rd1a (c:Cl):rd 1 false (List.drop 1 c.cs)=some (.v (.int .i64 c.t.v)):=rfl
@[go_sem] theorem clcs_rd2 (c:Cl):rd 1 false (List.drop 2 c.cs)=some (.v (.int .i64 c.t.o)):=rfl
@[go_sem] theorem clcs_rd11 (c:Cl):rd 1 false (List.drop 1 (List.drop 1 c.cs))=some (.v (.int .i64 c.t.o)):=rfl
@[go_sem] theorem clcs_one (c:Cl):c.cs.all AV.one=true:=rfl
@[go_sem] theorem clcs_over (x y z:AV) (c:Cl):over [x,y,z] 0 c.cs=c.cs:=rfl
def atB (vars:Int) (a:At):Bool:=decide (0<=a.v) && decide (a.v<vars) && decide (0<=a.o) && decide (a.o<=1000)
def clB (vars:Int) (c:Cl):Bool:=decide (1<=c.f.length) && decide (c.f.length<=6) && c.f.all (atB vars) && atB vars c.t
def RightH (vars:Int) (l:List Cl):Bool:=decide (1<=vars) && decide (vars<=16) && decide (l.length<=60) && l.all (clB vars)
def gI (m:List Int) (i:Int):Int:=m.getD i.toNat 0
def minL:List Int->Int
 | [] =>0
 | [x] =>x
 | x::y::r =>min x (minL (y::r))
def asks (c:Cl) (m:List Int):Int:=minL (c.f.map fun a =>gI m a.v - a.o)+c.t.o
def stepC (m:List Int) (c:Cl):List Int:=m.set c.t.v.toNat (max (gI m c.t.v) (asks c m))
def roundC (l:List Cl) (m:List Int):List Int:=l.foldl stepC m
def mostC (l:List Cl):Int:=l.foldl (fun n c =>c.f.foldl (fun n a =>max n (c.t.o - a.o)) n) 0
def limitC (vars:Int) (l:List Cl):Int:=(vars - 1)*mostC l
inductive RunS (l:List Cl) (most:Int):List Int->Option (List Int)->Nat->Prop
 | over {m:List Int} (h:∃ x∈roundC l m,most<x):RunS l most m none 1
 | fix {m:List Int} (h:roundC l m=m) (hb:∀ x∈m,x<=most):RunS l most m (some m) 1
 | more {m:List Int} {r:Option (List Int)} {k:Nat} (h:roundC l m ≠ m) (hb:∀ x∈roundC l m,x<=most) (hr:RunS l most (roundC l m) r k):RunS l most m r (k+1)
theorem stepC_len (m:List Int) (c:Cl):(stepC m c).length=m.length:=by simp [stepC]
theorem roundC_len (l:List Cl) (m:List Int):(roundC l m).length=m.length:=by
 unfold roundC
 induction l generalizing m with
 | nil =>rfl
 | cons c l ih =>rw [List.foldl_cons,ih,stepC_len]
def LeM (a b:List Int):Prop:=a.length=b.length /\ ∀ i,a.getD i 0<=b.getD i 0
theorem LeM.refl (a:List Int):LeM a a:=⟨rfl,fun _ =>Int.le_refl _⟩
theorem LeM.trans {a b c:List Int} (h:LeM a b) (k:LeM b c):LeM a c:=⟨h.1.trans k.1,fun i =>Int.le_trans (h.2 i) (k.2 i)⟩
theorem set_getD (m:List Int) (i j:Nat) (x:Int):(m.set i x).getD j 0=if i=j/\i<m.length then x else m.getD j 0:=by
 simp only [List.getD,List.getElem?_set]
 by_cases h:i=j
 ·subst h
  by_cases hl:i<m.length
  ·simp [hl]
  ·simp [hl]
 ·simp [h]
theorem stepC_le (m:List Int) (c:Cl):LeM m (stepC m c):=by
 refine ⟨(stepC_len m c).symm,fun i =>?_⟩
 unfold stepC
 rw [set_getD]
 split
 ·rename_i h; rw [<- h.1]; unfold gI; omega
 ·exact Int.le_refl _
theorem roundC_le (l:List Cl):∀ m,LeM m (roundC l m):=by
 unfold roundC
 induction l with
 | nil =>exact LeM.refl
 | cons c l ih =>exact fun m =>(stepC_le m c).trans (ih _)
theorem leM_eq {a b:List Int} (h:LeM a b) (k:LeM b a):a=b:=by
 apply List.ext_getElem h.1
 intro i h1 h2
 have e1:=h.2 i
 have e2:=k.2 i
 simp [List.getD,h1,h2] at e1 e2
 omega
def sumL (m:List Int):Int:=m.foldr (· + ·) 0
theorem sum_le:∀ {a b:List Int},LeM a b->sumL a<=sumL b
 | [],[],_ =>Int.le_refl _
 | [],_::_,h =>by have:=h.1; simp at this
 | _::_,[],h =>by have:=h.1; simp at this
 | x::a,y::b,h =>by
  have h0:=h.2 0
  have:=sum_le (a:=a) (b:=b) ⟨by simpa using h.1,fun i =>by simpa using h.2 (i+1)⟩
  simp at h0
  simp only [sumL,List.foldr_cons] at *
  omega
theorem sum_eq:∀ {a b:List Int},LeM a b->sumL b<=sumL a->a=b
 | [],[],_,_ =>rfl
 | [],_::_,h,_ =>by have:=h.1; simp at this
 | _::_,[],h,_ =>by have:=h.1; simp at this
 | x::a,y::b,h,k =>by
  have h0:=h.2 0
  have h1:LeM a b:=⟨by simpa using h.1,fun i =>by simpa using h.2 (i+1)⟩
  have:=sum_le h1
  simp at h0
  simp only [sumL,List.foldr_cons] at *
  have e:x=y:=by omega
  rw [e,sum_eq h1 (by simp only [sumL]; omega)]
theorem sum_bound {B:Int}:∀ {m:List Int},(∀ x∈m,x<=B)->sumL m<=m.length*B
 | [],_ =>by simp [sumL]
 | x::m,h =>by
  have:=sum_bound (m:=m) fun y hy =>h y (by simp [hy])
  have h0:=h x (by simp)
  simp only [sumL,List.foldr_cons,List.length_cons] at *
  rw [Int.natCast_add,Int.add_mul]; omega
theorem run_total (l:List Cl) (most:Int):∀ (d:Nat) (m:List Int),(m.length:Int)*most - sumL m<=d->(∀ x∈m,x<=most) -> ∃ r k,RunS l most m r k/\k<=d+1:=by
 intro d
 induction d with
 | zero =>
  intro m hd hb
  by_cases h:roundC l m=m
  ·exact ⟨_,_,.fix h hb,by omega⟩
  ·by_cases ho:∃ x∈roundC l m,most<x
   ·exact ⟨_,_,.over ho,by omega⟩
   ·exfalso
    have hb2:∀ x∈roundC l m,x<=most:=fun x hx =>Int.not_lt.1 fun hlt =>ho ⟨x,hx,hlt⟩
    have h1:=sum_bound hb2
    rw [roundC_len] at h1
    exact h (sum_eq (roundC_le l m) (by omega)).symm
 | succ d ih =>
  intro m hd hb
  by_cases h:roundC l m=m
  ·exact ⟨_,_,.fix h hb,by omega⟩
  ·by_cases ho:∃ x∈roundC l m,most<x
   ·exact ⟨_,_,.over ho,by omega⟩
   ·have hb2:∀ x∈roundC l m,x<=most:=fun x hx =>Int.not_lt.1 fun hlt =>ho ⟨x,hx,hlt⟩
    have hs:sumL m<sumL (roundC l m):=by
     rcases Int.lt_or_le (sumL m) (sumL (roundC l m)) with h1 | h1
     ·exact h1
     ·exact absurd (sum_eq (roundC_le l m) h1).symm h
    obtain ⟨r,k,h1,h2⟩:=ih (roundC l m) (by rw [roundC_len]; omega) hb2
    exact ⟨r,k+1,.more h hb2 h1,by omega⟩
theorem RunS.det {l:List Cl} {most:Int} {m:List Int} {r r':Option (List Int)} {k k':Nat} (h:RunS l most m r k):RunS l most m r' k' -> r=r' /\ k=k':=by
 induction h generalizing r' k' with
 | over h =>
  intro h2
  cases h2 with
  | over =>exact ⟨rfl,rfl⟩
  | fix h3 hb =>obtain ⟨x,hx,hlt⟩:=h; rw [h3] at hx; have:=hb x hx; omega
  | more h3 hb _ =>obtain ⟨x,hx,hlt⟩:=h; have:=hb x hx; omega
 | fix h hb =>
  intro h2
  cases h2 with
  | over h3 =>obtain ⟨x,hx,hlt⟩:=h3; rw [h] at hx; have:=hb x hx; omega
  | fix =>exact ⟨rfl,rfl⟩
  | more h3 _ _ =>exact absurd h h3
 | more h hb hr ih =>
  intro h2
  cases h2 with
  | over h3 =>obtain ⟨x,hx,hlt⟩:=h3; have:=hb x hx; omega
  | fix h3 _ =>exact absurd h3 h
  | more _ _ hr2 =>obtain ⟨rfl,rfl⟩:=ih hr2; exact ⟨rfl,rfl⟩
theorem RunS.model {l:List Cl} {most:Int} {m r:List Int} {k:Nat} {o:Option (List Int)} (h:RunS l most m o k):o=some r->roundC l r=r/\(∀ x∈r,x<=most)/\r.length=m.length:=by
 induction h with
 | over h =>intro e; cases e
 | fix h hb =>intro e; cases e; exact ⟨h,hb,rfl⟩
 | more h hb hr ih =>intro e; obtain ⟨h1,h2,h3⟩:=ih e; exact ⟨h1,h2,by rw [h3,roundC_len]⟩
theorem RunS.le {l:List Cl} {most:Int} {m r:List Int} {k:Nat} {o:Option (List Int)} (h:RunS l most m o k):o=some r->LeM m r:=by
 induction h with
 | over h =>intro e; cases e
 | fix h hb =>intro e; cases e; exact LeM.refl _
 | more h hb hr ih =>intro e; exact (roundC_le l _).trans (ih e)
end Go.Ab
end
section
set_option linter.unusedVariables false
set_option linter.unusedSimpArgs false
set_option maxRecDepth 100000
set_option maxHeartbeats 2000000
namespace Go.Ab
open Go.RowKit Go.Proofs
theorem succ06_loop (H:List AO) (i:Int) (w:AV) (c:Int) (o:List Int) (hlen:o.length<=1000) (ho:∀ n∈o,-1<=n/\n<=1000) :
  ∀ (so po:List Int) (ver:Nat),o=po++so->L_ref06_raw_0 H (H++[.lst 0 1 [],.lst ver 1 (i64s (po.map fun n =>if 0<=n then n+1 else n)),.lst 0 1 []]) (.int .i64 po.length) [.int .i64 0,w] [.int .i64 c,.sl (i64s o)] [.int .i64 i,.ol (H.length+1) ver]=some (.ret (.agg [.int .i64 i,.sl (i64s (o.map fun n =>if 0<=n then n+1 else n))]),H):=by
 intro so
 induction so with
 | nil =>
  intro po ver h
  rw [List.append_nil] at h
  subst h
  rw [L_ref06_raw_0,awL_eq]
  simp only [↓reduceIte,go_sem]
 | cons x so ih =>
  intro po ver h
  have h1:=ih (po++[x]) (ver+1) (by rw [h]; simp)
  have hga:o[po.length]? = some x:=by rw [h]; simp
  have hp:po.length<o.length:=by rw [h]; simp
  obtain ⟨hx1,hx2⟩:=ho x (by rw [h]; simp)
  rw [List.map_append,List.map_cons,List.map_nil,<- i64s_snoc] at h1
  simp only [len_app] at h1
  rw [L_ref06_raw_0,awL_eq]
  by_cases hx:0<=x
  ·rw [if_pos hx] at h1
   simp only [↓reduceIte,go_sem,show (po.length:Int)<(o.length:Int) by omega,hga,hx,wrap64 (n:=x+1) (by omega) (by omega),nat_wrap (n:=po.length) (by omega),show po.length<=1073741823 by omega,List.length_map,h1]
  ·rw [if_neg hx] at h1
   simp only [↓reduceIte,go_sem,show (po.length:Int)<(o.length:Int) by omega,hga,hx,nat_wrap (n:=po.length) (by omega),show po.length<=1073741823 by omega,List.length_map,h1]
theorem raw06_ok (z:List Bool) (hz:z.length<=1000) (l:Lv):∀ d,d<=1000->rightB z.length 0 l d=true -> ∀ H,F ref06_raw [.agg l.cs,.sl (bls z)] H=some (.ret (.agg (rawF z l).cs),H):=by
 induction l using Lv.ind with
 | h k n ks ih =>
 intro d hd h H
 have hg:=raw_good z (.mk k n ks) d h
 rw [rightB] at h
 split at h
 ·cases h
 split at h
 ·cases h
 rename_i hd1 hk
 have hk:(ks.length:Int)=kids02 k:=by simpa using hk
 have hnone:=fun H =>none06_ok z.length hz H
 rw [f_ref06_raw]
 rw [rawF] at hg ⊢
 unfold kids02 at hk
 match ks,hk,ih,h,hg with
 | [],hk,ih,h,hg =>
  simp at hk
  by_cases h5:k=5
  ·subst h5
   simp at h
   obtain ⟨h0,hn⟩:=h
   obtain ⟨j,rfl⟩:=Int.eq_ofNat_of_zero_le h0
   have hj:j<z.length:=by omega
   obtain ⟨b,hb⟩:∃ b,z[j]? = some b:=⟨z[j],by simp [hj]⟩
   obtain ⟨ver,hK⟩:=none06K_ok z.length hz (H++[.lst 0 1 []])
   simp only [rawFs,combF,Int.toNat_natCast,hb,if_true]
   cases b
   ·have hgr:(List.replicate z.length (-1:Int))[j]? = some (-1):=by simp [hj]
    have hs:(i64s (List.replicate z.length (-1))).set j [AV.int .i64 0]=i64s ((List.replicate z.length (-1)).set j 0):=by simp [i64s,List.map_set]
    simp only [↓reduceIte,go_sem,Lv.cs,Lv.css] at hK ⊢
    simp only [↓reduceIte,go_sem,Lv.cs,Lv.css,hK,hb,List.length_replicate,hj,hgr,hs,Fl.cs]
   ·simp only [↓reduceIte,go_sem,Lv.cs,Lv.css] at hK ⊢
    simp only [↓reduceIte,go_sem,Lv.cs,Lv.css,hK,hb,noneF,Fl.cs,Option.some.injEq,Bool.true_eq_false]
  ·have h2:¬ k=2:=by grind
   have h3:¬ k=3:=by grind
   have h4:¬ k=4:=by grind
   simp only [rawFs,combF,if_neg h5]
   simp only [↓reduceIte,go_sem,Lv.cs,Lv.css,h2,h3,h4,h5,hnone]
 | [a],hk,ih,h,hg =>
  have k2:k=2:=by simp at hk; grind
  subst k2
  simp [rightsB] at h
  have iha:=fun H =>ih a (by simp) (d - 1) (by omega) h.1 H
  have ga:=raw_good z a (d - 1) h.1
  simp only [rawFs,combF,if_true]
  generalize rawF z a=fa at iha ga
  obtain ⟨c,o⟩:=fa
  have hc:=ga.c0
  have hc2:=ga.cd
  have hlen:=ga.len
  simp only at hc hc2 hlen
  simp only [↓reduceIte,go_sem,Lv.cs,Lv.css,iha,Fl.cs,wrap64 (n:=c+1) (by omega) (by omega)]
  exact succ06_loop H _ _ c o (by omega) (fun n hn =>⟨ga.o0 n hn,by have:=ga.od n hn; omega⟩) o [] 0 rfl
 | [a,b],hk,ih,h,hg =>
  have h5:¬ k=5:=by rintro rfl; simp at hk
  have h6:¬ k=6:=by rintro rfl; simp at hk
  rw [if_neg h5,if_neg h6] at h
  simp [rightsB] at h
  have iha:=fun H =>ih a (by simp) (d - 1) (by omega) h.1.1 H
  have ihb:=fun H =>ih b (by simp) (d - 1) (by omega) h.1.2 H
  have ga:=raw_good z a (d - 1) h.1.1
  have gb:=raw_good z b (d - 1) h.1.2
  have k34:k=3\/k=4:=by simp at hk; grind
  simp only [rawFs,combF]
  generalize rawF z a=fa at iha ga ⊢
  generalize rawF z b=fb at ihb gb ⊢
  have hB:=fun H =>both06_ok fa fb (by rw [ga.len,gb.len]) (by rw [ga.len]; exact hz) H
  have hN:=fun H =>nought06_ok fb (by rw [gb.len]; exact hz) H
  rcases k34 with rfl | rfl
  ·simp only [↓reduceIte,go_sem,Lv.cs,Lv.css,iha,ihb,hB]
  ·cases hn:noughtF fb <;> simp only [hn] at hN
   ·simp only [↓reduceIte,go_sem,Lv.cs,Lv.css,iha,ihb,hB,hN,hn]
   ·simp only [↓reduceIte,go_sem,Lv.cs,Lv.css,iha,ihb,hB,hN,hn]
 | a::b::c::r,hk,ih,h,hg =>
  exfalso
  simp at hk
  grind
end Go.Ab
end
section
set_option linter.unusedVariables false
set_option linter.unusedSimpArgs false
set_option maxRecDepth 100000
set_option maxHeartbeats 2000000
namespace Go.Ab
open Go.RowKit Go.Proofs
def nrmF (c:Int) (l:List Int):Int:=if (l.any fun n =>decide (0<=n) && decide (c<=n+1))=true then 0 else c
def normF (f:Fl):Fl:=⟨nrmF f.c f.o,f.o⟩
theorem nrmF_snoc {c:Int} (hc:0<=c) (l:List Int) (x:Int):nrmF c (l++[x])=if 0<=x/\nrmF c l<=x+1 then 0 else nrmF c l:=by
 unfold nrmF
 rw [List.any_append]
 by_cases h:(l.any fun n =>decide (0<=n) && decide (c<=n+1))=true
 ·simp [h]
 ·simp only [h]
  simp
theorem nrmF_le {c:Int} (hc:0<=c) (l:List Int):0<=nrmF c l/\nrmF c l<=c:=by unfold nrmF; split <;> omega
theorem flatten06_loop (H:List AO) (c:Int) (o:List Int) (hc:0<=c) (hlen:o.length<=1000) (ho:∀ n∈o,-1<=n/\n<=1000) :
  ∀ (so po:List Int),o=po++so->L_ref06_Flatten_0 H H (.int .i64 po.length) [.int .i64 0,.sl []] [.int .i64 (nrmF c po),.sl (i64s o)]=some (.ret (.tup [.agg [.int .i64 (nrmF c o),.sl (i64s o)],.int .i64 0]),H):=by
 intro so
 induction so with
 | nil =>
  intro po h
  rw [List.append_nil] at h
  subst h
  rw [L_ref06_Flatten_0,awL_eq]
  simp only [↓reduceIte,go_sem]
 | cons x so ih =>
  intro po h
  have h1:=ih (po++[x]) (by rw [h]; simp)
  have hga:o[po.length]? = some x:=by rw [h]; simp
  have hp:po.length<o.length:=by rw [h]; simp
  obtain ⟨hx1,hx2⟩:=ho x (by rw [h]; simp)
  rw [nrmF_snoc hc] at h1
  simp only [len_app] at h1
  rw [L_ref06_Flatten_0,awL_eq]
  by_cases hx:0<=x
  ·by_cases hy:nrmF c po<=x+1
   ·rw [if_pos ⟨hx,hy⟩] at h1
    simp only [↓reduceIte,go_sem,show (po.length:Int)<(o.length:Int) by omega,hga,hx,hy,wrap64 (n:=x+1) (by omega) (by omega),nat_wrap (n:=po.length) (by omega),h1]
   ·rw [if_neg (by rintro ⟨_,h⟩; exact hy h)] at h1
    simp only [↓reduceIte,go_sem,show (po.length:Int)<(o.length:Int) by omega,hga,hx,hy,wrap64 (n:=x+1) (by omega) (by omega),nat_wrap (n:=po.length) (by omega),h1]
  ·rw [if_neg (by rintro ⟨h,_⟩; exact hx h)] at h1
   simp only [↓reduceIte,go_sem,show (po.length:Int)<(o.length:Int) by omega,hga,hx,nat_wrap (n:=po.length) (by omega),h1]
theorem rightB_z {l:Lv} {p:Nat} {m:Int} (h:RightB l p m=true):p<=5/\rightB p m l 12=true:=by
 simp only [RightB,Bool.and_eq_true,decide_eq_true_eq] at h
 exact ⟨by omega,h.2⟩
def zeroF:Fl:=⟨0,[]⟩
def FlatS (l:Lv) (z:List Bool):Fl:=if RightB l z.length 0=true then normF (rawF z l) else zeroF
def FlatE (l:Lv) (z:List Bool):Int:=if RightB l z.length 0=true then 0 else 1
theorem Flatten06_ok (l:Lv) (hl:l.ok) (z:List Bool) (H:List AO):F ref06_Flatten [.agg l.cs,.sl (bls z)] H=some (.ret (.tup [.agg (FlatS l z).cs,.int .i64 (FlatE l z)]),H):=by
 have hR:=fun H =>Right02_ok l hl z.length 0 H
 rw [f_ref06_Flatten]
 by_cases h:RightB l z.length 0=true
 ·have hz:=rightB_z h
  have hraw:=fun H =>raw06_ok z (by omega) l 12 (by omega) hz.2 H
  have hg:=raw_good z l 12 hz.2
  rw [FlatE,FlatS,if_pos h,if_pos h]
  have:=flatten06_loop H (rawF z l).c (rawF z l).o hg.c0 (by rw [hg.len]; omega) (fun n hn =>⟨hg.o0 n hn,by have:=hg.od n hn; omega⟩) (rawF z l).o [] rfl
  have hn:nrmF (rawF z l).c []=(rawF z l).c:=rfl
  simp only [List.length_nil,Int.natCast_zero,hn] at this
  simp only [↓reduceIte,go_sem,hR,h,hraw,normF,Fl.cs]
  exact this
 ·rw [FlatE,FlatS,if_neg h,if_neg h]
  simp only [↓reduceIte,go_sem,hR,h,zeroF,Fl.cs]
theorem flatS_len (l:Lv) (z:List Bool) (h:RightB l z.length 0=true):(FlatS l z).o.length=z.length:=by
 rw [FlatS,if_pos h]; exact (raw_good z l 12 (rightB_z h).2).len
theorem flatS_good (l:Lv) (z:List Bool):0<=(FlatS l z).c/\(FlatS l z).c<=12/\(FlatS l z).o.length<=5 /\ ∀ n∈(FlatS l z).o,-1<=n/\n<=12:=by
 rw [FlatS]
 split
 ·rename_i h
  have hz:=rightB_z h
  have hg:=raw_good z l 12 hz.2
  have hn:=nrmF_le hg.c0 (rawF z l).o
  exact ⟨hn.1,Int.le_trans hn.2 hg.cd,by show (rawF z l).o.length<=5; rw [hg.len]; exact hz.1,fun n hn =>⟨hg.o0 n hn,hg.od n hn⟩⟩
 ·simp [zeroF]
def caseZ:Nat->Nat->List Bool
 | _,0 =>[]
 | n,p+1 =>decide (n % 2=1)::caseZ (n / 2) p
theorem caseZ_len (n p:Nat):(caseZ n p).length=p:=by
 induction p generalizing n with
 | zero =>rfl
 | succ p ih =>rw [caseZ,List.length_cons,ih]
theorem Case07_ok (n p:Nat) (hn:n<1000) (hp:p<=1000) (H:List AO):F ref07_Case [.int .i64 n,.int .i64 p] H=some (.ret (.sl (bls (caseZ n p))),H):=by
 have loop:∀ (j i m:Nat) (z:List Bool) (ver:Nat),i+j=p->m<1000->z.length=i->z++caseZ m j=caseZ n p->L_ref07_Case_0 H (H++[.lst 0 1 [],.lst ver 1 (bls z)]) (.int .i64 m) (.int .i64 p) (.ol (H.length+1) ver) (.int .i64 i)=some (.ret (.sl (bls (caseZ n p))),H):=by
  intro j
  induction j with
  | zero =>
   intro i m z ver h hm hz he
   rw [caseZ,List.append_nil] at he
   rw [L_ref07_Case_0,awL_eq]
   simp only [↓reduceIte,go_sem,he,show ¬ (i:Int)<(p:Int) by omega]
  | succ j ih =>
   intro i m z ver h hm hz he
   have h1:=ih (i+1) (m / 2) (z++[decide (m % 2=1)]) (ver+1) (by omega) (by omega) (by simp [hz]) (by rw [<- he,caseZ]; simp)
   have hmod:decide ((m:Int).tmod 2=1)=decide (m % 2=1):=by
    rw [Int.tmod_eq_emod_of_nonneg (by omega)]; apply decide_eq_decide.2; omega
   have hdiv:(m:Int).tdiv 2=((m / 2:Nat):Int):=by rw [Int.tdiv_eq_ediv_of_nonneg (by omega)]; omega
   have hs:bls z++[[.bool (decide (m % 2=1))]]=bls (z++[decide (m % 2=1)]):=by simp [bls]
   simp only [Int.natCast_add,Int.natCast_one] at h1
   rw [L_ref07_Case_0,awL_eq]
   simp only [↓reduceIte,go_sem,show (i:Int)<(p:Int) by omega,hz,show i<=1073741823 by omega,hmod,hdiv,wrap64 (n:=((m / 2:Nat):Int)) (by omega) (by omega),hs,nat_wrap (n:=i) (by omega),h1]
 rw [f_ref07_Case]
 simp only [↓reduceIte,go_sem]
 exact loop p 0 n [] 0 (by omega) hn rfl rfl
def atomsG:List Int->Int->List At
 | [],_ =>[]
 | n::r,i =>if 0<=n then ⟨i,n⟩::atomsG r (i+1) else atomsG r (i+1)
def atomsF (f:Fl):List At:=⟨0,f.c⟩::atomsG f.o 1
theorem atomsG_snoc (l:List Int) (x:Int):∀ i:Int,atomsG (l++[x]) i=atomsG l i++if 0<=x then [⟨i+l.length,x⟩] else []:=by
 induction l with
 | nil =>intro i; simp [atomsG]
 | cons n l ih =>
  intro i
  rw [List.cons_append,atomsG,atomsG,ih (i+1)]
  have:i+1+(l.length:Int)=i+((n::l).length:Int):=by simp; omega
  rw [this]
  split <;> simp
theorem atomsG_len (l:List Int):∀ i:Int,(atomsG l i).length<=l.length:=by
 induction l with
 | nil =>intro i; simp [atomsG]
 | cons n l ih =>intro i; rw [atomsG]; have:=ih (i+1); split <;> simp <;> omega
theorem atcss_snoc (l:List At) (x:At):At.css l++[x.cs]=At.css (l++[x]):=by simp [At.css]
theorem Atoms12_ok (f:Fl) (hf:f.o.length<=1000) (H:List AO):F ref12_Atoms [.agg f.cs] H=some (.ret (.sl (At.css (atomsF f))),H):=by
 have loop:∀ (so po:List Int) (ver:Nat),f.o=po++so->L_ref12_Atoms_0 H (H++[.lst 0 2 [],.lst ver 2 (At.css (⟨0,f.c⟩::atomsG po 1))]) (.ol (H.length+1) ver) (.int .i64 po.length) f.cs=some (.ret (.sl (At.css (atomsF f))),H):=by
  intro so
  induction so with
  | nil =>
   intro po ver h
   rw [List.append_nil] at h
   subst h
   rw [L_ref12_Atoms_0,awL_eq]
   simp only [↓reduceIte,go_sem,Fl.cs,atomsF]
  | cons x so ih =>
   intro po ver h
   have hga:f.o[po.length]? = some x:=by rw [h]; simp
   have hp:po.length<f.o.length:=by rw [h]; simp
   have hlen:=atomsG_len po 1
   rw [L_ref12_Atoms_0,awL_eq]
   by_cases hx:0<=x
   ·have h1:=ih (po++[x]) (ver+1) (by rw [h]; simp)
    rw [atomsG_snoc,if_pos hx] at h1
    have hs:At.css ({ v:=0,o:=f.c } :: atomsG po 1)++[[.int .i64 ((po.length:Int)+1),.int .i64 x]]=At.css ({ v:=0,o:=f.c } :: (atomsG po 1++[⟨1+po.length,x⟩])):=by
     rw [<- List.cons_append,<- atcss_snoc,Int.add_comm]; rfl
    simp only [len_app,Fl.cs] at h1
    simp only [↓reduceIte,go_sem,Fl.cs,show (po.length:Int)<(f.o.length:Int) by omega,hga,hx,nat_wrap (n:=po.length) (by omega),hs,List.length_cons,show (atomsG po 1).length<=1073741822 by omega,h1]
   ·have h1:=ih (po++[x]) ver (by rw [h]; simp)
    rw [atomsG_snoc,if_neg hx,List.append_nil] at h1
    simp only [len_app,Fl.cs] at h1
    simp only [↓reduceIte,go_sem,Fl.cs,show (po.length:Int)<(f.o.length:Int) by omega,hga,hx,nat_wrap (n:=po.length) (by omega),h1]
 rw [f_ref12_Atoms]
 simp only [↓reduceIte,go_sem]
 exact loop f.o [] 0 rfl
end Go.Ab
end
section
set_option linter.unusedVariables false
set_option linter.unusedSimpArgs false
set_option maxRecDepth 100000
set_option maxHeartbeats 2000000
namespace Go.Ab
open Go.RowKit Go.Proofs
@[go_sem] theorem atom08_ok (a:At) (vars:Int) (H:List AO):F ref08_atom [.agg a.cs,.int .i64 vars] H=some (.ret (.bool (atB vars a)),H):=by
 rw [f_ref08_atom,atB]
 simp only [↓reduceIte,go_sem,At.cs]
 grind
theorem right08_in (vars:Int) (l:List Cl) (H:List AO) (i:Nat) (c:Cl) (hi:l[i]? = some c) (hb:l.length<=1000) (hc:c.f.length<=6) :
  ∀ (fs fp:List At),c.f=fp++fs->L_ref08_Right_0 H H (.int .i64 vars) (.sl (Cl.css l)) (.int .i64 i) (.int .i64 fp.length)=if fs.all (atB vars)=true then L_ref08_Right_1 H H (.int .i64 vars) (.sl (Cl.css l)) (.int .i64 (i+1)) else some (.ret (.bool false),H):=by
 intro fs
 have hil:i<l.length:=(List.getElem?_eq_some_iff.1 hi).1
 induction fs with
 | nil =>
  intro fp h
  rw [List.append_nil] at h
  rw [L_ref08_Right_0,awL_eq]
  simp only [↓reduceIte,go_sem,hi,h,List.all_nil,nat_wrap (n:=i) (by omega)]
 | cons x fs ih =>
  intro fp h
  have h1:=ih (fp++[x]) (by rw [h]; simp)
  have hga:c.f[fp.length]? = some x:=by rw [h]; simp
  have hp:fp.length<c.f.length:=by rw [h]; simp
  simp only [len_app] at h1
  rw [L_ref08_Right_0,awL_eq,List.all_cons]
  cases hx:atB vars x
  ·simp only [↓reduceIte,go_sem,hi,show (fp.length:Int)<(c.f.length:Int) by omega,hga,hx]
  ·simp only [↓reduceIte,go_sem,hi,show (fp.length:Int)<(c.f.length:Int) by omega,hga,hx,nat_wrap (n:=fp.length) (by omega),h1]
theorem right08_out (vars:Int) (l:List Cl) (H:List AO) (hb:l.length<=1000) :
  ∀ (s p:List Cl),l=p++s->L_ref08_Right_1 H H (.int .i64 vars) (.sl (Cl.css l)) (.int .i64 p.length)=some (.ret (.bool (s.all (clB vars))),H):=by
 intro s
 induction s with
 | nil =>
  intro p h
  rw [List.append_nil] at h
  rw [L_ref08_Right_1,awL_eq]
  simp only [↓reduceIte,go_sem,h,List.all_nil]
 | cons c s ih =>
  intro p h
  have h1:=ih (p++[c]) (by rw [h]; simp)
  have hga:l[p.length]? = some c:=by rw [h]; simp
  have hp:p.length<l.length:=by rw [h]; simp
  simp only [len_app] at h1
  have hin:=fun hc =>right08_in vars l H p.length c hga hb hc c.f [] rfl
  simp only [List.length_nil,Int.natCast_zero] at hin
  rw [L_ref08_Right_1,awL_eq,List.all_cons,clB]
  cases hx:atB vars c.t
  ·simp only [↓reduceIte,go_sem,show (p.length:Int)<(l.length:Int) by omega,hga,hx]
  ·by_cases ha:1<=c.f.length
   ·by_cases hb:c.f.length<=6
    ·simp only [↓reduceIte,go_sem,show (p.length:Int)<(l.length:Int) by omega,hga,hx,hin hb,h1,show ¬ ((c.f.length:Int)<1) by omega,show ¬ (6<(c.f.length:Int)) by omega,ha,hb]
     cases c.f.all (atB vars) <;> simp
    ·simp only [↓reduceIte,go_sem,show (p.length:Int)<(l.length:Int) by omega,hga,hx,show ¬ ((c.f.length:Int)<1) by omega,show (6<(c.f.length:Int)) by omega,ha,hb]
   ·simp only [↓reduceIte,go_sem,show (p.length:Int)<(l.length:Int) by omega,hga,hx,show ((c.f.length:Int)<1) by omega,ha]
theorem Right08_ok (vars:Int) (l:List Cl) (H:List AO):F ref08_Right [.int .i64 vars,.sl (Cl.css l)] H=some (.ret (.bool (RightH vars l)),H):=by
 have h:=fun hb =>right08_out vars l H hb l [] rfl
 simp only [List.length_nil,Int.natCast_zero] at h
 rw [f_ref08_Right,RightH]
 simp only [↓reduceIte,go_sem]
 by_cases hv:vars<1
 ·simp [hv,show ¬ 1<=vars by omega]
 by_cases hv2:16<vars
 ·simp [hv,hv2,show ¬ vars<=16 by omega]
 by_cases hl:60<(l.length:Int)
 ·simp [hv,hv2,hl,show ¬ l.length<=60 by omega]
 ·simp [hv,hv2,hl,h (by omega),show 1<=vars by omega,show vars<=16 by omega,show l.length<=60 by omega]
structure Cl.ok (vars:Nat) (c:Cl):Prop where
 ne:1<=c.f.length
 len:c.f.length<=6
 at_:∀ a∈c.f,0<=a.v/\a.v<vars/\0<=a.o/\a.o<=1000
 to:0<=c.t.v/\c.t.v<vars/\0<=c.t.o/\c.t.o<=1000
theorem atB_iff {vars:Int} {a:At}:atB vars a=true ↔ 0<=a.v/\a.v<vars/\0<=a.o/\a.o<=1000:=by
 simp [atB,and_assoc]
theorem RightH_iff {vars:Nat} {l:List Cl}:RightH vars l=true ↔ 1<=vars/\vars<=16/\l.length<=60 /\ ∀ c∈l,c.ok vars:=by
 simp only [RightH,Bool.and_eq_true,decide_eq_true_eq,List.all_eq_true,clB,atB_iff]
 constructor
 ·rintro ⟨⟨⟨h1,h2⟩,h3⟩,h4⟩
  exact ⟨by omega,by omega,h3,fun c hc =>⟨(h4 c hc).1.1.1,(h4 c hc).1.1.2,(h4 c hc).1.2,(h4 c hc).2⟩⟩
 ·rintro ⟨h1,h2,h3,h4⟩
  exact ⟨⟨⟨by omega,by omega⟩,h3⟩,fun c hc =>⟨⟨⟨(h4 c hc).ne,(h4 c hc).len⟩,(h4 c hc).at_⟩,(h4 c hc).to⟩⟩
def okM (vars:Nat) (m:List Int):Prop:=m.length=vars /\ ∀ x∈m,-1000000000000<=x/\x<=1000000000000
theorem okM.get {vars:Nat} {m:List Int} (h:okM vars m) {v:Int} (h0:0<=v) (h1:v<vars):m[v.toNat]? = some (gI m v) /\ -1000000000000<=gI m v/\gI m v<=1000000000000:=by
 have hl:v.toNat<m.length:=by rw [h.1]; omega
 have e:m[v.toNat]? = some (gI m v):=by simp [gI,List.getD,hl]
 exact ⟨e,h.2 _ (List.mem_of_getElem? e)⟩
theorem minL_snoc (n:Int):∀ l:List Int,l ≠ []->minL (l++[n])=min (minL l) n
 | [],h =>absurd rfl h
 | [x],_ =>rfl
 | x::y::r,_ =>by
  have:=minL_snoc n (y::r) (by simp)
  simp only [List.cons_append,minL] at this ⊢
  rw [this]; omega
theorem minL_mem:∀ {l:List Int},l ≠ []->minL l∈l
 | [],h =>absurd rfl h
 | [x],_ =>by simp [minL]
 | x::y::r,_ =>by
  have:=minL_mem (l:=y::r) (by simp)
  rw [minL]
  rcases Int.le_total x (minL (y::r)) with h | h
  ·rw [Int.min_eq_left h]; simp
  ·rw [Int.min_eq_right h]; exact List.mem_cons_of_mem _ this
theorem asks_bd {vars:Nat} {m:List Int} (hm:okM vars m) {c:Cl} (hc:c.ok vars):-1000000001000<=asks c m/\asks c m<=1000000001000:=by
 have hne:c.f.map (fun a =>gI m a.v - a.o) ≠ []:=by have:=hc.ne; intro h; simp at h; simp [h] at this
 obtain ⟨a,ha,e⟩:=List.mem_map.1 (minL_mem hne)
 have h1:=hc.at_ a ha
 have h2:=hc.to
 have h3:=(hm.get h1.1 h1.2.1).2
 rw [asks,<- e]; omega
theorem okM.lt {vars:Nat} {m:List Int} (h:okM vars m) {v:Int} (h0:0<=v) (h1:v<vars):v.toNat<m.length:=by rw [h.1]; omega
theorem asks08_loop (m:List Int) (vars:Nat) (hm:okM vars m) (H:List AO) (id ver:Nat) (hH:H[id]? = some (.lst ver 1 (i64s m))) (c:Cl) (hc:c.ok vars) :
  ∀ (s p:List At) ,c.f=p++s->p ≠ []->L_ref08_Asks_0 H H (.ol id ver) (.int .i64 (minL (p.map fun a =>gI m a.v - a.o))) (.int .i64 p.length) c.cs=some (.ret (.int .i64 (asks c m)),H):=by
 intro s
 induction s with
 | nil =>
  intro p h hp
  rw [List.append_nil] at h
  have hb:=asks_bd hm hc
  rw [asks,h] at hb
  rw [L_ref08_Asks_0,awL_eq]
  simp only [↓reduceIte,go_sem,h,wrap64 (n:=minL (p.map fun a =>gI m a.v - a.o)+c.t.o) (by omega) (by omega),asks]
 | cons x s ih =>
  intro p h hp
  have h1:=ih (p++[x]) (by rw [h]; simp) (by simp)
  have hga:c.f[p.length]? = some x:=by rw [h]; simp
  have hpl:p.length<c.f.length:=by rw [h]; simp
  have hlen:=hc.len
  have hx:=hc.at_ x (by rw [h]; simp)
  have hgm:=hm.get hx.1 hx.2.1
  have hgl:=hm.lt hx.1 hx.2.1
  rw [List.map_append,List.map_cons,List.map_nil,minL_snoc _ _ (by simpa using hp)] at h1
  simp only [len_app] at h1
  have hmin:(if gI m x.v - x.o<minL (p.map fun a =>gI m a.v - a.o) then gI m x.v - x.o else minL (p.map fun a =>gI m a.v - a.o))=min (minL (p.map fun a =>gI m a.v - a.o)) (gI m x.v - x.o):=by split <;> omega
  rw [L_ref08_Asks_0,awL_eq]
  simp only [↓reduceIte,go_sem,At.cs,show (p.length:Int)<(c.f.length:Int) by omega,hga,hx.1,hgm.1,hgl,hH,wrap64 (n:=gI m x.v - x.o) (by omega) (by omega),nat_wrap (n:=p.length) (by omega),hmin,h1]
theorem Asks08_ok (c:Cl) (m:List Int) (vars:Nat) (hm:okM vars m) (hc:c.ok vars) (H:List AO) (id ver:Nat) (hH:H[id]? = some (.lst ver 1 (i64s m))):F ref08_Asks [.agg c.cs,.ol id ver] H=some (.ret (.int .i64 (asks c m)),H):=by
 obtain ⟨x,r,e⟩:∃ x r,c.f=x::r:=by
  cases h:c.f with
  | nil =>have:=hc.ne; rw [h] at this; simp at this
  | cons x r =>exact ⟨x,r,rfl⟩
 have hx:=hc.at_ x (by rw [e]; simp)
 have hgm:=hm.get hx.1 hx.2.1
 have hgl:=hm.lt hx.1 hx.2.1
 have h0:c.f[0]? = some x:=by rw [e]; rfl
 rw [f_ref08_Asks]
 simp only [↓reduceIte,go_sem,h0,At.cs,hx.1,hgm.1,hgl,hH,wrap64 (n:=gI m x.v - x.o) (by omega) (by omega)]
 have h1:=asks08_loop m vars hm H id ver hH c hc r [x] (by rw [e]; rfl) (by simp)
 have hpos:(0:Int)<(c.f.length:Int):=by have:=hc.ne; omega
 rw [L_ref08_Asks_0,awL_eq]
 simp only [↓reduceIte,go_sem,h0,hpos,At.cs,hx.1,hgm.1,hgl,hH,wrap64 (n:=gI m x.v - x.o) (by omega) (by omega),Int.lt_irrefl]
 exact h1
def mostIn (c:Cl) (n:Int) (l:List At):Int:=l.foldl (fun n a =>max n (c.t.o - a.o)) n
theorem mostIn_bd {vars:Nat} {c:Cl} (hc:c.ok vars):∀ (l:List At),(∀ a∈l,a∈c.f) -> ∀ {n:Int},0<=n/\n<=1000->0<=mostIn c n l/\mostIn c n l<=1000
 | [],_,_,hn =>hn
 | a::l,hl,n,hn =>by
  have h1:=hc.at_ a (hl a (by simp))
  have h2:=hc.to
  exact mostIn_bd hc l (fun b hb =>hl b (by simp [hb])) (n:=max n (c.t.o - a.o)) (by omega)
theorem mostC_bd {vars:Nat}:∀ (l:List Cl),(∀ c∈l,c.ok vars) -> ∀ {n:Int},0<=n/\n<=1000->0<=l.foldl (fun n c =>mostIn c n c.f) n/\l.foldl (fun n c =>mostIn c n c.f) n<=1000
 | [],_,_,hn =>hn
 | c::l,hl,n,hn =>mostC_bd l (fun d hd =>hl d (by simp [hd])) (mostIn_bd (hl c (by simp)) c.f (fun _ h =>h) hn)
theorem mostC_eq (l:List Cl):mostC l=l.foldl (fun n c =>mostIn c n c.f) 0:=rfl
theorem most08_in (vars:Nat) (l:List Cl) (hl:∀ c∈l,c.ok vars) (hb:l.length<=1000) (H:List AO) (i:Nat) (c:Cl) (hi:l[i]? = some c) (n0:Int) (hn0:0<=n0/\n0<=1000) :
  ∀ (s p:List At),c.f=p++s->L_ref08_Most_0 H H (.sl (Cl.css l)) (.int .i64 (mostIn c n0 p)) (.int .i64 i) (.int .i64 p.length)=L_ref08_Most_1 H H (.sl (Cl.css l)) (.int .i64 (mostIn c n0 c.f)) (.int .i64 (i+1)):=by
 intro s
 have hil:i<l.length:=(List.getElem?_eq_some_iff.1 hi).1
 have hc:=hl c (List.mem_of_getElem? hi)
 have hlen:=hc.len
 induction s with
 | nil =>
  intro p h
  rw [List.append_nil] at h
  rw [L_ref08_Most_0,awL_eq]
  simp only [↓reduceIte,go_sem,hi,h,nat_wrap (n:=i) (by omega)]
 | cons x s ih =>
  intro p h
  have h1:=ih (p++[x]) (by rw [h]; simp)
  have hga:c.f[p.length]? = some x:=by rw [h]; simp
  have hp:p.length<c.f.length:=by rw [h]; simp
  have hx:=hc.at_ x (by rw [h]; simp)
  have ht:=hc.to
  have hs:mostIn c n0 (p++[x])=max (mostIn c n0 p) (c.t.o - x.o):=by simp [mostIn]
  have hmax:(if c.t.o - x.o > mostIn c n0 p then c.t.o - x.o else mostIn c n0 p)=max (mostIn c n0 p) (c.t.o - x.o):=by split <;> omega
  rw [hs] at h1
  simp only [len_app] at h1
  rw [L_ref08_Most_0,awL_eq]
  simp only [↓reduceIte,go_sem,At.cs,hi,show (p.length:Int)<(c.f.length:Int) by omega,hga,wrap64 (n:=c.t.o - x.o) (by omega) (by omega),nat_wrap (n:=p.length) (by omega),hmax,h1]
theorem most08_out (vars:Nat) (l:List Cl) (hl:∀ c∈l,c.ok vars) (hb:l.length<=1000) (H:List AO) :
  ∀ (s p:List Cl),l=p++s -> ∀ n,0<=n/\n<=1000->n=p.foldl (fun n c =>mostIn c n c.f) 0->L_ref08_Most_1 H H (.sl (Cl.css l)) (.int .i64 n) (.int .i64 p.length)=some (.ret (.tup [.int .i64 (mostC l),.int .i64 0]),H):=by
 intro s
 induction s with
 | nil =>
  intro p h n hn e
  rw [List.append_nil] at h
  subst h
  rw [L_ref08_Most_1,awL_eq]
  simp only [↓reduceIte,go_sem,e,mostC_eq]
 | cons c s ih =>
  intro p h n hn e
  have hga:l[p.length]? = some c:=by rw [h]; simp
  have hp:p.length<l.length:=by rw [h]; simp
  have h1:=ih (p++[c]) (by rw [h]; simp) (mostIn c n c.f) (mostIn_bd (hl c (by rw [h]; simp)) c.f (fun _ h =>h) hn) (by rw [List.foldl_append,<- e]; rfl)
  have hin:=most08_in vars l hl hb H p.length c hga n hn c.f [] rfl
  have h0:mostIn c n []=n:=rfl
  simp only [len_app] at h1
  simp only [List.length_nil,Int.natCast_zero,h0] at hin
  rw [L_ref08_Most_1,awL_eq]
  simp only [↓reduceIte,go_sem,show (p.length:Int)<(l.length:Int) by omega,hga,hin,h1]
theorem Most08_ok (vars:Nat) (l:List Cl) (h:RightH vars l=true) (H:List AO):F ref08_Most [.int .i64 vars,.sl (Cl.css l)] H=some (.ret (.tup [.int .i64 (mostC l),.int .i64 0]),H):=by
 have hr:=RightH_iff.1 h
 have h1:=most08_out vars l hr.2.2.2 (by omega) H l [] rfl 0 (by omega) rfl
 rw [f_ref08_Most]
 simp only [↓reduceIte,go_sem,Right08_ok,h]
 exact h1
end Go.Ab
end
section
set_option linter.unusedVariables false
set_option linter.unusedSimpArgs false
set_option maxRecDepth 100000
set_option maxHeartbeats 2000000
namespace Go.Ab
open Go.RowKit Go.Proofs
theorem great09_ok (m:List Int) (hb:m.length<=1000) (most:Int) (H:List AO) (id ver:Nat) (hH:H[id]? = some (.lst ver 1 (i64s m))):F ref09_great [.ol id ver,.int .i64 most] H=some (.ret (.bool (m.any fun x =>decide (most<x))),H):=by
 have loop:∀ (s p:List Int),m=p++s->L_ref09_great_0 H H (.ol id ver) (.int .i64 most) (.int .i64 p.length)=some (.ret (.bool (s.any fun x =>decide (most<x))),H):=by
  intro s
  induction s with
  | nil =>
   intro p h
   rw [List.append_nil] at h
   subst h
   rw [L_ref09_great_0,awL_eq]
   simp only [↓reduceIte,go_sem,hH,List.any_nil]
  | cons x s ih =>
   intro p h
   have h1:=ih (p++[x]) (by rw [h]; simp)
   have hga:m[p.length]? = some x:=by rw [h]; simp
   have hp:p.length<m.length:=by rw [h]; simp
   simp only [len_app] at h1
   rw [L_ref09_great_0,awL_eq,List.any_cons]
   by_cases hx:most<x
   ·simp only [↓reduceIte,go_sem,show (p.length:Int)<(m.length:Int) by omega,hga,hx,hH,hp,Bool.true_or]
   ·simp only [↓reduceIte,go_sem,show (p.length:Int)<(m.length:Int) by omega,hga,hx,hH,hp,nat_wrap (n:=p.length) (by omega),h1,Bool.false_or]
 have:=loop m [] rfl
 rw [f_ref09_great]
 simp only [↓reduceIte,go_sem,hH]
 exact this
theorem stepC_same {m:List Int} {c:Cl} (h:¬ gI m c.t.v<asks c m):stepC m c=m:=by
 unfold stepC
 rw [Int.max_eq_left (by omega)]
 apply List.ext_getElem?
 intro i
 rw [List.getElem?_set]
 split
 ·rename_i e
  subst e
  split
  ·rename_i hl; simp [gI,List.getD,hl]
  ·rename_i hl; simp [hl]
 ·rfl
theorem stepC_more {m:List Int} {c:Cl} (h:gI m c.t.v<asks c m) (hl:c.t.v.toNat<m.length):stepC m c=m.set c.t.v.toNat (asks c m)/\stepC m c ≠ m:=by
 have e:stepC m c=m.set c.t.v.toNat (asks c m):=by unfold stepC; rw [Int.max_eq_right (by omega)]
 refine ⟨e,fun h2 =>?_⟩
 have h3:(m.set c.t.v.toNat (asks c m)).getD c.t.v.toNat 0=asks c m:=by rw [set_getD,if_pos ⟨rfl,hl⟩]
 rw [<- e,h2] at h3
 unfold gI at h; omega
def bdM (vars:Nat) (B:Int) (m:List Int):Prop:=m.length=vars /\ ∀ x∈m,0<=x/\x<=B
theorem bdM.ok {vars:Nat} {B:Int} {m:List Int} (h:bdM vars B m) (hB:B<=1000000000000):okM vars m :=
 ⟨h.1,fun x hx =>by have:=h.2 x hx; omega⟩
theorem bdM.get {vars:Nat} {B:Int} {m:List Int} (h:bdM vars B m) {v:Int} (h0:0<=v) (h1:v<vars):0<=gI m v/\gI m v<=B:=by
 have hl:v.toNat<m.length:=by rw [h.1]; omega
 have e:m[v.toNat]? = some (gI m v):=by simp [gI,List.getD,hl]
 exact h.2 _ (List.mem_of_getElem? e)
theorem asks_le {vars:Nat} {B:Int} {m:List Int} (hm:bdM vars B m) {c:Cl} (hc:c.ok vars):asks c m<=B+1000:=by
 have hne:c.f.map (fun a =>gI m a.v - a.o) ≠ []:=by have:=hc.ne; intro h; simp at h; simp [h] at this
 obtain ⟨a,ha,e⟩:=List.mem_map.1 (minL_mem hne)
 have h1:=hc.at_ a ha
 have h2:=hc.to
 have h3:=hm.get h1.1 h1.2.1
 rw [asks,<- e]; omega
theorem bdM.step {vars:Nat} {B:Int} {m:List Int} (hm:bdM vars B m) {c:Cl} (hc:c.ok vars) (hB:0<=B):bdM vars (B+1000) (stepC m c):=by
 refine ⟨by rw [stepC_len]; exact hm.1,fun x hx =>?_⟩
 have ha:=asks_le hm hc
 have hg:=hm.get hc.to.1 hc.to.2.1
 rcases List.mem_or_eq_of_mem_set hx with hx | rfl
 ·have:=hm.2 x hx; omega
 ·omega
theorem bdM.round {vars:Nat}:∀ (l:List Cl) {B:Int} {m:List Int},bdM vars B m->(∀ c∈l,c.ok vars)->0<=B->bdM vars (B+1000*l.length) (roundC l m)
 | [],B,m,hm,_,_ =>by simpa [roundC] using hm
 | c::l,B,m,hm,hl,hB =>by
  have:=bdM.round l (hm.step (hl c (by simp)) hB) (fun d hd =>hl d (by simp [hd])) (by omega)
  have e:B+1000+1000*(l.length:Int)=B+1000*((c::l).length:Int):=by simp; omega
  rw [e] at this
  exact this
def greatB (most:Int) (m:List Int):Bool:=m.any fun x =>decide (most<x)
theorem rounds09_in (l:List Cl) (most:Int) (vars:Nat) (H:List AO) (hl:∀ c∈l,c.ok vars) (hb:l.length<=1000) (hv:vars<=1000):∀ (s p:List Cl),l=p++s -> ∀ (B:Int) (ver:Nat) (k:Int) (ch:Bool) (m:List Int),bdM vars B m->0<=B->B+1000*s.length<=1000000000->0<=k->k+s.length<=1000000000000000 -> ∃ ver',
  L_ref09_rounds_0 H (H++[.lst 0 1 [],.lst ver 1 (i64s m)]) (.sl (Cl.css l)) (.int .i64 most) (.ol (H.length+1) ver) (.int .i64 k) (.bool ch) (.int .i64 p.length) =
   (if greatB most (roundC s m)=true then some (.ret (.tup [.sl [],.bool false,.int .i64 (k+s.length)]),H) else
    if ch=true\/roundC s m ≠ m then L_ref09_rounds_1 H (H++[.lst 0 1 [],.lst ver' 1 (i64s (roundC s m))]) (.sl (Cl.css l)) (.int .i64 most) (.ol (H.length+1) ver') (.int .i64 (k+s.length))
    else some (.ret (.tup [.sl (i64s (roundC s m)),.bool true,.int .i64 (k+s.length)]),H)):=by
 intro s
 induction s with
 | nil =>
  intro p h B ver k ch m hm h0 hB hk0 hk
  rw [List.append_nil] at h
  have hG:=fun H id ver hH =>great09_ok m (by rw [hm.1]; exact hv) most H id ver hH
  refine ⟨ver,?_⟩
  have hGG:=hG (H++[.lst 0 1 [],.lst ver 1 (i64s m)]) (H.length+1) ver (by simp)
  rw [L_ref09_rounds_0,awL_eq]
  simp only [↓reduceIte,go_sem,h,hGG,greatB,roundC,List.foldl_nil,List.length_nil,Int.natCast_zero,Int.add_zero]
  cases ch <;> simp
 | cons c s ih =>
  intro p h B ver k ch m hm h0 hB hk0 hk
  simp only [List.length_cons,Int.natCast_add,Int.natCast_one] at hB hk
  have hc:=hl c (by rw [h]; simp)
  have hga:l[p.length]? = some c:=by rw [h]; simp
  have hp:p.length<l.length:=by rw [h]; simp
  have hA:=Asks08_ok c m vars (hm.ok (by omega)) hc (H++[.lst 0 1 [],.lst ver 1 (i64s m)]) (H.length+1) ver (by simp)
  have hgm:=(hm.ok (by omega)).get hc.to.1 hc.to.2.1
  have hgl:=(hm.ok (by omega)).lt hc.to.1 hc.to.2.1
  have hk1:k+1+(s.length:Int)=k+((c::s).length:Int):=by simp; omega
  have hround:roundC (c::s) m=roundC s (stepC m c):=rfl
  rw [L_ref09_rounds_0,awL_eq]
  by_cases hlt:gI m c.t.v<asks c m
  ·have hst:=stepC_more hlt hgl
   obtain ⟨ver',h1⟩:=ih (p++[c]) (by rw [h]; simp) (B+1000) ver (k+1) true (stepC m c) (hm.step hc h0) (by omega) (by omega) (by omega) (by omega)
   refine ⟨ver',?_⟩
   have hset:(i64s m).set c.t.v.toNat [.int .i64 (asks c m)]=i64s (m.set c.t.v.toNat (asks c m)):=by simp [i64s,List.map_set]
   simp only [len_app,hst.1] at h1
   simp only [↓reduceIte,go_sem,hga,hp,show (p.length:Int)<(l.length:Int) by omega,hA,hc.to.1,hgm.1,hgl,hlt,wrap64 (n:=k+1) (by omega) (by omega),nat_wrap (n:=p.length) (by omega),hset]
   rw [h1,hround,hst.1,hk1]
   have hne:roundC s (m.set c.t.v.toNat (asks c m)) ≠ m:=by
    intro e
    rw [<- hst.1] at e
    have:=roundC_le s (stepC m c)
    rw [e] at this
    exact hst.2 (leM_eq (stepC_le m c) this).symm
   simp [hne]
  ·obtain ⟨ver',h1⟩:=ih (p++[c]) (by rw [h]; simp) (B+1000) ver (k+1) ch (stepC m c) (hm.step hc h0) (by omega) (by omega) (by omega) (by omega)
   refine ⟨ver',?_⟩
   simp only [len_app,stepC_same hlt] at h1
   rw [hround,stepC_same hlt]
   simp only [↓reduceIte,go_sem,hga,hp,show (p.length:Int)<(l.length:Int) by omega,hA,hc.to.1,hgm.1,hgl,hlt,wrap64 (n:=k+1) (by omega) (by omega),nat_wrap (n:=p.length) (by omega),h1,hk1]
def modL (r:Option (List Int)):List (List AV):=match r with | some m =>i64s m | none =>[]
theorem i64s_lt' (n:Nat) (z:List Int):∀ a∈(i64s z).flatten,Lt n a:=by
 intro a ha
 obtain ⟨e,he,h2⟩:=List.mem_flatten.1 ha
 obtain ⟨b,_,rfl⟩:=List.mem_map.1 he
 simp at h2; subst h2; exact .int _ _
@[go_sem] theorem lt_modL (n:Nat) (r:Option (List Int)):(∀ a∈(modL r).flatten,Lt n a)=True:=eq_true (by
 cases r with
 | none =>intro a ha; simp [modL] at ha
 | some m =>exact i64s_lt' n m)
theorem rounds09_out (l:List Cl) (most:Int) (vars:Nat) (H:List AO) (hl:∀ c∈l,c.ok vars) (hb:l.length<=1000) (hv:vars<=1000) (hm0:0<=most) (hm1:most<=1000000) {m:List Int} {r:Option (List Int)} {n:Nat} (hr:RunS l most m r n) :
  ∀ (ver:Nat) (k:Int),bdM vars most m->0<=k->k+n*l.length<=1000000000000000 ->
  L_ref09_rounds_1 H (H++[.lst 0 1 [],.lst ver 1 (i64s m)]) (.sl (Cl.css l)) (.int .i64 most) (.ol (H.length+1) ver) (.int .i64 k)=some (.ret (.tup [.sl (modL r),.bool r.isSome,.int .i64 (k+n*l.length)]),H):=by
 have hgr:∀ m,greatB most m=true ↔ ∃ x∈m,most<x:=by intro m; simp [greatB]
 induction hr with
 | over h =>
  intro ver k hbd hk0 hk
  rename_i m
  obtain ⟨ver',h1⟩:=rounds09_in l most vars H hl hb hv l [] rfl most ver k false m hbd hm0 (by omega) hk0 (by omega)
  rw [if_pos ((hgr _).2 h)] at h1
  simp only [List.length_nil,Int.natCast_zero] at h1
  rw [L_ref09_rounds_1,awL_eq]
  simp only [↓reduceIte,go_sem,h1,modL,Option.isSome]
  simp
 | fix h hb2 =>
  intro ver k hbd hk0 hk
  rename_i m
  obtain ⟨ver',h1⟩:=rounds09_in l most vars H hl hb hv l [] rfl most ver k false m hbd hm0 (by omega) hk0 (by omega)
  rw [if_neg (by rw [hgr,h]; rintro ⟨x,hx,hlt⟩; have:=hb2 x hx; omega),if_neg (by simp [h]),h] at h1
  simp only [List.length_nil,Int.natCast_zero] at h1
  rw [L_ref09_rounds_1,awL_eq]
  simp only [↓reduceIte,go_sem,h1,modL,Option.isSome]
  simp
 | more h hb2 hr ih =>
  intro ver k hbd hk0 hk
  rename_i m r n
  have e:k+l.length+n*(l.length:Int)=k+((n+1:Nat):Int)*l.length:=by
   rw [Int.natCast_add,Int.add_mul]; simp; omega
  have hn0:0<=n*(l.length:Int):=Int.mul_nonneg (by omega) (by omega)
  obtain ⟨ver',h1⟩:=rounds09_in l most vars H hl hb hv l [] rfl most ver k false m hbd hm0 (by omega) hk0 (by omega)
  rw [if_neg (by rw [hgr]; rintro ⟨x,hx,hlt⟩; have:=hb2 x hx; omega),if_pos (.inr h)] at h1
  have hrb:=hbd.round l hl hm0
  rw [ih ver' (k+l.length) ⟨hrb.1,fun x hx =>⟨(hrb.2 x hx).1,hb2 x hx⟩⟩ (by omega) (by omega),e] at h1
  simp only [List.length_nil,Int.natCast_zero] at h1
  rw [L_ref09_rounds_1,awL_eq]
  simp only [↓reduceIte,go_sem,h1]
theorem rounds09_ok (l:List Cl) (most:Int) (vars:Nat) (H:List AO) (hl:∀ c∈l,c.ok vars) (hb:l.length<=1000) (hv:vars<=1000) (hv1:1<=vars) (hm0:0<=most) (hm1:most<=1000000) {m:List Int} {r:Option (List Int)} {n:Nat} (hr:RunS l most m r n) (hbd:bdM vars most m) (hk:n*(l.length:Int)<=1000000000000000) :
  F ref09_rounds [.sl (Cl.css l),.sl (i64s m),.int .i64 most] H=some (.ret (.tup [.sl (modL r),.bool r.isSome,.int .i64 (n*l.length)]),H):=by
 obtain ⟨x,q,e⟩:∃ x q,m=x::q:=by
  cases m with
  | nil =>have:=hbd.1; simp at this; omega
  | cons x q =>exact ⟨x,q,rfl⟩
 subst e
 have h1:=fun ver =>rounds09_out l most vars H hl hb hv hm0 hm1 hr ver 0 hbd (by omega) (by omega)
 have hlen:=hbd.1
 rw [List.length_cons] at hlen
 have hi:i64s (x::q)=[.int .i64 x]::i64s q:=rfl
 have h1s:(∀ y:List AV,y∈i64s q->y.length=1)=True:=eq_true (by intro y hy; obtain ⟨z,_,rfl⟩:=List.mem_map.1 hy; rfl)
 rw [f_ref09_rounds]
 simp only [Int.zero_add,hi] at h1
 simp only [↓reduceIte,go_sem,hi,h1s,show q.length<1073741824 by omega,h1]
theorem limit09_ok (vars:Nat) (l:List Cl) (h:RightH vars l=true) (H:List AO):F ref09_Limit [.int .i64 vars,.sl (Cl.css l)] H=some (.ret (.int .i64 (limitC vars l)),H):=by
 have hr:=RightH_iff.1 h
 have hb:=mostC_bd l hr.2.2.2 (n:=0) (by omega)
 rw [<- mostC_eq] at hb
 have h1:0<=((vars:Int) - 1)*mostC l:=Int.mul_nonneg (by omega) hb.1
 have h2:((vars:Int) - 1)*mostC l<=15*1000:=Int.mul_le_mul (by omega) hb.2 hb.1 (by omega)
 rw [f_ref09_Limit,limitC]
 simp only [↓reduceIte,go_sem,Most08_ok vars l h,wrap64 (n:=(vars:Int) - 1) (by omega) (by omega),wrap64 (n:=((vars:Int) - 1)*mostC l) (by omega) (by omega)]
theorem limitC_bd (vars:Nat) (l:List Cl) (h:RightH vars l=true):0<=limitC vars l/\limitC vars l<=15000:=by
 have hr:=RightH_iff.1 h
 have hb:=mostC_bd l hr.2.2.2 (n:=0) (by omega)
 rw [<- mostC_eq] at hb
 have h1:0<=((vars:Int) - 1)*mostC l:=Int.mul_nonneg (by omega) hb.1
 have h2:((vars:Int) - 1)*mostC l<=15*1000:=Int.mul_le_mul (by omega) hb.2 hb.1 (by omega)
 unfold limitC; omega
theorem run0 (vars:Nat) (l:List Cl) (h:RightH vars l=true):∃ r k,RunS l (limitC vars l) (List.replicate vars 0) r k/\k<=300001:=by
 have hr:=RightH_iff.1 h
 have hb:=limitC_bd vars l h
 have hs:∀ n,sumL (List.replicate n 0)=0:=by
  intro n
  induction n with
  | zero =>rfl
  | succ n ih =>simp only [sumL,List.replicate_succ,List.foldr_cons] at *; omega
 have hmul:(vars:Int)*limitC vars l<=16*15000:=Int.mul_le_mul (by omega) hb.2 hb.1 (by omega)
 obtain ⟨r,k,h1,h2⟩:=run_total l (limitC vars l) 300000 (List.replicate vars 0) (by rw [hs,List.length_replicate]; omega) (fun x hx =>by simp at hx; omega)
 exact ⟨r,k,h1,by omega⟩
theorem Solve09_ok (vars:Nat) (l:List Cl) (h:RightH vars l=true) {r:Option (List Int)} {k:Nat} (hr:RunS l (limitC vars l) (List.replicate vars 0) r k) (H:List AO):F ref09_Solve [.int .i64 vars,.sl (Cl.css l)] H=some (.ret (.tup [.sl (modL r),.bool r.isSome,.int .i64 (k*l.length),.int .i64 0]),H):=by
 have hR:=RightH_iff.1 h
 have hb:=limitC_bd vars l h
 obtain ⟨r',k',h1,h2⟩:=run0 vars l h
 obtain ⟨_,e⟩:=hr.det h1
 have hk:(k:Int)*l.length<=300001*60:=Int.mul_le_mul (by omega) (by omega) (by omega) (by omega)
 have hro:=fun H =>rounds09_ok l (limitC vars l) vars H hR.2.2.2 (by omega) (by omega) hR.1 hb.1 (by omega) hr ⟨by simp,fun x hx =>by simp at hx; omega⟩ (by omega)
 have hrep:List.replicate vars [AV.int .i64 0]=i64s (List.replicate vars 0):=by simp [i64s]
 rw [f_ref09_Solve]
 simp only [↓reduceIte,go_sem,Right08_ok,h,limit09_ok vars l h,show (vars:Int)<=1073741824 by omega,show (vars:Int)<=1073741823 by omega,hro,hrep]
end Go.Ab
end
section
set_option linter.unusedVariables false
set_option linter.unusedSimpArgs false
set_option maxRecDepth 100000
set_option maxHeartbeats 2000000
namespace Go.Ab
open Go.RowKit Go.Proofs
def posG:List Bool->Int->List Cl
 | [],_ =>[]
 | b::r,i =>if b then posG r (i+1) else ⟨[⟨i,0⟩],⟨0,1⟩⟩::posG r (i+1)
def conC (z:List Bool) (c:Co):List Cl:=(atomsF (FlatS c.a z)).map fun t =>⟨atomsF (FlatS c.b z),t⟩
def clausesS (cons:List Co) (z:List Bool):List Cl:=posG z 1++cons.flatMap (conC z)
theorem clcss_snoc (l:List Cl) (x:Cl):Cl.css l++[x.cs]=Cl.css (l++[x]):=by simp [Cl.css]
theorem posG_snoc (l:List Bool) (x:Bool):∀ i:Int,posG (l++[x]) i=posG l i++if x then [] else [⟨[⟨i+l.length,0⟩],⟨0,1⟩⟩]:=by
 induction l with
 | nil =>intro i; simp [posG]
 | cons n l ih =>
  intro i
  rw [List.cons_append,posG,posG,ih (i+1)]
  have:i+1+(l.length:Int)=i+((n::l).length:Int):=by simp; omega
  rw [this]
  split <;> simp
theorem posG_len (l:List Bool):∀ i:Int,(posG l i).length<=l.length:=by
 induction l with
 | nil =>intro i; simp [posG]
 | cons n l ih =>intro i; rw [posG]; have:=ih (i+1); split <;> simp <;> omega
theorem values12_ok (m:List Int) (z:List Bool) (hm:m.length=z.length+1) (hb:okM (z.length+1) m) (hz:z.length<=1000):∃ vs,∀ H,F ref12_values [.sl (i64s m),.sl (bls z)] H=some (.ret (.sl (i64s vs)),H):=by
 have g0:=hb.get (v:=0) (by omega) (by omega)
 have loop:∀ (s p:List Bool) (out:List Int),z=p++s->out.length=p.length -> ∃ vs,∀ (H:List AO) (ver:Nat),L_ref12_values_0 H (H++[.lst 0 1 [],.lst ver 1 (i64s out)]) (.sl (i64s m)) (.sl (bls z)) (.ol (H.length+1) ver) (.int .i64 p.length)=some (.ret (.sl (i64s vs)),H):=by
  intro s
  induction s with
  | nil =>
   intro p out h ho
   rw [List.append_nil] at h
   subst h
   refine ⟨out,fun H ver =>?_⟩
   rw [L_ref12_values_0,awL_eq]
   simp only [↓reduceIte,go_sem]
  | cons x s ih =>
   intro p out h ho
   have hga:z[p.length]? = some x:=by rw [h]; simp
   have hp:p.length<z.length:=by rw [h]; simp
   have g1:=hb.get (v:=(p.length:Int)+1) (by omega) (by omega)
   have hnn:(0:Int)<=(p.length:Int)+1:=by omega
   obtain ⟨vs,h1⟩:=ih (p++[x]) (out++[if x=true then 0 else gI m 0 - gI m ((p.length:Int)+1)]) (by rw [h]; simp) (by simp [ho])
   refine ⟨vs,fun H ver =>?_⟩
   have h1:=h1 H (ver+1)
   rw [<- i64s_snoc] at h1
   simp only [len_app] at h1
   have e0:m[0]? = some (gI m 0):=g0.1
   rw [L_ref12_values_0,awL_eq]
   cases x
   ·simp only [↓reduceIte,Bool.false_eq_true] at h1
    simp only [↓reduceIte,go_sem,show (p.length:Int)<(z.length:Int) by omega,hga,e0,hnn,g1.1,nat_wrap (n:=p.length) (by omega),wrap64 (n:=gI m 0 - gI m ((p.length:Int)+1)) (by omega) (by omega),ho,show p.length<=1073741823 by omega,h1]
   ·simp only [↓reduceIte] at h1
    simp only [↓reduceIte,go_sem,show (p.length:Int)<(z.length:Int) by omega,hga,e0,hnn,g1.1,nat_wrap (n:=p.length) (by omega),wrap64 (n:=gI m 0 - gI m ((p.length:Int)+1)) (by omega) (by omega),ho,show p.length<=1073741823 by omega,h1]
 obtain ⟨vs,h1⟩:=loop z [] [] rfl rfl
 refine ⟨vs,fun H =>?_⟩
 have h1:=h1 H 0
 rw [f_ref12_values]
 simp only [↓reduceIte,go_sem]
 exact h1
theorem clauses12_0 (cons:List Co) (z:List Bool) (hz:z.length<=1000) (H:List AO):∀ (s p:List Bool) (ver:Nat),z=p++s -> ∃ ver',
  L_ref12_clauses_0 H (H++[.lst 0 3 [],.lst ver 3 (Cl.css (posG p 1))]) (.sl (Co.css cons)) (.sl (bls z)) (.ol (H.length+1) ver) (.int .i64 p.length)=L_ref12_clauses_2 H (H++[.lst 0 3 [],.lst ver' 3 (Cl.css (posG z 1))]) (.sl (Co.css cons)) (.sl (bls z)) (.ol (H.length+1) ver') (.int .i64 0):=by
 intro s
 induction s with
 | nil =>
  intro p ver h
  rw [List.append_nil] at h
  subst h
  refine ⟨ver,?_⟩
  rw [L_ref12_clauses_0,awL_eq]
  simp only [↓reduceIte,go_sem]
 | cons x s ih =>
  intro p ver h
  have hga:z[p.length]? = some x:=by rw [h]; simp
  have hp:p.length<z.length:=by rw [h]; simp
  have hl:=posG_len p 1
  cases x
  ·obtain ⟨ver',h1⟩:=ih (p++[false]) (ver+1) (by rw [h]; simp)
   refine ⟨ver',?_⟩
   rw [posG_snoc,if_neg (by simp)] at h1
   simp only [len_app] at h1
   have hs:Cl.css (posG p 1)++[[.sl [[.int .i64 ((p.length:Int)+1),.int .i64 0]],.int .i64 0,.int .i64 1]]=Cl.css (posG p 1++[⟨[⟨1+p.length,0⟩],⟨0,1⟩⟩]):=by
    rw [<- clcss_snoc,Int.add_comm]; rfl
   rw [L_ref12_clauses_0,awL_eq]
   simp only [↓reduceIte,go_sem,show (p.length:Int)<(z.length:Int) by omega,hga,nat_wrap (n:=p.length) (by omega),show (posG p 1).length<=1073741823 by omega,hs,h1]
  ·obtain ⟨ver',h1⟩:=ih (p++[true]) ver (by rw [h]; simp)
   refine ⟨ver',?_⟩
   rw [posG_snoc,if_pos rfl,List.append_nil] at h1
   simp only [len_app] at h1
   rw [L_ref12_clauses_0,awL_eq]
   simp only [↓reduceIte,go_sem,show (p.length:Int)<(z.length:Int) by omega,hga,nat_wrap (n:=p.length) (by omega),h1]
theorem clauses12_1 (cons:List Co) (z:List Bool) (H:List AO) (i:Nat) (hi:i<=1000) (fb:Fl) (hfb:fb.o.length<=1000) (l:List At) (hl:l.length<=1000) (out:List Cl) (ho:out.length<=1000):∀ (s p:List At) (ver:Nat),l=p++s -> ∃ ver',
  L_ref12_clauses_1 H (H++[.lst 0 3 [],.lst ver 3 (Cl.css (out++p.map fun t =>⟨atomsF fb,t⟩))]) (.sl (Co.css cons)) (.sl (bls z)) (.ol (H.length+1) ver) (.int .i64 i) (.sl (At.css l)) (.int .i64 p.length) fb.cs=L_ref12_clauses_2 H (H++[.lst 0 3 [],.lst ver' 3 (Cl.css (out++l.map fun t =>⟨atomsF fb,t⟩))]) (.sl (Co.css cons)) (.sl (bls z)) (.ol (H.length+1) ver') (.int .i64 (i+1)):=by
 intro s
 induction s with
 | nil =>
  intro p ver h
  rw [List.append_nil] at h
  subst h
  refine ⟨ver,?_⟩
  rw [L_ref12_clauses_1,awL_eq]
  simp only [↓reduceIte,go_sem,nat_wrap (n:=i) (by omega)]
 | cons x s ih =>
  intro p ver h
  have hga:l[p.length]? = some x:=by rw [h]; simp
  have hp:p.length<l.length:=by rw [h]; simp
  obtain ⟨ver',h1⟩:=ih (p++[x]) (ver+1) (by rw [h]; simp)
  refine ⟨ver',?_⟩
  have hA:=fun H =>Atoms12_ok fb hfb H
  have hlen:(out++List.map (fun t =>{ f:=atomsF fb,t:=t:Cl }) p).length<=1073741823:=by simp; omega
  rw [List.map_append,List.map_cons,List.map_nil,<- List.append_assoc,<- clcss_snoc,Cl.cs] at h1
  simp only [len_app] at h1
  rw [L_ref12_clauses_1,awL_eq]
  simp only [↓reduceIte,go_sem,show (p.length:Int)<(l.length:Int) by omega,hga,nat_wrap (n:=p.length) (by omega),hA,At.cs,hlen]
  exact h1
theorem atomsS_len (l:Lv) (z:List Bool):(atomsF (FlatS l z)).length<=6:=by
 have:=atomsG_len (FlatS l z).o 1
 have:=(flatS_good l z).2.2.1
 rw [atomsF,List.length_cons]; omega
theorem conC_len (z:List Bool):∀ l:List Co,(l.flatMap (conC z)).length<=6*l.length
 | [] =>by simp
 | c::l =>by
  have:=conC_len z l
  have:=atomsS_len c.a z
  simp only [List.flatMap_cons,List.length_append,conC,List.length_map,List.length_cons]; omega
theorem clauses12_2 (cons:List Co) (hcons:∀ c∈cons,c.ok) (hcl:cons.length<=60) (z:List Bool) (hz:z.length<=5) (H:List AO):∀ (s p:List Co) (ver:Nat),cons=p++s ->
  L_ref12_clauses_2 H (H++[.lst 0 3 [],.lst ver 3 (Cl.css (posG z 1++p.flatMap (conC z)))]) (.sl (Co.css cons)) (.sl (bls z)) (.ol (H.length+1) ver) (.int .i64 p.length)=some (.ret (.sl (Cl.css (clausesS cons z))),H):=by
 intro s
 induction s with
 | nil =>
  intro p ver h
  rw [List.append_nil] at h
  subst h
  rw [L_ref12_clauses_2,awL_eq]
  simp only [↓reduceIte,go_sem,clausesS]
 | cons x s ih =>
  intro p ver h
  have hga:cons[p.length]? = some x:=by rw [h]; simp
  have hp:p.length<cons.length:=by rw [h]; simp
  have hx:=hcons x (by rw [h]; simp)
  have hf1:=fun H =>Flatten06_ok x.a hx.1 z H
  have hf2:=fun H =>Flatten06_ok x.b hx.2 z H
  have hA:=fun H =>Atoms12_ok (FlatS x.a z) (by have:=(flatS_good x.a z).2.2.1; omega) H
  rw [L_ref12_clauses_2,awL_eq]
  simp only [↓reduceIte,go_sem,show (p.length:Int)<(cons.length:Int) by omega,hga,hf1,hf2,hA]
  have hg:=flatS_good x.b z
  have hla:=atomsS_len x.a z
  obtain ⟨ver',h1⟩:=clauses12_1 cons z H p.length (by omega) (FlatS x.b z) (by omega) (atomsF (FlatS x.a z)) (by omega) (posG z 1++p.flatMap (conC z)) (by have:=posG_len z 1; have:=conC_len z p; simp only [List.length_append]; omega) (atomsF (FlatS x.a z)) [] ver rfl
  have h2:=ih (p++[x]) ver' (by rw [h]; simp)
  have e:posG z 1++List.flatMap (conC z) (p++[x])=(posG z 1++p.flatMap (conC z))++(atomsF (FlatS x.a z)).map fun t =>⟨atomsF (FlatS x.b z),t⟩:=by
   simp [conC]
  rw [e] at h2
  simp only [len_app] at h2
  rw [h2] at h1
  simp only [List.map_nil,List.append_nil,List.length_nil,Int.natCast_zero] at h1
  exact h1
theorem clauses12_ok (cons:List Co) (hcons:∀ c∈cons,c.ok) (hcl:cons.length<=60) (z:List Bool) (hz:z.length<=5) (H:List AO):F ref12_clauses [.sl (Co.css cons),.sl (bls z)] H=some (.ret (.sl (Cl.css (clausesS cons z))),H):=by
 obtain ⟨ver,h0⟩:=clauses12_0 cons z (by omega) H z [] 0 rfl
 have h2:=clauses12_2 cons hcons hcl z hz H cons [] ver rfl
 simp only [List.flatMap_nil,List.append_nil,List.length_nil,Int.natCast_zero] at h2
 rw [h2] at h0
 rw [f_ref12_clauses]
 simp only [↓reduceIte,go_sem]
 exact h0
def moreC (a:At) (b:List At):List Cl:=b.map fun y =>⟨[a],⟨y.v,y.o+1⟩⟩
theorem moreC_snoc (a:At) (b:List At) (y:At):moreC a (b++[y])=moreC a b++[⟨[a],⟨y.v,y.o+1⟩⟩]:=by simp [moreC]
theorem atomsG_mem (t:At):∀ (l:List Int) (i:Int),t∈atomsG l i->i<=t.v/\t.v<i+l.length/\0<=t.o/\t.o∈l
 | [],i,h =>by simp [atomsG] at h
 | n::l,i,h =>by
  rw [atomsG] at h
  have ih:=atomsG_mem t l (i+1)
  simp only [List.length_cons,Int.natCast_add,Int.natCast_one,List.mem_cons]
  split at h
  ·rcases List.mem_cons.1 h with rfl | h
   ·exact ⟨Int.le_refl _,by simp only []; omega,by assumption,.inl rfl⟩
   ·have:=ih h; exact ⟨by omega,by omega,this.2.2.1,.inr this.2.2.2⟩
  ·have:=ih h; exact ⟨by omega,by omega,this.2.2.1,.inr this.2.2.2⟩
theorem flatS_len_le (l:Lv) (z:List Bool):(FlatS l z).o.length<=z.length:=by
 by_cases h:RightB l z.length 0=true
 ·rw [flatS_len l z h]; omega
 ·rw [FlatS,if_neg h]; simp [zeroF]
theorem atomsS_ok (l:Lv) (z:List Bool):∀ t∈atomsF (FlatS l z),0<=t.v/\t.v<((z.length+1:Nat):Int)/\0<=t.o/\t.o<=12:=by
 intro t ht
 have hg:=flatS_good l z
 have hl:=flatS_len_le l z
 rw [atomsF] at ht
 rcases List.mem_cons.1 ht with rfl | ht
 ·exact ⟨by simp,by simp only []; omega,hg.1,hg.2.1⟩
 ·have:=atomsG_mem t _ _ ht
  have h2:=hg.2.2.2 _ this.2.2.2
  omega
theorem posG_mem (c:Cl):∀ (z:List Bool) (i:Int),c∈posG z i -> ∃ j,i<=j/\j<i+z.length/\c=⟨[⟨j,0⟩],⟨0,1⟩⟩
 | [],i,h =>by simp [posG] at h
 | b::z,i,h =>by
  rw [posG] at h
  have ih:=posG_mem c z (i+1)
  simp only [List.length_cons,Int.natCast_add,Int.natCast_one]
  split at h
  ·obtain ⟨j,h1,h2,h3⟩:=ih h; exact ⟨j,by omega,by omega,h3⟩
  ·rcases List.mem_cons.1 h with rfl | h
   ·exact ⟨i,by omega,by omega,rfl⟩
   ·obtain ⟨j,h1,h2,h3⟩:=ih h; exact ⟨j,by omega,by omega,h3⟩
theorem clausesS_ok (cons:List Co) (z:List Bool):∀ c∈clausesS cons z,c.ok (z.length+1):=by
 intro c hc
 rcases List.mem_append.1 hc with hc | hc
 ·obtain ⟨j,h1,h2,rfl⟩:=posG_mem c z 1 hc
  exact ⟨by simp,by simp,fun a ha =>by simp at ha; subst ha; simp only []; omega,by simp only []; omega⟩
 ·obtain ⟨d,hd,hc⟩:=List.mem_flatMap.1 hc
  obtain ⟨t,ht,rfl⟩:=List.mem_map.1 hc
  have ht:=atomsS_ok d.a z t ht
  exact ⟨by simp [atomsF],atomsS_len d.b z,fun a ha =>by have:=atomsS_ok d.b z a ha; omega,by simp only []; omega⟩
theorem moreC_ok (a:At) (b:List At) (vars:Nat) (ha:0<=a.v/\a.v<vars/\0<=a.o/\a.o<=12) (hb:∀ t∈b,0<=t.v/\t.v<vars/\0<=t.o/\t.o<=12):∀ c∈moreC a b,c.ok vars:=by
 intro c hc
 obtain ⟨y,hy,rfl⟩:=List.mem_map.1 hc
 have:=hb y hy
 exact ⟨by simp,by simp,fun t ht =>by simp at ht; subst ht; omega,by simp only []; omega⟩
def moreS (cons:List Co) (z:List Bool) (b:Lv) (x:At):List Cl:=clausesS cons z++moreC x (atomsF (FlatS b z))
theorem clausesS_len (cons:List Co) (z:List Bool):(clausesS cons z).length<=z.length+6*cons.length:=by
 have:=posG_len z 1
 have:=conC_len z cons
 rw [clausesS,List.length_append]; omega
theorem moreS_right (cons:List Co) (hcl:cons.length<=8) (z:List Bool) (hz:z.length<=5) (a b:Lv) (x:At) (hx:x∈atomsF (FlatS a z)):RightH ((z.length+1:Nat):Int) (moreS cons z b x)=true:=by
 have h1:=clausesS_len cons z
 have h2:=atomsS_len b z
 refine RightH_iff.2 ⟨by omega,by omega,by simp only [moreS,List.length_append,moreC,List.length_map]; omega,fun c hc =>?_⟩
 rcases List.mem_append.1 hc with hc | hc
 ·exact clausesS_ok cons z c hc
 ·exact moreC_ok x _ _ (atomsS_ok a z x hx) (atomsS_ok b z) c hc
def solvable (vars:Nat) (l:List Cl):Prop:=∃ m k,RunS l (limitC vars l) (List.replicate vars 0) (some m) k
theorem run_okM {vars:Nat} {l:List Cl} (h:RightH vars l=true) {m:List Int} {k:Nat} (hr:RunS l (limitC vars l) (List.replicate vars 0) (some m) k):okM vars m:=by
 have h1:=hr.model rfl
 have h2:=hr.le rfl
 have hb:=limitC_bd vars l h
 refine ⟨by simpa using h1.2.2,fun x hx =>?_⟩
 obtain ⟨i,hi⟩:=List.mem_iff_getElem?.1 hx
 have h3:=h2.2 i
 have h4:=h1.2.1 x hx
 have h5:(List.replicate vars (0:Int)).getD i 0=0:=by
  simp only [List.getD,List.getElem?_replicate]; split <;> rfl
 rw [h5] at h3
 simp only [List.getD,hi,Option.getD_some] at h3
 omega
theorem against12_loop (l:List Cl) (hl:l.length<=1000) (a:At) (b:List At) (hb:b.length<=1000) (hbo:∀ y∈b,0<=y.o/\y.o<=1000) (z:List Bool) (hz:z.length<=5) (hR:RightH ((z.length+1:Nat):Int) (l++moreC a b)=true) {r:Option (List Int)} {k:Nat} (hr:RunS (l++moreC a b) (limitC ((z.length+1:Nat):Int) (l++moreC a b)) (List.replicate (z.length+1) 0) r k) (H:List AO) :
  ∀ (s p:List At) (ver:Nat),b=p++s -> ∃ vs,L_ref12_against_0 H (H++[.lst ver 3 (Cl.css (l++moreC a p))]) (.sl (At.css b)) (.sl (bls z)) (.ol H.length ver) (.int .i64 p.length) a.cs=some (.ret (.tup [.sl (i64s vs),.bool r.isSome]),H):=by
 intro s
 induction s with
 | nil =>
  intro p ver h
  rw [List.append_nil] at h
  subst h
  have hS:=fun H =>Solve09_ok (z.length+1) (l++moreC a b) hR hr H
  simp only [Int.natCast_add,Int.natCast_one] at hS
  rw [L_ref12_against_0,awL_eq]
  cases r with
  | none =>
   refine ⟨[],?_⟩
   simp only [↓reduceIte,go_sem,nat_wrap (n:=z.length) (by omega),hS,Option.isSome,modL,i64s_nil]
  | some m =>
   have hm:=run_okM hR hr
   obtain ⟨vs,hV⟩:=values12_ok m z hm.1 hm (by omega)
   refine ⟨vs,?_⟩
   simp only [↓reduceIte,go_sem,nat_wrap (n:=z.length) (by omega),hS,Option.isSome,modL,hV]
 | cons x s ih =>
  intro p ver h
  have hga:b[p.length]? = some x:=by rw [h]; simp
  have hp:p.length<b.length:=by rw [h]; simp
  have hx:=hbo x (by rw [h]; simp)
  obtain ⟨vs,h1⟩:=ih (p++[x]) (ver+1) (by rw [h]; simp)
  refine ⟨vs,?_⟩
  have hlen:(l++moreC a p).length<=1073741823:=by simp [moreC]; omega
  rw [moreC_snoc,<- List.append_assoc,<- clcss_snoc] at h1
  simp only [len_app] at h1
  rw [L_ref12_against_0,awL_eq]
  simp only [↓reduceIte,go_sem,At.cs,show (p.length:Int)<(b.length:Int) by omega,hga,nat_wrap (n:=p.length) (by omega),hlen,wrap64 (n:=x.o+1) (by omega) (by omega)]
  exact h1
theorem against12_ok (l:List Cl) (hl:l.length<=1000) (a:At) (y:At) (b:List At) (hb:b.length<=100) (hbo:∀ t∈y::b,0<=t.o/\t.o<=1000) (z:List Bool) (hz:z.length<=5) (hR:RightH ((z.length+1:Nat):Int) (l++moreC a (y::b))=true) {r:Option (List Int)} {k:Nat} (hr:RunS (l++moreC a (y::b)) (limitC ((z.length+1:Nat):Int) (l++moreC a (y::b))) (List.replicate (z.length+1) 0) r k) (H:List AO) :
  ∃ vs,F ref12_against [.sl (Cl.css l),.agg a.cs,.sl (At.css (y::b)),.sl (bls z)] H=some (.ret (.tup [.sl (i64s vs),.bool r.isSome]),H):=by
 cases l with
 | nil =>
  obtain ⟨vs,h1⟩:=against12_loop [] hl a (y::b) (by simp; omega) hbo z hz hR hr H b [y] 0 rfl
  refine ⟨vs,?_⟩
  have hy:=hbo y (by simp)
  have h0:(y::b)[0]? = some y:=rfl
  have e:Cl.css (moreC a [y])=[[.sl [a.cs],.int .i64 y.v,.int .i64 (y.o+1)]]:=rfl
  have hn:Cl.css []=[]:=rfl
  rw [f_ref12_against]
  simp only [List.nil_append,List.length_cons,List.length_nil,e,Int.natCast_add,Int.natCast_zero,Int.zero_add,Int.natCast_one] at h1
  simp only [↓reduceIte,go_sem,hn]
  rw [L_ref12_against_0,awL_eq]
  simp only [↓reduceIte,go_sem,h0,List.length_cons,show (0:Int)<((b.length+1:Nat):Int) by omega,At.cs,wrap64 (n:=y.o+1) (by omega) (by omega),wrap64 (n:=1) (by omega) (by omega)]
  exact h1
 | cons c l =>
  obtain ⟨vs,h1⟩:=against12_loop (c::l) hl a (y::b) (by simp; omega) hbo z hz hR hr H (y::b) [] 0 rfl
  refine ⟨vs,?_⟩
  have e:Cl.css (c::l)=c.cs::Cl.css l:=rfl
  have h3:(∀ x:List AV,x∈Cl.css l->x.length=3)=True:=eq_true (by intro x hx; obtain ⟨z,_,rfl⟩:=List.mem_map.1 hx; rfl)
  have hm:moreC a []=[]:=rfl
  rw [f_ref12_against]
  simp only [hm,List.append_nil,List.length_nil,Int.natCast_zero,e] at h1
  simp only [List.length_cons] at hl
  simp only [↓reduceIte,go_sem,e,h3,show l.length<1073741824 by omega]
  exact h1
def brokenAt (cons:List Co) (a b:Lv) (z:List Bool):Prop:=∃ x∈atomsF (FlatS a z),solvable (z.length+1) (moreS cons z b x)
def LeqS (cons:List Co) (p:Nat) (a b:Lv):Prop:=∀ n<2 ^ p,¬ brokenAt cons a b (caseZ n p)
noncomputable def leqB (cons:List Co) (p:Nat) (a b:Lv):Bool:=@decide (LeqS cons p a b) (Classical.propDecidable _)
theorem leq12_in (cons:List Co) (hcl:cons.length<=8) (p n:Nat) (hp:p<=5) (hn:n<1000) (a b:Lv) (H:List AO) (z:List Bool) (hz:z=caseZ n p) :
  ∀ (s q:List At),atomsF (FlatS a z)=q++s ->
   ((∃ x∈s,solvable (z.length+1) (moreS cons z b x)) /\ ∃ vs,L_ref12_Leq_0 H H (.sl (Co.css cons)) (.int .i64 p) (.int .i64 n) (.sl (bls z)) (.sl (At.css (atomsF (FlatS a z)))) (.sl (Cl.css (clausesS cons z))) (.int .i64 q.length) a.cs b.cs (FlatS b z).cs=some (.ret (.tup [.bool false,.sl (i64s vs),.int .i64 0]),H)) \/
   ((¬ ∃ x∈s,solvable (z.length+1) (moreS cons z b x))/\L_ref12_Leq_0 H H (.sl (Co.css cons)) (.int .i64 p) (.int .i64 n) (.sl (bls z)) (.sl (At.css (atomsF (FlatS a z)))) (.sl (Cl.css (clausesS cons z))) (.int .i64 q.length) a.cs b.cs (FlatS b z).cs=L_ref12_Leq_1 H H (.sl (Co.css cons)) (.int .i64 p) (.int .i64 (n+1)) a.cs b.cs):=by
 have hzl:z.length=p:=by rw [hz,caseZ_len]
 have hlen:=atomsS_len a z
 intro s
 induction s with
 | nil =>
  intro q h
  refine .inr ⟨by simp,?_⟩
  rw [List.append_nil] at h
  rw [L_ref12_Leq_0,awL_eq]
  simp only [↓reduceIte,go_sem,h,nat_wrap (n:=n) (by omega)]
 | cons x s ih =>
  intro q h
  have hga:(atomsF (FlatS a z))[q.length]? = some x:=by rw [h]; simp
  have hq:q.length<(atomsF (FlatS a z)).length:=by rw [h]; simp
  have hx:x∈atomsF (FlatS a z):=by rw [h]; simp
  have hA:=fun H =>Atoms12_ok (FlatS b z) (by have:=(flatS_good b z).2.2.1; omega) H
  have hright:=moreS_right cons hcl z (by omega) a b x hx
  have hcl2:=clausesS_len cons z
  obtain ⟨r,k,hr,_⟩:=run0 (z.length+1) _ hright
  have hbo:∀ t∈atomsF (FlatS b z),0<=t.o/\t.o<=1000:=fun t ht =>by have:=atomsS_ok b z t ht; omega
  obtain ⟨vs,hag⟩:=against12_ok (clausesS cons z) (by omega) x ⟨0,(FlatS b z).c⟩ (atomsG (FlatS b z).o 1) (by have:=atomsS_len b z; rw [atomsF,List.length_cons] at this; omega) hbo z (by omega) hright hr H
  rw [show (⟨0,(FlatS b z).c⟩::atomsG (FlatS b z).o 1)=atomsF (FlatS b z) from rfl] at hag
  cases r with
  | some m =>
   refine .inl ⟨⟨x,by simp,m,k,hr⟩,vs,?_⟩
   rw [L_ref12_Leq_0,awL_eq]
   simp only [↓reduceIte,go_sem,show (q.length:Int)<((atomsF (FlatS a z)).length:Int) by omega,hga,hA,hag,Option.isSome]
  | none =>
   have hns:¬ solvable (z.length+1) (moreS cons z b x):=by
    rintro ⟨m,k',h2⟩
    have:=(hr.det h2).1
    cases this
   have ih:=ih (q++[x]) (by rw [h]; simp)
   simp only [len_app] at ih
   have hs:(∃ y∈x::s,solvable (z.length+1) (moreS cons z b y)) ↔ ∃ y∈s,solvable (z.length+1) (moreS cons z b y):=by simp [hns]
   rw [hs]
   rcases ih with ⟨h1,vs',h2⟩ | ⟨h1,h2⟩
   ·refine .inl ⟨h1,vs',?_⟩
    rw [L_ref12_Leq_0,awL_eq]
    simp only [↓reduceIte,go_sem,show (q.length:Int)<((atomsF (FlatS a z)).length:Int) by omega,hga,hA,hag,Option.isSome,nat_wrap (n:=q.length) (by omega),h2]
   ·refine .inr ⟨h1,?_⟩
    rw [L_ref12_Leq_0,awL_eq]
    simp only [↓reduceIte,go_sem,show (q.length:Int)<((atomsF (FlatS a z)).length:Int) by omega,hga,hA,hag,Option.isSome,nat_wrap (n:=q.length) (by omega),h2]
theorem pow5:∀ p:Nat,p<=5->2 ^ p<=32:=fun p hp =>Nat.pow_le_pow_right (by omega) hp
theorem sh_pow (p:Nat) (hp:p<=5):shI true .i64 1 (p:Int)=((2 ^ p:Nat):Int):=by
 match p,hp with
 | 0,_ =>rfl
 | 1,_ =>rfl
 | 2,_ =>rfl
 | 3,_ =>rfl
 | 4,_ =>rfl
 | 5,_ =>rfl
theorem leq12_out (cons:List Co) (hcons:∀ c∈cons,c.ok) (hcl:cons.length<=8) (p:Nat) (hp:p<=5) (a b:Lv) (ha:a.ok) (hb:b.ok) (H:List AO):∀ (j n:Nat),n+j=2 ^ p ->
      ((∃ k,n<=k/\k<2 ^ p/\brokenAt cons a b (caseZ k p)) /\ ∃ vs,L_ref12_Leq_1 H H (.sl (Co.css cons)) (.int .i64 p) (.int .i64 n) a.cs b.cs=some (.ret (.tup [.bool false,.sl (i64s vs),.int .i64 0]),H)) \/
      ((¬ ∃ k,n<=k/\k<2 ^ p/\brokenAt cons a b (caseZ k p))/\L_ref12_Leq_1 H H (.sl (Co.css cons)) (.int .i64 p) (.int .i64 n) a.cs b.cs=some (.ret (.tup [.bool true,.sl [],.int .i64 0]),H)):=by
 have hpw:=pow5 p hp
 have hsh:=sh_pow p hp
 intro j
 induction j with
 | zero =>
  intro n h
  refine .inr ⟨by rintro ⟨k,h1,h2,_⟩; omega,?_⟩
  rw [L_ref12_Leq_1,awL_eq]
  simp only [↓reduceIte,go_sem,hsh,show ¬ (n:Int)<((2 ^ p:Nat):Int) by omega]
 | succ j ih =>
  intro n h
  have hC:=fun H =>Case07_ok n p (by omega) (by omega) H
  have hf1:=fun H =>Flatten06_ok a ha (caseZ n p) H
  have hf2:=fun H =>Flatten06_ok b hb (caseZ n p) H
  have hA:=fun H =>Atoms12_ok (FlatS a (caseZ n p)) (by have:=(flatS_good a (caseZ n p)).2.2.1; omega) H
  have hcs:=fun H =>clauses12_ok cons hcons (by omega) (caseZ n p) (by rw [caseZ_len]; exact hp) H
  have hin:=leq12_in cons hcl p n hp (by omega) a b H (caseZ n p) rfl (atomsF (FlatS a (caseZ n p))) [] rfl
  have ih:=ih (n+1) (by omega)
  simp only [List.length_nil,Int.natCast_zero] at hin
  simp only [Int.natCast_add,Int.natCast_one] at ih
  have hex:(∃ k,n<=k/\k<2 ^ p/\brokenAt cons a b (caseZ k p)) ↔ brokenAt cons a b (caseZ n p) \/ ∃ k,n+1<=k/\k<2 ^ p/\brokenAt cons a b (caseZ k p):=by
   constructor
   ·rintro ⟨k,h1,h2,h3⟩
    rcases Nat.eq_or_lt_of_le h1 with rfl | h4
    ·exact .inl h3
    ·exact .inr ⟨k,h4,h2,h3⟩
   ·rintro (h3 | ⟨k,h1,h2,h3⟩)
    ·exact ⟨n,by omega,by omega,h3⟩
    ·exact ⟨k,by omega,h2,h3⟩
  rw [hex,L_ref12_Leq_1,awL_eq]
  simp only [↓reduceIte,go_sem,hC,hf1,hf2,hA,hcs,hsh,show (n:Int)<((2 ^ p:Nat):Int) by omega]
  rcases hin with ⟨h1,vs,h2⟩ | ⟨h1,h2⟩
  ·exact .inl ⟨.inl h1,vs,h2⟩
  ·rw [h2]
   rcases ih with ⟨h3,vs,h4⟩ | ⟨h3,h4⟩
   ·exact .inl ⟨.inr h3,vs,h4⟩
   ·exact .inr ⟨fun h =>h.elim h1 h3,h4⟩
theorem leqB_iff {cons:List Co} {p:Nat} {a b:Lv}:leqB cons p a b=true ↔ LeqS cons p a b:=by
 unfold leqB; exact @decide_eq_true_iff _ (Classical.propDecidable _)
theorem Leq12_ok (cons:List Co) (hcons:∀ c∈cons,c.ok) (p:Nat) (a b:Lv) (ha:a.ok) (hb:b.ok) (hC:RightCs cons p=true) (hA:RightB a p 0=true) (hB:RightB b p 0=true) (H:List AO) :
  ∃ vs,F ref12_Leq [.sl (Co.css cons),.int .i64 p,.agg a.cs,.agg b.cs] H=some (.ret (.tup [.bool (leqB cons p a b),.sl (i64s vs),.int .i64 0]),H):=by
 have hc:=hC
 simp only [RightCs,Bool.and_eq_true,decide_eq_true_eq] at hc
 have hr:=fun H =>cons12_ok cons (by omega) hcons p H
 have hra:=fun H =>Right02_ok a ha p 0 H
 have hrb:=fun H =>Right02_ok b hb p 0 H
 have h:=leq12_out cons hcons hc.1.2 p (by omega) a b ha hb H (2 ^ p) 0 (by omega)
 rw [Int.natCast_zero] at h
 rcases h with ⟨⟨k,_,h1,h2⟩,vs,h3⟩ | ⟨h1,h3⟩
 ·have:leqB cons p a b=false:=by
   rcases hb:leqB cons p a b with _ | _
   ·rfl
   ·exact absurd h2 (leqB_iff.1 hb k h1)
  refine ⟨vs,?_⟩
  rw [f_ref12_Leq,this]
  simp only [↓reduceIte,go_sem,hr,hra,hrb,hC,hA,hB,h3]
 ·have:leqB cons p a b=true:=leqB_iff.2 fun k hk hbr =>h1 ⟨k,by omega,hk,hbr⟩
  refine ⟨[],?_⟩
  rw [f_ref12_Leq,this]
  simp only [↓reduceIte,go_sem,hr,hra,hrb,hC,hA,hB,h3,i64s_nil]
theorem Leq12_er (cons:List Co) (hcons:∀ c∈cons,c.ok) (hl:cons.length<=140737488355328) (p:Int) (a b:Lv) (ha:a.ok) (hb:b.ok) (hC:(RightCs cons p && RightB a p 0 && RightB b p 0)=false) (H:List AO) :
  F ref12_Leq [.sl (Co.css cons),.int .i64 p,.agg a.cs,.agg b.cs] H=some (.ret (.tup [.bool false,.sl [],.int .i64 1]),H):=by
 have hr:=fun H =>cons12_ok cons hl hcons p H
 have hra:=fun H =>Right02_ok a ha p 0 H
 have hrb:=fun H =>Right02_ok b hb p 0 H
 rw [f_ref12_Leq]
 cases h1:RightCs cons p
 ·simp only [↓reduceIte,go_sem,hr,hra,hrb,h1]
 cases h2:RightB a p 0
 ·simp only [↓reduceIte,go_sem,hr,hra,hrb,h1,h2]
 cases h3:RightB b p 0
 ·simp only [↓reduceIte,go_sem,hr,hra,hrb,h1,h2,h3]
 ·simp [h1,h2,h3] at hC
end Go.Ab
end
section
set_option linter.unusedVariables false
set_option linter.unusedSimpArgs false
set_option maxRecDepth 100000
set_option maxHeartbeats 2000000
namespace Go.Ab
open Go.RowKit Go.Proofs
theorem Mul64_ok (p:Nat) (hp:p<=5) (H:List AO):F math_bits_Mul64 [.int .u64 1,.int .u64 p] H=some (.ret (.tup [.int .u64 0,.int .u64 p]),H):=by
 rw [f_math_bits_Mul64]
 match p,hp with
 | 0,_ =>simp only [↓reduceIte,go_sem]; rfl
 | 1,_ =>simp only [↓reduceIte,go_sem]; rfl
 | 2,_ =>simp only [↓reduceIte,go_sem]; rfl
 | 3,_ =>simp only [↓reduceIte,go_sem]; rfl
 | 4,_ =>simp only [↓reduceIte,go_sem]; rfl
 | 5,_ =>simp only [↓reduceIte,go_sem]; rfl
theorem Mul_ok (p:Nat) (hp:p<=5) (H:List AO):F math_bits_Mul [.int .u64 1,.int .u64 p] H=some (.ret (.tup [.int .u64 0,.int .u64 p]),H):=by
 have hM:=fun H =>Mul64_ok p hp H
 rw [f_math_bits_Mul]
 simp only [↓reduceIte,go_sem,hM]
theorem wrapu_nat (p:Nat) (hp:p<=1000):IntKind.wrap .u64 (p:Int)=p:=by
 simp only [IntKind.wrap,IntKind.bits,IntKind.signed]
 first | omega | (split <;> omega) | (simp; omega)
theorem repeatK_ok (p:Nat) (hp:p<=5) (H:List AO):FK slices_Repeat_int [.sl [[.int .i64 (-1)]],.int .i64 p] H=some (.ret (.ol H.length 0),H++[.lst 0 1 (i64s (List.replicate p (-1)))]):=by
 have hM:=fun H =>Mul_ok p hp H
 have hw1:IntKind.wrap .u64 1=1:=rfl
 rw [f_slices_Repeat_intK]
 simp only [↓reduceIte,go_sem,show ¬ (p:Int)<0 by omega,wrapu_nat p (by omega),hw1,hM,List.length_cons,List.length_nil,show ¬ 9223372036854775807<(p:Int) by omega,wrap64 (n:=(p:Int)) (by omega) (by omega),show (p:Int)<=1073741824 by omega,show (0:Int)<=p by omega]
 have m10:((min 1 0:Nat):Int)=0:=rfl
 have m11:((min 1 1:Nat):Int)=1:=rfl
 have m12:((min 1 2:Nat):Int)=1:=rfl
 have m13:((min 1 3:Nat):Int)=1:=rfl
 have m14:((min 1 4:Nat):Int)=1:=rfl
 have m15:((min 1 5:Nat):Int)=1:=rfl
 have t2:Int.toNat 2=2:=rfl
 have t4:Int.toNat 4=4:=rfl
 have s31:2<=3:=by omega
 have s32:3 - 2=1:=rfl
 have s33:3 - 2=1:=rfl
 have s42:4 - 2=2:=rfl
 have s51:5 - 1=4:=rfl
 have s52:5 - 2=3:=rfl
 have s54:5 - 4=1:=rfl
 match p,hp with
 | 0,_ =>
  simp only [↓reduceIte,go_sem,over,List.take,m10]
  rw [L_slices_Repeat_intK_0,awL_eq]
  simp only [↓reduceIte,go_sem,over,List.take]
 | 1,_ =>
  simp only [↓reduceIte,go_sem,over,List.take,t2,t4,s31,s33,s42,s51,s52,s54,m11]
  rw [L_slices_Repeat_intK_0,awL_eq]
  simp only [↓reduceIte,go_sem,over,List.take,t2,t4,s32,s42,s52,s54,s31]
  rfl
 | 2,_ =>
  simp only [↓reduceIte,go_sem,over,List.take,t2,t4,s31,s33,s42,s51,s52,s54,m12]
  rw [L_slices_Repeat_intK_0,awL_eq]
  simp only [↓reduceIte,go_sem,over,List.take,t2,t4,s31,s33,s42,s51,s52,s54,show IntKind.wrap .i64 (1+((min 1 1:Nat):Int))=2 from rfl]
  rw [L_slices_Repeat_intK_0,awL_eq]
  simp only [↓reduceIte,go_sem,over,List.take,t2,t4,s32,s42,s52,s54,s31]
  rfl
 | 3,_ =>
  simp only [↓reduceIte,go_sem,over,List.take,t2,t4,s31,s33,s42,s51,s52,s54,m13]
  rw [L_slices_Repeat_intK_0,awL_eq]
  simp only [↓reduceIte,go_sem,over,List.take,t2,t4,s31,s33,s42,s51,s52,s54,show IntKind.wrap .i64 (1+((min 1 2:Nat):Int))=2 from rfl]
  rw [L_slices_Repeat_intK_0,awL_eq]
  simp only [↓reduceIte,go_sem,over,List.take,t2,t4,s31,s33,s42,s51,s52,s54,show IntKind.wrap .i64 (2+((min 2 1:Nat):Int))=3 from rfl]
  rw [L_slices_Repeat_intK_0,awL_eq]
  simp only [↓reduceIte,go_sem,over,List.take,t2,t4,s32,s42,s52,s54,s31]
  rfl
 | 4,_ =>
  simp only [↓reduceIte,go_sem,over,List.take,t2,t4,s31,s33,s42,s51,s52,s54,m14]
  rw [L_slices_Repeat_intK_0,awL_eq]
  simp only [↓reduceIte,go_sem,over,List.take,t2,t4,s31,s33,s42,s51,s52,s54,show IntKind.wrap .i64 (1+((min 1 3:Nat):Int))=2 from rfl]
  rw [L_slices_Repeat_intK_0,awL_eq]
  simp only [↓reduceIte,go_sem,over,List.take,t2,t4,s31,s33,s42,s51,s52,s54,show IntKind.wrap .i64 (2+((min 2 2:Nat):Int))=4 from rfl]
  rw [L_slices_Repeat_intK_0,awL_eq]
  simp only [↓reduceIte,go_sem,over,List.take,t2,t4,s32,s42,s52,s54,s31]
  rfl
 | 5,_ =>
  simp only [↓reduceIte,go_sem,over,List.take,t2,t4,s31,s33,s42,s51,s52,s54,m15]
  rw [L_slices_Repeat_intK_0,awL_eq]
  simp only [↓reduceIte,go_sem,over,List.take,t2,t4,s31,s33,s42,s51,s52,s54,show IntKind.wrap .i64 (1+((min 1 4:Nat):Int))=2 from rfl]
  rw [L_slices_Repeat_intK_0,awL_eq]
  simp only [↓reduceIte,go_sem,over,List.take,t2,t4,s31,s33,s42,s51,s52,s54,show IntKind.wrap .i64 (2+((min 2 3:Nat):Int))=4 from rfl]
  rw [L_slices_Repeat_intK_0,awL_eq]
  simp only [↓reduceIte,go_sem,over,List.take,t2,t4,s31,s33,s42,s51,s52,s54,show IntKind.wrap .i64 (4+((min 4 1:Nat):Int))=5 from rfl]
  rw [L_slices_Repeat_intK_0,awL_eq]
  simp only [↓reduceIte,go_sem,over,List.take,t2,t4,s32,s42,s52,s54,s31]
  rfl
theorem plainK_ok (p:Nat) (hp:p<=5) (H:List AO):FK flat_plain [.int .i64 0,.int .i64 p] H=some (.ret (.agg [.int .i64 0,.ol H.length 0]),H++[.lst 0 1 (i64s (List.replicate p (-1)))]):=by
 have hR:=fun H =>repeatK_ok p hp H
 rw [f_flat_plainK]
 simp only [↓reduceIte,go_sem,hR]
theorem i64s_ltO (n ver:Nat) (o:List Int):LtO n (.lst ver 1 (i64s o)):=i64s_lt' n o
def sucI (n:Int):Int:=if 0<=n then n+1 else n
theorem succP_loop (H:List AO) (id ver:Nat) (hid:id<H.length) (c:Int) (J:List AO) (v2:List AV) (o0:List Int) (h0:H[id]? = some (.lst ver 1 (i64s o0))) :
  ∀ (s p:List Int),o0=p++s->(∀ n∈s,-1<=n/\n<=1000)->o0.length<=1000 ->
  L_flat_succ_0 H (H.set id (.lst ver 1 (i64s (p.map sucI++s)))++[.lst 0 1 []]) (.ol id ver) (.int .i64 o0.length) (.int .i64 p.length) [.int .i64 c,.ol id ver] [.int .i64 0,.ol H.length 0]=some (.ret (.agg [.int .i64 c,.ol id ver]),H.set id (.lst ver 1 (i64s (o0.map sucI)))):=by
 intro s
 induction s with
 | nil =>
  intro p h hb hl
  rw [List.append_nil] at h
  subst h
  rw [L_flat_succ_0,awL_eq]
  simp only [↓reduceIte,go_sem,List.append_nil,show ¬ H.length<=id by omega]
  rw [fin1F_set (i64s_ltO _ _ _),if_pos (.agg (by intro a ha; simp at ha; rcases ha with rfl | rfl; exact .int _ _; exact .ol hid))]
 | cons x s ih =>
  intro p h hb hl
  have h1:=ih (p++[x]) (by rw [h]; simp) (fun n hn =>hb n (by simp [hn])) hl
  have hx:=hb x (by simp)
  have hp:p.length<o0.length:=by rw [h]; simp
  have hset:id<(H.set id (.lst ver 1 (i64s (p.map sucI++x::s)))).length:=by simpa using hid
  have hget:(H.set id (.lst ver 1 (i64s (p.map sucI++x::s)))++[AO.lst 0 1 []])[id]? = some (.lst ver 1 (i64s (p.map sucI++x::s))):=by
   rw [List.getElem?_append_left hset]; simp [hid]
  have hgx:(p.map sucI++x::s)[p.length]? = some x:=by simp
  simp only [List.map_append,List.map_cons,List.map_nil,List.append_assoc,List.cons_append,List.nil_append] at h1
  simp only [len_app] at h1
  rw [L_flat_succ_0,awL_eq]
  simp only [↓reduceIte,go_sem,show (p.length:Int)<(o0.length:Int) by omega,hget,hgx,show p.length<(List.map sucI p++x::s).length by simp]
  by_cases hx0:x = -1
  ·subst hx0
   have e:sucI (-1) = -1:=rfl
   rw [e] at h1
   simp only [↓reduceIte,go_sem,nat_wrap (n:=p.length) (by omega),h1,not_true_eq_false]
  ·have e:sucI x=x+1:=if_pos (by omega)
   rw [e] at h1
   have hss:∀ B,(H.set id (.lst ver 1 (i64s (p.map sucI++x::s)))++[AO.lst 0 1 []]).set id B=H.set id B++[AO.lst 0 1 []]:=fun B =>by
    rw [List.set_append_left _ _ hset,List.set_set]
   have hs2:(i64s (List.map sucI p++x::s)).set p.length [.int .i64 (x+1)]=i64s (List.map sucI p++(x+1)::s):=by
    simp [i64s]
   simp only [↓reduceIte,go_sem,hx0,hget,hgx,wrap64 (n:=x+1) (by omega) (by omega),nat_wrap (n:=p.length) (by omega),show p.length<(List.map sucI p++x::s).length by simp,hs2,hss]
   exact h1
theorem succP_ok (c:Int) (hc:-1<=c/\c<=1000) (o:List Int) (ho:∀ n∈o,-1<=n/\n<=1000) (hl:o.length<=1000) (H:List AO) (id ver:Nat) (hid:id<H.length) (hH:H[id]? = some (.lst ver 1 (i64s o))):F flat_succ [.agg [.int .i64 c,.ol id ver]] H=some (.ret (.agg [.int .i64 (c+1),.ol id ver]),H.set id (.lst ver 1 (i64s (o.map sucI)))):=by
 have h1:=succP_loop H id ver hid (c+1) [] [] o hH o [] rfl ho hl
 have hget:(H++[AO.lst 0 1 []])[id]? = some (.lst ver 1 (i64s o)):=by rw [List.getElem?_append_left hid,hH]
 have hset:H.set id (.lst ver 1 (i64s o))=H:=by
  apply List.ext_getElem?
  intro i
  rw [List.getElem?_set]
  split
  ·rename_i e; subst e; rw [hH]
  ·rfl
 simp only [List.map_nil,List.nil_append,hset,List.length_nil,Int.natCast_zero] at h1
 rw [f_flat_succ]
 simp only [↓reduceIte,go_sem,hget,wrap64 (n:=c+1) (by omega) (by omega)]
 exact h1
theorem succP_ze (c:Int) (hc:-1<=c/\c<=1000) (H:List AO):F flat_succ [.agg [.int .i64 c,.ze]] H=some (.ret (.agg [.int .i64 (c+1),.sl []]),H):=by
 rw [f_flat_succ]
 simp only [↓reduceIte,go_sem,wrap64 (n:=c+1) (by omega) (by omega)]
 rw [L_flat_succ_0,awL_eq]
 simp only [↓reduceIte,go_sem]
theorem succP_nil (c:Int) (hc:-1<=c/\c<=1000) (H:List AO):F flat_succ [.agg [.int .i64 c,.sl []]] H=some (.ret (.agg [.int .i64 (c+1),.sl []]),H):=by
 rw [f_flat_succ]
 simp only [↓reduceIte,go_sem,wrap64 (n:=c+1) (by omega) (by omega)]
 rw [L_flat_succ_0,awL_eq]
 simp only [↓reduceIte,go_sem]
def maxL (l:List Int) (n:Int):Int:=l.foldl max n
theorem MaxP_loop (H:List AO) (id ver:Nat) (l:List Int) (hl:l.length<=1000) (hH:H[id]? = some (.lst ver 1 (i64s l))):∀ (s p:List Int) (n:Int),l=p++s->L_slices_Max_int_0 H H (.ol id ver) (.int .i64 n) (.int .i64 p.length)=some (.ret (.int .i64 (maxL s n)),H):=by
 intro s
 induction s with
 | nil =>
  intro p n h
  rw [List.append_nil] at h
  subst h
  rw [L_slices_Max_int_0,awL_eq]
  simp only [↓reduceIte,go_sem,hH,maxL,List.foldl_nil]
 | cons x s ih =>
  intro p n h
  have h1:=ih (p++[x]) (max n x) (by rw [h]; simp)
  have hga:l[p.length]? = some x:=by rw [h]; simp
  have hp:p.length<l.length:=by rw [h]; simp
  have hmax:(if x > n then x else n)=max n x:=by split <;> omega
  simp only [len_app] at h1
  rw [L_slices_Max_int_0,awL_eq]
  simp only [↓reduceIte,go_sem,hH,hga,hp,show (p.length:Int)<(l.length:Int) by omega,hmax,nat_wrap (n:=p.length) (by omega),h1]
  simp only [maxL,List.foldl_cons]
theorem MaxP_ok (H:List AO) (id ver:Nat) (x:Int) (l:List Int) (hl:(x::l).length<=1000) (hH:H[id]? = some (.lst ver 1 (i64s (x::l)))):F slices_Max_int [.ol id ver] H=some (.ret (.int .i64 (maxL l x)),H):=by
 have h1:=MaxP_loop H id ver (x::l) hl hH l [x] x rfl
 rw [f_slices_Max_int]
 have h0:(x::l)[0]? = some x:=rfl
 simp only [↓reduceIte,go_sem,hH,h0,List.length_cons,show ¬ ((l.length+1:Nat):Int)<1 by omega,show 0<l.length+1 by omega]
 exact h1
def OwnI (n:Nat) (h:List AO) (a:AV) (l:List Int):Prop:=((a = .ze\/a = .sl [])/\l=[]) \/ ∃ id ver,a = .ol id ver/\n<=id/\h[id]? = some (.lst ver 1 (i64s l))
theorem OwnI.app {n:Nat} {h:List AO} {a:AV} {l:List Int} (o:OwnI n h a l) (x:List AO):OwnI n (h++x) a l:=by
 rcases o with h0 | ⟨id,ver,h1,h2,h3⟩
 ·exact .inl h0
 ·exact .inr ⟨id,ver,h1,h2,by rw [List.getElem?_append_left (by have:=(List.getElem?_eq_some_iff.1 h3).1; omega)]; exact h3⟩
theorem TopP_ok (c:Int) (l:List Int) (hl:l.length<=900) (H:List AO) (a:AV) (n:Nat) (o:OwnI n H a l):F flat_Top [.agg [.int .i64 c,a]] H=some (.ret (.int .i64 (maxL l (-1))),H):=by
 rcases o with ⟨ha,rfl⟩ | ⟨id,ver,rfl,hn,hH⟩
 ·have hM:=MaxP_ok (H++[.lst 1 1 (i64s [-1])]) H.length 1 (-1) [] (by simp) (by simp)
  simp only [i64s,List.map_cons,List.map_nil] at hM
  rcases ha with rfl | rfl
  ·rw [f_flat_Top]
   simp only [↓reduceIte,go_sem,hM]
  ·rw [f_flat_Top]
   simp only [↓reduceIte,go_sem,hM]
 ·have hid:=(List.getElem?_eq_some_iff.1 hH).1
  have hM:=MaxP_ok (H++[.lst 1 1 (i64s (-1::l))]) H.length 1 (-1) l (by simp; omega) (by simp)
  have e:i64s (-1::l)=[.int .i64 (-1)]::i64s l:=rfl
  simp only [e] at hM
  have hg:∀ x,(H++[x])[id]? = some (.lst ver 1 (i64s l)):=fun x =>by rw [List.getElem?_append_left hid,hH]
  have h1:(∀ x:List AV,x∈i64s l->x.length=1)=True:=eq_true (by intro x hx; obtain ⟨z,_,rfl⟩:=List.mem_map.1 hx; rfl)
  rw [f_flat_Top]
  simp only [↓reduceIte,go_sem,hH,hg,h1,show 1+l.length<=1073741824 by omega,hM]
end Go.Ab
end
section
set_option linter.unusedVariables false
set_option linter.unusedSimpArgs false
set_option maxRecDepth 100000
set_option maxHeartbeats 2000000
namespace Go.Ab
open Go.RowKit Go.Proofs
theorem OwnI.elems {n:Nat} {h:List AO} {a:AV} {l:List Int} (o:OwnI n h a l):elemsH h a=some (i64s l):=by
 rcases o with ⟨rfl | rfl,rfl⟩ | ⟨id,ver,rfl,h2,h3⟩
 ·rfl
 ·rfl
 ·simp [elemsH,h3]
theorem i64s_one (l:List Int):∀ e∈i64s l,e.length=1:=by intro e he; obtain ⟨z,_,rfl⟩:=List.mem_map.1 he; rfl
theorem cloneI_ok {n:Nat} {h:List AO} {a:AV} {x:Int} {l:List Int} (hl:l.length<=1000) (o:OwnI n h a (x::l)):FK slices_Clone_int [a] h=some (.ret (.ol h.length 0),h++[.lst 0 1 (i64s (x::l))]):=by
 rw [f_slices_Clone_intK]
 unfold cloneK; dsimp only; rw [o.elems]; dsimp only
 have e:i64s (x::l)=[.int .i64 x]::i64s l:=rfl
 rw [if_pos ⟨by omega,by omega,by rw [i64s_len]; simp; omega,i64s_one _⟩,e]
theorem cloneI_nil {n:Nat} {h:List AO} {a:AV} (o:OwnI n h a []):FK slices_Clone_int [a] h=some (.ret .ze,h):=by
 rw [f_slices_Clone_intK]
 unfold cloneK; dsimp only; rw [o.elems]; dsimp only
 rw [if_pos ⟨by omega,by omega,by rw [i64s_len]; simp,i64s_one _⟩]
 rfl
theorem maxI_eq (c d:Int):(if d > c then d else c)=max c d:=by split <;> omega
theorem joinK_nil {n:Nat} {h:List AO} {a b:AV} (c d:Int) (oa:OwnI n h a []) (ob:OwnI n h b []):FK flat_join [.agg [.int .i64 c,a],.sl [[.int .i64 d,b]]] h=some (.ret (.agg [.int .i64 (max c d),.ze]),h):=by
 have hC:=cloneI_nil oa
 have hw:IntKind.wrap .i64 (0+1)=1:=rfl
 have hw1:IntKind.wrap .i64 1=1:=rfl
 have key:L_flat_joinK_1 h h (.sl [[.int .i64 d,b]]) (.int .i64 1) (.int .i64 0) [.int .i64 0,.sl []] [.int .i64 c,.ze]=some (.ret (.agg [.int .i64 (max c d),.ze]),h):=by
  rcases ob with ⟨rfl | rfl,_⟩ | ⟨id2,ver2,rfl,g2,g3⟩
  ·rw [L_flat_joinK_1,awL_eq]
   simp only [↓reduceIte,go_sem,maxI_eq]
   rw [L_flat_joinK_0,awL_eq]
   simp only [↓reduceIte,go_sem,hw,hw1]
   rw [L_flat_joinK_1,awL_eq]
   simp only [↓reduceIte,go_sem]
  ·rw [L_flat_joinK_1,awL_eq]
   simp only [↓reduceIte,go_sem,maxI_eq]
   rw [L_flat_joinK_0,awL_eq]
   simp only [↓reduceIte,go_sem,hw,hw1]
   rw [L_flat_joinK_1,awL_eq]
   simp only [↓reduceIte,go_sem]
  ·rw [L_flat_joinK_1,awL_eq]
   simp only [↓reduceIte,go_sem,maxI_eq,g3]
   rw [L_flat_joinK_0,awL_eq]
   simp only [↓reduceIte,go_sem,hw,hw1]
   rw [L_flat_joinK_1,awL_eq]
   simp only [↓reduceIte,go_sem]
 rw [f_flat_joinK]
 rcases oa with ⟨rfl | rfl,_⟩ | ⟨id,ver,rfl,h2,h3⟩
 ·simp only [↓reduceIte,go_sem,hC,key]
 ·simp only [↓reduceIte,go_sem,hC,key]
 ·simp only [↓reduceIte,go_sem,hC,key]
theorem joinK_in {h:List AO} (c d:Int) (L M:List Int) (hl:L.length<=900) (hm:M.length=L.length) (id ver:Nat) (g3:h[id]? = some (.lst ver 1 (i64s M))):∀ (s t p q:List Int),L=p++s->M=q++t->p.length=q.length ->
  L_flat_joinK_0 h (h++[.lst 0 1 (i64s (List.zipWith max p q++s))]) (.sl [[.int .i64 d,.ol id ver]]) (.int .i64 1) (.int .i64 0) (.ol id ver) (.int .i64 M.length) (.int .i64 p.length) [.int .i64 0,.sl []] [.int .i64 c,.ol h.length 0] =
  L_flat_joinK_1 h (h++[.lst 0 1 (i64s (List.zipWith max L M))]) (.sl [[.int .i64 d,.ol id ver]]) (.int .i64 1) (.int .i64 1) [.int .i64 0,.sl []] [.int .i64 c,.ol h.length 0]:=by
 have hid:=(List.getElem?_eq_some_iff.1 g3).1
 have hw:IntKind.wrap .i64 (0+1)=1:=rfl
 have hw1:IntKind.wrap .i64 1=1:=rfl
 intro s
 induction s with
 | nil =>
  intro t p q h1 h2 h3
  have:t=[]:=by
   rw [h1,h2] at hm; simp at hm
   exact List.eq_nil_of_length_eq_zero (by omega)
  subst this
  rw [List.append_nil] at h1 h2
  subst h1 h2
  rw [L_flat_joinK_0,awL_eq]
  simp only [↓reduceIte,go_sem,hw,hw1,List.append_nil,hm]
 | cons x s ih =>
  intro t p q h1 h2 h3
  cases t with
  | nil =>rw [h1,h2] at hm; simp at hm; omega
  | cons y t =>
  have ih:=ih t (p++[x]) (q++[y]) (by rw [h1]; simp) (by rw [h2]; simp) (by simp [h3])
  have hz:List.zipWith max (p++[x]) (q++[y])++s=List.zipWith max p q++max x y::s:=by rw [List.zipWith_append (h:=h3)]; simp
  have hzl:(List.zipWith max p q).length=p.length:=by rw [List.length_zipWith]; omega
  have hgy:M[p.length]? = some y:=by rw [h2,h3]; simp
  have hgx:(List.zipWith max p q++x::s)[p.length]? = some x:=by rw [<- hzl]; simp
  have hpl:p.length<M.length:=by rw [h2,h3]; simp
  have hpz:p.length<(List.zipWith max p q++x::s).length:=by simp; omega
  have hg:∀ z,(h++[z])[id]? = some (.lst ver 1 (i64s M)):=fun z =>by rw [List.getElem?_append_left hid,g3]
  have hs2:(i64s (List.zipWith max p q++x::s)).set p.length [.int .i64 (max x y)]=i64s (List.zipWith max p q++max x y::s):=by
   rw [<- hzl]; simp [i64s]
  rw [hz] at ih
  simp only [len_app] at ih
  rw [L_flat_joinK_0,awL_eq]
  simp only [↓reduceIte,go_sem,show (p.length:Int)<(M.length:Int) by omega,hgy,hgx,hpz,hpl,hg,maxI_eq,hs2,nat_wrap (n:=p.length) (by omega),ih]
theorem joinK_ok {n:Nat} {h:List AO} {a b:AV} (c d:Int) (x y:Int) (l m:List Int) (hl:l.length<=800) (hm:m.length=l.length) (oa:OwnI n h a (x::l)) (ob:OwnI n h b (y::m)):FK flat_join [.agg [.int .i64 c,a],.sl [[.int .i64 d,b]]] h=some (.ret (.agg [.int .i64 (max c d),.ol h.length 0]),h++[.lst 0 1 (i64s (List.zipWith max (x::l) (y::m)))]):=by
 have hC:=cloneI_ok (by omega) oa
 rcases oa with ⟨_,h0⟩ | ⟨id,ver,rfl,h2,h3⟩
 ·cases h0
 rcases ob with ⟨_,h0⟩ | ⟨id2,ver2,rfl,g2,g3⟩
 ·cases h0
 have hid:=(List.getElem?_eq_some_iff.1 g3).1
 have hg:∀ z,(h++[z])[id2]? = some (.lst ver2 1 (i64s (y::m))):=fun z =>by rw [List.getElem?_append_left hid,g3]
 have hin:=joinK_in (h:=h) (max c d) d (x::l) (y::m) (by simp; omega) (by simp [hm]) id2 ver2 g3 (x::l) (y::m) [] [] rfl rfl rfl
 simp only [List.length_nil,Int.natCast_zero,List.zipWith_nil_left,List.nil_append,List.length_cons] at hin
 rw [f_flat_joinK]
 simp only [↓reduceIte,go_sem,hC]
 rw [L_flat_joinK_1,awL_eq]
 simp only [↓reduceIte,go_sem,hg,maxI_eq,hin]
 rw [L_flat_joinK_1,awL_eq]
 simp only [↓reduceIte,go_sem]
theorem OwnI.mono {n m:Nat} {h:List AO} {a:AV} {l:List Int} (o:OwnI n h a l) (hm:m<=n):OwnI m h a l:=by
 rcases o with h0 | ⟨id,ver,h1,h2,h3⟩
 ·exact .inl h0
 ·exact .inr ⟨id,ver,h1,by omega,h3⟩
theorem succ_own {B X:List AO} {a:AV} {l:List Int} (c:Int) (hc:-1<=c/\c<=1000) (hb:∀ n∈l,-1<=n/\n<=1000) (hl:l.length<=1000) (o:OwnI B.length (B++X) a l):∃ X' a',F flat_succ [.agg [.int .i64 c,a]] (B++X)=some (.ret (.agg [.int .i64 (c+1),a']),B++X')/\OwnI B.length (B++X') a' (l.map sucI):=by
 rcases o with ⟨rfl | rfl,rfl⟩ | ⟨id,ver,rfl,h2,h3⟩
 ·exact ⟨X,_,succP_ze c hc _,.inl ⟨.inr rfl,rfl⟩⟩
 ·exact ⟨X,_,succP_nil c hc _,.inl ⟨.inr rfl,rfl⟩⟩
 ·have hid:=(List.getElem?_eq_some_iff.1 h3).1
  have h4:=succP_ok c hc l hb hl (B++X) id ver hid h3
  rw [List.set_append_right _ _ h2] at h4
  refine ⟨_,_,h4,.inr ⟨id,ver,rfl,h2,?_⟩⟩
  rw [List.length_append] at hid
  rw [List.getElem?_append_right h2,List.getElem?_set_self (by omega)]
theorem join_own {B X:List AO} {a b:AV} {l m:List Int} (c d:Int) (hl:l.length<=700) (hm:m.length=l.length) (oa:OwnI B.length (B++X) a l) (ob:OwnI B.length (B++X) b m):∃ X' a',FK flat_join [.agg [.int .i64 c,a],.sl [[.int .i64 d,b]]] (B++X)=some (.ret (.agg [.int .i64 (max c d),a']),B++X')/\OwnI B.length (B++X') a' (List.zipWith max l m):=by
 cases l with
 | nil =>
  obtain rfl:m=[]:=List.eq_nil_of_length_eq_zero hm
  exact ⟨X,_,joinK_nil c d oa ob,.inl ⟨.inl rfl,rfl⟩⟩
 | cons x l =>
  cases m with
  | nil =>simp at hm
  | cons y m =>
   have:=joinK_ok c d x y l m (by simp at hl; omega) (by simpa using hm) oa ob
   rw [List.append_assoc] at this
   exact ⟨_,_,this,.inr ⟨_,0,rfl,by simp,by rw [<- List.append_assoc]; simp⟩⟩
theorem noughtF_top {f:Fl} {p:Nat} {d:Int} (g:f.good p d):(decide (f.c=0) && decide (maxL f.o (-1) = -1))=noughtF f:=by
 have key:∀ (l:List Int) (n:Int),(∀ x∈l,-1<=x) -> -1<=n->(maxL l n = -1 ↔ n = -1 /\ ∀ x∈l,x<0):=by
  intro l
  induction l with
  | nil =>intro n _ _; simp [maxL]
  | cons x l ih =>
   intro n h0 hn
   have hx:=h0 x (by simp)
   have:=ih (max n x) (fun y hy =>h0 y (by simp [hy])) (by omega)
   simp only [maxL,List.foldl_cons] at this ⊢
   rw [this]
   constructor
   ·rintro ⟨h1,h2⟩
    exact ⟨by omega,fun y hy =>by rcases List.mem_cons.1 hy with rfl | hy; omega; exact h2 y hy⟩
   ·rintro ⟨h1,h2⟩
    have:=h2 x (by simp)
    exact ⟨by omega,fun y hy =>h2 y (by simp [hy])⟩
 have:=key f.o (-1) g.o0 (by omega)
 rw [noughtF]
 congr 1
 rw [Bool.eq_iff_iff,decide_eq_true_iff,this]
 simp
theorem OwnI.one {n:Nat} {h:List AO} {a:AV} {l:List Int} (o:OwnI n h a l):AV.one a=true:=by
 rcases o with ⟨rfl | rfl,rfl⟩ | ⟨id,ver,rfl,h2,h3⟩ <;> rfl
theorem ofK_ok (z:List Bool) (hz:z.length<=5) (l:Lv):∀ d,d<=100->rightB z.length 0 l d=true -> ∀ h:List AO,∃ X a,FK flat_of [.agg l.cs,.sl (bls z)] h=some (.ret (.agg [.int .i64 (rawF z l).c,a]),h++X)/\OwnI h.length (h++X) a (rawF z l).o:=by
 induction l using Lv.ind with
 | h k n ks ih =>
 intro d hd h H
 have hg:=raw_good z (.mk k n ks) d h
 rw [rightB] at h
 split at h
 ·cases h
 split at h
 ·cases h
 rename_i hd1 hk
 have hk:(ks.length:Int)=kids02 k:=by simpa using hk
 have hP:=fun H =>plainK_ok z.length hz H
 rw [f_flat_ofK]
 rw [rawF] at hg ⊢
 unfold kids02 at hk
 match ks,hk,ih,h,hg with
 | [],hk,ih,h,hg =>
  simp at hk
  by_cases h5:k=5
  ·subst h5
   simp at h
   obtain ⟨h0,hn⟩:=h
   obtain ⟨j,rfl⟩:=Int.eq_ofNat_of_zero_le h0
   have hj:j<z.length:=by omega
   obtain ⟨b,hb⟩:∃ b,z[j]? = some b:=⟨z[j],by simp [hj]⟩
   simp only [rawFs,combF,Int.toNat_natCast,hb,if_true]
   have hgr:(List.replicate z.length (-1:Int))[j]? = some (-1):=by simp [hj]
   have hs:(i64s (List.replicate z.length (-1))).set j [AV.int .i64 0]=i64s ((List.replicate z.length (-1)).set j 0):=by simp [i64s,List.map_set]
   cases b
   ·simp only [↓reduceIte,go_sem,Lv.cs,Lv.css,hP,hb,List.length_replicate,hj,hgr,hs]
    exact ⟨_,_,rfl,.inr ⟨H.length,0,rfl,Nat.le_refl _,by simp⟩⟩
   ·simp only [↓reduceIte,go_sem,Lv.cs,Lv.css,hP,hb,noneF,Option.some.injEq,Bool.true_eq_false]
    exact ⟨_,_,rfl,.inr ⟨H.length,0,rfl,Nat.le_refl _,by simp⟩⟩
  ·have h2:¬ k=2:=by grind
   have h3:¬ k=3:=by grind
   have h4:¬ k=4:=by grind
   simp only [rawFs,combF,if_neg h5]
   simp only [↓reduceIte,go_sem,Lv.cs,Lv.css,h2,h3,h4,h5,hP]
   exact ⟨_,_,rfl,.inr ⟨H.length,0,rfl,Nat.le_refl _,by simp [noneF]⟩⟩
 | [a],hk,ih,h,hg =>
  have k2:k=2:=by simp at hk; grind
  subst k2
  simp [rightsB] at h
  have ga:=raw_good z a (d - 1) h.1
  obtain ⟨X,w,h1,h2⟩:=ih a (by simp) (d - 1) (by omega) h.1 (H++[.lst 0 1 (i64s (List.replicate z.length (-1)))])
  obtain ⟨X',w',h3,h4⟩:=succ_own (rawF z a).c (by have:=ga.c0; have:=ga.cd; omega) (fun n hn =>by have:=ga.o0 n hn; have:=ga.od n hn; omega) (by rw [ga.len]; omega) h2
  rw [List.append_assoc,List.append_assoc] at h3
  rw [List.append_assoc] at h4
  simp only [List.cons_append,List.nil_append] at h3 h4
  simp only [rawFs,combF,if_true]
  have q1:=h2.one
  have q2:=h4.one
  simp only [AV.one] at q1 q2
  simp only [↓reduceIte,go_sem,Lv.cs,Lv.css,hP,h1,h3,q1,q2]
  exact ⟨_,_,rfl,h4.mono (by simp)⟩
 | [a,b],hk,ih,h,hg =>
  have h5:¬ k=5:=by rintro rfl; simp at hk
  have h6:¬ k=6:=by rintro rfl; simp at hk
  rw [if_neg h5,if_neg h6] at h
  simp [rightsB] at h
  have ga:=raw_good z a (d - 1) h.1.1
  have gb:=raw_good z b (d - 1) h.1.2
  have k34:k=3\/k=4:=by simp at hk; grind
  have hb1:=h.1.2
  simp only [rawFs,combF]
  have mx:∀ P:List AO,∃ X w Y v Z u,FK flat_of [.agg a.cs,.sl (bls z)] (H++P)=some (.ret (.agg [.int .i64 (rawF z a).c,w]),H++(P++X))/\FK flat_of [.agg b.cs,.sl (bls z)] (H++(P++X))=some (.ret (.agg [.int .i64 (rawF z b).c,v]),H++(P++(X++Y))) /\
    FK flat_join [.agg [.int .i64 (rawF z a).c,w],.sl [[.int .i64 (rawF z b).c,v]]] (H++(P++(X++Y)))=some (.ret (.agg [.int .i64 (max (rawF z a).c (rawF z b).c),u]),H++(P++Z))/\AV.one w=true/\AV.one v=true/\OwnI H.length (H++(P++Z)) u (List.zipWith max (rawF z a).o (rawF z b).o):=by
   intro P
   obtain ⟨X,w,h1,h2⟩:=ih a (by simp) (d - 1) (by omega) h.1.1 (H++P)
   obtain ⟨Y,v,h3,h4⟩:=ih b (by simp) (d - 1) (by omega) h.1.2 ((H++P)++X)
   have h5:=h2.app Y
   have h6:=h4.mono (show (H++P).length<=_ by simp)
   rw [List.append_assoc (H++P)] at h5 h6
   obtain ⟨Z,u,h7,h8⟩:=join_own (B:=H++P) (X:=X++Y) (rawF z a).c (rawF z b).c (by rw [ga.len]; omega) (by rw [ga.len,gb.len]) h5 h6
   simp only [List.append_assoc] at h1 h3 h7 h8
   exact ⟨X,w,Y,v,Z,u,h1,h3,h7,h2.one,h4.one,h8.mono (by simp)⟩
  rcases k34 with rfl | rfl
  ·obtain ⟨X,w,Y,v,Z,u,h1,h3,h7,q1,q2,h8⟩:=mx [.lst 0 1 (i64s (List.replicate z.length (-1)))]
   simp only [List.cons_append,List.nil_append] at h1 h3 h7 h8
   have q3:=h8.one
   simp only [AV.one] at q1 q2 q3
   simp only [↓reduceIte,go_sem,Lv.cs,Lv.css,hP,h1,h3,h7,q1,q2,q3]
   exact ⟨_,_,rfl,h8⟩
  ·obtain ⟨W,t,g1,g2⟩:=ih b (by simp) (d - 1) (by omega) hb1 (H++[.lst 0 1 (i64s (List.replicate z.length (-1)))])
   have hT:=TopP_ok (rawF z b).c (rawF z b).o (by rw [gb.len]; omega) _ _ _ g2
   have hn:=noughtF_top gb
   rw [List.append_assoc] at g1 hT g2
   simp only [List.cons_append,List.nil_append] at g1 hT g2
   have q4:=g2.one
   simp only [AV.one] at q4
   simp only [↓reduceIte,go_sem,Lv.cs,Lv.css,hP,g1,hT,q4]
   obtain ⟨X,w,Y,v,Z,u,h1,h3,h7,q1,q2,h8⟩:=mx (.lst 0 1 (i64s (List.replicate z.length (-1)))::W)
   simp only [List.cons_append] at h1 h3 h7 h8
   have q3:=h8.one
   simp only [AV.one] at q1 q2 q3
   by_cases c1:(rawF z b).c=0
   ·by_cases c2:maxL (rawF z b).o (-1) = -1
    ·have e:noughtF (rawF z b)=true:=by rw [<- hn,c1,c2]; rfl
     simp only [c1,c2,e,if_true,if_neg (show ¬ (4:Int)=3 by omega)]
     rw [c1] at hn
     refine ⟨_,_,rfl,?_⟩
     exact g2.mono (by simp)
    ·have e:noughtF (rawF z b)=false:=by rw [<- hn]; simp [c2]
     simp only [if_neg (show ¬ (4:Int)=3 by omega),if_true,e]
     simp only [↓reduceIte,go_sem,c1,c2] at h1 h3 h7 ⊢
     simp only [↓reduceIte,go_sem,h1,h3,h7,q1,q2,q3,c1,c2]
     have e2:(bothF (rawF z a) (rawF z b)).c=max (rawF z a).c 0:=by simp [bothF,c1]
     rw [e2]
     exact ⟨_,_,rfl,h8⟩
   ·have e:noughtF (rawF z b)=false:=by rw [<- hn]; simp [c1]
    simp only [if_neg (show ¬ (4:Int)=3 by omega),if_true,e]
    simp only [↓reduceIte,go_sem,h1,h3,h7,q1,q2,q3,c1]
    exact ⟨_,_,rfl,h8⟩
 | a::b::c::r,hk,ih,h,hg =>
  exfalso
  simp at hk
  grind
theorem maxL_ge (c:Int):∀ (l:List Int) (n:Int),-1<=n->(∀ x∈l,-1<=x)->((maxL l n ≠ -1/\c<=maxL l n+1) ↔ (0<=n/\c<=n+1) \/ ∃ x∈l,0<=x/\c<=x+1):=by
 intro l
 induction l with
 | nil =>intro n hn _; simp only [maxL,List.foldl_nil]; constructor
         ·rintro ⟨h1,h2⟩; exact .inl ⟨by omega,h2⟩
         ·rintro (⟨h1,h2⟩ | ⟨x,hx,_⟩)
          ·exact ⟨by omega,h2⟩
          ·cases hx
 | cons y l ih =>
  intro n hn h0
  have hy:=h0 y (by simp)
  have:=ih (max n y) (by omega) (fun x hx =>h0 x (by simp [hx]))
  simp only [maxL,List.foldl_cons] at this ⊢
  rw [this]
  constructor
  ·rintro (h | ⟨x,hx,h⟩)
   ·by_cases h1:y<=n
    ·rw [Int.max_eq_left h1] at h; exact .inl h
    ·rw [Int.max_eq_right (by omega)] at h; exact .inr ⟨y,by simp,h⟩
   ·exact .inr ⟨x,by simp [hx],h⟩
  ·rintro (h | ⟨x,hx,h⟩)
   ·exact .inl (by omega)
   ·rcases List.mem_cons.1 hx with rfl | hx
    ·exact .inl (by omega)
    ·exact .inr ⟨x,hx,h⟩
theorem maxL_le (B:Int):∀ (l:List Int) (n:Int),n<=B->(∀ x∈l,x<=B)->n<=maxL l n/\maxL l n<=B
 | [],n,h,_ =>⟨Int.le_refl _,h⟩
 | y::l,n,h,h0 =>by
  have:=h0 y (by simp)
  have:=maxL_le B l (max n y) (by omega) (fun x hx =>h0 x (by simp [hx]))
  simp only [maxL,List.foldl_cons] at this ⊢
  omega
theorem FlattenP_ok (l:Lv) (hl:l.ok) (z:List Bool) (H:List AO):F flat_Flatten [.agg l.cs,.sl (bls z)] H=some (.ret (.tup [.agg (FlatS l z).cs,.int .i64 (FlatE l z)]),H):=by
 have hR:=fun H =>RightP_ok l hl z.length 0 H
 rw [f_flat_Flatten]
 by_cases h:RightB l z.length 0=true
 ·have hz:=rightB_z h
  have hg:=raw_good z l 12 hz.2
  obtain ⟨X,a,h1,h2⟩:=ofK_ok z hz.1 l 12 (by omega) hz.2 H
  have hT:=TopP_ok (rawF z l).c (rawF z l).o (by rw [hg.len]; omega) _ _ _ h2
  have q:=h2.one
  simp only [AV.one] at q
  have hmx:=maxL_ge (rawF z l).c (rawF z l).o (-1) (by omega) hg.o0
  have hnrm:nrmF (rawF z l).c (rawF z l).o=if maxL (rawF z l).o (-1) ≠ -1/\(rawF z l).c<=maxL (rawF z l).o (-1)+1 then 0 else (rawF z l).c:=by
   unfold nrmF
   have e:((rawF z l).o.any fun n =>decide (0<=n) && decide ((rawF z l).c<=n+1))=true ↔ (maxL (rawF z l).o (-1) ≠ -1/\(rawF z l).c<=maxL (rawF z l).o (-1)+1):=by
    rw [hmx]; simp
   by_cases c:(maxL (rawF z l).o (-1) ≠ -1/\(rawF z l).c<=maxL (rawF z l).o (-1)+1)
   ·rw [if_pos c,if_pos (e.2 c)]
   ·rw [if_neg c,if_neg (fun k =>c (e.1 k))]
  rw [FlatE,FlatS,if_pos h,if_pos h,normF,hnrm]
  have hbd:=maxL_le 12 (rawF z l).o (-1) (by omega) hg.od
  have hw:=wrap64 (n:=maxL (rawF z l).o (-1)+1) (by omega) (by omega)
  rcases h2 with ⟨ha,h0⟩ | ⟨id,ver,rfl,h2,h3⟩
  ·rw [h0] at hT hw ⊢
   have hm:maxL [] (-1) = -1:=rfl
   rcases ha with rfl | rfl
   ·simp only [↓reduceIte,go_sem,hR,h,h1,hT,hm,Fl.cs,ne_eq,not_true_eq_false,false_and,i64s_nil]
   ·simp only [↓reduceIte,go_sem,hR,h,h1,hT,hm,Fl.cs,ne_eq,not_true_eq_false,false_and,i64s_nil]
  ·have hset:∀ o,(H++X).set id o=H++X.set (id - H.length) o:=fun o =>List.set_append_right _ _ h2
   simp only [↓reduceIte,go_sem,hR,h,h1,hT,hw,h2,h3,hset,Fl.cs]
   by_cases c1:maxL (rawF z l).o (-1) = -1
   ·simp [c1]
   ·by_cases c2:(rawF z l).c<=maxL (rawF z l).o (-1)+1
    ·simp [c1,c2]
    ·simp [c1,c2]
 ·rw [FlatE,FlatS,if_neg h,if_neg h]
  simp only [↓reduceIte,go_sem,hR,h,zeroF,Fl.cs]
end Go.Ab
end
section
set_option linter.unusedVariables false
set_option linter.unusedSimpArgs false
set_option maxRecDepth 100000
set_option maxHeartbeats 2000000
namespace Go.Ab
open Go.RowKit Go.Proofs
theorem bit_get:∀ n:Fin 32,∀ i:Fin 5,(!decide (IntKind.wrap .u64 ((BitVec.ofInt 64 (shI false .u64 (n.val:Int) (i.val:Int)) &&& BitVec.ofInt 64 1).toNat:Int)=0))=decide ((n.val / 2 ^ i.val) % 2=1):=by decide
theorem caseZ_snoc:∀ (i n:Nat),caseZ n (i+1)=caseZ n i++[decide ((n / 2 ^ i) % 2=1)]:=by
 intro i
 induction i with
 | zero =>intro n; simp [caseZ]
 | succ i ih =>
  intro n
  rw [caseZ,ih,caseZ,List.cons_append]
  congr 3
  rw [Nat.div_div_eq_div_mul,Nat.pow_succ',]
abbrev encZ (z:List Bool):List AV:=[.sl (bls z)]
def allZ (p:Nat):AV:=.fn (.func leq_All_1) [] [.fp [.int .i64 p]]
theorem AllP_ok (p:Nat) (H:List AO):F leq_All [.int .i64 p] H=some (.ret (allZ p),H):=by
 have h:Lt H.length (.fn (.func leq_All_1) [] [.fp [.int .i64 p]])=True:=by
  simp only [eq_iff_iff,iff_true]
  exact .fn (by simp) (by intro x hx; simp at hx; subst hx; exact .fp (by intro a ha; simp at ha; subst ha; exact .int _ _))
 rw [f_leq_All]
 simp only [↓reduceIte,go_sem,allZ,h]
def casesF (p:Nat):Nat->Nat->List (List Bool)
 | _,0 =>[]
 | n,j+1 =>caseZ n p::casesF p (n+1) j
theorem seq_fin {S E α:Type} {y:AV} {n:Nat} {enc:α->List AV} {W:S->List AO} {WE:E->List AO} {stp:S->α->Option (S ⊕ E)} (hy:Ys y n enc W WE stp) (s:S) (r:S ⊕ E) (X J:List AO) :
  fin1F (W s++X) (.ret (.tup [])) (hp W WE r++(X++J))=some (.ret (.tup []),hp W WE r++X):=by
 have l1:(W s).length=n:=hy.len (.inl s)
 have l2:=hy.len r
 rw [<- List.append_assoc]
 exact fin1_yd (by omega) (fun id o ho =>by rw [l1]; exact hy.fr s r id o ho) (.tup (by simp))
theorem allZ_in (p:Nat) (hp:p<=5) (n:Nat) (hn:n<32) (H A:List AO) (y x7:AV):∀ (j i:Nat),i+j=p ->
  L_leq_All_1_0 H (A++[.lst 0 1 (bls (caseZ n i)++List.replicate j [.bool false])]) y (.fp [.int .i64 p]) (.int .u64 n) (.ol A.length 0) x7 (.int .u64 n) (.int .i64 p) (.int .i64 i) =
  L_leq_All_1_0 H (A++[.lst 0 1 (bls (caseZ n p))]) y (.fp [.int .i64 p]) (.int .u64 n) (.ol A.length 0) x7 (.int .u64 n) (.int .i64 p) (.int .i64 p):=by
 intro j
 induction j with
 | zero =>
  intro i h
  obtain rfl:i=p:=by omega
  simp
 | succ j ih =>
  intro i h
  have ih:=ih (i+1) (by omega)
  have hb:=bit_get ⟨n,hn⟩ ⟨i,by omega⟩
  dsimp only at hb
  have hset:(bls (caseZ n i)++List.replicate (j+1) [AV.bool false]).set i [.bool (decide (n / 2 ^ i % 2=1))]=bls (caseZ n (i+1))++List.replicate j [.bool false]:=by
   have hl:(bls (caseZ n i)).length=i:=by rw [bls_len,caseZ_len]
   rw [List.set_append_right _ _ (by omega),hl,Nat.sub_self,List.replicate_succ,List.set_cons_zero,caseZ_snoc]
   simp [bls]
  have hil:i<(bls (caseZ n i)++List.replicate (j+1) [AV.bool false]).length:=by simp [bls_len,caseZ_len]
  have hgi:(bls (caseZ n i)++List.replicate (j+1) [AV.bool false])[i]? = some [.bool false]:=by
   have hl:(bls (caseZ n i)).length=i:=by rw [bls_len,caseZ_len]
   rw [List.getElem?_append_right (by omega),hl,Nat.sub_self,List.replicate_succ]; rfl
  rw [<- ih]
  simp only [Int.natCast_add,Int.natCast_one]
  conv =>lhs; rw [L_leq_All_1_0,awL_eq]
  generalize hes:bls (caseZ n i)++List.replicate (j+1) [AV.bool false]=es at hset hil hgi
  simp only [↓reduceIte,go_sem,show (i:Int)<(p:Int) by omega,hil,hgi,nat_wrap (n:=i) (by omega)]
  refine (congrArg (fun b =>L_leq_All_1_0 H (A++[.lst 0 1 (es.set i [.bool b])]) y (.fp [.int .i64 p]) (.int .u64 n) (.ol A.length 0) x7 (.int .u64 n) (.int .i64 p) (.int .i64 ((i:Int)+1))) hb).trans ?_
  rw [hset]
theorem allZ_seq (p:Nat) (h5:p<=5):IsSeq (allZ p) encZ (casesF p 0 (2 ^ p)):=by
 intro S E y m W WE stp hy s X r hr
 have hpw:=pow5 p h5
 have hsh:shI true .u64 1 (p:Int)=((2 ^ p:Nat):Int):=by
  match p,h5 with
  | 0,_ =>rfl
  | 1,_ =>rfl
  | 2,_ =>rfl
  | 3,_ =>rfl
  | 4,_ =>rfl
  | 5,_ =>rfl
 have hone:=hy.one
 have hcell:y.cells=[y]:=by cases y <;> first | rfl | (simp [AV.one] at hone)
 unfold AV.cells at hcell
 unfold AV.one at hone
 have loop:∀ (j n:Nat),n+j=2 ^ p -> ∀ (a:S) (J:List AO),fold stp (casesF p n j) a=some r->L_leq_All_1_1 (W s++X) (W a++(X++J)) y (.fp [.int .i64 p]) (.int .u64 ((2 ^ p:Nat):Int)) (.int .u64 n)=some (.ret (.tup []),hp W WE r++X):=by
  intro j
  induction j with
  | zero =>
   intro n h a J hq
   rw [casesF,fold] at hq
   cases hq
   rw [L_leq_All_1_1,awL_eq]
   simp only [↓reduceIte,go_sem,show ¬ (n:Int)<((2 ^ p:Nat):Int) by omega]
   exact seq_fin hy s (.inl a) X J
  | succ j ih =>
   intro n h a J hq
   rw [casesF,fold] at hq
   have lA:(W a).length=m:=hy.len (.inl a)
   have hin:=allZ_in p h5 n (by omega) (W s++X) (W a++(X++J)) y (.int .u64 ((2 ^ p:Nat):Int)) p 0 (by omega)
   rw [L_leq_All_1_1,awL_eq]
   have e0:bls (caseZ n 0)++List.replicate p [AV.bool false]=List.replicate p [.bool false]:=by simp [caseZ,bls]
   rw [e0] at hin
   simp only [List.append_assoc,List.length_append,Int.natCast_zero] at hin
   simp only [↓reduceIte,go_sem,show (n:Int)<((2 ^ p:Nat):Int) by omega,show (p:Int)<=1073741824 by omega,List.length_replicate,hin]
   rw [L_leq_All_1_0,awL_eq]
   have lX:∀ o,(W a++(X++(J++[o])))[(W a).length+(X.length+J.length)]? = some o:=fun o =>by
    rw [List.getElem?_append_right (by omega),List.getElem?_append_right (by omega),List.getElem?_append_right (by omega)]; simp
   have lS:∀ o o',(W a++(X++(J++[o]))).set ((W a).length+(X.length+J.length)) o' = W a++(X++(J++[o'])):=fun o o' =>by
    rw [List.set_append_right _ _ (by omega),List.set_append_right _ _ (by omega),List.set_append_right _ _ (by omega)]; simp
   cases hst:stp a (caseZ n p) with
   | none =>rw [hst] at hq; cases hq
   | some q =>
   rw [hst] at hq
   have hc:=hy.call a (caseZ n p) (X++(J++[.dead])) q hst
   simp only [encZ] at hc
   cases q with
   | inl b =>
    have ih:=ih (n+1) (by omega) b (J++[.dead]) hq
    simp only [hp_inl,Int.natCast_add,Int.natCast_one] at hc ih
    have hwu:IntKind.wrap .u64 ((n:Int)+1)=(n:Int)+1:=by have:=wrapu_nat (n+1) (by omega); simpa using this
    simp only [↓reduceIte,go_sem,lX,lS,hc,isL,hwu,ih]
   | inr e =>
    cases hq
    simp only [hp_inr] at hc
    simp only [↓reduceIte,go_sem,lX,lS,hc,isL]
    exact seq_fin hy s (.inr e) X _
 simp only [allZ,cfl_f1,List.cons_append,List.nil_append]
 show F leq_All_1 _ _=_
 rw [f_leq_All_1]
 simp only [↓reduceIte,go_sem,hsh]
 have:=loop (2 ^ p) 0 (by omega) s [] hr
 simpa using this
end Go.Ab
end
section
set_option linter.unusedVariables false
set_option linter.unusedSimpArgs false
set_option maxRecDepth 100000
set_option maxHeartbeats 2000000
namespace Go.Ab
open Go.RowKit Go.Proofs
theorem growA_ok (n:Int) (h0:0<=n) (hn:n<=1073741824) (H:List AO):F slices_Grow_Atom [.ze,.int .i64 n] H=if n=0 then some (.ret .ze,H) else some (.ret (.ol H.length 1),H++[.lst 1 2 []]):=by
 rw [f_slices_Grow_Atom]
 by_cases h:n=0
 ·subst h
  have e1:IntKind.wrap .i64 0=0:=wrap64 (by omega) (by omega)
  simp only [↓reduceIte,go_sem,Int.sub_self,e1]
 ·simp only [↓reduceIte,go_sem,h,show ¬ n<0 by omega,show 0<n by omega,Int.sub_self,Int.sub_zero,wrap64 (n:=0) (by omega) (by omega),wrap64 (n:=n) (by omega) (by omega),hn]
inductive AccA (H:List AO):AV->List At->List AO->Prop
 | ze:AccA H .ze [] H
 | ol (ver:Nat) (es:List At):AccA H (.ol H.length ver) es (H++[.lst ver 2 (At.css es)])
def slA (xs:List (List At)):List (List AV):=xs.map fun x =>[.sl (At.css x)]
@[go_sem] theorem slA_len (xs:List (List At)):(slA xs).length=xs.length:=by simp [slA]
@[go_sem] theorem slA_get (xs:List (List At)) (i:Nat):(slA xs)[i]? = xs[i]?.map fun x =>[.sl (At.css x)]:=by simp [slA]
@[go_sem] theorem atcss_all2 (ks:List At):(∀ e∈At.css ks,e.length=2)=True:=by
 refine eq_true fun e he =>?_
 obtain ⟨x,_,rfl⟩:=List.mem_map.1 he
 rfl
theorem atcss_nil:At.css []=[]:=rfl
theorem atcss_cons2 (x:At) (l:List At):At.css (x::l)=x.cs::At.css l:=rfl
theorem atcss_app (a b:List At):At.css (a++b)=At.css a++At.css b:=by simp [At.css]
theorem concatA_ok (xs:List (List At)) (hlen:xs.length<=1000) (ht:xs.flatten.length<=1073741824) (H:List AO) :
  F slices_Concat_Atom [.sl (slA xs)] H=some (.ret (.sl (At.css xs.flatten)),H):=by
 have loop1:∀ (suf pre:List (List At)) {v:AV} {es:List At} {H1:List AO},xs=pre++suf->AccA (H++[.lst 0 2 []]) v es H1->es.length+suf.flatten.length<=1073741824 ->
   L_slices_Concat_Atom_1 H H1 v (.sl (slA xs)) (.int .i64 xs.length) (.int .i64 pre.length)=some (.ret (.sl (At.css (es++suf.flatten))),H):=by
  intro suf
  induction suf with
  | nil =>
   intro pre v es H1 e ha hb
   subst e
   rw [L_slices_Concat_Atom_1,awL_eq]
   cases ha with
   | ze =>simp only [↓reduceIte,go_sem,List.flatten_nil,atcss_nil,atcss_cons2]
   | ol ver =>simp only [↓reduceIte,go_sem,List.flatten_nil]
  | cons x suf ih =>
   intro pre v es H1 e ha hb
   subst e
   simp at hlen
   rw [List.flatten_cons,List.length_append] at hb
   rw [L_slices_Concat_Atom_1,awL_eq]
   cases ha with
   | ze =>
    cases x with
    | nil =>
     have:=ih (pre++[[]]) (by simp) (AccA.ze (H:=H++[.lst 0 2 []])) (by simpa using hb)
     simp only [len_app] at this
     simp only [↓reduceIte,go_sem,atcss_nil,atcss_cons2,nat_wrap (n:=pre.length) (by omega),this,List.flatten_cons]
    | cons y ys =>
     have:=ih (pre++[y::ys]) (by simp) (AccA.ol (H:=H++[.lst 0 2 []]) 0 (y::ys)) (by simpa using hb)
     simp only [len_app] at this
     simp only [↓reduceIte,go_sem,atcss_nil,atcss_cons2] at this
     simp at hb
     simp only [↓reduceIte,go_sem,atcss_nil,atcss_cons2,nat_wrap (n:=pre.length) (by omega),show ys.length<1073741824 by omega,this,List.flatten_cons]
   | ol ver =>
    have:=ih (pre++[x]) (by simp) (AccA.ol (H:=H++[.lst 0 2 []]) (ver+1) (es++x)) (by simp at hb ⊢; omega)
    simp only [len_app] at this
    simp only [↓reduceIte,go_sem] at this
    simp only [↓reduceIte,go_sem,nat_wrap (n:=pre.length) (by omega),show es.length+x.length<=1073741824 by omega,<- atcss_app,this,List.flatten_cons,List.append_assoc]
 have loop0:∀ (suf pre:List (List At)),xs=pre++suf ->
   L_slices_Concat_Atom_0 H (H++[.lst 0 2 []]) (.sl (slA xs)) (.int .i64 pre.flatten.length) (.sl (slA xs)) (.int .i64 xs.length) (.int .i64 pre.length)=some (.ret (.sl (At.css xs.flatten)),H):=by
  intro suf
  induction suf with
  | nil =>
   intro pre e
   subst e
   simp only [List.append_nil] at *
   have hg:=growA_ok pre.flatten.length (by omega) (by omega) (H++[.lst 0 2 []])
   rw [L_slices_Concat_Atom_0,awL_eq]
   by_cases h0:pre.flatten.length=0
   ·have h1:=loop1 pre [] rfl (AccA.ze (H:=H++[.lst 0 2 []])) (by simpa using ht)
    simp only [List.length_nil,Int.natCast_zero,List.nil_append] at h1
    rw [if_pos (by omega)] at hg
    simp only [↓reduceIte,go_sem,hg,h1]
   ·have h1:=loop1 pre [] rfl (AccA.ol (H:=H++[.lst 0 2 []]) 1 []) (by simpa using ht)
    simp only [List.length_nil,Int.natCast_zero,List.nil_append] at h1
    rw [if_neg (by omega)] at hg
    simp only [↓reduceIte,go_sem,atcss_nil,atcss_cons2] at hg h1
    simp only [↓reduceIte,go_sem,hg,h1]
  | cons x suf ih =>
   intro pre e
   subst e
   simp at hlen
   have:=ih (pre++[x]) (by simp)
   have hl:((pre++[x]).flatten.length:Int)=(pre.flatten.length:Int)+(x.length:Int):=by simp
   rw [hl] at this
   simp only [len_app] at this
   simp only [List.flatten_append,List.flatten_cons,List.length_append] at ht
   rw [L_slices_Concat_Atom_0,awL_eq]
   simp only [↓reduceIte,go_sem,nat_wrap (n:=pre.length) (by omega),wrap64 (n:=(pre.flatten.length:Int)+(x.length:Int)) (by omega) (by omega),show ¬ (pre.flatten.length:Int)+(x.length:Int)<0 by omega]
   rw [this]
 have h0:=loop0 xs [] rfl
 simp only [List.length_nil,Int.natCast_zero,List.flatten_nil] at h0
 rw [f_slices_Concat_Atom]
 simp only [↓reduceIte,go_sem,h0]
@[go_sem] theorem atcs_over2 (a b:At):over a.cs 0 b.cs=b.cs:=rfl
theorem minFunc_ok (g:At->Int) (f:AV) (H:List AO) (l:List At) (hlen:l.length<=1000) (hf:∀ x∈l,∀ y∈l,cfl T f [.agg x.cs,.agg y.cs] H=some (.ret (.int .i64 (g x - g y)),H)) (hne:l ≠ []) :
  ∃ a∈l,g a=minL (l.map g)/\F slices_MinFunc_Atom [.sl (At.css l),f] H=some (.ret (.agg a.cs),H):=by
 have loop:∀ (s p:List At) (b:At),l=p++s->p ≠ []->b∈l->g b=minL (p.map g) -> ∃ a∈l,g a=minL (l.map g)/\L_slices_MinFunc_Atom_0 H H (.sl (At.css l)) f (.int .i64 p.length) [.int .i64 0,.int .i64 0] b.cs=some (.ret (.agg a.cs),H):=by
  intro s
  induction s with
  | nil =>
   intro p b h hp hb hg
   rw [List.append_nil] at h
   subst h
   refine ⟨b,hb,hg,?_⟩
   rw [L_slices_MinFunc_Atom_0,awL_eq]
   simp only [↓reduceIte,go_sem]
  | cons x s ih =>
   intro p b h hp hb hg
   have hx:x∈l:=by rw [h]; simp
   have hga:l[p.length]? = some x:=by rw [h]; simp
   have hpl:p.length<l.length:=by rw [h]; simp
   have hc:=hf x hx b hb
   have hms:=minL_snoc (g x) (p.map g) (by simpa using hp)
   by_cases hlt:g x - g b<0
   ·obtain ⟨a,h1,h2,h3⟩:=ih (p++[x]) x (by rw [h]; simp) (by simp) hx (by rw [List.map_append,List.map_cons,List.map_nil,hms]; omega)
    refine ⟨a,h1,h2,?_⟩
    simp only [len_app] at h3
    rw [L_slices_MinFunc_Atom_0,awL_eq]
    simp only [↓reduceIte,go_sem,show (p.length:Int)<(l.length:Int) by omega,hga,hc,hlt,nat_wrap (n:=p.length) (by omega),h3]
   ·obtain ⟨a,h1,h2,h3⟩:=ih (p++[x]) b (by rw [h]; simp) (by simp) hb (by rw [List.map_append,List.map_cons,List.map_nil,hms]; omega)
    refine ⟨a,h1,h2,?_⟩
    simp only [len_app] at h3
    rw [L_slices_MinFunc_Atom_0,awL_eq]
    simp only [↓reduceIte,go_sem,show (p.length:Int)<(l.length:Int) by omega,hga,hc,hlt,nat_wrap (n:=p.length) (by omega),h3]
 cases l with
 | nil =>exact absurd rfl hne
 | cons x l =>
  obtain ⟨a,h1,h2,h3⟩:=loop l [x] x rfl (by simp) (by simp) rfl
  refine ⟨a,h1,h2,?_⟩
  have h0:(x::l)[0]? = some x:=rfl
  rw [f_slices_MinFunc_Atom]
  simp only [↓reduceIte,go_sem,h0,List.length_cons,show ¬ ((l.length+1:Nat):Int)<1 by omega]
  exact h3
theorem asks1_ok (m:List Int) (vars:Nat) (hm:okM vars m) (h16:vars=16) (H:List AO) (id b ver:Nat) (hH:H[id]? = some (.lst ver 1 (i64s m))) (hb:H[b]? = some (.box [.ov id ver 1 0 16])) (x y:At) (hx:0<=x.v/\x.v<16/\0<=x.o/\x.o<=1000) (hy:0<=y.v/\y.v<16/\0<=y.o/\y.o<=1000) :
  F horn_Asks_1 [.agg x.cs,.agg y.cs,.ptr b 0] H=some (.ret (.int .i64 ((gI m x.v - x.o) - (gI m y.v - y.o))),H):=by
 have hgx:=hm.get hx.1 (by omega)
 have hgy:=hm.get hy.1 (by omega)
 have hm':=hm.1
 rw [f_horn_Asks_1]
 simp only [↓reduceIte,go_sem,hH,hb,hm',h16,hx.1,hy.1,hgx.1,hgy.1,show x.v.toNat<16 by omega,show y.v.toNat<16 by omega,Nat.zero_add,wrap64 (n:=gI m x.v - x.o) (by omega) (by omega),wrap64 (n:=gI m y.v - y.o) (by omega) (by omega),wrap64 (n:=(gI m x.v - x.o) - (gI m y.v - y.o)) (by omega) (by omega)]
theorem AsksP_ok (c:Cl) (m:List Int) (vars:Nat) (hm:okM vars m) (h16:vars=16) (hc:c.ok vars) (H:List AO) (id ver:Nat) (hH:H[id]? = some (.lst ver 1 (i64s m))):F horn_Asks [.agg c.cs,.ov id ver 1 0 16] H=some (.ret (.int .i64 (asks c m)),H):=by
 have hid:=(List.getElem?_eq_some_iff.1 hH).1
 have hH':(H++[.box [.ov id ver 1 0 16]])[id]? = some (.lst ver 1 (i64s m)):=by rw [List.getElem?_append_left hid,hH]
 obtain ⟨a,h1,h2,h3⟩:=minFunc_ok (fun a =>gI m a.v - a.o) (.fn (.func horn_Asks_1) [] [.ptr H.length 0]) (H++[.box [.ov id ver 1 0 16]]) c.f (by have:=hc.len; omega) (fun x hx y hy =>by
  simp only [cfl_f1,List.cons_append,List.nil_append]
  exact asks1_ok m vars hm h16 _ id H.length ver hH' (by simp) x y (by have:=hc.at_ x hx; omega) (by have:=hc.at_ y hy; omega)) (by have:=hc.ne; intro h; rw [h] at this; simp at this)
 have ha:=hc.at_ a h1
 have hga:=hm.get ha.1 ha.2.1
 have hb:=asks_bd hm hc
 have ht:=hc.to
 have hm':=hm.1
 rw [asks,<- h2] at hb ⊢
 rw [f_horn_Asks]
 simp only [↓reduceIte,go_sem,h3,hH',hm',h16,ha.1,hga.1,show a.v.toNat<16 by omega,Nat.zero_add,wrap64 (n:=gI m a.v - a.o) (by omega) (by omega),wrap64 (n:=gI m a.v - a.o+c.t.o) (by omega) (by omega)]
def atomsV (l:List Cl):AV:=.fn (.func horn_atoms_1) [] [.fp [.sl (Cl.css l)]]
theorem atoms_ok (l:List Cl) (H:List AO):F horn_atoms [.sl (Cl.css l)] H=some (.ret (atomsV l),H):=by
 rw [f_horn_atoms]
 simp only [↓reduceIte,go_sem,atomsV]
abbrev encA (p:Nat × At):List AV:=[.int .i64 p.1,.agg p.2.cs]
def atomsX:List Cl->Nat->List (Nat × At)
 | [],_ =>[]
 | c::r,i =>((c.f++[c.t]).map fun a =>(i,a))++atomsX r (i+1)
theorem atoms_seq (l:List Cl) (hl:l.length<=1000) (hf:∀ c∈l,c.f.length<=1000):IsSeq (atomsV l) encA (atomsX l 0):=by
 intro S E y m W WE stp hy s X r hr
 have hone:=hy.one
 have hcell:y.cells=[y]:=by cases y <;> first | rfl | (simp [AV.one] at hone)
 unfold AV.cells at hcell
 unfold AV.one at hone
 have fin:=fun r =>seq_fin hy s r X []
 simp only [List.append_nil] at fin
 have loop0:∀ (i:Nat) (L:List At) (rest:List (Nat × At)),i<1000->L.length<=1001 ->
   (∀ a:S,fold stp rest a=some r->L_horn_atoms_1_1 (W s++X) (W a++X) y (.sl (Cl.css l)) (.int .i64 l.length) (.int .i64 (i+1))=some (.ret (.tup []),hp W WE r++X)) ->
   ∀ (t p:List At),L=p++t -> ∀ (a:S),fold stp (t.map (fun a =>(i,a))++rest) a=some r->L_horn_atoms_1_0 (W s++X) (W a++X) y (.int .i64 i) (.sl (Cl.css l)) (.int .i64 l.length) (.int .i64 i) (.sl (At.css L)) (.int .i64 L.length) (.int .i64 p.length)=some (.ret (.tup []),hp W WE r++X):=by
  intro i L rest hi hL hrest t
  induction t with
  | nil =>
   intro p h a hq
   rw [List.append_nil] at h
   subst h
   have h1:=hrest a (by simpa using hq)
   rw [L_horn_atoms_1_0,awL_eq]
   simp only [↓reduceIte,go_sem,nat_wrap (n:=i) (by omega),h1]
  | cons x t ih =>
   intro p h a hq
   have hga:L[p.length]? = some x:=by rw [h]; simp
   have hpl:p.length<L.length:=by rw [h]; simp
   rw [List.map_cons,List.cons_append,fold] at hq
   cases hst:stp a (i,x) with
   | none =>rw [hst] at hq; cases hq
   | some q =>
   rw [hst] at hq
   have hc:=hy.call a (i,x) X q hst
   simp only [encA] at hc
   rw [L_horn_atoms_1_0,awL_eq]
   cases q with
   | inl b =>
    have ih:=ih (p++[x]) (by rw [h]; simp) b hq
    simp only [hp_inl,len_app] at hc ih
    simp only [↓reduceIte,go_sem,show (p.length:Int)<(L.length:Int) by omega,hga,hc,isL,nat_wrap (n:=p.length) (by omega),ih]
   | inr e =>
    cases hq
    simp only [hp_inr] at hc
    simp only [↓reduceIte,go_sem,show (p.length:Int)<(L.length:Int) by omega,hga,hc,isL]
    exact fin (.inr e)
 have loop1:∀ (t p:List Cl),l=p++t -> ∀ (a:S),fold stp (atomsX t p.length) a=some r->L_horn_atoms_1_1 (W s++X) (W a++X) y (.sl (Cl.css l)) (.int .i64 l.length) (.int .i64 p.length)=some (.ret (.tup []),hp W WE r++X):=by
  intro t
  induction t with
  | nil =>
   intro p h a hq
   rw [List.append_nil] at h
   subst h
   rw [atomsX,fold] at hq
   cases hq
   rw [L_horn_atoms_1_1,awL_eq]
   simp only [↓reduceIte,go_sem]
   exact fin (.inl a)
  | cons c t ih =>
   intro p h a hq
   have hga:l[p.length]? = some c:=by rw [h]; simp
   have hpl:p.length<l.length:=by rw [h]; simp
   have hcf:=hf c (by rw [h]; simp)
   have hco:=fun H =>concatA_ok [c.f,[c.t]] (by simp) (by simp; omega) H
   have e:([c.f,[c.t]]:List (List At)).flatten=c.f++[c.t]:=by simp
   have e2:slA [c.f,[c.t]]=[[.sl (At.css c.f)],[.sl [c.t.cs]]]:=rfl
   rw [e,e2] at hco
   have h0:=loop0 p.length (c.f++[c.t]) (atomsX t (p.length+1)) (by omega) (by simp; omega) (fun b hb =>by
    have:=ih (p++[c]) (by rw [h]; simp) b (by simpa using hb)
    simpa only [len_app] using this) (c.f++[c.t]) [] rfl a (by rw [atomsX] at hq; exact hq)
   simp only [List.length_nil,Int.natCast_zero] at h0
   rw [L_horn_atoms_1_1,awL_eq]
   simp only [↓reduceIte,go_sem,show (p.length:Int)<(l.length:Int) by omega,hga,hco,h0]
 simp only [atomsV,cfl_f1,List.cons_append,List.nil_append]
 show F horn_atoms_1 _ _=_
 rw [f_horn_atoms_1]
 simp only [↓reduceIte,go_sem]
 exact loop1 l [] rfl s hr
theorem anyFA_ok (xs:List Cl) (hlen:xs.length<=1000) (f:AV) (p:Cl->Bool) (H:List AO) (hf:∀ e∈xs,cfl T f [.agg e.cs] H=some (.ret (.bool (p e)),H)) :
  F slices_ContainsFunc_Clause [.sl (Cl.css xs),f] H=some (.ret (.bool (xs.any p)),H):=by
 have loop:∀ (suf pre:List Cl),xs=pre++suf -> ∃ r:Int,L_slices_IndexFunc_Clause_0 H H (.sl (Cl.css xs)) f (.int .i64 xs.length) (.int .i64 pre.length)=some (.ret (.int .i64 r),H)/\decide (0<=r)=suf.any p:=by
  intro suf
  induction suf with
  | nil =>
   intro pre e
   subst e
   refine ⟨-1,?_,rfl⟩
   rw [L_slices_IndexFunc_Clause_0,awL_eq]
   simp only [↓reduceIte,go_sem]
  | cons x suf ih =>
   intro pre e
   subst e
   obtain ⟨r,h1,h2⟩:=ih (pre++[x]) (by simp)
   simp only [len_app] at h1
   have hfx:=hf x (by simp)
   simp at hlen
   cases hp:p x with
   | true =>
    refine ⟨pre.length,?_,by simp [hp]⟩
    rw [L_slices_IndexFunc_Clause_0,awL_eq]
    simp only [↓reduceIte,go_sem,hfx,hp]
   | false =>
    refine ⟨r,?_,by simp [hp,h2]⟩
    rw [L_slices_IndexFunc_Clause_0,awL_eq]
    simp only [↓reduceIte,go_sem,hfx,hp,nat_wrap (n:=pre.length) (by omega),h1]
 obtain ⟨r,h1,h2⟩:=loop xs [] rfl
 simp only [List.length_nil,Int.natCast_zero] at h1
 have hi:F slices_IndexFunc_Clause [.sl (Cl.css xs),f] H=some (.ret (.int .i64 r),H):=by
  rw [f_slices_IndexFunc_Clause]
  simp only [↓reduceIte,go_sem,h1]
 rw [f_slices_ContainsFunc_Clause]
 simp only [↓reduceIte,go_sem,hi,<- h2]
def rightD (vars:Int) (b:Bool):List AO:=[.box [.int .i64 vars],.box [.bool b]]
def rightJ (vars:Int) (_:Unit) (x:Nat × At):Option (Unit ⊕ Unit):=if atB vars x.2 then some (.inl ()) else some (.inr ())
theorem right_ys (H:List AO) (vars:Int):Ys (.yd (H.length+2+1)) (H.length+2+2) encA (fun _ =>H++(rightD vars false++[.dfr,.slp .ready 47 [(2,.ptr H.length 0),(4,.ptr (H.length+1) 0)] [26,27] s_horn_Right_0 y_horn_Right_0])) (fun _ =>H++(rightD vars false++[.dfr,.slp (.done .ret) 47 [(2,.ptr H.length 0),(4,.ptr (H.length+1) 0)] [26,27] s_horn_Right_0 y_horn_Right_0])) (rightJ vars):=by
 refine ys_of H 2 encA (fun _ =>rightD vars false) (fun _ =>rightD vars false) (fun _ =>.ret) (rightJ vars) 47 [(2,.ptr H.length 0),(4,.ptr (H.length+1) 0)] [26,27] s_horn_Right_0 y_horn_Right_0 o_s_horn_Right_0 o_y_horn_Right_0 (fun _ =>rfl) ?_ ?_ ?_ ?_
 ·rintro (p | e) <;> rfl
 ·rintro s (p | e) i o ho <;> exact .inl ho
 ·intro p hp; simp at hp; rcases hp with rfl | rfl <;> exact .ptr (by omega)
 ·rintro ⟨⟩ ⟨i,a⟩ X r hst
  refine ⟨[],?_⟩
  unfold rightJ at hst
  rcases a with ⟨v,o⟩
  simp only at hst
  have hA:atB vars ⟨v,o⟩=(decide (0<=v) && decide (v<vars) && decide (0<=o) && decide (o<=1000)):=rfl
  by_cases h:atB vars ⟨v,o⟩=true
  ·rw [if_pos h] at hst
   cases hst
   obtain ⟨h1,h2,h3,h4⟩:=atB_iff.1 h
   simp only at h1 h2 h3 h4
   simp only [↓reduceIte,go_sem,rightD,encA,At.cs,lstO,isL,show ¬ v<0 by omega,show ¬ vars<=v by omega,show ¬ o<0 by omega,show ¬ 1000<o by omega]
  ·rw [if_neg h] at hst
   cases hst
   have hn:¬ (0<=v/\v<vars/\0<=o/\o<=1000):=fun k =>h (atB_iff.2 k)
   simp only [↓reduceIte,go_sem,rightD,encA,At.cs,lstO,isL]
   by_cases h1:v<0
   ·rw [if_neg (by simpa using h1)]
   by_cases h2:vars<=v
   ·rw [if_pos h1,if_neg (by simpa using h2)]
   by_cases h3:o<0
   ·rw [if_pos h1,if_pos h2,if_neg (by simpa using h3)]
   ·rw [if_pos h1,if_pos h2,if_pos h3,if_pos (by omega)]
theorem right_fold (vars:Int):∀ xs:List (Nat × At),fold (rightJ vars) xs ()=some (if (xs.all fun x =>atB vars x.2)=true then .inl () else .inr ())
 | [] =>rfl
 | x::xs =>by
  rw [fold,List.all_cons]
  unfold rightJ
  cases h:atB vars x.2
  ·rfl
  ·simp only [if_true,Bool.true_and]
   exact right_fold vars xs
theorem atomsX_all (q:At->Bool):∀ (l:List Cl) (i:Nat),((atomsX l i).all fun x =>q x.2)=l.all fun c =>c.f.all q && q c.t
 | [],i =>rfl
 | c::l,i =>by
  rw [atomsX,List.all_append,atomsX_all q l,List.all_cons,List.all_map,List.all_append]
  simp [Function.comp_def]
def manyB (c:Cl):Bool:=decide (c.f.length<1) || decide (6<c.f.length)
theorem many_ok (c:Cl) (H:List AO):F horn_Right_1 [.agg c.cs] H=some (.ret (.bool (manyB c)),H):=by
 rw [f_horn_Right_1,manyB]
 simp only [↓reduceIte,go_sem]
 by_cases h:(c.f.length:Int)<1
 ·simp only [h,show c.f.length<1 by omega]; simp
 ·simp only [h,show ¬ c.f.length<1 by omega]
  by_cases h2:6<c.f.length
  ·simp [show (6:Int)<c.f.length by omega,h2]
  ·simp [show ¬ (6:Int)<c.f.length by omega,h2]
theorem RightP08_ok (vars:Int) (l:List Cl) (hl:l.length<=1000) (hf:∀ c∈l,c.f.length<=1000) (H:List AO):F horn_Right [.int .i64 vars,.sl (Cl.css l)] H=some (.ret (.bool (RightH vars l)),H):=by
 have hM:=fun H =>anyFA_ok l hl (.fn (.func horn_Right_1) [] []) manyB H (fun c hc =>by
  simp only [cfl_f1,List.cons_append,List.nil_append,cfl_f0]
  exact many_ok c H)
 have hr:=atoms_seq l hl hf _ _ _ _ _ _ _ (right_ys H vars) () [] _ (right_fold vars _)
 rw [atomsX_all] at hr
 have he:=fun st =>rf_end (H:=H) (DR:=rightD vars false) (k:=2) rfl (st:=st) (nn:=47) (t:=[(2,.ptr H.length 0),(4,.ptr (H.length+1) 0)]) (ps:=[26,27]) (asg:=s_horn_Right_0) (body:=y_horn_Right_0)
 rw [f_horn_Right,RightH]
 simp only [rightD,atomsV,cfl_f1,List.cons_append,List.nil_append,List.append_nil,Nat.add_assoc,Nat.reduceAdd] at hr he
 by_cases c1:vars<1
 ·have e:(decide (1<=vars) && decide (vars<=16) && decide (l.length<=60) && l.all (clB vars))=false:=by rw [decide_eq_false (show ¬ 1<=vars by omega)]; rfl
  rw [e]
  simp only [↓reduceIte,go_sem,c1]
 by_cases c2:16<vars
 ·have e:(decide (1<=vars) && decide (vars<=16) && decide (l.length<=60) && l.all (clB vars))=false:=by rw [decide_eq_false (show ¬ vars<=16 by omega)]; simp
  rw [e]
  simp only [↓reduceIte,go_sem,c1,c2]
 by_cases c3:(60:Int)<l.length
 ·have e:(decide (1<=vars) && decide (vars<=16) && decide (l.length<=60) && l.all (clB vars))=false:=by rw [decide_eq_false (show ¬ l.length<=60 by omega)]; simp
  rw [e]
  simp only [↓reduceIte,go_sem,c1,c2,c3]
 have e:(decide (1<=vars) && decide (vars<=16) && decide (l.length<=60) && l.all (clB vars))=l.all (clB vars):=by rw [decide_eq_true (show 1<=vars by omega),decide_eq_true (show vars<=16 by omega),decide_eq_true (show l.length<=60 by omega)]; simp
 rw [e]
 cases c4:l.any manyB with
 | true =>
  have e2:l.all (clB vars)=false:=by
   obtain ⟨c,hc,hm⟩:=List.any_eq_true.1 c4
   rw [Bool.eq_false_iff]
   intro k
   have:=List.all_eq_true.1 k c hc
   simp only [clB,Bool.and_eq_true,decide_eq_true_eq] at this
   simp only [manyB,Bool.or_eq_true,decide_eq_true_eq] at hm
   omega
  rw [e2]
  simp only [↓reduceIte,go_sem,c1,c2,c3,hM,c4]
 | false =>
  have e2:l.all (clB vars)=l.all fun c =>c.f.all (atB vars) && atB vars c.t:=by
   apply Bool.eq_iff_iff.2
   simp only [List.all_eq_true]
   have hm:∀ c∈l,manyB c=false:=by simpa using c4
   constructor
   ·intro k c hc
    have:=k c hc
    simp only [clB,Bool.and_eq_true,decide_eq_true_eq] at this ⊢
    exact ⟨this.1.2,this.2⟩
   ·intro k c hc
    have:=k c hc
    have h2:=hm c hc
    simp only [manyB,Bool.or_eq_false_iff,decide_eq_false_iff_not] at h2
    simp only [clB,Bool.and_eq_true,decide_eq_true_eq] at this ⊢
    exact ⟨⟨⟨by omega,by omega⟩,this.1⟩,this.2⟩
  rw [e2]
  cases c5:l.all fun c =>c.f.all (atB vars) && atB vars c.t with
  | true =>
   rw [c5] at hr
   simp only [if_true,hp_inl] at hr
   simp only [↓reduceIte,go_sem,c1,c2,c3,hM,c4,atoms_ok,atomsV,hr,he,List.mem_cons,List.not_mem_nil,or_false,forall_eq,List.nodup_cons,List.nodup_nil,not_false_eq_true,and_self]
  | false =>
   rw [c5] at hr
   simp only [Bool.false_eq_true,if_false,hp_inr] at hr
   simp only [↓reduceIte,go_sem,c1,c2,c3,hM,c4,atoms_ok,atomsV,hr,he,List.mem_cons,List.not_mem_nil,or_false,forall_eq,List.nodup_cons,List.nodup_nil,not_false_eq_true,and_self]
def mostD (l:List Cl) (n:Int):List AO:=[.box [.sl (Cl.css l)],.box [.int .i64 n]]
def mostJ (l:List Cl) (n:Int) (x:Nat × At):Option (Int ⊕ Empty):=match l[x.1]? with
 | some c =>if 0<=n/\n<=1000/\0<=c.t.o/\c.t.o<=1000/\0<=x.2.o/\x.2.o<=1000 then some (.inl (max n (c.t.o - x.2.o))) else none
 | none =>none
theorem most_ys (H:List AO) (l:List Cl):Ys (.yd (H.length+2+1)) (H.length+2+2) encA (fun n =>H++(mostD l n++[.dfr,.slp .ready 28 [(3,.ptr H.length 0),(4,.ptr (H.length+1) 0)] [14,15] s_horn_Most_0 y_horn_Most_0])) (fun e:Empty =>H++(noE e++[.dfr,.slp (.done (noE e)) 28 [(3,.ptr H.length 0),(4,.ptr (H.length+1) 0)] [14,15] s_horn_Most_0 y_horn_Most_0])) (mostJ l):=by
 refine ys_of H 2 encA (mostD l) noE noE (mostJ l) 28 [(3,.ptr H.length 0),(4,.ptr (H.length+1) 0)] [14,15] s_horn_Most_0 y_horn_Most_0 o_s_horn_Most_0 o_y_horn_Most_0 (fun _ =>rfl) ?_ ?_ ?_ ?_
 ·rintro (p | e)
  ·rfl
  ·exact e.elim
 ·rintro s (p | e) i o ho
  ·match i,ho with
   | 0,ho =>simp [hp_inl,mostD] at ho; subst ho; exact .inl (by simp [mostD])
   | 1,ho =>simp [hp_inl,mostD] at ho; subst ho; exact .inr fun a ha =>by simp at ha; subst ha; exact .int _ _
   | j+2,ho =>simp [hp_inl,mostD] at ho
  ·exact e.elim
 ·intro p hp; simp at hp; rcases hp with rfl | rfl <;> exact .ptr (by omega)
 ·rintro n ⟨i,a⟩ X r hst
  refine ⟨[],?_⟩
  unfold mostJ at hst
  simp only at hst
  cases hc:l[i]? with
  | none =>rw [hc] at hst; cases hst
  | some c =>
  rw [hc] at hst
  simp only at hst
  split at hst
  ·rename_i hb
   cases hst
   simp only [↓reduceIte,go_sem,mostD,encA,lstO,isL,hc,wrap64 (n:=c.t.o - a.o) (by omega) (by omega),maxI_eq]
  ·cases hst
theorem most_fold (l:List Cl) (vars:Nat) (hl:∀ c∈l,c.ok vars):∀ (t p:List Cl),l=p++t -> ∀ n,0<=n/\n<=1000->fold (mostJ l) (atomsX t p.length) n=some (.inl (t.foldl (fun n c =>mostIn c n c.f) n)):=by
 have one:∀ (i:Nat) (c:Cl),l[i]? = some c->c.ok vars -> ∀ (L:List At),(∀ a∈L,0<=a.o/\a.o<=1000) -> ∀ n,0<=n/\n<=1000->fold (mostJ l) (L.map fun a =>(i,a)) n=some (.inl (mostIn c n L)):=by
  intro i c hc ho L
  induction L with
  | nil =>intro _ n hn; rfl
  | cons a L ih =>
   intro hL n hn
   have ha:=hL a (by simp)
   have ht:=ho.to
   rw [List.map_cons,fold]
   have e:mostJ l n (i,a)=some (.inl (max n (c.t.o - a.o))):=by
    unfold mostJ
    simp only [hc]
    rw [if_pos (by omega)]
   rw [e]
   exact ih (fun b hb =>hL b (by simp [hb])) _ (by omega)
 intro t
 induction t with
 | nil =>intro p h n hn; rfl
 | cons c t ih =>
  intro p h n hn
  have hc:l[p.length]? = some c:=by rw [h]; simp
  have ho:=hl c (by rw [h]; simp)
  have h1:=one p.length c hc ho (c.f++[c.t]) (fun a ha =>by
   rcases List.mem_append.1 ha with ha | ha
   ·have:=ho.at_ a ha; omega
   ·simp at ha; subst ha; have:=ho.to; omega) n hn
  have hb:=mostIn_bd ho c.f (fun _ h =>h) hn
  have e:mostIn c n (c.f++[c.t])=mostIn c n c.f:=by
   unfold mostIn at hb ⊢
   rw [List.foldl_append]
   simp only [List.foldl_cons,List.foldl_nil]
   omega
  rw [e] at h1
  have h2:=ih (p++[c]) (by rw [h]; simp) (mostIn c n c.f) hb
  rw [len_snoc] at h2
  rw [atomsX,fold_app,h1]
  exact h2
theorem MostP08_ok (vars:Nat) (l:List Cl) (h:RightH vars l=true) (H:List AO):F horn_Most [.int .i64 vars,.sl (Cl.css l)] H=some (.ret (.tup [.int .i64 (mostC l),.int .i64 0]),H):=by
 have hR:=RightH_iff.1 h
 have hr08:=fun H =>RightP08_ok vars l (by omega) (fun c hc =>by have:=(hR.2.2.2 c hc).len; omega) H
 have hr:=atoms_seq l (by omega) (fun c hc =>by have:=(hR.2.2.2 c hc).len; omega) _ _ _ _ _ _ _ (most_ys H l) 0 [] _ (most_fold l vars hR.2.2.2 l [] rfl 0 (by omega))
 rw [<- mostC_eq] at hr
 have he:=rf_end (H:=H) (DR:=mostD l (mostC l)) (k:=2) rfl (st:=.ready) (nn:=28) (t:=[(3,.ptr H.length 0),(4,.ptr (H.length+1) 0)]) (ps:=[14,15]) (asg:=s_horn_Most_0) (body:=y_horn_Most_0)
 simp only [hp_inl,mostD,atomsV,cfl_f1,List.cons_append,List.nil_append,List.append_nil,Nat.add_assoc,Nat.reduceAdd] at hr he
 rw [f_horn_Most]
 simp only [↓reduceIte,go_sem,hr08,h,atoms_ok,atomsV,hr,he,List.mem_cons,List.not_mem_nil,or_false,forall_eq,List.nodup_cons,List.nodup_nil,not_false_eq_true,and_self]
 exact if_pos (.tup (by intro a ha; simp at ha; rcases ha with rfl | rfl <;> exact .int _ _))
theorem limitP_ok (vars:Nat) (l:List Cl) (h:RightH vars l=true) (H:List AO):F solve_limit [.int .i64 vars,.sl (Cl.css l)] H=some (.ret (.int .i64 (limitC vars l)),H):=by
 have hr:=RightH_iff.1 h
 have hb:=mostC_bd l hr.2.2.2 (n:=0) (by omega)
 rw [<- mostC_eq] at hb
 have h1:0<=((vars:Int) - 1)*mostC l:=Int.mul_nonneg (by omega) hb.1
 have h2:((vars:Int) - 1)*mostC l<=15*1000:=Int.mul_le_mul (by omega) hb.2 hb.1 (by omega)
 rw [f_solve_limit,limitC]
 simp only [↓reduceIte,go_sem,MostP08_ok vars l h,wrap64 (n:=(vars:Int) - 1) (by omega) (by omega),wrap64 (n:=((vars:Int) - 1)*mostC l) (by omega) (by omega)]
end Go.Ab
end
