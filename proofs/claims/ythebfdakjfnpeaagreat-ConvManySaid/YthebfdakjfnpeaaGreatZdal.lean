/- What the law ConvMany of layer 17 comes to, part 12. Conditions: none. -/
import Derived.Test.YthebfdakjfnpeaaGreatZdai
section
set_option linter.unusedVariables false
set_option linter.unusedSimpArgs false
set_option maxRecDepth 100000
namespace Go.Ab
open Go.RowKit
def z7j(sz:Nat):FC:=.seq (.reg [O 2 (.mv (.c .ze))]) (.seq (.seq (.reg [O 3 (.mv (.t 0)),⟨some 4,(.isn (.t 3)),none,[]⟩]) (.cond (.t 4) (.seq (.reg [O 2 (.mv (.c .ze))]) (.ret)) (.skip))) (.seq (.reg [O 5 (.xo .mkE []),O 6 (.mv (.t 0)),O 7 (.app sz (.t 5) (.t 6)),O 2 (.mv (.t 7))]) (.ret)))
open Classical in
noncomputable def zv4(sz:Nat):List AV->List AO->Option RH
 |[x],H=>match zjw H x with
  |some es=>if 0<sz/\sz<=1024/\es.length<=1073741824/\(∀e∈es,e.length=sz)/\(∀a∈es.flatten,Lt H.length a) then some (.ret (.sl es),H) else none
  |none=>none
 |_,_=>none
open Classical in
noncomputable def ztj(sz:Nat):List AV->List AO->Option RH
 |[x],H=>match zjw H x with
  |some es=>if 0<sz/\sz<=1024/\es.length<=1073741824/\(∀e∈es,e.length=sz) then (match es with
   |[]=>some (.ret .ze,H)
   |e::es=>some (.ret (.ol H.length 0),H++[.lst 0 sz (e::es)])) else none
  |none=>none
 |_,_=>none
theorem ydw(σ:St)(a:AV):elems σ a=zjw σ.h a:=by cases a <;> rfl
theorem yic{CC:zee}{Q:Out->St->Prop}{σ:St}(d:Option Nat)(k:AK)(af:List Nat)(r:List AI):awr CC (⟨d,k,none,af⟩::r) Q σ=zwi CC ⟨d,k,none,af⟩ (awr CC r Q) Q σ:=rfl
theorem ygg{CC:zee}{Q:Out->St->Prop}{k:St->Prop}{σ:St}{d:Option Nat}{x:AX}{a:AV}(ha:σ.a x=some a){es:List (List AV)}(he:elems σ a=some es)(h0:es=[]->∀b,k (σ.put d (.v (.bool b))))(h1:es≠[]->k (σ.put d (.v (.bool false)))):zwi CC ⟨d,.isn x,none,[]⟩ k Q σ:=by
 unfold zwi;dsimp only;rw[ha];dsimp only;rw[he]
 cases es with
 |nil=>exact h0 rfl
 |cons e es=>exact h1 (by simp)
theorem z3j{CC:zee}{Q:Out->St->Prop}{σ σ':St}{d:Nat}{o:AOp}{r:List AI}{x:TV}(h:evo d o σ=some (x,σ'))(k:awr CC r Q { σ' with t:=σ'.t.set d x }):awr CC (O d o::r) Q σ:=by
 rw[awr_O,h];exact k
theorem yhu{d sz:Nat}{x y:AX}{σ:St}{b:AV}(hx:σ.a x=some .ze)(hy:σ.a y=some b)(he:elems σ b=some []):evo d (.app sz x y) σ=some (.v .ze,σ):=by
 simp only[evo,hx,hy,he]
theorem yht{d sz:Nat}{x y:AX}{σ:St}{b:AV}{e:List AV}{es:List (List AV)}(hx:σ.a x=some .ze)(hy:σ.a y=some b)(he:elems σ b=some (e::es))(h1:0<sz)(h2:sz<=1024)(h3:es.length<1073741824)(h4:∀e' ∈ e::es,e'.length=sz):
  evo d (.app sz x y) σ=some (.v (.ol σ.h.length 0),{ σ with h:=σ.h++[.lst 0 sz (e::es)] }):=by
 simp only[evo,hx,hy,he];rw[if_pos ⟨h1,h2,h3,h4⟩]
theorem z3d{CC:zee}{sz:Nat}(h1:0<sz)(h2:sz<=1024){x:AV}{H:List AO}{es:List (List AV)}(he:zjw H x=some es)(h3:es.length<=1073741824)(h4:∀e∈es,e.length=sz){Q:Out->St->Prop}
  (h0:es=[]->∀t:Ts,tg 2 t.l = .v .ze->Q .ret ⟨t,[],H,[]⟩) (hc:es≠[]->∀t:Ts,tg 2 t.l = .v (.ol H.length 0)->Q .ret ⟨t,[],H++[.lst 0 sz es],[]⟩) :
  Run CC (z7j sz).ac Q ⟨⟨8,ini 0 [x]⟩,[],H,[]⟩:=by
 refine .of ?_;have he':∀(t:Ts),elems ⟨t,[],H,[]⟩ x=some es:=fun t=>by rw[ydw];exact he
 have app:∀(l:List (Nat×TV)),tg 0 l = .v x->awr CC [O 5 (.xo .mkE []),O 6 (.mv (.t 0)),O 7 (.app sz (.t 5) (.t 6)),O 2 (.mv (.t 7))] (ztp (awp CC .ret Q) Q) ⟨⟨8,l⟩,[],H,[]⟩:=by
  intro l ht;refine z3j (x:=.v .ze) (σ':=⟨⟨8,l⟩,[],H,[]⟩) rfl ?_;refine z3j (x:=.v x) (σ':=⟨⟨8,(5,.v .ze)::l⟩,[],H,[]⟩) (by show some (tg 0 ((5,TV.v .ze)::l),_)=_;rw[zj1,if_neg (by decide),ht];rfl) ?_
  have hx:(⟨⟨8,(6,.v x)::(5,.v .ze)::l⟩,[],H,[]⟩:St).a (.t 5)=some .ze:=rfl;have hy:(⟨⟨8,(6,.v x)::(5,.v .ze)::l⟩,[],H,[]⟩:St).a (.t 6)=some x:=rfl
  cases hes:es with
  |nil=>
   refine z3j (yhu hx hy (by rw[he',hes])) ?_
   refine z3j (x:=.v .ze) rfl ?_;exact h0 hes _ rfl
  |cons e r=>
   refine z3j (yht hx hy (by rw[he',hes]) h1 h2 (by rw[hes]at h3;simp at h3;omega) (by rw[<- hes];exact h4)) ?_
   refine z3j (x:=.v (.ol H.length 0)) rfl ?_;have:=hc (by rw[hes];simp) ⟨8,(2,.v (.ol H.length 0))::(7,.v (.ol H.length 0))::(6,.v x)::(5,.v .ze)::l⟩ rfl
   rw[hes]at this;exact this
 simp only[z7j,FC.ac,awp_seq,awp_reg];refine z3j (x:=.v .ze) (σ':=⟨⟨8,ini 0 [x]⟩,[],H,[]⟩) rfl ?_;show awr CC [O 3 (.mv (.t 0)),⟨some 4,.isn (.t 3),none,[]⟩] (ztp (awp CC (.cond (.t 4) (.seq (.reg [O 2 (.mv (.c .ze))]) .ret) .skip) (ztp (awp CC (.seq (.reg [O 5 (.xo .mkE []),O 6 (.mv (.t 0)),O 7 (.app sz (.t 5) (.t 6)),O 2 (.mv (.t 7))]) .ret) Q) Q)) (ztp (awp CC (.seq (.reg [O 5 (.xo .mkE []),O 6 (.mv (.t 0)),O 7 (.app sz (.t 5) (.t 6)),O 2 (.mv (.t 7))]) .ret) Q) Q)) ⟨⟨8,(2,.v .ze)::ini 0 [x]⟩,[],H,[]⟩;refine z3j (x:=.v x) (σ':=⟨⟨8,(2,.v .ze)::ini 0 [x]⟩,[],H,[]⟩) (by simp[evo,St.x,tg,ini,Ts.set]) ?_
 rw[yic];have rest:=app ((4,.v (.bool false))::(3,.v x)::(2,.v .ze)::ini 0 [x]) rfl;refine ygg (a:=x) rfl (he' _) (fun e b=>?_) (fun _=>?_)
 ·cases b with
  |false=>exact rest
  |true=>exact h0 e ⟨8,(2,.v .ze)::(4,.v (.bool true))::(3,.v x)::(2,.v .ze)::ini 0 [x]⟩ rfl
 ·exact rest
theorem yee {P : Program} (hm : P.follows .mixedOrders = true) {k : FuncId} {sz : Nat} {fn : Func} {esc own : List Nat} (hf : P.funcs[k]? = some fn) (hname : (fn.name == "runtime.NumGoroutine") = false) (hbc : fn.body.bind (zmn P esc own) = some (z7j sz).ac)
  (hr:zj5 (z83 P) fn.results.toList=some [.t 2]) (hn:fn.ntmps=8):zae P k (.ext (zv4 sz)):=by
 intro vs H r H' h;unfold zv4 at h
 split at h
 ·rename_i x
  split at h
  ·rename_i es he
   split at h
   ·rename_i hc
    obtain⟨h1,h2,h3,h4,h5⟩:=hc;cases h;refine zr2 hf hname hbc hm hr hn false (fun _ _=>z3d h1 h2 he h3 h4 (fun e t ht=>?_) (fun e t ht=>?_)) (by simp)
    ·subst e
     refine⟨fun i hi=>(by cases hi),List.nodup_nil,[.ze],?_,?_⟩
     ·simp only[zjj,yjf,St.a,St.x,ht,TV.av]
     ·exact⟨.sl (fun a ha=>by simp at ha),fun id o ho hi=>.inl ho,rfl,List.take_length⟩
    ·refine⟨fun i hi=>(by cases hi),List.nodup_nil,[.ol H.length 0],?_,?_⟩
     ·simp only[zjj,yjf,St.a,St.x,ht,TV.av]
     ·have:zr8 H.length [.ol H.length 0] (zi6 (H++[.lst 0 sz es]) [])=([.sl es],H++[.dead]):=by
       simp[zi6,zr8,zxm,z42]
      rw[this,yhs];exact⟨.sl h5,rfl,rfl⟩
   ·cases h
  ·cases h
 ·cases h
theorem yec {P : Program} (hm : P.follows .mixedOrders = true) {k : FuncId} {sz : Nat} {fn : Func} {esc own : List Nat} (hf : P.funcs[k]? = some fn) (hname : (fn.name == "runtime.NumGoroutine") = false) (hbc : fn.body.bind (zmn P esc own) = some (z7j sz).ac)
  (hr:zj5 (z83 P) fn.results.toList=some [.t 2]) (hn:fn.ntmps=8):zae P (k+1000000) (.alx (ztj sz)):=by
 refine⟨k,rfl,fun vs H r H' h=>?_⟩
 unfold ztj at h
 split at h
 ·rename_i x
  split at h
  ·rename_i es he
   split at h
   ·rename_i hc
    obtain⟨h1,h2,h3,h4⟩:=hc;refine zr2 hf hname hbc hm hr hn true (fun _ _=>z3d h1 h2 he h3 h4 (fun e t ht=>?_) (fun e t ht=>?_)) (by simp)
    ·subst e
     cases h;refine⟨fun i hi=>(by cases hi),List.nodup_nil,[.ze],?_,rfl,rfl⟩
     simp only[zjj,yjf,St.a,St.x,ht,TV.av]
    ·cases es with
     |nil=>exact absurd rfl e
     |cons e0 es=>
      cases h;refine⟨fun i hi=>(by cases hi),List.nodup_nil,[.ol H.length 0],?_,rfl,rfl⟩
      simp only[zjj,yjf,St.a,St.x,ht,TV.av]
   ·cases h
  ·cases h
 ·cases h
end Go.Ab
end
