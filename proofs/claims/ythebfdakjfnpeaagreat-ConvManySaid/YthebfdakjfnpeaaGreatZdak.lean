/- What the law ConvMany of layer 17 comes to, part 11. Conditions: none. -/
import Derived.Test.YthebfdakjfnpeaaGreatZdaj
section
set_option linter.unusedVariables false
set_option linter.unusedSimpArgs false
namespace Go.Ab
open Go.RowKit Go.ChangeShapes
section
variable {H : Type} {enc : TypeId × Value → H} {P : Program} {W W' : World}
theorem znt(hl:laidOutB P=true)(hb:Below W.heap.size W W')(sp:Nat->Bool)(hsp:∀b,b<W.heap.size->sp b=true):∀{ts:List TypeId} {vs:List Value} {ds:List (DataW H)} {ps:List MemPlace},
  (∀t∈ts,P.readableRec t=true/\t<P.types.size)->DataW.TrodAll enc P W 0 (fun _=>true) true ts vs ds ps->(∀x∈ps,x.block<W.heap.size)->DataW.TrodAll enc P W' 0 sp true ts vs ds ps
 |[],_,_,_,_,h,_=>by
  obtain⟨rfl,rfl,rfl⟩:=trodAll_nil h;exact trodAll_mk0
 |t::ts,_,_,_,hr,h,hlt=>by
  obtain⟨v,vs,d,ds,p,q,rfl,rfl,rfl,h1,h2⟩:=trodAll_cons h;obtain⟨h3,h4⟩:=hr t (by simp)
  refine⟨p,q,?_,znt hl hb sp hsp (fun t ht=>hr t (by simp[ht])) h2 (fun x hx=>hlt x (by simp[hx])),rfl⟩
  exact WideElems.Trod_stays hl h3 h4 h1 (fun x hx=>hb.same (hlt x (by simp[hx]))) (fun x hx=>hsp _ (hlt x (by simp[hx])))
theorem z9d(hb:Below W.heap.size W W')(may:MemPlace->Prop):W.keptBut W' may:=by
 refine⟨hb.os,hb.output,fun i hi=>?_⟩
 rw[hb.block i hi];have:=(World.keptBut_refl W may).2.2 i hi;exact this
theorem yg6(hl:laidOutB P=true){fn:Func}{s:ChangeSpec}(hsv:s.vars=[]){n:Nat}(hspec:∀ds:List (DataW H),ds.length=n->s.fn H ds = { results:=[.lit (.bool true)],args:=ds })(hn:fn.params.size=n)
  {tb:TypeId} (hrt:fn.resultTypes = #[tb]) (hbt:P.underlying tb=some .bool) (hrr:∀t∈fn.params.toList,P.readableRec t=true/\t<P.types.size) {args:Array Value} {ds gs:List (DataW H)} {before:List MemPlace} {fresh handsOn zc9:Bool}
  (hW:DataW.Whole enc P fn.params.toList s.vars false W args.toList ds gs before) (hB:Below W.heap.size W W'):s.post enc P fn false fresh handsOn zc9 W args (.bool true) W':=by
 have hW0:=hW;have hlt:=hW.lt;obtain⟨p,q,hA,hV,rfl,hz,hap⟩:=hW;rw[hsv]at hV;have hgs:gs=[]/\q=[]:=by cases gs with
  |nil=>exact⟨rfl,hV⟩
  |cons a b=>exact hV.elim
 obtain⟨rfl,rfl⟩:=hgs;have hlen:ds.length=n:=by
  have:∀{ts:List TypeId} {vs:List Value} {ds:List (DataW H)} {ps:List MemPlace},DataW.TrodAll enc P W 0 (fun _=>true) true ts vs ds ps->ds.length=ts.length:=by
   intro ts
   induction ts with
   |nil=>intro vs ds ps h;obtain⟨_,rfl,_⟩:=trodAll_nil h;rfl
   |cons t ts ih=>intro vs ds ps h;obtain⟨v,vs,d,ds,p,q,_,rfl,_,_,h2⟩:=trodAll_cons h;simp[ih h2]
  rw[this hA,<- hn];simp
 have hsp:=hspec ds hlen;have hlt':∀x∈p,x.block<W.heap.size:=fun x hx=>hlt x (by simp[hx])
 have hres:∀(b:Nat) (sp:Nat->Bool) (hd:Bool),DataW.TrodAll enc P W' b sp hd fn.resultTypes.toList ((Value.bool true).resultList fn.resultTypes.size) [.lit (.bool true)] []:=by
  intro b sp hd;rw[hrt];exact trodAll_mk1 (shut_bool hbt true)
 refine⟨ds,[],p++[],[],p,[],hW0,?_,?_,?_,z9d hB _,fun _=>⟨?_,?_⟩⟩
 ·rw[List.append_nil,hsp];exact hres _ _ _
 ·rw[List.append_nil,hsp];exact znt hl hB _ (fun b hb=>by simpa using hb) hrr hA hlt'
 ·rw[List.append_nil,hsp,hsv];rfl
 ·intro j t r hj hr
  rw[hrt]at hj hr
  match j,hj,hr with
  |0,hj,hr=>
   simp[Value.resultList]at hj hr;subst hj;subst hr;simp[Value.okWide,hbt,Cell.okWide,Cell.ok]
 ·refine⟨[.lit (.bool true)]++ds,[],([]++p)++[],⟨[]++p,[],trodAll_append (znt hl hB _ (fun _ _=>rfl) hrr hA hlt') (hres _ _ _),by rw[hsv];rfl,rfl,?_,by simp⟩,?_⟩
  ·intro b off hp
   have hp':MemPlace.cell b off∈p:=by simpa using hp
   have:=hz b off (by simp[hp'])
   have hbl:=hlt' _ hp';unfold World.frozen? at this ⊢;rw[show ({ block:=b,off:=off,spot:=none }:Addr).block=b from rfl]at *
   rw[hB.block b hbl];exact this
  ·intro x hx _
   simpa using hx
theorem ybv{k:FuncId}{xs:List AV}{args:Array Value}(h:zpl P k xs [] fun r H'=>r = .ret (.bool true)/\H' = [])(hr:RVs (yj9 P W) xs args.toList):
  Calls P k args W fun e W'=>e = .returned (.bool true)/\Below W.heap.size W W':=by
 have:=callsIn_wide.1 (h.2 (yj9 P W) W args.toList rfl (yhk P W) hr);refine this.mono fun e W' hb=>?_
 obtain⟨g',res,H',hev,hs,hres,_,rfl,rfl⟩:=hb;obtain⟨v,rfl,hv⟩:=hres;cases hv;refine⟨rfl,⟨hev.os,hev.tape,hev.output,hev.size,fun b hb=>hev.kept b hb ?_⟩⟩
 rintro ⟨id,o,h,_⟩
 cases h
end
theorem yg7{C:Checked}{os:Os}{H:Type}{enc:TypeId×Value->H}{k:FuncId}{fn:Func}{s:ChangeSpec}{fresh handsOn zc9:Bool}(hl:laidOutB C.prog=true)
  (own:ownKnob C.prog.godebug=none) (started:os.Started) (noInit:C.prog.inits.idxOf? k=none) (hfn:C.prog.funcs[k]?=some fn)
  (witness:∃(w:World) (tape:Tape) (i:Input),w.os=os/\(w.forCall tape i).Shaped C.prog/\i.vars=[]/\Input.okWide C.prog (w.forCall tape i) .any w.heap.size k i /\
   s.pre6 enc C.prog fn [] false (w.forCall tape i).memory i.args/\({}:Assume).holds C.prog (lone (Frame.enter C.prog k i.args .normal) [] (w.forCall tape i)))
  (hsv:s.vars=[]) {n:Nat} (hspec:∀ds:List (DataW H),ds.length=n->s.fn H ds = { results:=[.lit (.bool true)],args:=ds }) (hn:fn.params.size=n)
  {tb:TypeId} (hrt:fn.resultTypes = #[tb]) (hbt:C.prog.underlying tb=some .bool) (hrr:∀t∈fn.params.toList,C.prog.readableRec t=true/\t<C.prog.types.size)
  (hc:∀(W:World) (base:Nat) (args:Array Value) (ds:List (DataW H)) (ps:List MemPlace),
   (∀(j:Nat) t v,fn.params[j]?=some t->args[j]?=some v->Value.okWide C.prog W .any base t v) ->
   DataW.TrodAll enc C.prog W 0 (fun _=>true) true fn.params.toList args.toList ds ps ->
   (DataW.weightsEach C.prog fn.params.toList ds).all (· <= reachBytes)=true ->
   ∃xs,RVs (yj9 C.prog W) xs args.toList/\zpl C.prog k xs [] fun r H'=>r = .ret (.bool true)/\H' = []) :
  ReturnsInHanded {} C os k .any (s.pre6 enc C.prog fn [] false) (s.post enc C.prog fn false fresh handsOn zc9):=by
 refine returnsInHanded_of_change_sized own started noInit hfn witness ?_;intro W base args ds gs before hval hW _ hwt _;have hgs:gs=[]:=by
  obtain⟨p,q,_,hV,_⟩:=hW;rw[hsv]at hV
  cases gs with
  |nil=>rfl
  |cons a b=>exact hV.elim
 subst hgs;have hvt:s.plain.varTypes C.prog=[]:=by
  unfold ChangeSpec.plain DataSpec.varTypes;rw[hsv];rfl
 rw[hvt,List.append_nil,List.append_nil]at hwt;obtain⟨p,q,hA,_⟩:=id hW;obtain⟨xs,hr,hcall⟩:=hc W base args ds p hval hA hwt;refine (ybv hcall hr).mono fun e W' ⟨he,hB⟩=>⟨_,he,yg6 hl hsv hspec hn hrt hbt hrr hW hB⟩
end Go.Ab
end
