/- What the law ConvMany of layer 17 comes to, part 1. Conditions: none. -/
import Derived.RangeFuncRecord
import Derived.CallsIn
import Derived.Below
import Derived.Laws.CopyRow
import Derived.Laws.Cells
import Derived.KernelRfl
import Derived.Laws.Tables
import Derived.Great.BuildSlice
section
set_option linter.unusedVariables false
set_option linter.unusedSimpArgs false
namespace Go.Ab
inductive AV where
 |bool (b:Bool)
 |int (k:IntKind) (n:Int)
 |str (s:ByteArray)
 |nilp
 |ptr (id off:Nat)
 |nils (sz:Nat)
 |sl (es:List (List AV))
 |ol (id ver:Nat)
 |nilm
 |fmap (es:List (AV×AV))
 |mp (id:Nat)
 |fn (f:Fn) (first cap:List AV)
 |nilf
 |agg (cs:List AV)
 |tup (vs:List AV)
 |iface (t:TypeId) (v:AV)
 |nili
 |fp (cs:List AV)
 |yd (id:Nat)
 |ze
 |ov (id ver sz lo n:Nat)
 |fk (k:Nat)
 |junk
 deriving Inhabited
inductive XOp where
 |bit (op:BinOp)
 |sh (left:Bool)
 |eqA (n:Nat) (neg:Bool)
 |mn
 |bxA (n:Nat)
 |alA (z:List AV)
 |iaA (n:Nat)
 |slA (n:Nat) (hi:Bool)
 |ldA (n:Nat)
 |stA (n:Nat)
 |slv (sz:Nat) (lo hi:Bool)
 |cpy (sz:Nat)
 |ldx (n:Nat) (ag:Bool)
 |ldy (n:Nat) (ag:Bool)
 |insK (n:Nat)
 |lkK (n:Nat) (ok:Bool) (z:AV)
 |mkE
 |iaz (sz:Nat)
 |ldf (n:Nat) (ag:Bool)
 |bxN
inductive AX where
 |t (i:Nat)
 |c (a:AV)
inductive AOp where
 |mv (x:AX)
 |mvO (sz:Nat)
 |pick (c a b:AX)
 |alc (z:List AV)
 |alcO (z:List AV)
 |alcH (z:List AV)
 |alcHO (z:List AV)
 |bx (x:AX)
 |bxH (x:AX)
 |bxF (x:AX)
 |bld (z:List AV) (ps:List (Nat×Nat×AX))
 |bldO (z:List AV) (ps:List (Nat×Nat×AX))
 |bsl (sz n:Nat) (z:List AV) (ps:List (Nat×AX))
 |bslO (sz n:Nat) (z:List AV) (ps:List (Nat×AX))
 |ld (n:Nat) (ag:Bool) (a:AX)
 |ldl (n:Nat) (ag:Bool) (a:AX)
 |ldz (n:Nat) (ag:Bool) (a:AX)
 |st (n:Nat) (a x:AX)
 |nilc (x:AX)
 |bin (op:BinOp) (x y:AX)
 |eqb (neg:Bool) (x y:AX)
 |not (x:AX)
 |cv (k:IntKind) (x:AX)
 |fa (off:Nat) (x:AX)
 |fld (off n:Nat) (ag:Bool) (x:AX)
 |ia (sz:Nat) (x i:AX)
 |lk (ok:Bool) (z:AV) (x i:AX)
 |ins (m k v:AX)
 |ext (x:AX) (i:Nat)
 |len (x:AX)
 |app (sz:Nat) (x y:AX)
 |mx (x y:AX)
 |mkf (f:Fn) (first cap:List AX)
 |mkm
 |mks (sz:Nat) (z:List AV) (l:AX)
 |mkz (sz:Nat) (z:List AV) (l:AX)
 |slc (sz:Nat) (x:AX) (lo hi:Option AX)
 |ifc (t:TypeId) (x:AX)
 |cap (x:AX)
 |slz (x:AX)
 |apz (sz:Nat) (z:List AV) (x n:AX)
 |ldh (n:Nat) (ag:Bool) (a:AX)
 |stl (n:Nat) (a x:AX)
 |sto (n:Nat) (a x:AX)
 |stp (n:Nat) (a x:AX)
 |iao (sz:Nat) (x i:AX)
 |xo (o:XOp) (l:List AX)
inductive AK where
 |o (op:AOp)
 |fo (op:AOp)
 |call (f:AX) (args:List AX)
 |callW (f:AX) (args bs:List AX)
 |pan (x:AX)
 |isn (x:AX)
structure AI where
 d:Option Nat
 k:AK
 g:Option (Nat×Bool)
 af:List Nat
inductive AC where
 |skip
 |reg (is:List AI)
 |dreg (is:List AI)
 |seq (a b:AC)
 |cond (x:AX) (a b:AC)
 |block (id:Nat) (c:AC)
 |loop (c:AC)
 |rf (f:AX) (ps:List Nat) (asg body:AC)
 |exit (id:Nat)
 |ret
inductive FC where
 |skip
 |reg (is:List AI)
 |dreg (is:List AI)
 |seq (a b:FC)
 |cond (x:AX) (a b:FC)
 |block (id:Nat) (c:FC)
 |loop (kt kl:List Nat) (c:FC)
 |rf (f:AX) (ps kt:List Nat) (asg body:FC)
 |exit (id:Nat)
 |ret
def FC.ac:FC->AC
 |.skip=>.skip
 |.reg is=>.reg is
 |.dreg is=>.dreg is
 |.seq a b=>.seq a.ac b.ac
 |.cond x a b=>.cond x a.ac b.ac
 |.block id c=>.block id c.ac
 |.loop _ _ c=>.loop c.ac
 |.rf f ps _ a b=>.rf f ps a.ac b.ac
 |.exit id=>.exit id
 |.ret=>.ret
end Go.Ab
set_option linter.unusedVariables false
set_option linter.unusedSimpArgs false
namespace Go.Ab
inductive Jmp where
 |ret
 |exit (id:Nat)
inductive LSt where
 |ready
 |busy
 |done (j:Jmp)
def Jmp.code:Jmp->Code
 |.ret=>.ret
 |.exit id=>.exit id
def LSt.st:LSt->LoopState×Option Code
 |.ready=>(.ready,none)
 |.busy=>(.busy,none)
 |.done j=>(.done,some j.code)
inductive AO where
 |dead
 |box (cs:List AV)
 |lst (ver sz:Nat) (es:List (List AV))
 |mapo (es:List (AV×AV))
 |dfr
 |slp (st:LSt) (n:Nat) (t:List (Nat×AV)) (ps:List Nat) (asg body:FC)
def AO.kd:AO->Nat
 |.dfr=>1
 |.slp _ _ _ _ _ _=>2
 |_=>0
structure G where
 fz:Nat->Nat->Option Value
 fm:Nat->Option (Array MapEntry)
 bx:Nat->Option Nat
 hd:Nat->Nat->Option (Option Addr×Nat×Nat)
 cm:Code->AC->Prop:=fun _ _=>False
structure G.Le (g g':G):Prop where
 fz:∀b o v,g.fz b o=some v->g'.fz b o=some v
 fm:∀b m,g.fm b=some m->g'.fm b=some m
 bx:∀i b,g.bx i=some b->g'.bx i=some b
 hd:∀i v x,g.hd i v=some x->g'.hd i v=some x
 cm:g'.cm=g.cm
theorem G.Le.refl(g:G):g.Le g:=⟨fun _ _ _ h=>h,fun _ _ h=>h,fun _ _ h=>h,fun _ _ _ h=>h,rfl⟩
theorem G.Le.trans{a b c:G}(h:a.Le b)(k:b.Le c):a.Le c :=
 ⟨fun _ _ _ x=>k.fz _ _ _ (h.fz _ _ _ x),fun _ _ x=>k.fm _ _ (h.fm _ _ x),fun _ _ x=>k.bx _ _ (h.bx _ _ x),fun _ _ _ x=>k.hd _ _ _ (h.hd _ _ _ x),k.cm.trans h.cm⟩
def z3y:Nat:=140737488355328
def AV.one:AV->Bool
 |.agg _|.tup _|.junk=>false
 |_=>true
structure Mpd (es:List (AV×AV)) (m:Array MapEntry) (f:Nat->Nat):Prop where
 len:es.length=m.size
 dist:∀(i j:Nat) (p q:AV×AV),es[i]?=some p->es[j]?=some q->p.1=q.1->i=j
 rng:∀i,i<es.length->f i<es.length
 sur:∀j,j<es.length->∃i,i<es.length/\f i=j
inductive RV (g:G):AV->Value->Prop
 |bool (b:Bool):RV g (.bool b) (.bool b)
 |int (k:IntKind) (n:Int):RV g (.int k n) (.int k n)
 |str (s:ByteArray):RV g (.str s) (.string s)
 |nilp:RV g .nilp (.pointer none)
 |ptr {id off b:Nat} (h:g.bx id=some b):RV g (.ptr id off) (.pointer (some ⟨b,off,none⟩))
 |nils (sz:Nat):RV g (.nils sz) (.slice none 0 0)
 |sl0 (a:Option Addr) (c:Nat):RV g (.sl []) (.slice a 0 c)
 |sl {es:List (List AV)} {b o n c sz:Nat} (f:Nat->Value) (hl:es.length=n) (hn:n<=z3y) (hnc:n<=c) (hz:∀e∈es,e.length=sz) (ho:∀a∈es.flatten,a.one=true)
   (hf:∀(k:Nat) (a:AV),es.flatten[k]?=some a->g.fz b (o+k)=some (f k)) (hr:∀(k:Nat) (a:AV),es.flatten[k]?=some a->RV g a (f k)) :
   RV g (.sl es) (.slice (some ⟨b,o,none⟩) n c)
 |ol {id ver:Nat} {a:Option Addr} {n c:Nat} (h:g.hd id ver=some (a,n,c)):RV g (.ol id ver) (.slice a n c)
 |nilm:RV g .nilm (.map none)
 |fmap {es:List (AV×AV)} {b:Nat} {m:Array MapEntry} {f:Nat->Nat} (h:g.fm b=some m) (hl:Mpd es m f)
   (hk:∀(i:Nat) (p:AV×AV) (e:MapEntry),es[i]?=some p->m[f i]?=some e->RV g p.1 e.key) (hv:∀(i:Nat) (p:AV×AV) (e:MapEntry),es[i]?=some p->m[f i]?=some e->RV g p.2 e.val) :
   RV g (.fmap es) (.map (some b))
 |mp {id b:Nat} (h:g.bx id=some b):RV g (.mp id) (.map (some b))
 |fn {f:Fn} {first cap:List AV} {vf vc:Array Value} (h1:first.length=vf.size) (h2:cap.length=vc.size)
   (hf:∀(i:Nat) (a:AV) (v:Value),first[i]?=some a->vf[i]?=some v->RV g a v) (hc:∀(i:Nat) (a:AV) (v:Value),cap[i]?=some a->vc[i]?=some v->RV g a v) :
   RV g (.fn f first cap) (.func f vf vc)
 |nilf:RV g .nilf .nilFunc
 |agg {cs:List AV} {vs:Array Value} (hl:cs.length=vs.size) (h:∀(i:Nat) (a:AV) (v:Value),cs[i]?=some a->vs[i]?=some v->RV g a v):RV g (.agg cs) (.agg vs)
 |tup {cs:List AV} {vs:Array Value} (hl:cs.length=vs.size) (h:∀(i:Nat) (a:AV) (v:Value),cs[i]?=some a->vs[i]?=some v->RV g a v):RV g (.tup cs) (.tuple vs)
 |iface {t:TypeId} {a:AV} {v:Value} (h:RV g a v):RV g (.iface t a) (.iface t v)
 |nili:RV g .nili .nilIface
 |fp {cs:List AV} {b o:Nat} (f:Nat->Value) (hf:∀(k:Nat) (a:AV),cs[k]?=some a->g.fz b (o+k)=some (f k)) (hr:∀(k:Nat) (a:AV),cs[k]?=some a->RV g a (f k)):RV g (.fp cs) (.pointer (some ⟨b,o,none⟩))
 |yd {id b:Nat} (h:g.bx id=some b):RV g (.yd id) (.func (.yield b) #[] #[])
 |ze (a:Option Addr):RV g .ze (.slice a 0 0)
 |ov {id ver sz lo n m k c:Nat} {A a:Option Addr} (h:g.hd id ver=some (A,m,k)) (ha:n=0\/∃b,A=some ⟨b,0,none⟩/\a=some ⟨b,lo*sz,none⟩) (hn:n<=c):RV g (.ov id ver sz lo n) (.slice a n c)
 |fk (k:Nat):RV g (.fk k) (.func (.func k) #[] #[])
 |junk (v:Value):RV g .junk v
theorem RV.mono{g g':G}(hg:g.Le g'){a:AV}{v:Value}(h:RV g a v):RV g' a v:=by
 induction h with
 |bool b=>exact .bool b
 |int k n=>exact .int k n
 |str s=>exact .str s
 |nilp=>exact .nilp
 |ptr h=>exact .ptr (hg.bx _ _ h)
 |nils sz=>exact .nils sz
 |sl0 a c=>exact .sl0 a c
 |sl f hl hn hnc hz ho hf _ ih=>exact .sl f hl hn hnc hz ho (fun k a h=>hg.fz _ _ _ (hf k a h)) ih
 |ol h=>exact .ol (hg.hd _ _ _ h)
 |nilm=>exact .nilm
 |fmap h hl _ _ ihk ihv=>exact .fmap (hg.fm _ _ h) hl ihk ihv
 |mp h=>exact .mp (hg.bx _ _ h)
 |fn h1 h2 _ _ ihf ihc=>exact .fn h1 h2 ihf ihc
 |nilf=>exact .nilf
 |agg hl _ ih=>exact .agg hl ih
 |tup hl _ ih=>exact .tup hl ih
 |iface _ ih=>exact .iface ih
 |nili=>exact .nili
 |fp f hf _ ih=>exact .fp f (fun k a h=>hg.fz _ _ _ (hf k a h)) ih
 |yd h=>exact .yd (hg.bx _ _ h)
 |ze a=>exact .ze a
 |ov h ha hn=>exact .ov (hg.hd _ _ _ h) ha hn
 |fk k=>exact .fk k
 |junk v=>exact .junk v
def RVs(g:G)(as1:List AV)(vs:List Value):Prop:=as1.length=vs.length/\∀(i:Nat) (a:AV) (v:Value),as1[i]?=some a->vs[i]?=some v->RV g a v
theorem RVs.mono{g g':G}(hg:g.Le g'){as1:List AV}{vs:List Value}(h:RVs g as1 vs):RVs g' as1 vs :=
 ⟨h.1,fun i a v x y=>(h.2 i a v x y).mono hg⟩
theorem RVs.nil(g:G):RVs g [] []:=⟨rfl,fun i a v h _=>by simp at h⟩
theorem RVs.cons{g:G}{a:AV}{v:Value}{as1:List AV}{vs:List Value}(h:RV g a v)(hs:RVs g as1 vs):RVs g (a::as1) (v::vs):=by
 refine⟨by simp[hs.1],fun i x y hx hy=>?_⟩
 cases i with
 |zero=>simp at hx hy;subst hx;subst hy;exact h
 |succ i=>simp at hx hy;exact hs.2 i x y hx hy
theorem RVs.inv{g:G}{a:AV}{as1:List AV}{l:List Value}(h:RVs g (a::as1) l):∃v vs,l=v::vs/\RV g a v/\RVs g as1 vs:=by
 cases l with
 |nil=>have:=h.1;simp at this
 |cons v vs=>exact⟨v,vs,rfl,h.2 0 a v (by simp) (by simp),by have:=h.1;simpa using this,fun i x y hx hy=>h.2 (i+1) x y (by simpa using hx) (by simpa using hy)⟩
theorem RVs.inv_nil{g:G}{l:List Value}(h:RVs g [] l):l=[]:=List.eq_nil_of_length_eq_zero h.1.symm
theorem RVs.append{g:G}{as1 bs:List AV}{vs us:List Value}(h:RVs g as1 vs)(k:RVs g bs us):RVs g (as1++bs) (vs++us):=by
 induction as1 generalizing vs with
 |nil=>rw[h.inv_nil];exact k
 |cons a as1 ih=>obtain⟨v,vs,rfl,h1,h2⟩:=h.inv;exact .cons h1 (ih h2)
theorem RVs.at{g:G}{as1:List AV}{vs:List Value}(h:RVs g as1 vs){i:Nat}{a:AV}(ha:as1[i]?=some a):∃v,vs[i]?=some v/\RV g a v:=by
 have hi:i<vs.length:=by have:=(List.getElem?_eq_some_iff.1 ha).1;have:=h.1;omega
 exact⟨vs[i],by simp[hi],h.2 i a _ ha (by simp[hi])⟩
theorem RVs.set{g:G}{as1:List AV}{vs:List Value}(h:RVs g as1 vs)(i:Nat){a:AV}{v:Value}(ha:RV g a v):RVs g (as1.set i a) (vs.set i v):=by
 refine⟨by simp[h.1],fun j x y hx hy=>?_⟩
 rw[List.getElem?_set]at hx hy
 split at hx
 ·rename_i e;subst e
  have:=h.1;by_cases hl:i<as1.length
  ·simp[hl]at hx;simp[show i<vs.length by omega]at hy;subst hx;subst hy;exact ha
  ·simp[hl]at hx
 ·rename_i e;simp[e]at hy;exact h.2 j x y hx hy
theorem RVs.drop{g:G}{as1:List AV}{vs:List Value}(h:RVs g as1 vs)(n:Nat):RVs g (as1.drop n) (vs.drop n) :=
 ⟨by simp[h.1],fun i a v hx hy=>h.2 (n+i) a v (by simpa [List.getElem?_drop] using hx) (by simpa [List.getElem?_drop] using hy)⟩
theorem RVs.take{g:G}{as1:List AV}{vs:List Value}(h:RVs g as1 vs)(n:Nat):RVs g (as1.take n) (vs.take n):=by
 refine⟨by simp[h.1],fun i a v hx hy=>?_⟩
 rw[List.getElem?_take]at hx hy
 split at hx
 ·rename_i hi;simp[hi]at hy;exact h.2 i a v hx hy
 ·cases hx
theorem RV.agg_iff{g:G}{cs:List AV}{vs:Array Value}:RV g (.agg cs) (.agg vs) ↔ RVs g cs vs.toList :=
 ⟨fun h=>by cases h with|agg hl h=>exact⟨by simpa using hl,fun i a v hx hy=>h i a v hx (by simpa using hy)⟩,
  fun h=>.agg (by simpa using h.1) fun i a v hx hy=>h.2 i a v hx (by simpa using hy)⟩
theorem RV.tup_iff{g:G}{cs:List AV}{vs:Array Value}:RV g (.tup cs) (.tuple vs) ↔ RVs g cs vs.toList :=
 ⟨fun h=>by cases h with|tup hl h=>exact⟨by simpa using hl,fun i a v hx hy=>h i a v hx (by simpa using hy)⟩,
  fun h=>.tup (by simpa using h.1) fun i a v hx hy=>h.2 i a v hx (by simpa using hy)⟩
theorem RV.oneCell{g:G}{a:AV}{v:Value}(h:RV g a v)(h1:a.one=true):v.oneCell' = true:=by
 cases h <;> first|rfl|(simp[AV.one]at h1)
def AV.cells:AV->List AV
 |.agg cs=>cs
 |a=>[a]
def ObjOk(g:G)(w:World)(id:Nat):AO->Prop
 |.dead=>True
 |.box cs=>∃b c t,g.bx id=some b/\w.heap[b]?=some (.cells c t (0,0))/\RVs g cs c.toList
 |.lst ver sz es=>(es=[]/\g.hd id ver=some (none,0,0)) \/
   ∃b cap c t l1 l2,g.hd id ver=some (some ⟨b,0,none⟩,es.length,cap)/\w.heap[b]?=some (.cells c t (0,0))/\c.size=cap*sz/\0<sz/\es.length<=cap /\
    es.length<=z3y/\(∀e∈es,e.length=sz)/\c.toList=l1++l2/\RVs g es.flatten l1/\(∀a∈es.flatten,a.one=true)
 |.mapo es=>∃b m ck f,g.bx id=some b/\w.heap[b]?=some (.map m ck)/\Mpd es m f /\
   (∀(i:Nat) (p:AV×AV) (e:MapEntry),es[i]?=some p->m[f i]?=some e->RV g p.1 e.key)/\(∀(i:Nat) (p:AV×AV) (e:MapEntry),es[i]?=some p->m[f i]?=some e->RV g p.2 e.val)
 |.dfr=>∃b,g.bx id=some b/\w.heap[b]?=some (.deferred (some []))
 |.slp st n t ps asg body=>∃b r,g.bx id=some b/\w.heap[b]?=some (.loop r)/\(r.state,r.pending)=st.st/\r.tmps.size=n/\r.params.toList=ps/\g.cm r.assign asg.ac/\g.cm r.body body.ac /\
   ∀p∈t,RV g p.2 (r.tmps.getD p.1 undef)
def OwnAt(g:G)(id:Nat)(b:Nat):AO->Prop
 |.dead=>False
 |.box _|.mapo _|.dfr|.slp _ _ _ _ _ _=>g.bx id=some b
 |.lst ver _ _=>∃n c,g.hd id ver=some (some ⟨b,0,none⟩,n,c)
def znq(g:G)(h:List AO)(b:Nat):Prop:=∃id o,h[id]?=some o/\OwnAt g id b o
structure Sat (g:G) (h:List AO) (w:World):Prop where
 fz:∀b o v,g.fz b o=some v->∃c t fr,w.heap[b]?=some (.cells c t fr)/\c[o]?=some v
 fm:∀b m,g.fm b=some m->∃ck,w.heap[b]?=some (.map m ck)
 obj:∀id o,h[id]?=some o->ObjOk g w id o
 past:∀id,h.length<=id->g.bx id=none/\∀v,g.hd id v=none
 inj:∀i j x y b,h[i]?=some x->h[j]?=some y->OwnAt g i b x->OwnAt g j b y->i=j
 apart:∀b,znq g h b->(∀o,g.fz b o=none)/\g.fm b=none
 ver:∀id ver sz es,h[id]?=some (.lst ver sz es)->∀v,ver<v->g.hd id v=none
theorem ObjOk.lt{g:G}{w:World}{id b:Nat}{o:AO}(h:ObjOk g w id o)(k:OwnAt g id b o):b<w.heap.size:=by
 have key:∀{x:Obj},w.heap[b]?=some x->b<w.heap.size:=fun hx=>(Array.getElem?_eq_some_iff.1 hx).1
 cases o with
 |dead=>exact k.elim
 |box cs=>
  obtain⟨b',c,t,h1,h2,_⟩:=h;have:b' = b:=by rw[show OwnAt g id b (.box cs)=(g.bx id=some b) from rfl,h1]at k;injection k
  subst this;exact key h2
 |lst ver sz es=>
  obtain⟨n,c,hk⟩:=k;rcases h with⟨_,h1⟩|⟨b',cap,c',t,l1,l2,h1,h2,_⟩
  ·rw[h1]at hk;simp at hk
  ·rw[h1]at hk;simp at hk;obtain⟨rfl,_⟩:=hk;exact key h2
 |mapo es=>
  obtain⟨b',m,ck,f,h1,h2,_⟩:=h;have:b' = b:=by rw[show OwnAt g id b (.mapo es)=(g.bx id=some b) from rfl,h1]at k;injection k
  subst this;exact key h2
 |dfr=>
  obtain⟨b',h1,h2⟩:=h;have:b' = b:=by rw[show OwnAt g id b .dfr=(g.bx id=some b) from rfl,h1]at k;injection k
  subst this;exact key h2
 |slp st n t ps asg body=>
  obtain⟨b',r,h1,h2,_⟩:=h;have:b' = b:=by rw[show OwnAt g id b (.slp st n t ps asg body)=(g.bx id=some b) from rfl,h1]at k;injection k
  subst this;exact key h2
theorem Sat.owned_lt{g:G}{h:List AO}{w:World}(s:Sat g h w){b:Nat}(k:znq g h b):b<w.heap.size:=by
 obtain⟨id,o,h1,h2⟩:=k;exact (s.obj id o h1).lt h2
theorem Sat.fz_lt{g:G}{h:List AO}{w:World}(s:Sat g h w){b o:Nat}{v:Value}(k:g.fz b o=some v):b<w.heap.size:=by
 obtain⟨c,t,fr,h1,_⟩:=s.fz b o v k;exact (Array.getElem?_eq_some_iff.1 h1).1
theorem Sat.fm_lt{g:G}{h:List AO}{w:World}(s:Sat g h w){b:Nat}{m:Array MapEntry}(k:g.fm b=some m):b<w.heap.size:=by
 obtain⟨ck,h1⟩:=s.fm b m k;exact (Array.getElem?_eq_some_iff.1 h1).1
theorem ObjOk.heap{g:G}{w w':World}{id:Nat}{o:AO}(h:ObjOk g w id o)(k:∀b,OwnAt g id b o->w'.heap[b]?=w.heap[b]?):ObjOk g w' id o:=by
 cases o with
 |dead=>trivial
 |box cs=>obtain⟨b,c,t,h1,h2,h3⟩:=h;exact⟨b,c,t,h1,(k b h1).trans h2,h3⟩
 |lst ver sz es=>
  rcases h with h|⟨b,cap,c,t,l1,l2,h1,h2,h3⟩
  ·exact .inl h
  ·exact .inr ⟨b,cap,c,t,l1,l2,h1,(k b ⟨_,_,h1⟩).trans h2,h3⟩
 |mapo es=>obtain⟨b,m,ck,f,h1,h2,h3⟩:=h;exact⟨b,m,ck,f,h1,(k b h1).trans h2,h3⟩
 |dfr=>obtain⟨b,h1,h2⟩:=h;exact⟨b,h1,(k b h1).trans h2⟩
 |slp st n t ps asg body=>obtain⟨b,r,h1,h2,h3⟩:=h;exact⟨b,r,h1,(k b h1).trans h2,h3⟩
theorem ObjOk.mono{g g':G}{w:World}{id:Nat}{o:AO}(hg:g.Le g')(h:ObjOk g w id o):ObjOk g' w id o:=by
 cases o with
 |dead=>trivial
 |box cs=>obtain⟨b,c,t,h1,h2,h3⟩:=h;exact⟨b,c,t,hg.bx _ _ h1,h2,h3.mono hg⟩
 |lst ver sz es=>
  rcases h with⟨h1,h2⟩|⟨b,cap,c,t,l1,l2,h1,h2,h3,h4,h5,h6,h7,h8,h9⟩
  ·exact .inl ⟨h1,hg.hd _ _ _ h2⟩
  ·exact .inr ⟨b,cap,c,t,l1,l2,hg.hd _ _ _ h1,h2,h3,h4,h5,h6,h7,h8,h9.1.mono hg,h9.2⟩
 |mapo es=>obtain⟨b,m,ck,f,h1,h2,h3,h4,h5⟩:=h;exact⟨b,m,ck,f,hg.bx _ _ h1,h2,h3,fun i p e a c=>(h4 i p e a c).mono hg,fun i p e a c=>(h5 i p e a c).mono hg⟩
 |dfr=>obtain⟨b,h1,h2⟩:=h;exact⟨b,hg.bx _ _ h1,h2⟩
 |slp st n t ps asg body=>obtain⟨b,r,h1,h2,h3,h4,h5,h6,h7,h8⟩:=h;exact⟨b,r,hg.bx _ _ h1,h2,h3,h4,h5,by rw[hg.cm];exact h6,by rw[hg.cm];exact h7,fun p hp=>(h8 p hp).mono hg⟩
theorem OwnAt.mono{g g':G}{id b:Nat}{o:AO}(hg:g.Le g')(h:OwnAt g id b o):OwnAt g' id b o:=by
 cases o with
 |dead=>exact h
 |box cs=>exact hg.bx _ _ h
 |lst ver sz es=>obtain⟨n,c,h⟩:=h;exact⟨n,c,hg.hd _ _ _ h⟩
 |mapo es=>exact hg.bx _ _ h
 |dfr=>exact hg.bx _ _ h
 |slp st n t ps asg body=>exact hg.bx _ _ h
theorem OwnAt.back{g g':G}{w:World}{id b:Nat}{o:AO}(hg:g.Le g')(ho:ObjOk g w id o)(h:OwnAt g' id b o):OwnAt g id b o:=by
 cases o with
 |dead=>exact h
 |box cs=>obtain⟨b',c,t,h1,_⟩:=ho;have h2:g'.bx id=some b:=h;rw[hg.bx _ _ h1]at h2;injection h2 with e;subst e;exact h1
 |lst ver sz es=>
  obtain⟨n,c,h⟩:=h;rcases ho with⟨_,h2⟩|⟨b',cap,c',t,l1,l2,h1,_⟩
  ·rw[hg.hd _ _ _ h2]at h;simp at h
  ·rw[hg.hd _ _ _ h1]at h;simp at h;obtain⟨rfl,rfl,rfl⟩:=h;exact⟨_,_,h1⟩
 |mapo es=>obtain⟨b',c,t,f,h1,_⟩:=ho;have h2:g'.bx id=some b:=h;rw[hg.bx _ _ h1]at h2;injection h2 with e;subst e;exact h1
 |dfr=>obtain⟨b',h1,_⟩:=ho;have h2:g'.bx id=some b:=h;rw[hg.bx _ _ h1]at h2;injection h2 with e;subst e;exact h1
 |slp st n t ps asg body=>obtain⟨b',r,h1,_⟩:=ho;have h2:g'.bx id=some b:=h;rw[hg.bx _ _ h1]at h2;injection h2 with e;subst e;exact h1
theorem Sat.heap{g:G}{h:List AO}{w w':World}(s:Sat g h w)
  (k:∀b,b<w.heap.size->(znq g h b\/(∃o,g.fz b o≠none)\/g.fm b≠none)->w'.heap[b]?=w.heap[b]?):Sat g h w' where
 fz b o v hv:=by
  obtain⟨c,t,fr,h1,h2⟩:=s.fz b o v hv;exact⟨c,t,fr,(k b (Array.getElem?_eq_some_iff.1 h1).1 (.inr (.inl ⟨o,by simp[hv]⟩))).trans h1,h2⟩
 fm b m hv:=by
  obtain⟨ck,h1⟩:=s.fm b m hv;exact⟨ck,(k b (Array.getElem?_eq_some_iff.1 h1).1 (.inr (.inr (by simp[hv])))).trans h1⟩
 obj id o ho:=(s.obj id o ho).heap fun b hb=>k b (s.owned_lt ⟨id,o,ho,hb⟩) (.inl ⟨id,o,ho,hb⟩)
 past:=s.past
 inj:=s.inj
 apart:=s.apart
 ver:=s.ver
structure Ev (g0:G) (h0:List AO) (w0:World) (g:G) (h:List AO) (w:World):Prop where
 le:g0.Le g
 len:h0.length<=h.length
 size:w0.heap.size<=w.heap.size
 os:w.os=w0.os
 tape:w.tape=w0.tape
 output:w.output=w0.output
 kept:∀b,b<w0.heap.size->¬ znq g0 h0 b->w.heap[b]?=w0.heap[b]?
 own:∀b,znq g h b->znq g0 h0 b\/w0.heap.size<=b
 fzn:∀b o,g.fz b o≠none->g0.fz b o≠none\/znq g0 h0 b\/w0.heap.size<=b
 fmn:∀b,g.fm b≠none->g0.fm b≠none\/znq g0 h0 b\/w0.heap.size<=b
theorem Ev.refl(g:G)(h:List AO)(w:World):Ev g h w g h w :=
 ⟨.refl g,Nat.le_refl _,Nat.le_refl _,rfl,rfl,rfl,fun _ _ _=>rfl,fun _ h=>.inl h,fun _ _ h=>.inl h,fun _ h=>.inl h⟩
theorem Ev.trans{g0 g1 g2:G}{h0 h1 h2:List AO}{w0 w1 w2:World}(a:Ev g0 h0 w0 g1 h1 w1)(b:Ev g1 h1 w1 g2 h2 w2):Ev g0 h0 w0 g2 h2 w2 where
 le:=a.le.trans b.le
 len:=Nat.le_trans a.len b.len
 size:=Nat.le_trans a.size b.size
 os:=b.os.trans a.os
 tape:=b.tape.trans a.tape
 output:=b.output.trans a.output
 kept x hx hn:=(b.kept x (Nat.lt_of_lt_of_le hx a.size) fun ho=>by
  rcases a.own x ho with h|h
  ·exact hn h
  ·omega).trans (a.kept x hx hn)
 own x hx:=by
  rcases b.own x hx with h|h
  ·exact a.own x h
  ·exact .inr (Nat.le_trans a.size h)
 fzn x o hx:=by
  rcases b.fzn x o hx with h|h|h
  ·exact a.fzn x o h
  ·exact .inr (a.own x h)
  ·exact .inr (.inr (Nat.le_trans a.size h))
 fmn x hx:=by
  rcases b.fmn x hx with h|h|h
  ·exact a.fmn x h
  ·exact .inr (a.own x h)
  ·exact .inr (.inr (Nat.le_trans a.size h))
end Go.Ab
set_option linter.unusedVariables false
set_option linter.unusedSimpArgs false
namespace Go.Ab
inductive TV where
 |v (a:AV)
 |lp (d off:Nat)
 |ep (cs:List AV)
 |op (id ver sz i off:Nat)
 |junk
 |und
 deriving Inhabited
structure Ts where
 n:Nat
 l:List (Nat×TV)
def tg(i:Nat):List (Nat×TV)->TV
 |[]=>.junk
 |(k,x)::r=>match k == i with
  |true=>x
  |false=>tg i r
theorem zj1(i k:Nat)(x:TV)(r:List (Nat×TV)):tg i ((k,x)::r)=if k=i then x else tg i r:=by
 rw[tg];by_cases e:k=i
 ·simp[e]
 ·rw[if_neg e,show (k == i)=false from by simp[e]]
def Ts.set(t:Ts)(i:Nat)(x:TV):Ts:=if i<t.n then ⟨t.n,(i,x)::t.l⟩ else t
structure St where
 t:Ts
 ls:List (Nat×List AV)
 h:List AO
 ds:List Nat:=[]
inductive Out where
 |normal
 |exit (id:Nat)
 |ret
 |pan (v:AV)
inductive Res where
 |ret (v:AV)
 |pan (v:AV)
def St.x(σ:St):AX->TV
 |.t i=>tg i σ.t.l
 |.c a=>.v a
def TV.av:TV->Option AV
 |.v a=>some a
 |_=>none
def St.a(σ:St)(x:AX):Option AV:=(σ.x x).av
def St.as(σ:St):List AX->Option (List AV)
 |[]=>some []
 |x::r=>match σ.a x with
  |some a=>match σ.as r with
   |some l=>some (a::l)
   |none=>none
  |none=>none
def St.put(σ:St)(d:Option Nat)(x:TV):St :=
 match d with
 |some d=>{ σ with t:=σ.t.set d x }
 |none=>σ
def zb5(d:Nat):List (Nat×List AV)->Option (List AV)
 |[]=>none
 |(k,c)::r=>if k=d then some c else zb5 d r
def put(d:Nat)(c:List AV):List (Nat×List AV)->List (Nat×List AV)
 |[]=>[]
 |(k,x)::r=>if k=d then (k,c)::r else (k,x)::put d c r
def over{α:Type}:List α->Nat->List α->List α
 |cs,_,[]=>cs
 |cs,off,a::as1=>over (cs.set off a) (off+1) as1
def rd(n:Nat)(ag:Bool)(cs:List AV):Option TV :=
 if n<=cs.length then
  match ag with
  |true=>some (.v (.agg (cs.take n)))
  |false=>match cs with
   |a::_=>some (.v a)
   |[]=>none
 else none
def AV.cellsN(n:Nat)(a:AV):Option (List AV) :=
 if a.cells.length=n then (if a.cells.all AV.one then some a.cells else none) else none
def ztq:List AV->List AO->List AV×List AO
 |[],h=>([],h)
 |.nils sz::r,h=>match ztq r (h++[.lst 0 sz []]) with
  |(cs,h')=>(.ol h.length 0::cs,h')
 |a::r,h=>match ztq r h with
  |(cs,h')=>(a::cs,h')
def noz:List AV->List AV
 |[]=>[]
 |.nils _::r=>.sl []::noz r
 |a::r=>a::noz r
def zwk(σ:St):List AV->List (Nat×Nat×AX)->Option (List AV)
 |z,[]=>some z
 |z,(off,sz,x)::r=>match σ.a x with
  |some a=>match a.cellsN sz with
   |some cs=>if off+sz<=z.length then zwk σ (over z off cs) r else none
   |none=>none
  |none=>none
def zwl(σ:St)(sz:Nat):List (List AV)->List (Nat×AX)->Option (List (List AV))
 |z,[]=>some z
 |z,(i,x)::r=>match σ.a x with
  |some a=>match a.cellsN sz with
   |some cs=>if i<z.length then zwl σ sz (z.set i cs) r else none
   |none=>none
  |none=>none
def binI(op:BinOp)(k:IntKind)(a b:Int):Option AV :=
 match op with
 |.add=>some (.int k (k.wrap (a+b)))
 |.sub=>some (.int k (k.wrap (a - b)))
 |.mul=>some (.int k (k.wrap (a*b)))
 |.quo=>if b=0 then none else some (.int k (k.wrap (a.tdiv b)))
 |.rem=>if b=0 then none else some (.int k (a.tmod b))
 |.eql=>some (.bool (decide (a=b)))
 |.neq=>some (.bool (!decide (a=b)))
 |.lss=>some (.bool (decide (a<b)))
 |.leq=>some (.bool (decide (a<=b)))
 |.gtr=>some (.bool (decide (b<a)))
 |.geq=>some (.bool (decide (b<=a)))
 |_=>none
def zgq(n:Int):List (AV×AV)->Option (Option AV)
 |[]=>some none
 |(.int _ m,v)::r=>if n=m then some (some v) else zgq n r
 |_=>none
def zmh(k:IntKind):List (AV×AV)->Bool
 |[]=>true
 |(.int k' _,_)::r=>(if k=k' then zmh k r else false)
 |_=>false
def elems(σ:St):AV->Option (List (List AV))
 |.sl es=>some es
 |.nils _=>some []
 |.ol id ver=>match σ.h[id]? with
  |some (.lst v _ es)=>if v=ver then some es else none
  |_=>none
 |.ze=>some []
 |.ov id ver sz lo n=>match σ.h[id]? with
  |some (.lst v sz' es)=>if v=ver/\sz' = sz/\lo+n<=es.length then some ((es.take (lo+n)).drop lo) else none
  |_=>none
 |_=>none
def zjw(h:List AO):AV->Option (List (List AV))
 |.sl es=>some es
 |.nils _=>some []
 |.ol id ver=>match h[id]? with
  |some (.lst v _ es)=>if v=ver then some es else none
  |_=>none
 |.ze=>some []
 |.ov id ver sz lo n=>match h[id]? with
  |some (.lst v sz' es)=>if v=ver/\sz' = sz/\lo+n<=es.length then some ((es.take (lo+n)).drop lo) else none
  |_=>none
 |_=>none
def bitI(op:BinOp)(k:IntKind)(a b:Int):Option Int :=
 match op with
 |.and=>some (k.wrap (BitVec.ofInt k.bits a &&& BitVec.ofInt k.bits b).toNat)
 |.or=>some (k.wrap (BitVec.ofInt k.bits a ||| BitVec.ofInt k.bits b).toNat)
 |.xor=>some (k.wrap (BitVec.ofInt k.bits a ^^^ BitVec.ofInt k.bits b).toNat)
 |.andNot=>some (k.wrap (BitVec.ofInt k.bits a &&& ~~~ BitVec.ofInt k.bits b).toNat)
 |_=>none
def shI(left:Bool)(k:IntKind)(a b:Int):Int:=if left then k.wrap (a*2 ^ min b.toNat k.bits) else a.fdiv (2 ^ min b.toNat k.bits)
def eqI:List AV->List AV->Option Bool
 |[],[]=>some true
 |.int k a::r,.int k' b::s=>if k=k' then (if a=b then eqI r s else some false) else none
 |_,_=>none
def z81(id:Nat):List TV->Bool
 |[]=>true
 |.v (.ptr j _)::r=>if j=id then false else z81 id r
 |_=>false
def zyx:List AV->Option (List Int)
 |[]=>some []
 |.int .i64 n::r=>match zyx r with
  |some l=>some (n::l)
  |none=>none
 |_=>none
def zua(n:Nat):AV->Option (List Int)
 |.agg cs=>match zyx cs with
  |some l=>if l.length=n then some l else none
  |none=>none
 |_=>none
def ltL:List Int->List Int->Bool
 |[],[]=>false
 |[],_::_=>true
 |_::_,[]=>false
 |a::r,b::s=>if a<b then true else if a=b then ltL r s else false
def zde(n:Nat)(k:List Int):List (AV×AV)->Option (Option AV)
 |[]=>some none
 |(a,v)::r=>match zua n a with
  |some l=>match zde n k r with
   |some x=>some (if l=k then some v else x)
   |none=>none
  |none=>none
def zoh(n:Nat)(a:AV)(k:List Int)(y:AV):List (AV×AV)->List (AV×AV)
 |[]=>[(a,y)]
 |(b,v)::r=>match zua n b with
  |some l=>if ltL k l then (a,y)::(b,v)::r else (b,v)::zoh n a k y r
  |none=>(b,v)::zoh n a k y r
def z94(lo hi:Bool)(len:Nat):List TV->Option (Nat×Nat)
 |[]=>if lo=false/\hi=false then some (0,len) else none
 |[.v (.int _ n)]=>if 0<=n then (if lo=true/\hi=false then some (n.toNat,len) else if lo=false/\hi=true then some (0,n.toNat) else none) else none
 |[.v (.int _ n),.v (.int _ m)]=>if 0<=n/\0<=m/\lo=true/\hi=true then some (n.toNat,m.toNat) else none
 |_=>none
def evX(o:XOp)(vs:List TV)(h:List AO):Option (TV×List AO) :=
 match o with
 |.bit op=>match vs with
  |[.v (.int k a),.v (.int k' b)]=>if k=k' then match bitI op k a b with
   |some r=>some (.v (.int k r),h)
   |none=>none
   else none
  |_=>none
 |.sh l=>match vs with
  |[.v (.int k a),.v (.int _ b)]=>if 0<=b then some (.v (.int k (shI l k a b)),h) else none
  |_=>none
 |.eqA n neg=>match vs with
  |[.v (.agg cs),.v (.agg ds)]=>if cs.length=n/\ds.length=n then match eqI cs ds with
   |some b=>some (.v (.bool (if neg then !b else b)),h)
   |none=>none
   else none
  |_=>none
 |.mn=>match vs with
  |[.v (.int k a),.v (.int k' b)]=>if k=k' then some (.v (.int k (if b<a then b else a)),h) else none
  |_=>none
 |.bxA n=>match vs with
  |[.v (.agg cs)]=>if cs.length=n/\n<=1024/\cs.all AV.one=true then some (.op h.length 0 1 0 0,h++[.lst 0 1 (cs.map fun a=>[a])]) else none
  |_=>none
 |.alA z=>match vs with
  |[]=>if z.length<=1024 then some (.op h.length 0 1 0 0,h++[.lst 0 1 (z.map fun a=>[a])]) else none
  |_=>none
 |.iaA n=>match vs with
  |[.op id ver 1 0 0,.v (.int _ i)]=>match h[id]? with
   |some (.lst v sz es)=>if v=ver/\sz=1/\es.length=n/\0<=i/\i<n then some (.op id ver 1 i.toNat 0,h) else none
   |_=>none
  |_=>none
 |.slA n hi=>match vs with
  |.op id ver 1 0 0::r=>match h[id]? with
   |some (.lst v sz es)=>if v=ver/\sz=1/\es.length=n then match z94 false hi n r with
    |some (l,u)=>if u<=n then some (.v (.ov id ver 1 0 u),h) else none
    |none=>none
    else none
   |_=>none
  |_=>none
 |.ldA n=>match vs with
  |[.op id ver 1 0 0]=>match h[id]? with
   |some (.lst v sz es)=>if v=ver/\sz=1/\es.length=n then some (.v (.agg es.flatten),h) else none
   |_=>none
  |_=>none
 |.stA n=>match vs with
  |[.op id ver 1 0 0,.v (.agg cs)]=>match h[id]? with
   |some (.lst v sz es)=>if v=ver/\sz=1/\es.length=n/\cs.length=n/\cs.all AV.one=true then some (.junk,h.set id (.lst v 1 (cs.map fun a=>[a]))) else none
   |_=>none
  |_=>none
 |.slv sz lo hi=>match vs with
  |.v (.ol id ver)::r=>match h[id]? with
   |some (.lst v sz' es)=>if v=ver/\sz' = sz then match z94 lo hi es.length r with
    |some (l,u)=>if l<=u/\u<=es.length then some (.v (.ov id ver sz l (u - l)),h) else none
    |none=>none
    else none
   |_=>none
  |_=>none
 |.cpy sz=>match vs with
  |[.v (.ol id ver),.v s]=>match zjw h s with
   |some fs=>match h[id]? with
    |some (.lst v sz' es)=>if v=ver/\sz' = sz/\0<sz/\(∀e∈fs,e.length=sz) then
      some (.v (.int .i64 (min fs.length es.length:Nat)),h.set id (.lst v sz (over es 0 (fs.take es.length)))) else none
    |_=>none
   |none=>none
  |[.v (.ov id ver sz2 lo n),.v s]=>match zjw h s with
   |some fs=>match h[id]? with
    |some (.lst v sz' es)=>if v=ver/\sz' = sz/\sz2=sz/\0<sz/\lo+n<=es.length/\(∀e∈fs,e.length=sz) then
      some (.v (.int .i64 (min fs.length n:Nat)),h.set id (.lst v sz (over es lo (fs.take n)))) else none
    |_=>none
   |none=>none
  |_=>none
 |.ldx n ag=>match vs with
  |.v (.ptr id off)::r=>if z81 id r=true then match h[id]? with
   |some (.box cs)=>match rd n ag (cs.drop off) with
    |some x=>some (x,h)
    |none=>none
   |_=>none
   else none
  |_=>none
 |.ldy n ag=>match vs with
  |[.v (.ptr id off),.v (.ptr id2 _)]=>if id=id2 then match h[id]? with
   |some (.box cs)=>match rd n ag (cs.drop off) with
    |some x=>some (x,h)
    |none=>none
   |_=>none
   else none
  |_=>none
 |.insK n=>match vs with
  |[.v (.mp id),.v k,.v y]=>match zua n k with
   |some l=>match h[id]? with
    |some (.mapo es)=>match zde n l es with
     |some none=>some (.junk,h.set id (.mapo (zoh n k l y es)))
     |_=>none
    |_=>none
   |none=>none
  |_=>none
 |.iaz sz=>match vs with
  |[.v (.sl es),.v (.int _ n)]=>if 0<=n then match es[n.toNat]? with
   |some e=>if e.length=sz then some (.ep e,h) else none
   |none=>none
   else none
  |_=>none
 |.ldf n ag=>match vs with
  |[.ep cs]=>match rd n ag cs with
   |some x=>some (x,h)
   |none=>none
  |_=>none
 |.mkE=>match vs with
  |[]=>some (.v .ze,h)
  |_=>none
 |.bxN=>match vs with
  |[.v (.nils sz)]=>some (.v (.ptr (h.length+1) 0),h++[.lst 0 sz [],.box [.ol h.length 0]])
  |_=>none
 |.lkK n ok z=>match vs with
  |[.v m,.v k]=>match zua n k with
   |some l=>match (match m with
     |.fmap es=>some es
     |.mp id=>match h[id]? with
      |some (.mapo es)=>some es
      |_=>none
     |_=>none) with
    |some es=>match zde n l es with
     |some (some v)=>some (.v (if ok then .tup [v,.bool true] else v),h)
     |some none=>some (.v (if ok then .tup [z,.bool false] else z),h)
     |none=>none
    |none=>none
   |none=>none
  |_=>none
def z42(n:Nat):AV->List AO->AV×List AO
 |.ol id ver,h=>if n<=id then match h[id]? with
   |some (.lst v _ es)=>if v=ver then (.sl es,h.set id .dead) else (.ol id ver,h)
   |_=>(.ol id ver,h)
  else (.ol id ver,h)
 |.mp id,h=>if n<=id then match h[id]? with
   |some (.mapo es)=>(.fmap es,h.set id .dead)
   |_=>(.mp id,h)
  else (.mp id,h)
 |.ze,h=>(.sl [],h)
 |a,h=>(a,h)
def zuc(n:Nat):List AV->List AO->List AV×List AO
 |[],h=>([],h)
 |a::r,h=>match z42 n a h with
  |(a',h1)=>match zuc n r h1 with
   |(r',h2)=>(a' :: r',h2)
def zxm(n:Nat):AV->List AO->AV×List AO
 |.agg cs,h=>match zuc n cs h with
  |(cs',h')=>(.agg cs',h')
 |a,h=>z42 n a h
def zr8(n:Nat):List AV->List AO->List AV×List AO
 |[],h=>([],h)
 |a::r,h=>match zxm n a h with
  |(a',h1)=>match zr8 n r h1 with
   |(r',h2)=>(a' :: r',h2)
def evo(d:Nat)(o:AOp)(σ:St):Option (TV×St) :=
 match o with
 |.mv x=>some (σ.x x,σ)
 |.mvO sz=>some (.v (.ol σ.h.length 0),{ σ with h:=σ.h++[.lst 0 sz []] })
 |.pick c a b=>match σ.a c with
  |some (.bool p)=>match p with
   |true=>some (σ.x a,σ)
   |false=>some (σ.x b,σ)
  |_=>none
 |.alc z=>match zb5 d σ.ls with
  |none=>some (.lp d 0,{ σ with ls:=(d,noz z)::σ.ls })
  |some _=>none
 |.alcO z=>match zb5 d σ.ls with
  |none=>match ztq z σ.h with
   |(cs,h)=>some (.lp d 0,{ σ with ls:=(d,cs)::σ.ls,h:=h })
  |some _=>none
 |.alcH z=>some (.v (.ptr σ.h.length 0),{ σ with h:=σ.h++[.box (noz z)] })
 |.alcHO z=>match ztq z σ.h with
  |(cs,h)=>some (.v (.ptr h.length 0),{ σ with h:=h++[.box cs] })
 |.bx x=>match zb5 d σ.ls with
  |none=>match σ.a x with
   |some a=>match a.cellsN a.cells.length with
    |some cs=>some (.lp d 0,{ σ with ls:=(d,cs)::σ.ls })
    |none=>none
   |none=>none
  |some _=>none
 |.bxH x=>match σ.a x with
  |some a=>match a.cellsN a.cells.length with
   |some cs=>some (.v (.ptr σ.h.length 0),{ σ with h:=σ.h++[.box cs] })
   |none=>none
  |none=>none
 |.bxF x=>match σ.a x with
  |some a=>match a.cellsN a.cells.length with
   |some cs=>some (.v (.fp cs),σ)
   |none=>none
  |none=>none
 |.bld z ps=>match zwk σ (noz z) ps with
  |some cs=>some (.v (.agg cs),σ)
  |none=>none
 |.bldO z ps=>match ztq z σ.h with
  |(cs,h)=>match zwk σ cs ps with
   |some cs=>some (.v (.agg cs),{ σ with h:=h })
   |none=>none
 |.bsl sz n z ps=>match zwl σ sz (List.replicate n (noz z)) ps with
  |some es=>if (noz z).length=sz/\0<sz/\n<=1024/\sz<=1024 then some (.v (.sl es),σ) else none
  |none=>none
 |.bslO sz n z ps=>match zwl σ sz (List.replicate n (noz z)) ps with
  |some es=>if (noz z).length=sz/\0<sz/\n<=1024/\sz<=1024 then some (.v (.ol σ.h.length 0),{ σ with h:=σ.h++[.lst 0 sz es] }) else none
  |none=>none
 |.ld n ag a=>match σ.x a with
  |.lp k off=>match zb5 k σ.ls with
   |some cs=>match rd n ag (cs.drop off) with
    |some x=>some (x,σ)
    |none=>none
   |none=>none
  |.ep cs|.v (.fp cs)=>match rd n ag cs with
   |some x=>some (x,σ)
   |none=>none
  |.v (.ptr id off)=>match σ.h[id]? with
   |some (.box cs)=>match rd n ag (cs.drop off) with
    |some x=>some (x,σ)
    |none=>none
   |_=>none
  |.op id ver sz i off=>match σ.h[id]? with
   |some (.lst v sz' es)=>if v=ver/\sz' = sz then match es[i]? with
    |some e=>match rd n ag (e.drop off) with
     |some x=>some (x,σ)
     |none=>none
    |none=>none
    else none
   |_=>none
  |_=>none
 |.ldl n ag a=>match σ.x a with
  |.lp k off=>match zb5 k σ.ls with
   |some cs=>match rd n ag (cs.drop off) with
    |some x=>some (x,σ)
    |none=>none
   |none=>none
  |_=>none
 |.ldz n ag a=>match σ.x a with
  |.lp k off=>match zb5 k σ.ls with
   |some cs=>match zuc 0 cs σ.h with
    |(cs',h')=>match rd n ag (cs'.drop off) with
     |some x=>some (x,{ σ with ls:=put k cs' σ.ls,h:=h' })
     |none=>none
   |none=>none
  |_=>none
 |.st n a x=>match σ.a x with
  |some y=>match y.cellsN n with
   |some cs=>match σ.x a with
    |.lp k off=>match zb5 k σ.ls with
     |some c0=>if off+n<=c0.length then some (.junk,{ σ with ls:=put k (over c0 off cs) σ.ls }) else none
     |none=>none
    |.v (.ptr id off)=>match σ.h[id]? with
     |some (.box c0)=>if off+n<=c0.length then some (.junk,{ σ with h:=σ.h.set id (.box (over c0 off cs)) }) else none
     |_=>none
    |.op id ver sz i off=>match σ.h[id]? with
     |some (.lst v sz' es)=>if v=ver/\sz' = sz then match es[i]? with
      |some e=>if off+n<=e.length then some (.junk,{ σ with h:=σ.h.set id (.lst v sz (es.set i (over e off cs))) }) else none
      |none=>none
      else none
     |_=>none
    |_=>none
   |none=>none
  |none=>none
 |.nilc x=>match σ.x x with
  |.v (.ptr id off)=>some (.v (.ptr id off),σ)
  |.v (.fp cs)=>some (.v (.fp cs),σ)
  |.lp k off=>some (.lp k off,σ)
  |.v (.fn f a c)=>match f with
   |.method _=>none
   |f=>some (.v (.fn f a c),σ)
  |_=>none
 |.bin op x y=>match σ.a x,σ.a y with
  |some (.int k a),some (.int k' b)=>if k=k' then match binI op k a b with
   |some r=>some (.v r,σ)
   |none=>none
   else none
  |_,_=>none
 |.eqb neg x y=>match σ.a x,σ.a y with
  |some (.bool a),some (.bool b)=>some (.v (.bool (if neg then !(a == b) else a == b)),σ)
  |_,_=>none
 |.not x=>match σ.a x with
  |some (.bool b)=>some (.v (.bool (!b)),σ)
  |_=>none
 |.cv k x=>match σ.a x with
  |some (.int _ n)=>some (.v (.int k (k.wrap n)),σ)
  |_=>none
 |.fa off x=>match σ.x x with
  |.lp k o=>some (.lp k (o+off),σ)
  |.ep cs=>some (.ep (cs.drop off),σ)
  |.v (.fp cs)=>some (.v (.fp (cs.drop off)),σ)
  |.v (.ptr id o)=>some (.v (.ptr id (o+off)),σ)
  |.op id ver sz i o=>some (.op id ver sz i (o+off),σ)
  |_=>none
 |.fld off n ag x=>match σ.a x with
  |some (.agg cs)=>match rd n ag (cs.drop off) with
   |some r=>some (r,σ)
   |none=>none
  |_=>none
 |.ia sz x i=>match σ.a i with
  |some (.int _ n)=>match σ.a x with
   |some (.sl es)=>if 0<=n then match es[n.toNat]? with
    |some e=>if e.length=sz then some (.ep e,σ) else none
    |none=>none
    else none
   |some (.ol id ver)=>match σ.h[id]? with
    |some (.lst v sz' es)=>if v=ver/\sz' = sz/\0<=n/\n.toNat<es.length then some (.op id ver sz n.toNat 0,σ) else none
    |_=>none
   |some (.ov id ver sz2 lo m)=>match σ.h[id]? with
    |some (.lst v sz' es)=>if v=ver/\sz' = sz/\sz2=sz/\0<=n/\n.toNat<m/\lo+m<=es.length then some (.op id ver sz (lo+n.toNat) 0,σ) else none
    |_=>none
   |_=>none
  |_=>none
 |.lk ok z x i=>match σ.a i with
  |some (.int k n)=>match (match σ.a x with
    |some (.fmap es)=>some es
    |some (.mp id)=>match σ.h[id]? with
     |some (.mapo es)=>some es
     |_=>none
    |_=>none) with
   |some es=>if zmh k es then match zgq n es with
    |some (some v)=>some (.v (if ok then .tup [v,.bool true] else v),σ)
    |some none=>some (.v (if ok then .tup [z,.bool false] else z),σ)
    |none=>none
    else none
   |none=>none
  |_=>none
 |.ins m k v=>match σ.a m,σ.a k,σ.a v with
  |some (.mp id),some (.int k n),some y=>match σ.h[id]? with
   |some (.mapo es)=>if zmh k es then match zgq n es with
    |some none=>some (.junk,{ σ with h:=σ.h.set id (.mapo (es++[(.int k n,y)])) })
    |_=>none
    else none
   |_=>none
  |_,_,_=>none
 |.ext x i=>match σ.a x with
  |some (.tup vs)=>match vs[i]? with
   |some a=>some (.v a,σ)
   |none=>none
  |_=>none
 |.len x=>match σ.a x with
  |some a=>match elems σ a with
   |some es=>some (.v (.int .i64 (es.length:Int)),σ)
   |none=>none
  |none=>none
 |.app sz x y=>match σ.a x,σ.a y with
  |some (.ol id ver),some b=>match σ.h[id]?,elems σ b with
   |some (.lst v sz' es),some fs=>
    if v=ver/\sz' = sz/\0<sz/\sz<=1024/\es.length+fs.length<=1073741824/\(∀e∈fs,e.length=sz) then
     some (.v (.ol id (ver+1)),{ σ with h:=σ.h.set id (.lst (ver+1) sz (es++fs)) }) else none
   |_,_=>none
  |some .ze,some b=>match elems σ b with
   |some fs=>match fs with
    |[]=>some (.v .ze,σ)
    |f::fs=>if 0<sz/\sz<=1024/\fs.length<1073741824/\(∀e∈f::fs,e.length=sz) then
      some (.v (.ol σ.h.length 0),{ σ with h:=σ.h++[.lst 0 sz (f::fs)] }) else none
   |none=>none
  |_,_=>none
 |.mx x y=>match σ.a x,σ.a y with
  |some (.int k a),some (.int k' b)=>if k=k' then some (.v (.int k (if b > a then b else a)),σ) else none
  |_,_=>none
 |.mkf f first cap=>match σ.as first,σ.as cap with
  |some a,some b=>some (.v (.fn f a b),σ)
  |_,_=>none
 |.mkm=>some (.v (.mp σ.h.length),{ σ with h:=σ.h++[.mapo []] })
 |.mks sz z l=>match σ.a l with
  |some (.int _ n)=>if 0<=n/\n<=1073741824/\(noz z).length=sz/\0<sz/\sz<=1024 then
    some (.v (.ol σ.h.length 0),{ σ with h:=σ.h++[.lst 0 sz (List.replicate n.toNat (noz z))] }) else none
  |_=>none
 |.mkz sz z l=>match σ.a l with
  |some (.int _ n)=>if 0<=n/\n<=1073741824/\(noz z).length=sz/\0<sz/\sz<=1024 then
    some (.v (.sl (List.replicate n.toNat (noz z))),σ) else none
  |_=>none
 |.slc sz x lo hi=>match σ.a x with
  |some (.sl es)=>match (match lo with|none=>some (0:Int)|some y=>match σ.a y with|some (.int _ n)=>some n|_=>none),
       (match hi with|none=>some (es.length:Int)|some y=>match σ.a y with|some (.int _ n)=>some n|_=>none) with
   |some l,some h=>if 0<=l/\l<=h/\h<=es.length/\(∀e∈es,e.length=sz) then some (.v (.sl ((es.take h.toNat).drop l.toNat)),σ) else none
   |_,_=>none
  |some (.ol id ver)=>match lo,hi with
   |none,some y=>match σ.a y,σ.h[id]? with
    |some (.int _ n),some (.lst v sz' es)=>if v=ver/\sz' = sz/\0<sz/\0<=n/\n<=es.length then
      some (.v (.ol id (ver+1)),{ σ with h:=σ.h.set id (.lst (ver+1) sz (es.take n.toNat)) }) else none
    |_,_=>none
   |_,_=>none
  |some .ze=>match lo,hi with
   |none,some y=>match σ.a y with
    |some (.int _ n)=>if n=0 then some (.v .ze,σ) else none
    |_=>none
   |_,_=>none
  |_=>none
 |.ifc t x=>match σ.a x with
  |some a=>some (.v (.iface t a),σ)
  |none=>none
 |.cap x=>match σ.a x with
  |some .ze=>some (.v (.int .i64 0),σ)
  |_=>none
 |.slz x=>match σ.a x with
  |some a=>match elems σ a with
   |some _=>some (.v .ze,σ)
   |none=>none
  |none=>none
 |.apz sz z x l=>match σ.a x,σ.a l with
  |some .ze,some (.int _ n)=>if 0<n/\n<=1073741824/\(noz z).length=sz/\0<sz/\sz<=1024 then
    some (.v (.ol σ.h.length 0),{ σ with h:=σ.h++[.lst 0 sz (List.replicate n.toNat (noz z))] }) else none
  |_,_=>none
 |.ldh n ag a=>match σ.x a with
  |.v (.ptr id off)=>match σ.h[id]? with
   |some (.box cs)=>match rd n ag (cs.drop off) with
    |some x=>some (x,σ)
    |none=>none
   |_=>none
  |_=>none
 |.stl n a x=>match σ.a x with
  |some y=>match y.cellsN n with
   |some cs=>match σ.x a with
    |.lp k off=>match zb5 k σ.ls with
     |some c0=>if off+n<=c0.length then some (.junk,{ σ with ls:=put k (over c0 off cs) σ.ls }) else none
     |none=>none
    |_=>none
   |none=>none
  |none=>none
 |.sto n a x=>match σ.a x with
  |some y=>match y.cellsN n with
   |some cs=>match σ.x a with
    |.op id ver sz i off=>match σ.h[id]? with
     |some (.lst v sz' es)=>if v=ver/\sz' = sz then match es[i]? with
      |some e=>if off+n<=e.length then some (.junk,{ σ with h:=σ.h.set id (.lst v sz (es.set i (over e off cs))) }) else none
      |none=>none
      else none
     |_=>none
    |_=>none
   |none=>none
  |none=>none
 |.stp n a x=>match σ.a x with
  |some y=>match y.cellsN n with
   |some cs=>match σ.x a with
    |.v (.ptr id off)=>match σ.h[id]? with
     |some (.box c0)=>if off+n<=c0.length then some (.junk,{ σ with h:=σ.h.set id (.box (over c0 off cs)) }) else none
     |_=>none
    |_=>none
   |none=>none
  |none=>none
 |.iao sz x i=>match σ.a i with
  |some (.int _ n)=>match σ.a x with
   |some (.ol id ver)=>match σ.h[id]? with
    |some (.lst v sz' es)=>if v=ver/\sz' = sz/\0<=n/\n.toNat<es.length then some (.op id ver sz n.toNat 0,σ) else none
    |_=>none
   |_=>none
  |_=>none
 |.xo o l=>match evX o (l.map σ.x) σ.h with
  |some (x,h)=>some (x,{ σ with h:=h })
  |none=>none
def yj6(k:St->Prop)(Q:Out->St->Prop)(d:Option Nat)(σ:St):Res->List AO->Prop
 |.ret v,h=>k ({ σ with h:=h }.put d (.v v))
 |.pan v,h=>Q (.pan v) { σ with h:=h }
abbrev zee:=AV->List AV->List AO->(Res->List AO->Prop)->Prop
def zwi(CC:zee)(i:AI)(k:St->Prop)(Q:Out->St->Prop)(σ:St):Prop :=
 match i.k with
 |.call f args|.callW f args _=>match σ.a f,σ.as args with
  |some c,some as1=>CC c as1 σ.h (yj6 k Q i.d σ)
  |_,_=>False
 |.pan x=>match σ.a x with
  |some (.iface t v)=>Q (.pan (.iface t v)) σ
  |_=>False
 |.isn x=>match σ.a x with
  |some a=>match elems σ a with
   |some []=>∀b,k (σ.put i.d (.v (.bool b)))
   |some (_::_)=>k (σ.put i.d (.v (.bool false)))
   |none=>False
  |none=>False
 |.o op=>match evo (i.d.getD 0) op σ with
  |some (x,σ')=>k (σ'.put i.d x)
  |none=>False
 |.fo op=>match evo (i.d.getD 0) op σ with
  |some (.v a,σ')=>match zxm 0 a σ'.h with
   |(a',h')=>k ({ σ' with h:=h' }.put i.d (.v a'))
  |_=>False
def awr(CC:zee):List AI->(Out->St->Prop)->St->Prop
 |[],Q,σ=>Q .normal σ
 |i::r,Q,σ=>
  match i.g with
  |none=>zwi CC i (awr CC r Q) Q σ
  |some (j,w)=>match tg j σ.t.l with
   |.v (.bool b)=>if b=w then zwi CC i (awr CC r Q) Q { σ with t:=σ.t.set j (.v (.bool w)) } else awr CC r Q ({ σ with t:=σ.t.set j (.v (.bool (!w))) }.put i.d .und)
   |.und=>awr CC r Q (σ.put i.d .und)
   |_=>False
def runG(CC:zee)(i:AI)(k:St->Prop)(Q:Out->St->Prop)(σ:St):Prop :=
 match i.g with
 |none=>zwi CC i k Q σ
 |some (j,w)=>match tg j σ.t.l with
  |.v (.bool b)=>if b=w then zwi CC i k Q { σ with t:=σ.t.set j (.v (.bool w)) } else k ({ σ with t:=σ.t.set j (.v (.bool (!w))) }.put i.d .und)
  |.und=>k (σ.put i.d .und)
  |_=>False
def rdy(is:List AI)(listed:Array Bool):List Nat :=
 (List.range is.length).filter fun i=>!listed.getD i true && ((is[i]?).map (·.af.all fun j=>listed.getD j false)).getD false
def kept(h h':List AO):List TV->Prop
 |[]=>True
 |.v (.ptr id _)::r=>h'[id]?=h[id]?/\kept h h' r
 |_=>False
def z1c(CC:zee)(i:AI)(σ σ':St):Prop :=
 match i.k with
 |.o op=>∃x σ1,evo (i.d.getD 0) op σ=some (x,σ1)/\σ' = σ1.put i.d x
 |.call f args=>∃c as1 v,σ.a f=some c/\σ.as args=some as1/\CC c as1 σ.h (fun r h'=>r = .ret v/\h' = σ.h)/\σ' = σ.put i.d (.v v)
 |.callW f args bs=>∃c as1 v h,σ.a f=some c/\σ.as args=some as1/\CC c as1 σ.h (fun r h'=>r = .ret v/\h' = h)/\kept σ.h h (bs.map σ.x)/\σ' = { σ with h:=h }.put i.d (.v v)
 |_=>False
def zwh(CC:zee)(i:AI)(σ σ':St):Prop :=
 match i.g with
 |none=>z1c CC i σ σ'
 |some (j,w)=>(tg j σ.t.l = .v (.bool w)/\z1c CC i σ σ')\/((tg j σ.t.l = .v (.bool (!w))\/tg j σ.t.l = .und)/\σ' = σ.put i.d .und)
structure Eqv (σ τ:St):Prop where
 n:σ.t.n=τ.t.n
 t:∀i,tg i σ.t.l=tg i τ.t.l
 ls:∀k,zb5 k σ.ls=zb5 k τ.ls
 h:σ.h=τ.h
 ds:σ.ds=τ.ds
def z3t(σ:St):Prop:=∀i k off,tg i σ.t.l = .lp k off->zb5 k σ.ls≠none
def zv8(CC:zee)(is:List AI)(Q:St->Prop):Nat->Array Bool->St->Prop
 |0,l,σ=>rdy is l=[]/\∃τ,Eqv σ τ/\Q τ
 |n+1,l,σ=>(rdy is l=[]->∃τ,Eqv σ τ/\Q τ)/\∀i∈rdy is l,∀o,is[i]?=some o->∃σ',zwh CC o σ σ' /\ zv8 CC is Q n (l.setIfInBounds i true) σ'
end Go.Ab
set_option linter.unusedVariables false
set_option linter.unusedSimpArgs false
namespace Go.Ab
open Go.RowKit
structure Wd (w w':World) (P:Nat->Prop):Prop where
 size:w.heap.size<=w'.heap.size
 os:w'.os=w.os
 tape:w'.tape=w.tape
 output:w'.output=w.output
 kept:∀b,b<w.heap.size->¬ P b->w'.heap[b]?=w.heap[b]?
theorem Wd.refl(w:World)(P:Nat->Prop):Wd w w P:=⟨Nat.le_refl _,rfl,rfl,rfl,fun _ _ _=>rfl⟩
theorem Wd.alloc(w:World)(o:Obj)(P:Nat->Prop):Wd w (w.alloc o) P:=⟨by simp,rfl,rfl,rfl,fun b hb _=>Below.heap_alloc w o b hb⟩
theorem Wd.putObj(w:World)(b:Nat)(o:Obj){P:Nat->Prop}(h:P b):Wd w (w.putObj b o) P :=
 ⟨by simp,rfl,rfl,rfl,fun x hx hn=>World.putObj_heap_other fun e=>hn (e ▸ h)⟩
theorem Wd.drew(w:World)(P:Nat->Prop):Wd w { w with drawn:=w.drawn+1 } P:=⟨Nat.le_refl _,rfl,rfl,rfl,fun _ _ _=>rfl⟩
theorem Wd.trans{a b c:World}{P:Nat->Prop}(h:Wd a b P)(k:Wd b c P):Wd a c P :=
 ⟨Nat.le_trans h.size k.size,k.os.trans h.os,k.tape.trans h.tape,k.output.trans h.output,fun x hx hn=>(k.kept x (Nat.lt_of_lt_of_le hx h.size) hn).trans (h.kept x hx hn)⟩
theorem Wd.mono{a b:World}{P P':Nat->Prop}(h:Wd a b P)(k:∀x,P x->P' x):Wd a b P' :=
 ⟨h.size,h.os,h.tape,h.output,fun x hx hn=>h.kept x hx fun p=>hn (k x p)⟩
theorem Sat.push{g g':G}{h:List AO}{w w':World}{o:AO}(s:Sat g h w)(hle:g.Le g')(hfz:g'.fz=g.fz)(hfm:g'.fm=g.fm)
  (hbx:∀i,i≠h.length->g'.bx i=g.bx i) (hhd:∀i,i≠h.length->g'.hd i=g.hd i) (hw:Wd w w' fun _=>False)
  (ho:ObjOk g' w' h.length o) (hown:∀b,OwnAt g' h.length b o->w.heap.size<=b) (hver:∀ver sz es,o = .lst ver sz es->∀v,ver<v->g'.hd h.length v=none) :
  Sat g' (h++[o]) w' /\ Ev g h w g' (h++[o]) w':=by
 have hk:∀b,b<w.heap.size->w'.heap[b]?=w.heap[b]?:=fun b hb=>hw.kept b hb (fun x=>x)
 have hget:∀i x,(h++[o])[i]?=some x->(h[i]?=some x/\i<h.length)\/(i=h.length/\x=o):=by
  intro i x hx;rcases Nat.lt_trichotomy i h.length with hi|hi|hi
  ·rw[List.getElem?_append_left hi]at hx;exact .inl ⟨hx,hi⟩
  ·subst hi;simp at hx;exact .inr ⟨rfl,hx.symm⟩
  ·rw[List.getElem?_eq_none (by simp;omega)]at hx;cases hx
 have hback:∀i x b,h[i]?=some x->OwnAt g' i b x->OwnAt g i b x:=fun i x b hx hb=>hb.back hle (s.obj i x hx)
 have hown':∀b,znq g' (h++[o]) b->znq g h b\/w.heap.size<=b:=by
  rintro b ⟨i,x,hx,hb⟩
  rcases hget i x hx with⟨h1,_⟩|⟨rfl,rfl⟩
  ·exact .inl ⟨i,x,h1,hback i x b h1 hb⟩
  ·exact .inr (hown b hb)
 refine⟨⟨?_,?_,?_,?_,?_,?_,?_⟩,⟨hle,by simp,hw.size,hw.os,hw.tape,hw.output,fun b hb _=>hk b hb,hown',?_,?_⟩⟩
 ·intro b o' v hv
  rw[hfz]at hv;obtain⟨c,t,fr,h1,h2⟩:=s.fz b o' v hv;exact⟨c,t,fr,(hk b (s.fz_lt hv)).trans h1,h2⟩
 ·intro b m hv
  rw[hfm]at hv;obtain⟨ck,h1⟩:=s.fm b m hv;exact⟨ck,(hk b (s.fm_lt hv)).trans h1⟩
 ·intro i x hx
  rcases hget i x hx with⟨h1,_⟩|⟨rfl,rfl⟩
  ·exact ((s.obj i x h1).mono hle).heap fun b hb=>hk b ((s.obj i x h1).lt (hback i x b h1 hb))
  ·exact ho
 ·intro i hi
  have h1:i≠h.length:=by simp at hi;omega
  rw[hbx i h1,hhd i h1];exact s.past i (by simp at hi;omega)
 ·intro i j x y b hx hy hb hc
  rcases hget i x hx with⟨h1,hi⟩|⟨rfl,rfl⟩ <;> rcases hget j y hy with⟨h2,hj⟩|⟨rfl,rfl⟩
  ·exact s.inj i j x y b h1 h2 (hback _ _ _ h1 hb) (hback _ _ _ h2 hc)
  ·have:=hown b hc;have:=(s.obj i x h1).lt (hback _ _ _ h1 hb);omega
  ·have:=hown b hb;have:=(s.obj j y h2).lt (hback _ _ _ h2 hc);omega
  ·rfl
 ·intro b hb
  rcases hown' b hb with h1|h1
  ·rw[hfz,hfm];exact s.apart b h1
  ·rw[hfz,hfm]
   refine⟨fun o'=>?_,?_⟩
   ·cases hf:g.fz b o' with
    |none=>rfl
    |some v=>have:=s.fz_lt hf;omega
   ·cases hf:g.fm b with
    |none=>rfl
    |some v=>have:=s.fm_lt hf;omega
 ·intro i ver sz es hx v hv
  rcases hget i _ hx with⟨h1,hi⟩|⟨rfl,hxo⟩
  ·rw[hhd i (by omega)];exact s.ver i ver sz es h1 v hv
  ·exact hver ver sz es hxo.symm v hv
 ·intro b o' hb;rw[hfz]at hb;exact .inl hb
 ·intro b hb;rw[hfm]at hb;exact .inl hb
theorem Sat.upd{g g':G}{h:List AO}{w w':World}{id:Nat}{o o':AO}(s:Sat g h w)(hid:h[id]?=some o)(hle:g.Le g')(hfz:g'.fz=g.fz)(hfm:g'.fm=g.fm)
  (hbx:g'.bx=g.bx) (hhd:∀i,i≠id->g'.hd i=g.hd i) (hw:Wd w w' fun b=>OwnAt g id b o)
  (ho:ObjOk g' w' id o') (hown:∀b,OwnAt g' id b o' -> OwnAt g id b o\/w.heap.size<=b) (hver:∀ver sz es,o' = .lst ver sz es->∀v,ver<v->g'.hd id v=none) :
  Sat g' (h.set id o') w' /\ Ev g h w g' (h.set id o') w':=by
 have hlt:id<h.length:=(List.getElem?_eq_some_iff.1 hid).1;have hget:∀i x,(h.set id o')[i]?=some x->(h[i]?=some x/\i≠id)\/(i=id/\x=o'):=by
  intro i x hx;rw[List.getElem?_set]at hx;by_cases e:id=i
  ·subst e;simp[hlt]at hx;exact .inr ⟨rfl,hx.symm⟩
  ·simp[e]at hx;exact .inl ⟨hx,fun h=>e h.symm⟩
 have hback:∀i x b,h[i]?=some x->OwnAt g' i b x->OwnAt g i b x:=fun i x b hx hb=>hb.back hle (s.obj i x hx)
 have hown':∀b,znq g' (h.set id o') b->znq g h b\/w.heap.size<=b:=by
  rintro b ⟨i,x,hx,hb⟩
  rcases hget i x hx with⟨h1,_⟩|⟨rfl,rfl⟩
  ·exact .inl ⟨i,x,h1,hback i x b h1 hb⟩
  ·rcases hown b hb with h1|h1
   ·exact .inl ⟨_,_,hid,h1⟩
   ·exact .inr h1
 have hko:∀b,b<w.heap.size->¬ znq g h b->w'.heap[b]?=w.heap[b]?:=fun b hb hn=>hw.kept b hb fun p=>hn ⟨id,o,hid,p⟩
 refine⟨⟨?_,?_,?_,?_,?_,?_,?_⟩,⟨hle,by simp,hw.size,hw.os,hw.tape,hw.output,hko,hown',?_,?_⟩⟩
 ·intro b o' v hv
  rw[hfz]at hv;obtain⟨c,t,fr,h1,h2⟩:=s.fz b o' v hv;exact⟨c,t,fr,(hko b (s.fz_lt hv) fun k=>by have:=(s.apart b k).1 o';rw[this]at hv;cases hv).trans h1,h2⟩
 ·intro b m hv
  rw[hfm]at hv;obtain⟨ck,h1⟩:=s.fm b m hv;exact⟨ck,(hko b (s.fm_lt hv) fun k=>by have:=(s.apart b k).2;rw[this]at hv;cases hv).trans h1⟩
 ·intro i x hx
  rcases hget i x hx with⟨h1,hi⟩|⟨rfl,rfl⟩
  ·exact ((s.obj i x h1).mono hle).heap fun b hb=>hw.kept b ((s.obj i x h1).lt (hback i x b h1 hb)) fun p=>hi (s.inj i id x o b h1 hid (hback i x b h1 hb) p)
  ·exact ho
 ·intro i hi
  have h1:i≠id:=by simp at hi;omega
  rw[hbx,hhd i h1];exact s.past i (by simpa using hi)
 ·intro i j x y b hx hy hb hc
  rcases hget i x hx with⟨h1,hi⟩|⟨rfl,rfl⟩ <;> rcases hget j y hy with⟨h2,hj⟩|⟨rfl,rfl⟩
  ·exact s.inj i j x y b h1 h2 (hback _ _ _ h1 hb) (hback _ _ _ h2 hc)
  ·rcases hown b hc with k|k
   ·exact s.inj i _ x o b h1 hid (hback _ _ _ h1 hb) k
   ·have:=(s.obj i x h1).lt (hback _ _ _ h1 hb);omega
  ·rcases hown b hb with k|k
   ·exact s.inj _ j o y b hid h2 k (hback _ _ _ h2 hc)
   ·have:=(s.obj j y h2).lt (hback _ _ _ h2 hc);omega
  ·rfl
 ·intro b hb
  rcases hown' b hb with h1|h1
  ·rw[hfz,hfm];exact s.apart b h1
  ·rw[hfz,hfm]
   refine⟨fun o'=>?_,?_⟩
   ·cases hf:g.fz b o' with
    |none=>rfl
    |some v=>have:=s.fz_lt hf;omega
   ·cases hf:g.fm b with
    |none=>rfl
    |some v=>have:=s.fm_lt hf;omega
 ·intro i ver sz es hx v hv
  rcases hget i _ hx with⟨h1,hi⟩|⟨rfl,hxo⟩
  ·rw[hhd i hi];exact s.ver i ver sz es h1 v hv
  ·exact hver ver sz es hxo.symm v hv
 ·intro b o' hb;rw[hfz]at hb;exact .inl hb
 ·intro b hb;rw[hfm]at hb;exact .inl hb
def G.addFz(g:G)(b:Nat)(c:Array Value):G:={ g with fz:=fun b' o=>if b' = b then c[o]? else g.fz b' o }
def G.addBx(g:G)(i b:Nat):G:={ g with bx:=fun j=>if j=i then some b else g.bx j }
def G.addHd(g:G)(i v:Nat)(x:Option Addr×Nat×Nat):G:={ g with hd:=fun j u=>if j=i/\u=v then some x else g.hd j u }
theorem G.le_addBx{g:G}{i b:Nat}(h:g.bx i=none):g.Le (g.addBx i b):=by
 refine⟨fun _ _ _ h=>h,fun _ _ h=>h,fun j x hj=>?_,fun _ _ _ h=>h,rfl⟩
 unfold addBx;dsimp only;by_cases e:j=i
 ·subst e;rw[h]at hj;cases hj
 ·rw[if_neg e];exact hj
theorem G.le_addHd{g:G}{i v:Nat}{x:Option Addr×Nat×Nat}(h:g.hd i v=none):g.Le (g.addHd i v x):=by
 refine⟨fun _ _ _ h=>h,fun _ _ h=>h,fun _ _ h=>h,fun j u y hj=>?_,rfl⟩
 unfold addHd;dsimp only;by_cases e:j=i/\u=v
 ·obtain⟨rfl,rfl⟩:=e;rw[h]at hj;cases hj
 ·rw[if_neg e];exact hj
theorem Sat.freeze{g:G}{h:List AO}{w:World}(s:Sat g h w)(c:Array Value)(t:TypeId):
  Sat (g.addFz w.heap.size c) h (w.alloc (.cells c t))/\Ev g h w (g.addFz w.heap.size c) h (w.alloc (.cells c t)):=by
 have hle:g.Le (g.addFz w.heap.size c):=by
  refine⟨fun b o v hv=>?_,fun _ _ h=>h,fun _ _ h=>h,fun _ _ _ h=>h,rfl⟩
  unfold G.addFz;dsimp only;rw[if_neg (by have:=s.fz_lt hv;omega)]
  exact hv
 have hk:∀b,b<w.heap.size->(w.alloc (.cells c t)).heap[b]?=w.heap[b]?:=fun b hb=>Below.heap_alloc w _ b hb
 have hown:∀b,znq (g.addFz w.heap.size c) h b->znq g h b:=fun b ⟨i,x,hx,hb⟩=>⟨i,x,hx,hb.back hle (s.obj i x hx)⟩
 refine⟨⟨?_,?_,?_,s.past,?_,?_,s.ver⟩,⟨hle,Nat.le_refl _,by simp,rfl,rfl,rfl,fun b hb _=>hk b hb,fun b hb=>.inl (hown b hb),?_,fun b hb=>.inl hb⟩⟩
 ·intro b o v hv
  unfold G.addFz at hv;dsimp only at hv;by_cases e:b=w.heap.size
  ·subst e
   rw[if_pos rfl]at hv;exact⟨c,t,(0,0),World.alloc_heap_new w _,hv⟩
  ·rw[if_neg e]at hv
   obtain⟨c',t',fr,h1,h2⟩:=s.fz b o v hv;exact⟨c',t',fr,(hk b (s.fz_lt hv)).trans h1,h2⟩
 ·intro b m hv
  obtain⟨ck,h1⟩:=s.fm b m hv;exact⟨ck,(hk b (s.fm_lt hv)).trans h1⟩
 ·intro i x hx
  exact ((s.obj i x hx).mono hle).heap fun b hb=>hk b ((s.obj i x hx).lt (hb.back hle (s.obj i x hx)))
 ·intro i j x y b hx hy hb hc
  exact s.inj i j x y b hx hy (hb.back hle (s.obj i x hx)) (hc.back hle (s.obj j y hy))
 ·intro b hb
  have h1:=hown b hb;refine⟨fun o=>?_,(s.apart b h1).2⟩
  unfold G.addFz;dsimp only;rw[if_neg (by have:=s.owned_lt h1;omega)]
  exact (s.apart b h1).1 o
 ·intro b o hb
  unfold G.addFz at hb;dsimp only at hb;by_cases e:b=w.heap.size
  ·exact .inr (.inr (by omega))
  ·rw[if_neg e]at hb;exact .inl hb
def RT(g:G)(lb:Nat->Nat):TV->Value->Prop
 |.v a,v=>RV g a v
 |.lp d off,v=>v = .pointer (some ⟨lb d,off,none⟩)
 |.ep cs,v=>∃b o,v = .pointer (some ⟨b,o,none⟩)/\∃f:Nat->Value,(∀(k:Nat) (a:AV),cs[k]?=some a->g.fz b (o+k)=some (f k))/\∀(k:Nat) (a:AV),cs[k]?=some a->RV g a (f k)
 |.op id ver sz i off,v=>∃b n c,g.hd id ver=some (some ⟨b,0,none⟩,n,c)/\v = .pointer (some ⟨b,i*sz+off,none⟩)
 |.junk,_=>True
 |.und,v=>v=undef
structure Lok (B:Nat) (g:G) (h:List AO) (w:World) (lb:Nat->Nat) (ls:List (Nat×List AV)):Prop where
 ok:∀d cs,zb5 d ls=some cs->∃c t,w.heap[lb d]?=some (.cells c t (0,0))/\RVs g cs c.toList
 new:∀d cs,zb5 d ls=some cs->B<=lb d
 own:∀d cs,zb5 d ls=some cs->¬ znq g h (lb d)
 fz:∀d cs,zb5 d ls=some cs->∀o,g.fz (lb d) o=none
 fm:∀d cs,zb5 d ls=some cs->g.fm (lb d)=none
 inj:∀d d' cs cs',zb5 d ls=some cs->zb5 d' ls=some cs' -> lb d=lb d' -> d=d'
structure Mid (g0:G) (h0:List AO) (w0:World) (g:G) (lb:Nat->Nat) (ls:List (Nat×List AV)) (h:List AO) (w:World):Prop where
 lok:Lok w0.heap.size g h w lb ls
 sat:Sat g h w
 ev:Ev g0 h0 w0 g h w
structure Tm (g:G) (lb:Nat->Nat) (ls:List (Nat×List AV)) (t:Ts) (tmps:Array Value):Prop where
 len:t.n=tmps.size
 at_:∀(i:Nat),RT g lb (tg i t.l) (tmps.getD i undef)
 live:∀(i d off:Nat),tg i t.l = .lp d off->zb5 d ls≠none
structure Ee (g:G) (lb:Nat->Nat) (ls:List (Nat×List AV)) (h:List AO) (g':G) (lb':Nat->Nat) (ls':List (Nat×List AV)) (h':List AO):Prop where
 le:g.Le g'
 lb:∀d,zb5 d ls≠none->lb' d=lb d
 ls:∀d,zb5 d ls≠none->zb5 d ls' ≠ none
 raw:∀(i:Nat) (o:AO) (_:o.kd≠0),h[i]?=some o->h'[i]?=some o
theorem RT.mono{g g':G}{lb lb':Nat->Nat}{x:TV}{v:Value}(hg:g.Le g')(hl:∀d off,x = .lp d off->lb' d=lb d)(h:RT g lb x v):RT g' lb' x v:=by
 cases x with
 |v a=>exact RV.mono hg h
 |lp d off=>
  have h':v = .pointer (some ⟨lb d,off,none⟩):=h;show v = .pointer (some ⟨lb' d,off,none⟩);rw[hl d off rfl];exact h'
 |ep cs=>obtain⟨b,o,e,f,h1,h2⟩:=h;exact⟨b,o,e,f,fun k a x=>hg.fz _ _ _ (h1 k a x),fun k a x=>(h2 k a x).mono hg⟩
 |op id ver sz i off=>obtain⟨b,n,c,h1,h2⟩:=h;exact⟨b,n,c,hg.hd _ _ _ h1,h2⟩
 |junk=>trivial
 |und=>exact h
theorem Tm.mono{g g':G}{lb lb':Nat->Nat}{ls ls':List (Nat×List AV)}{h h':List AO}{t:Ts}{tmps:Array Value}(e:Ee g lb ls h g' lb' ls' h')(k:Tm g lb ls t tmps):Tm g' lb' ls' t tmps where
 len:=k.len
 at_ i:=(k.at_ i).mono e.le fun d off hd=>e.lb d (k.live i d off hd)
 live i d off hx:=e.ls d (k.live i d off hx)
theorem Ee.refl(g:G)(lb:Nat->Nat)(ls:List (Nat×List AV))(h:List AO):Ee g lb ls h g lb ls h:=⟨.refl g,fun _ _=>rfl,fun _ h=>h,fun _ _ _ h=>h⟩
theorem Mid.step{g0 g g':G}{h0 h h':List AO}{w0 w w':World}{lb:Nat->Nat}{ls:List (Nat×List AV)}(m:Mid g0 h0 w0 g lb ls h w)(s:Sat g' h' w')(e:Ev g h w g' h' w'):
  Mid g0 h0 w0 g' lb ls h' w' where
 lok:={
  ok:=fun d cs hd=>by
   obtain⟨c,t,h1,h2⟩:=m.lok.ok d cs hd;exact⟨c,t,(e.kept _ (Array.getElem?_eq_some_iff.1 h1).1 (m.lok.own d cs hd)).trans h1,h2.mono e.le⟩
  new:=m.lok.new
  own:=fun d cs hd ho=>by
   obtain⟨c,t,h1,h2⟩:=m.lok.ok d cs hd;have:=(Array.getElem?_eq_some_iff.1 h1).1;rcases e.own _ ho with k|k
   ·exact m.lok.own d cs hd k
   ·omega
  fz:=fun d cs hd o=>by
   obtain⟨c,t,h1,h2⟩:=m.lok.ok d cs hd;have h3:=(Array.getElem?_eq_some_iff.1 h1).1
   cases hf:g'.fz (lb d) o with
   |none=>rfl
   |some v=>
    rcases e.fzn (lb d) o (by simp[hf]) with k|k|k
    ·exact absurd (m.lok.fz d cs hd o) k
    ·exact absurd k (m.lok.own d cs hd)
    ·omega
  fm:=fun d cs hd=>by
   obtain⟨c,t,h1,h2⟩:=m.lok.ok d cs hd;have h3:=(Array.getElem?_eq_some_iff.1 h1).1
   cases hf:g'.fm (lb d) with
   |none=>rfl
   |some v=>
    rcases e.fmn (lb d) (by simp[hf]) with k|k|k
    ·exact absurd (m.lok.fm d cs hd) k
    ·exact absurd k (m.lok.own d cs hd)
    ·omega
  inj:=m.lok.inj }
 sat:=s
 ev:=m.ev.trans e
theorem zfh(d k:Nat)(c:List AV):∀ls,zb5 k (put d c ls)=if k=d then (zb5 k ls).map (fun _=>c) else zb5 k ls
 |[]=>by simp[put,zb5]
 |(j,x)::r=>by
  simp only[put];by_cases e:j=d
  ·subst e
   rw[if_pos rfl];simp only[zb5];by_cases h:j=k
   ·subst h;simp
   ·rw[if_neg h,if_neg h,if_neg (fun e=>h e.symm)]
  ·rw[if_neg e]
   simp only[zb5];by_cases h:j=k
   ·subst h;simp[e]
   ·rw[if_neg h,if_neg h];exact zfh d k c r
theorem Mid.local_{g0 g:G}{h0 h:List AO}{w0 w:World}{lb:Nat->Nat}{ls:List (Nat×List AV)}(m:Mid g0 h0 w0 g lb ls h w){d:Nat}(hd:zb5 d ls=none){cs:List AV}{c:Array Value}(t:TypeId)(hc:RVs g cs c.toList):
  Mid g0 h0 w0 g (fun k=>if k=d then w.heap.size else lb k) ((d,cs)::ls) h (w.alloc (.cells c t)) /\
  Ee g lb ls h g (fun k=>if k=d then w.heap.size else lb k) ((d,cs)::ls) h:=by
 have hne:∀k,zb5 k ls≠none->k≠d:=fun k hk e=>hk (e ▸ hd)
 have hget:∀k c',zb5 k ((d,cs)::ls)=some c' -> (k=d/\c' = cs)\/(k≠d/\zb5 k ls=some c'):=by
  intro k c' hk;simp only[zb5]at hk;by_cases e:d=k
  ·rw[if_pos e]at hk;injection hk with hk;exact .inl ⟨e.symm,hk.symm⟩
  ·rw[if_neg e]at hk;exact .inr ⟨fun x=>e x.symm,hk⟩
 have hold:∀k c',zb5 k ls=some c' -> lb k<w.heap.size:=fun k c' hk=>by
  obtain⟨c1,t1,h1,_⟩:=m.lok.ok k c' hk;exact (Array.getElem?_eq_some_iff.1 h1).1
 have hown:¬ znq g h w.heap.size:=fun k=>by have:=m.sat.owned_lt k;omega
 refine⟨⟨⟨?_,?_,?_,?_,?_,?_⟩,m.sat.heap fun b hb _=>Below.heap_alloc w _ b hb,m.ev.trans ⟨.refl g,Nat.le_refl _,by simp,rfl,rfl,rfl,fun b hb _=>Below.heap_alloc w _ b hb,fun b hb=>.inl hb,fun b o hb=>.inl hb,fun b hb=>.inl hb⟩⟩,
  ⟨.refl g,fun k hk=>if_neg (hne k hk),fun k hk=>by simp only[zb5];rw[if_neg (fun e=>hne k hk e.symm)];exact hk,fun _ _ _ h=>h⟩⟩
 ·intro k c' hk
  try dsimp only
  rcases hget k c' hk with⟨rfl,rfl⟩|⟨h1,h2⟩
  ·rw[if_pos rfl];exact⟨c,t,World.alloc_heap_new w _,hc⟩
  ·rw[if_neg h1]
   obtain⟨c1,t1,h3,h4⟩:=m.lok.ok k c' h2;exact⟨c1,t1,(Below.heap_alloc w _ _ (hold k c' h2)).trans h3,h4⟩
 ·intro k c' hk
  try dsimp only
  rcases hget k c' hk with⟨rfl,rfl⟩|⟨h1,h2⟩
  ·rw[if_pos rfl];exact m.ev.size
  ·rw[if_neg h1];exact m.lok.new k c' h2
 ·intro k c' hk
  try dsimp only
  rcases hget k c' hk with⟨rfl,rfl⟩|⟨h1,h2⟩
  ·rw[if_pos rfl];exact hown
  ·rw[if_neg h1];exact m.lok.own k c' h2
 ·intro k c' hk o
  try dsimp only
  rcases hget k c' hk with⟨rfl,rfl⟩|⟨h1,h2⟩
  ·rw[if_pos rfl]
   cases hf:g.fz w.heap.size o with
   |none=>rfl
   |some v=>have:=m.sat.fz_lt hf;omega
  ·rw[if_neg h1];exact m.lok.fz k c' h2 o
 ·intro k c' hk
  try dsimp only
  rcases hget k c' hk with⟨rfl,rfl⟩|⟨h1,h2⟩
  ·rw[if_pos rfl]
   cases hf:g.fm w.heap.size with
   |none=>rfl
   |some v=>have:=m.sat.fm_lt hf;omega
  ·rw[if_neg h1];exact m.lok.fm k c' h2
 ·intro k k' c1 c2 hk hk' e
  try dsimp only at e
  rcases hget k c1 hk with⟨rfl,rfl⟩|⟨h1,h2⟩ <;> rcases hget k' c2 hk' with⟨rfl,rfl⟩|⟨h3,h4⟩
  ·rfl
  ·rw[if_pos rfl,if_neg h3]at e;have:=hold k' c2 h4;omega
  ·rw[if_pos rfl,if_neg h1]at e;have:=hold k c1 h2;omega
  ·rw[if_neg h1,if_neg h3]at e;exact m.lok.inj k k' c1 c2 h2 h4 e
theorem Mid.write{g0 g:G}{h0 h:List AO}{w0 w:World}{lb:Nat->Nat}{ls:List (Nat×List AV)}(m:Mid g0 h0 w0 g lb ls h w){d:Nat}{c0 cs:List AV}(hd:zb5 d ls=some c0){c:Array Value}(t:TypeId)(hc:RVs g cs c.toList):
  Mid g0 h0 w0 g lb (put d cs ls) h (w.putObj (lb d) (.cells c t (0,0)))/\Ee g lb ls h g lb (put d cs ls) h:=by
 obtain⟨c1,t1,h1,_⟩:=m.lok.ok d c0 hd;have hlt:=(Array.getElem?_eq_some_iff.1 h1).1;have hget:∀k c',zb5 k (put d cs ls)=some c' -> (k=d/\c' = cs)\/(k≠d/\zb5 k ls=some c'):=by
  intro k c' hk;rw[zfh]at hk;by_cases e:k=d
  ·subst e;rw[if_pos rfl,hd]at hk;simp at hk;exact .inl ⟨rfl,hk.symm⟩
  ·rw[if_neg e]at hk;exact .inr ⟨e,hk⟩
 have hsome:∀k c',zb5 k (put d cs ls)=some c' -> ∃c'',zb5 k ls=some c'':=fun k c' hk=>by
  rcases hget k c' hk with⟨rfl,_⟩|⟨_,h⟩
  ·exact⟨_,hd⟩
  ·exact⟨_,h⟩
 have hkept:∀b,b<w.heap.size->(znq g h b\/(∃o,g.fz b o≠none)\/g.fm b≠none)->(w.putObj (lb d) (.cells c t (0,0))).heap[b]?=w.heap[b]?:=by
  intro b hb hx;refine World.putObj_heap_other fun e=>?_
  subst e;rcases hx with k|⟨o,k⟩|k
  ·exact m.lok.own d c0 hd k
  ·exact k (m.lok.fz d c0 hd o)
  ·exact k (m.lok.fm d c0 hd)
 refine⟨⟨⟨?_,?_,?_,?_,?_,?_⟩,m.sat.heap hkept,⟨m.ev.le,m.ev.len,by simpa using m.ev.size,m.ev.os,m.ev.tape,m.ev.output,fun b hb hn=>?_,m.ev.own,m.ev.fzn,m.ev.fmn⟩⟩,⟨.refl g,fun _ _=>rfl,fun k hk=>?_,fun _ _ _ h=>h⟩⟩
 ·intro k c' hk
  rcases hget k c' hk with⟨rfl,rfl⟩|⟨h2,h3⟩
  ·exact⟨c,t,World.putObj_heap_same hlt,hc⟩
  ·obtain⟨c2,t2,h4,h5⟩:=m.lok.ok k c' h3
   exact⟨c2,t2,(World.putObj_heap_other fun e=>h2 (m.lok.inj k d c' c0 h3 hd e)).trans h4,h5⟩
 ·intro k c' hk;obtain⟨c'',h2⟩:=hsome k c' hk;exact m.lok.new k c'' h2
 ·intro k c' hk;obtain⟨c'',h2⟩:=hsome k c' hk;exact m.lok.own k c'' h2
 ·intro k c' hk;obtain⟨c'',h2⟩:=hsome k c' hk;exact m.lok.fz k c'' h2
 ·intro k c' hk;obtain⟨c'',h2⟩:=hsome k c' hk;exact m.lok.fm k c'' h2
 ·intro k k' c2 c3 hk hk' e;obtain⟨_,h2⟩:=hsome k c2 hk;obtain⟨_,h3⟩:=hsome k' c3 hk';exact m.lok.inj k k' _ _ h2 h3 e
 ·have:=m.lok.new d c0 hd
  exact (World.putObj_heap_other fun e=>by omega).trans (m.ev.kept b hb hn)
 ·rw[zfh]
  by_cases e:k=d
  ·subst e;rw[if_pos rfl,hd];simp
  ·rw[if_neg e];exact hk
end Go.Ab
set_option linter.unusedVariables false
set_option linter.unusedSimpArgs false
namespace Go.Ab
def zj5{α β:Type}(f:α->Option β):List α->Option (List β)
 |[]=>some []
 |a::r=>match f a with
  |some b=>match zj5 f r with
   |some l=>some (b::l)
   |none=>none
  |none=>none
def yja{α β γ:Type}(f:α->β->Option γ):List α->List β->Option (List γ)
 |[],[]=>some []
 |a::r,b::s=>match f a b with
  |some c=>match yja f r s with
   |some l=>some (c::l)
   |none=>none
  |none=>none
 |_,_=>none
theorem zva{α β:Type}{f:α->Option β}:∀{l:List α} {r:List β},zj5 f l=some r->r.length=l.length/\∀(i:Nat) (x:α) (y:β),l[i]?=some x->r[i]?=some y->f x=some y
 |[],r,h=>by simp[zj5]at h;subst h;exact⟨rfl,fun i x y hx _=>by simp at hx⟩
 |a::l,r,h=>by
  simp only[zj5]at h
  cases hf:f a with
  |none=>rw[hf]at h;cases h
  |some b=>
   rw[hf]at h
   cases hr:zj5 f l with
   |none=>simp only[hr]at h;cases h
   |some s=>
    simp only[hr]at h;injection h with h;subst h;obtain⟨h1,h2⟩:=zva hr;refine⟨by simp[h1],fun i x y hx hy=>?_⟩
    cases i with
    |zero=>simp at hx hy;subst hx;subst hy;exact hf
    |succ i=>simp at hx hy;exact h2 i x y hx hy
theorem z00{α β γ:Type}{f:α->β->Option γ}:∀{l:List α} {s:List β} {r:List γ},yja f l s=some r->r.length=l.length/\∀(i:Nat) (x:α) (y:γ),l[i]?=some x->r[i]?=some y->∃b,f x b=some y
 |[],[],r,h=>by simp[yja]at h;subst h;exact⟨rfl,fun i x y hx _=>by simp at hx⟩
 |[],_::_,r,h=>by simp[yja]at h
 |_::_,[],r,h=>by simp[yja]at h
 |a::l,b::s,r,h=>by
  simp only[yja]at h
  cases hf:f a b with
  |none=>rw[hf]at h;cases h
  |some c=>
   rw[hf]at h
   cases hr:yja f l s with
   |none=>simp only[hr]at h;cases h
   |some q=>
    simp only[hr]at h;injection h with h;subst h;obtain⟨h1,h2⟩:=z00 hr;refine⟨by simp[h1],fun i x y hx hy=>?_⟩
    cases i with
    |zero=>simp at hx hy;subst hx;subst hy;exact⟨b,hf⟩
    |succ i=>simp at hx hy;exact h2 i x y hx hy
def zv0:Value->Option AV
 |.bool b=>some (.bool b)
 |.int k n=>some (.int k n)
 |.string s=>some (.str s)
 |.pointer none=>some .nilp
 |.slice none 0 0=>some (.sl [])
 |.map none=>some .nilm
 |.nilFunc=>some .nilf
 |.nilIface=>some .nili
 |.func f a b=>if a.size=0 then (if b.size=0 then some (.fn f [] []) else none) else none
 |_=>none
def z0c:Value->Option AV
 |.agg cs=>match zj5 zv0 cs.toList with
  |some l=>some (.agg l)
  |none=>none
 |v=>zv0 v
theorem zvz{v:Value}{a:AV}(h:zv0 v=some a)(g:G):RV g a v:=by
 unfold zv0 at h
 split at h <;> first
  |(injection h with h;subst h;constructor;done)
  |(injection h with h;subst h;exact .sl0 _ _)
  |cases h
  |(split at h
    ·split at h
     ·rename_i h1 h2
      injection h with h;subst h;exact .fn (by simp[h1]) (by simp[h2]) (fun i a v hx=>by simp at hx) (fun i a v hx=>by simp at hx)
     ·cases h
    ·cases h)
theorem z86{v:Value}{a:AV}(h:zv0 v=some a):a.one=true:=by
 unfold zv0 at h
 split at h <;> first
  |(injection h with h;subst h;rfl)
  |cases h
  |(split at h
    ·split at h
     ·injection h with h
      subst h;rfl
     ·cases h
    ·cases h)
theorem z85{v:Value}{a:AV}(h:z0c v=some a)(g:G):RV g a v:=by
 unfold z0c at h
 split at h
 ·rename_i cs
  split at h
  ·rename_i l hl
   injection h with h;subst h;obtain⟨h1,h2⟩:=zva hl;exact .agg (by simpa using h1) fun i a v hx hv=>zvz (h2 i v a (by simpa using hv) hx) g
  ·cases h
 ·exact zvz h g
section
variable (P : Program)
def zj0(t:TypeId):Option Nat:=(P.info? t).map (·.size)
def z0o(t:TypeId):Option Bool :=
 match P.underlying t with
 |some (.struct _)|some (.array _ _)=>some true
 |some _=>some false
 |none=>none
def flatT:Nat->TypeId->Option (List TypeId)
 |0,_=>none
 |d+1,t=>match P.underlying t with
  |some (.struct fs)=>(zj5 (fun f=>flatT d f.type) fs.toList).map List.flatten
  |some (.array n e)=>(flatT d e).map fun l=>(List.replicate n l).flatten
  |some _=>some [t]
  |none=>none
def yad(v:Value)(t:TypeId):Option AV :=
 match v with
 |.slice none 0 0=>match P.underlying t with
  |some (.slice e)=>(zj0 P e).map AV.nils
  |_=>none
 |v=>zv0 v
def zet(t:TypeId):Option (List AV) :=
 match P.info? t with
 |some i=>match i.zero with
  |some v=>match flatT P 40 t with
   |some ts=>yja (yad P) v.cells.toList ts
   |none=>none
  |none=>none
 |none=>none
def cx:Operand->Option AX
 |.tmp t=>some (.t t)
 |.const v=>(z0c v).map .c
 |.func f=>some (.c (.fn (.func f) [] []))
 |.global _=>none
def zeo:Operand->Bool
 |.const (.slice none 0 0)=>true
 |_=>false
def cxn(x:Operand):Option AX:=if zeo x then some (.c .ze) else cx x
def cxns(l:List Operand):Option (List AX):=zj5 cxn l
def cxz(sz:Nat)(x:Operand):Option AX:=if zeo x then some (.c (.nils sz)) else cx x
def cxzs(sz:Nat)(l:List Operand):Option (List AX):=zj5 (cxz sz) l
def isZ:Operand->Bool
 |.const (.int _ 0)=>true
 |_=>false
def yaq:Operand->Operand->Bool
 |.tmp a,.tmp b=>a == b
 |.const (.int j a),.const (.int k b)=>j == k && a == b
 |_,_=>false
def has(d:Option Nat)(l:List Nat):Bool :=
 match d with
 |some d=>l.contains d
 |none=>false
def zbf(t:TypeId):Option TypeId :=
 match P.underlying t with
 |some (.slice e)=>some e
 |_=>none
def esz(t:TypeId):Option Nat :=
 match zbf P t with
 |some e=>match P.info? e with
  |some i=>match i.zero with
   |some z=>if z.cells.size=i.size then (if 0<i.size then (if i.bytes<=65536 then some i.size else none) else none) else none
   |none=>none
  |none=>none
 |none=>none
def zn7(places:List (Nat×Nat))(ps:List (Nat×Operand)):Option (List (Nat×Nat×AX)) :=
 zj5 (fun p=>match places[p.1]? with
  |some (off,sz)=>match cx p.2 with
   |some x=>some (off,sz,x)
   |none=>none
  |none=>none) ps
def cxs(l:List Operand):Option (List AX):=zj5 cx l
def hnt(k:Nat)(own:List Nat)(d:Option Nat):Bool:=has d ((own.filter fun x=>decide (k<=x)).map (· - k))
def tmpO:Operand->Option Nat
 |.tmp t=>some t
 |_=>none
def zul(t:TypeId):Option Bool :=
 match P.info? t with
 |some i=>match i.zero with
  |some (.agg _)=>some true
  |some _=>some false
  |none=>none
 |none=>none
def cop(esc own:List Nat)(o:Oper):Option AOp :=
 match o.op with
 |.move x=>if has o.dst own && zeo x then (esz P o.type).map .mvO else (cx x).map .mv
 |.assign x=>if has o.dst own && zeo x then (esz P o.type).map .mvO else (cx x).map .mv
 |.pick c a b=>match cx c,cx a,cx b with
  |some c,some a,some b=>some (.pick c a b)
  |_,_,_=>none
 |.alloc e=>(zet P e).map fun z=>if has o.dst esc then (if has o.dst own then .alcHO z else .alcH z) else if has o.dst own then .alcO z else .alc z
 |.box _ x=>(cx x).map fun x=>if has o.dst esc then .bxH x else if has o.dst ((own.filter fun x=>decide (5000000<=x)).map (· - 5000000)) then .bxF x else .bx x
 |.build t ps=>match zet P t,P.underlying t with
  |some z,some (.struct fs)=>match zj5 (fun f=>(P.info? f.type).map fun i=>(f.offset,i.size)) fs.toList with
   |some places=>(zn7 places ps.toList).map fun l=>if has o.dst own then .bldO z l else .bld z l
   |none=>none
  |_,_=>none
 |.buildSlice t n ps=>match esz P t,zbf P t with
  |some sz,some e=>match zet P e,zj5 (fun p=>match cx p.2 with
    |some x=>some (p.1,x)
    |none=>none) ps.toList with
   |some z,some l=>if n=0 then none else some (if has o.dst own then .bslO sz n z l else .bsl sz n z l)
   |_,_=>none
  |_,_=>none
 |.insert t m k v|.mapUpdate t m k v=>match P.underlying t with
  |some (.map kt _)=>match P.underlying kt with
   |some (.int _)=>match cx m,cx k,cx v with
    |some m,some k,some v=>some (.ins m k v)
    |_,_,_=>none
   |_=>none
  |_=>none
 |.load t a=>match zj0 P t,z0o P t,cx a with
  |some n,some ag,some a=>some (if hnt 8000000 own o.dst then .ldh n ag a else if has o.dst ((own.filter fun x=>decide (3000000<=x)).map (· - 3000000)) then .ldl n ag a else if has o.dst ((own.filter fun x=>decide (4000000<=x)).map (· - 4000000)) then .ldz n ag a else .ld n ag a)
  |_,_,_=>none
 |.store t a v=>match zj0 P t,cx a,cx v with
  |some n,some x,some v=>some (if hnt 7000000 own (tmpO a) then .stl n x v else if hnt 9000000 own (tmpO a) then .sto n x v else if hnt 10000000 own (tmpO a) then .stp n x v else .st n x v)
  |_,_,_=>none
 |.nilCheck x=>(cx x).map .nilc
 |.binOp op t x y _=>match cx x,cx y with
  |some x,some y=>match op,P.underlying t with
   |.eql,some .bool=>some (.eqb false x y)
   |.neq,some .bool=>some (.eqb true x y)
   |.shl,_|.shr,_=>none
   |op,_=>some (.bin op x y)
  |_,_=>none
 |.unOp .not _ x=>(cx x).map .not
 |.convert s d x=>match P.underlying s,P.underlying d with
  |some _,some (.int k)=>(cx x).map (.cv k)
  |_,_=>none
 |.fieldAddr s x f=>match P.underlying s with
  |some (.struct fs)=>match fs[f]? with
   |some f=>match zj0 P f.type with
    |some n=>if n=0 then none else (cx x).map (.fa f.offset)
    |none=>none
   |none=>none
  |_=>none
 |.field t x f=>match P.underlying t with
  |some (.struct fs)=>match fs[f]? with
   |some f=>match zj0 P f.type,z0o P f.type with
    |some n,some ag=>(cx x).map (.fld f.offset n ag)
    |_,_=>none
   |none=>none
  |_=>none
 |.indexAddr t x i=>match zbf P t with
  |some e=>match zj0 P e,cx x,cx i with
   |some sz,some x,some i=>some (if hnt 11000000 own o.dst then .iao sz x i else .ia sz x i)
   |_,_,_=>none
  |none=>none
 |.lookup t x i ok=>match P.underlying t with
  |some (.map kt et)=>match P.underlying kt with
   |some (.int _)=>match zet P et,zul P et,cx x,cx i with
    |some z,some ag,some x,some i=>match ag,z with
     |true,z=>some (.lk ok (.agg (noz z)) x i)
     |false,[a]=>match noz [a] with
      |a::_=>some (.lk ok a x i)
      |[]=>none
     |_,_=>none
    |_,_,_,_=>none
   |_=>none
  |_=>none
 |.extract t i=>(cx t).map fun x=>.ext x i
 |.makeFunc fn first cap=>match cxs first.toList,cxs cap.toList with
  |some a,some b=>some (.mkf fn a b)
  |_,_=>none
 |.makeMap _ none=>some .mkm
 |.makeSlice t l c=>match yaq l c,esz P t,zbf P t,cx l with
  |true,some sz,some e,some x=>(zet P e).map fun z=>if has o.dst own then .mks sz z x else .mkz sz z x
  |_,_,_,_=>none
 |.slice t x lo hi none=>match esz P t,cx x with
  |some sz,some x=>match lo,hi with
   |none,none=>some (.slc sz x none none)
   |some l,none=>(cx l).map fun l=>.slc sz x (some l) none
   |none,some h=>(cx h).map fun h=>.slc sz x none (some h)
   |some l,some h=>match cx l,cx h with
    |some l,some h=>some (.slc sz x (some l) (some h))
    |_,_=>none
  |_,_=>none
 |.slice t x none (some h) (some m)=>match isZ h && isZ m,esz P t with
  |true,some _=>(cx x).map .slz
  |_,_=>none
 |.makeInterface t x=>match P.underlying t with
  |some (.interface _)|none=>none
  |some _=>(cx x).map (.ifc t)
 |.call c=>match c.callee,c.args.toList with
  |.builtin .len,[x]=>match c.argTypes.toList with
   |[t]=>match P.underlying t with
    |some (.slice _)=>(cx x).map .len
    |_=>none
   |_=>none
  |.builtin .cap,[x]=>match c.argTypes.toList with
   |[t]=>match P.underlying t with
    |some (.slice _)=>(cx x).map .cap
    |_=>none
   |_=>none
  |.builtin .append,[x,y]=>match c.argTypes.toList with
   |[t,u]=>if t=u then match esz P t,cxn x,cx y with
    |some sz,some x,some y=>some (.app sz x y)
    |_,_,_=>none
    else match P.underlying u,esz P t,zbf P t,cxn x,cx y with
    |some (.int _),some sz,some e,some x,some y=>(zet P e).map fun z=>.apz sz z x y
    |_,_,_,_,_=>none
   |_=>none
  |.builtin .max,[x,y]=>match cx x,cx y with
   |some x,some y=>some (.mx x y)
   |_,_=>none
  |_,_=>none
 |_=>none
def z9g(t:TypeId):Option (Nat×IntKind) :=
 match P.underlying t with
 |some (.array n e)=>match P.underlying e with
  |some (.int k)=>if zj0 P e=some 1 then (if zj0 P t=some n then (if P.eqGuardType P.depth t=false then some (n,k) else none) else none) else none
  |_=>none
 |_=>none
def others(own:List Nat):List AX:=(own.filter fun x=>decide (15000000<=x) && decide (x<16000000)).map fun x=>.t (x - 15000000)
def keeps(own:List Nat):List AX:=(own.filter fun x=>decide (18000000<=x) && decide (x<19000000)).map fun x=>.t (x - 18000000)
def ygw{α:Type}(x:Option α)(y:Option α):Option α :=
 match x with
 |some a=>some a
 |none=>y
def copX(own:List Nat)(o:Oper):Option AOp :=
 match o.op with
 |.binOp op t x y _=>match cx x,cx y with
  |some x,some y=>match op with
   |.shl=>some (.xo (.sh true) [x,y])
   |.shr=>some (.xo (.sh false) [x,y])
   |.and|.or|.xor|.andNot=>some (.xo (.bit op) [x,y])
   |.eql=>(z9g P t).map fun p=>.xo (.eqA p.1 false) [x,y]
   |.neq=>(z9g P t).map fun p=>.xo (.eqA p.1 true) [x,y]
   |_=>none
  |_,_=>none
 |.build t ps=>match z9g P t with
  |some (n,_)=>match zet P t with
   |some z=>(zn7 ((List.range n).map fun i=>(i,1)) ps.toList).map fun l=>.bld z l
   |none=>none
  |none=>none
 |.buildSlice t n ps=>match esz P t,n,ps.toList with
  |some _,0,[]=>some (.xo .mkE [])
  |_,_,_=>none
 |.box t x=>if hnt 24000000 own o.dst then (cx x).map fun x=>.xo .bxN [x] else if hnt 12000000 own o.dst then match z9g P t,cx x with
   |some (n,_),some x=>some (.xo (.bxA n) [x])
   |_,_=>none
  else none
 |.alloc t=>if hnt 12000000 own o.dst then match z9g P t,zet P t with
   |some _,some z=>some (.xo (.alA (noz z)) [])
   |_,_=>none
  else none
 |.indexAddr t x i=>if hnt 21000000 own o.dst then match zbf P t with
   |some e=>match zj0 P e,cx x,cx i with
    |some sz,some x,some i=>some (.xo (.iaz sz) [x,i])
    |_,_,_=>none
   |none=>none
  else match z9g P t,cx x,cx i with
  |some (n,_),some x,some i=>some (.xo (.iaA n) [x,i])
  |_,_,_=>none
 |.slice t x none hi none=>match z9g P t,cx x with
  |some (n,_),some ax=>match hi with
   |none=>some (.xo (.slA n false) [ax])
   |some h=>(cx h).map fun h=>.xo (.slA n true) [ax,h]
  |_,_=>none
 |.load t a=>if hnt 22000000 own o.dst then match zj0 P t,z0o P t,cx a with
   |some n,some ag,some a=>some (.xo (.ldf n ag) [a])
   |_,_,_=>none
  else if hnt 13000000 own (tmpO a) then match z9g P t,cx a with
   |some (n,_),some a=>some (.xo (.ldA n) [a])
   |_,_=>none
  else if hnt 14000000 own o.dst then match zj0 P t,z0o P t,cx a with
   |some n,some ag,some a=>some (.xo (.ldx n ag) (a::others own))
   |_,_,_=>none
  else if hnt 20000000 own o.dst then match zj0 P t,z0o P t,cx a,keeps own with
   |some n,some ag,some a,[r]=>some (.xo (.ldy n ag) [a,r])
   |_,_,_,_=>none
  else none
 |.store t a v=>if hnt 13000000 own (tmpO a) then match z9g P t,cx a,cx v with
   |some (n,_),some a,some v=>some (.xo (.stA n) [a,v])
   |_,_,_=>none
  else none
 |.insert t m k v|.mapUpdate t m k v=>match P.underlying t with
  |some (.map kt _)=>match z9g P kt with
   |some (n,.i64)=>match cx m,cx k,cx v with
    |some m,some k,some v=>some (.xo (.insK n) [m,k,v])
    |_,_,_=>none
   |_=>none
  |_=>none
 |.lookup t x i ok=>match P.underlying t with
  |some (.map kt et)=>match z9g P kt with
   |some (n,.i64)=>match zet P et,zul P et,cx x,cx i with
    |some [a],some false,some x,some i=>match noz [a] with
     |a::_=>some (.xo (.lkK n ok a) [x,i])
     |[]=>none
    |_,_,_,_=>none
   |_=>none
  |_=>none
 |.call c=>match c.callee,c.args.toList with
  |.builtin .copy,[x,y]=>match c.argTypes.toList with
   |[t,u]=>if t=u then match esz P t,cx x,cx y with
    |some sz,some x,some y=>some (.xo (.cpy sz) [x,y])
    |_,_,_=>none
    else none
   |_=>none
  |.builtin .min,[x,y]=>match cx x,cx y with
   |some x,some y=>some (.xo .mn [x,y])
   |_,_=>none
  |_,_=>none
 |_=>none
def copV(own:List Nat)(o:Oper):Option AOp :=
 match o.op with
 |.move x|.assign x=>if hnt 23000000 own o.dst then (if zeo x then some (.mv (.c .ze)) else none) else none
 |.slice t x lo hi none=>if hnt 16000000 own o.dst then match esz P t,cx x with
  |some sz,some x=>match lo,hi with
   |none,none=>some (.xo (.slv sz false false) [x])
   |some l,none=>(cx l).map fun l=>.xo (.slv sz true false) [x,l]
   |none,some h=>(cx h).map fun h=>.xo (.slv sz false true) [x,h]
   |some l,some h=>match cx l,cx h with
    |some l,some h=>some (.xo (.slv sz true true) [x,l,h])
    |_,_=>none
  |_,_=>none
  else none
 |_=>none
def copA(esc own:List Nat)(o:Oper):Option AOp:=ygw (copV P own o) (ygw (copX P own o) (cop P esc own o))
def z40(ops:Array Oper)(o:Oper):Option (Option (Nat×Bool)) :=
 match o.guard with
 |none=>some none
 |some (j,w)=>match ops[j]? with
  |some p=>match p.dst with
   |some d=>some (some (d,w))
   |none=>none
  |none=>none
def frd(own:List Nat):List Nat:=(own.filter fun x=>decide (1000000<=x)).map (· - 1000000)
def nilz(own:List Nat)(d:Option Nat):Option Nat:=((own.filter fun x=>decide (25000000<=x) && decide (x<26000000) && (d == some ((x - 25000000) % 10000))).head?).map fun x=>(x - 25000000) / 10000
def cxk:Operand->Option AX
 |.func k=>some (.c (.fk k))
 |_=>none
def cak(esc own:List Nat)(o:Oper):Option AK :=
 match o.op with
 |.panic x=>(cx x).map .pan
 |.binOp .eql t x (.const (.slice none 0 0)) _=>match zbf P t with
  |some _=>(cx x).map .isn
  |none=>none
 |.call { callee:=.value f,args:=l,argTypes:=_ }=>match (if hnt 17000000 own o.dst then cxk f else cx f),(match nilz own o.dst with
   |some sz=>cxzs sz l.toList
   |none=>if has o.dst ((own.filter fun x=>decide (6000000<=x)).map (· - 6000000)) then cxns l.toList else cxs l.toList) with
  |some f,some l=>some (if has o.dst ((own.filter fun x=>decide (2000000<=x)).map (· - 2000000)) then .callW f l (if hnt 19000000 own o.dst then keeps own else []) else .call f l)
  |_,_=>none
 |_=>(copA P esc own o).map fun op=>if has o.dst (frd own) then .fo op else .o op
def cai(esc own:List Nat)(dr:Bool)(ops:Array Oper)(o:Oper):Option AI :=
 match cak P esc own o,z40 ops o with
 |some a,some g=>some ⟨o.dst,a,g,if dr then (o.after.toList.filter (Region.binds .any)).map (·.on) else []⟩
 |_,_=>none
end
def zmn(P:Program)(esc own:List Nat):Code->Option AC
 |.skip=>some .skip
 |.label _=>some .skip
 |.region _ ops draw=>(zj5 (cai P esc own draw ops) ops.toList).map fun is=>if draw then .dreg is else .reg is
 |.seq a b=>match zmn P esc own a,zmn P esc own b with
  |some a,some b=>some (.seq a b)
  |_,_=>none
 |.cond x a b=>match cx x,zmn P esc own a,zmn P esc own b with
  |some x,some a,some b=>some (.cond x a b)
  |_,_,_=>none
 |.block id c=>(zmn P esc own c).map (.block id)
 |.loop c=>(zmn P esc own c).map .loop
 |.rangeFunc f ps asg body=>match cx f,zmn P esc own asg,zmn P esc own body with
  |some f,some a,some b=>some (.rf f ps.toList a b)
  |_,_,_=>none
 |.exit id=>some (.exit id)
 |.ret=>some .ret
 |.scope _|.goto _|.refuse _=>none
def Cm(P:Program)(c:Code)(a:AC):Prop:=∃esc own,zmn P esc own c=some a
end Go.Ab
end
