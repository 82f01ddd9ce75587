/- What the law ConvAny of layer 17 comes to, part 24. Conditions: none. -/
import Derived.Test.YthebfdakjfnpeaaGreatZbav
import Derived.Test.YthebfdakjfnpeaaGreatZbaw
section
set_option linter.unusedVariables false
set_option linter.unusedSimpArgs false
set_option maxRecDepth 100000
namespace Go.Ab
open Go.RowKit Go.ChangeShapes Go.Proofs
section
variable {H : Type} {enc : TypeId × Value → H} {P : Program} {w : World}
theorem zsm{t:TypeId}{fs:Array Field}(ht:P.underlying t=some (.struct fs))(off sz:Nat->Nat)(ho:∀(i:Nat) (f:Field),fs[i]?=some f->f.offset=off i/\P.cellsOf f.type=sz i){fuel:Nat}{cs:List Value}{x:DataW H×List MemPlace}
  (h:DataW.trod enc P w 0 (fun _=>true) true fuel t cs=some x) (hw:(x.1.weights P t).all (· <= reachBytes)=true) :
  ∃n,fuel=n+1/\cs.length=P.cellsOf t/\∀(i:Nat) (f:Field),fs[i]?=some f->∃y,DataW.trod enc P w 0 (fun _=>true) true n f.type ((cs.drop (off i)).take (sz i))=some y/\(y.1.weights P f.type).all (· <= reachBytes)=true:=by
 obtain⟨xs,n,rfl,rfl,hl,hxl,hget⟩:=DataW.trod_struct ht h;refine⟨n,rfl,by omega,fun i f hf=>?_⟩
 obtain⟨h1,h2⟩:=ho i f hf;have hi:i<fs.size:=(Array.getElem?_eq_some_iff.1 hf).1;have hy:xs[i]?=some xs[i]:=List.getElem?_eq_getElem (by omega)
 have h3:=hget i f hf;rw[h1,h2,hy]at h3;refine⟨_,h3,?_⟩;rw[DataW.weights]at hw;simp only[ht]at hw;exact zmb hw i f.type _ (by simp[hf]) (by rw[List.getElem?_map,hy];rfl)
end
section
variable {H : Type} {enc : TypeId × Value → H} {w : World}
theorem z9r:Tryz.prog.cellsOf 4=1:=by kernel_rfl
theorem zwg:Tryz.prog.cellsOf 48=6:=by kernel_rfl
theorem zx8:Tryz.prog.cellsOf 26=1:=by kernel_rfl
theorem zx7:Tryz.prog.cellsOf 44=11:=by kernel_rfl
theorem z3w:1<=Tryz.prog.bytesOf 48:=of_decide_eq_true (by kernel_rfl)
theorem z9v:1<=Tryz.prog.bytesOf 44:=of_decide_eq_true (by kernel_rfl)
theorem fld2{fs:Array Field}{f0 f1:Field}(h:fs = #[f0,f1]){p:Nat->Field->Prop}(h0:p 0 f0)(h1:p 1 f1):∀(i:Nat) (f:Field),fs[i]?=some f->p i f:=by
 subst h;intro i f hf
 match i,hf with
 |0,hf=>simp at hf;subst hf;exact h0
 |1,hf=>simp at hf;subst hf;exact h1
theorem fld5{fs:Array Field}{f0 f1 f2 f3 f4:Field}(h:fs = #[f0,f1,f2,f3,f4]){p:Nat->Field->Prop}(h0:p 0 f0)(h1:p 1 f1)(h2:p 2 f2)(h3:p 3 f3)(h4:p 4 f4):∀(i:Nat) (f:Field),fs[i]?=some f->p i f:=by
 subst h;intro i f hf
 match i,hf with
 |0,hf=>simp at hf;subst hf;exact h0
 |1,hf=>simp at hf;subst hf;exact h1
 |2,hf=>simp at hf;subst hf;exact h2
 |3,hf=>simp at hf;subst hf;exact h3
 |4,hf=>simp at hf;subst hf;exact h4
theorem zop{g:G}{a b:List AV}{c d:List Value}(h1:RVs g a c)(h2:RVs g b d):RVs g (a++b) (c++d):=by
 induction a generalizing c with
 |nil=>
  cases c with
  |nil=>exact h2
  |cons x c=>exact absurd h1.1 (by simp)
 |cons x a ih=>
  cases c with
  |nil=>exact absurd h1.1 (by simp)
  |cons y c=>
   refine .cons (h1.2 0 x y rfl rfl) (ih ⟨by have:=h1.1;simpa using this,fun i p q hp hq=>h1.2 (i+1) p q (by simpa using hp) (by simpa using hq)⟩)
theorem yj8(fuel:Nat):RdN enc Tryz.prog w 48 Co.cs Co.ok fuel:=by
 intro cs x hx hw;obtain⟨n,rfl,hl,hf⟩:=zsm Tryz.underlying48 (fun i=>3*i) (fun _=>3) (fld2 rfl ⟨rfl,zr6⟩ ⟨rfl,zr6⟩) hx hw
 rw[zwg]at hl;obtain⟨y0,a0,b0⟩:=hf 0 _ rfl;obtain⟨y1,a1,b1⟩:=hf 1 _ rfl;obtain⟨a,ha,ra⟩:=rd_lv n _ y0 a0 b0;obtain⟨b,hb,rb⟩:=rd_lv n _ y1 a1 b1;refine⟨.mk a b,⟨ha,hb⟩,?_⟩
 match cs,hl with
 |[c0,c1,c2,c3,c4,c5],_=>exact zop ra rb
theorem rd_decl(fuel:Nat):RdN enc Tryz.prog w 44 De.cs De.ok fuel:=by
 intro cs x hx hw;obtain⟨n,rfl,hl,hf⟩:=zsm Tryz.underlying44 (fun i=>match i with|0=>0|1=>1|2=>2|3=>6|_=>7) (fun i=>match i with|0=>1|1=>1|2=>4|3=>1|_=>4) (fld5 rfl ⟨rfl,zju⟩ ⟨rfl,zx8⟩ ⟨rfl,zup⟩ ⟨rfl,z9r⟩ ⟨rfl,zup⟩) hx hw
 rw[zx7]at hl
 match cs,hl with
 |[c0,c1,c2,c3,c4,c5,c6,c7,c8,c9,c10],_=>
  obtain⟨y0,a0,b0⟩:=hf 0 _ rfl;obtain⟨y1,a1,b1⟩:=hf 1 _ rfl;obtain⟨y2,a2,b2⟩:=hf 2 _ rfl;obtain⟨y3,a3,b3⟩:=hf 3 _ rfl;obtain⟨y4,a4,b4⟩:=hf 4 _ rfl;obtain⟨k,_,hk⟩:=zti Tryz.underlying3 n [c0] y0 a0 b0;obtain⟨l,⟨h1,h2⟩,hl⟩:=zpr (sz:=6) Tryz.underlying26 zwg (by omega) z3w zuo (fun a c hc=>List.all_eq_true.1 (z7z a) c hc) (fuel:=n) (fun m _=>yj8 m) [c1] y1 a1 b1
  obtain⟨t,ht,rt⟩:=yg5 n _ y2 a2 b2;obtain⟨b,_,rb⟩:=rd_bool Tryz.underlying4 n [c6] y3 a3 b3;obtain⟨v,hv,rv⟩:=yg5 n _ y4 a4 b4;exact⟨.mk k l t b v,⟨h1,h2,ht,hv⟩,zop (zop (zop (.cons (zsk hk) hl) rt) rb) rv⟩
theorem yg7(fuel:Nat):RdN enc Tryz.prog w 25 (fun L:List De=>[.sl (De.css L)]) zty fuel :=
 zpr Tryz.underlying25 zx7 (by omega) z9v z7w (fun a c hc=>List.all_eq_true.1 (yit a) c hc) (fun m _=>rd_decl m)
end
end Go.Ab
end
