/- What the law ConvAny of layer 17 comes to, part 27. Conditions: none. -/
import Derived.Test.YthebfdakjfnpeaaGreatZbax
import Derived.Test.YthebfdakjfnpeaaGreatZbaz
section
set_option linter.unusedVariables false
set_option linter.unusedSimpArgs false
set_option maxRecDepth 100000
namespace Go.Ab
open Go.RowKit Go.ChangeShapes Go.Proofs
section
variable {H : Type} {enc : TypeId × Value → H} {w : World}
theorem yiw:Tryz.prog.cellsOf 28=5:=by kernel_rfl
theorem z6b:Tryz.prog.cellsOf 25=1:=by kernel_rfl
theorem rd_gr(fuel:Nat):RdN enc Tryz.prog w 28 Gr.cs okG fuel:=by
 intro cs x hx hw;obtain⟨n,rfl,hl,hf⟩:=zsm Tryz.underlying28 (fun i=>i) (fun _=>1) (fld5 rfl ⟨rfl,z6b⟩ ⟨rfl,zju⟩ ⟨rfl,zju⟩ ⟨rfl,zx8⟩ ⟨rfl,zju⟩) hx hw
 rw[yiw]at hl
 match cs,hl with
 |[c0,c1,c2,c3,c4],_=>
  obtain⟨y0,a0,b0⟩:=hf 0 _ rfl;obtain⟨y1,a1,b1⟩:=hf 1 _ rfl;obtain⟨y2,a2,b2⟩:=hf 2 _ rfl;obtain⟨y3,a3,b3⟩:=hf 3 _ rfl;obtain⟨y4,a4,b4⟩:=hf 4 _ rfl;obtain⟨env,he,re⟩:=yg7 n [c0] y0 a0 b0;obtain⟨p,_,hp⟩:=zti Tryz.underlying3 n [c1] y1 a1 b1;obtain⟨m,_,hm⟩:=zti Tryz.underlying3 n [c2] y2 a2 b2;obtain⟨l,hc,hl⟩:=zpr (sz:=6) Tryz.underlying26 zwg (by omega) z3w zuo (fun a c hc=>List.all_eq_true.1 (z7z a) c hc) (fuel:=n) (fun m _=>yj8 m) [c3] y3 a3 b3
  obtain⟨o,_,ho⟩:=zti Tryz.underlying3 n [c4] y4 a4 b4;exact⟨⟨env,p,m,l,o⟩,⟨he,hc⟩,zop (zop (zop (zop re hp) hm) hl) ho⟩
end
end Go.Ab
end
