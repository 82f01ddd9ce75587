/- What the law ConvMany of layer 17 comes to, part 10. Conditions: none. -/
import Derived.Test.YthebfdakjfnpeaaGreatZdai
import Derived.ProofKit
import Derived.SizedLaws
section
set_option linter.unusedVariables false
set_option linter.unusedSimpArgs false
namespace Go.Ab
open Go.RowKit Go.ChangeShapes
def yj9(P:Program)(w:World):G where
 fz:=fun b o=>match w.heap[b]? with
  |some (.cells c _ _)=>c[o]?
  |_=>none
 fm:=fun b=>match w.heap[b]? with
  |some (.map m _)=>some m
  |_=>none
 bx:=fun _=>none
 hd:=fun _ _=>none
 cm:=Cm P
theorem yhk(P:Program)(w:World):Sat (yj9 P w) [] w:=by
 refine⟨fun b o v h=>?_,fun b m h=>?_,fun id o h=>(by cases h),fun id _=>⟨rfl,fun _=>rfl⟩,fun i j x y b h=>(by cases h),fun b h=>?_,fun id ver sz es h=>(by cases h)⟩
 ·unfold yj9 at h
  dsimp only at h
  split at h
  ·rename_i c t fr hc;exact⟨c,t,fr,hc,h⟩
  ·cases h
 ·unfold yj9 at h
  dsimp only at h
  split at h
  ·rename_i m' ck hc;cases h;exact⟨ck,hc⟩
  ·cases h
 ·obtain⟨id,o,h,_⟩:=h;cases h
section
variable {H : Type} {enc : TypeId × Value → H} {P : Program} {w : World} {α : Type}
theorem z51{p:Nat->Bool}{a b:List Nat}(h:(a++b).all p=true):a.all p=true/\b.all p=true:=by simpa using h
end
end Go.Ab
end
