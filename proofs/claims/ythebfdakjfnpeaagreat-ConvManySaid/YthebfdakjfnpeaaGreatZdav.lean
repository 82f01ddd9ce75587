/- What the law ConvMany of layer 17 comes to, part 22. Conditions: none. -/
import Derived.Test.YthebfdakjfnpeaaGreatZdak
import Derived.Test.YthebfdakjfnpeaaGreatZdau
import Derived.Test.YthebfdakjfnpeaaGreatChecked
section
set_option linter.unusedVariables false
set_option linter.unusedSimpArgs false
set_option maxRecDepth 100000
namespace Go.Ab
open Go.RowKit Go.ChangeShapes Go.Proofs
section
variable {H : Type} {enc : TypeId × Value → H} {P : Program} {w : World}
theorem zwf{ts:List TypeId}{ds:List (DataW H)}(h:(DataW.weightsEach P ts ds).all (· <= reachBytes)=true):∀(i:Nat) (t:TypeId) (d:DataW H),ts[i]?=some t->ds[i]?=some d->(d.weights P t).all (· <= reachBytes)=true:=by
 induction ts generalizing ds with
 |nil=>intro i t d ht;simp at ht
 |cons t ts ih=>
  cases ds with
  |nil=>intro i t d _ hd;simp at hd
  |cons d ds=>
   rw[DataW.weightsEach]at h;obtain⟨h1,h2⟩:=z51 h;intro i t' d' ht hd
   cases i with
   |zero=>simp at ht hd;subst ht;subst hd;exact h1
   |succ i=>exact ih h2 i t' d' (by simpa using ht) (by simpa using hd)
end
section
variable {H : Type} {enc : TypeId × Value → H} {w : World}
theorem mono_wf{n:Int}(h:(Lit.int .u8 n).wf=true):0<=n/\n<256:=by
 simp[Lit.wf,IntKind.min,IntKind.max,IntKind.bits,IntKind.signed]at h;omega
end
section
variable {H : Type} {enc : TypeId × Value → H} {P : Program} {W : World} {r : Reach} {base : Nat} {t : TypeId} {v : Value} {d : DataW H} {p : List MemPlace}
theorem arg_int{k:IntKind}(ht:P.underlying t=some (.int k))(hv:Value.okWide P W r base t v)(h:DataW.Trod enc P W 0 (fun _=>true) true t v d p):∃n,(Lit.int k n).wf=true/\RV (yj9 P W) (.int k n) v:=by
 obtain⟨n,rfl,_,_,hw⟩:=open_int ht hv h;exact⟨n,hw,.int k n⟩
theorem yif(ht:P.underlying t=some .bool)(hv:Value.okWide P W r base t v)(h:DataW.Trod enc P W 0 (fun _=>true) true t v d p):∃b,RV (yj9 P W) (.bool b) v:=by
 obtain⟨b,rfl,_,_⟩:=open_bool ht hv h;exact⟨b,.bool b⟩
end
section
open Go.ChangeShapes
variable {H : Type} {enc : TypeId × Value → H} {P : Program} {w : World} {base : Nat} {spare : Nat → Bool} {held : Bool}
end
end Go.Ab
end
