/- What the law ConvMany of layer 17 comes to, part 20. Conditions: none. -/
import Derived.Test.YthebfdakjfnpeaaGreatZdal
section
set_option linter.unusedVariables false
set_option linter.unusedSimpArgs false
namespace Go.Ab
open Go.RowKit
@[go_sem] theorem at_mid{α:Type}(a:List α)(x:α)(b:List α):(a++x::b)[a.length]?=some x:=by simp
@[go_sem] theorem lt_mid{α:Type}(a:List α)(x:α)(b:List α):((a.length:Int)<((a++x::b).length:Int))=True:=by simp;omega
@[go_sem] theorem lt_self(n:Int):(n<n)=False:=by simp
theorem zac{n:Nat}(h:n<9223372036854775807):IntKind.wrap .i64 ((n:Int)+1)=(n:Int)+1:=zam (by omega) (by omega)
theorem zaf{α:Type}(a:List α)(x:α):((a++[x]).length:Int)=(a.length:Int)+1:=by simp
theorem zf6{α:Type}(a:List α)(x:α):(a++[x]).length=a.length+1:=by simp
attribute [go_sem] ztq Int.natCast_zero Nat.zero_le
attribute [go_sem] List.getElem?_cons_zero List.getElem?_cons_succ List.getElem?_nil Int.toNat_natCast Int.natCast_nonneg Option.map_some Option.map_none Nat.le_refl List.append_nil List.length_nil
@[go_sem] theorem int_zero:Int.toNat 0=0:=rfl
attribute [go_sem] Int.cast_ofNat_Int Int.toNat_one
@[go_sem] theorem z0l{H X:List AO}{i:Nat}:(H++X)[H.length+i]?=X[i]?:=by rw[List.getElem?_append_right (by omega)];congr 1;omega
@[go_sem] theorem z0m{H X:List AO}:(H++X)[H.length]?=X[0]?:=by rw[List.getElem?_append_right (by omega)];congr 1;omega
@[go_sem] theorem app_setN{H X:List AO}{i:Nat}{y:AO}:(H++X).set (H.length+i) y=H++X.set i y:=by rw[List.set_append_right _ _ (by omega)];congr 2;omega
@[go_sem] theorem app_setZ{H X:List AO}{y:AO}:(H++X).set H.length y=H++X.set 0 y:=by rw[List.set_append_right _ _ (by omega)];congr 2;omega
@[go_sem] theorem app_len{H X:List AO}:(H++X).length=H.length+X.length:=by simp
@[go_sem] theorem app_app{H X Y:List AO}:(H++X)++Y=H++(X++Y):=by simp
@[go_sem] theorem add_add(a b c:Nat):a+b+c=a+(b+c):=by omega
@[go_sem] theorem le_add(a b:Nat):(a<=a+b)=True:=by simp
@[go_sem] theorem lt_fmap{n:Nat}{es:List (AV×AV)}:Lt n (.fmap es)=((∀p∈es,Lt n p.1)/\∀p∈es,Lt n p.2):=propext ⟨fun h=>by cases h;exact⟨by assumption,by assumption⟩,fun h=>.fmap h.1 h.2⟩
@[go_sem] theorem lt_fn{n:Nat}{f:Fn}{a b:List AV}:Lt n (.fn f a b)=((∀x∈a,Lt n x)/\∀x∈b,Lt n x):=propext ⟨fun h=>by cases h;exact⟨by assumption,by assumption⟩,fun h=>.fn h.1 h.2⟩
@[go_sem] theorem flat_nil{p:AV->Prop}:(∀a∈([]:List (List AV)).flatten,p a)=True:=by simp
@[go_sem] theorem flat_cons{p:AV->Prop}{e:List AV}{es:List (List AV)}:(∀a∈(e::es).flatten,p a)=((∀a∈e,p a)/\∀a∈es.flatten,p a):=by
 apply propext;simp only[List.flatten_cons,List.mem_append];exact⟨fun h=>⟨fun a ha=>h a (.inl ha),fun a ha=>h a (.inr ha)⟩,fun h a ha=>ha.elim (h.1 a) (h.2 a)⟩
end Go.Ab
end
