/- What the law ConvSelf of layer 17 comes to, part 22. Conditions: none. -/
import Derived.Test.YthebfdakjfnpeaaGreatZeau
section
set_option linter.unusedVariables false
set_option linter.unusedSimpArgs false
set_option maxRecDepth 100000
set_option maxHeartbeats 2000000
namespace Go.Ab
open Go.RowKit Go.Proofs
def u8s(L:List Int):List (List AV):=L.map fun b=>[.int .u8 b]
@[go_sem] theorem u8s_len(L:List Int):(u8s L).length=L.length:=by simp[u8s]
@[go_sem] theorem u8s_get(L:List Int)(i:Nat):(u8s L)[i]?=L[i]?.map fun b=>[.int .u8 b]:=by simp[u8s]
def mkr(L:List Int)(a:Int):AO:=.box [.sl (u8s L),.int .i64 a]
def zaq(L:List Int)(a n:Int):Int:=match L[a.toNat]? with
 |some b=>b.tmod n
 |none=>0
def zbr(L:List Int):Prop:=∀b∈L,0<=b/\b<256
theorem zar{L:List Int}(hL:zbr L)(a:Int){n:Int}(hn:0<n):0<=zaq L a n/\zaq L a n<n:=by
 unfold zaq
 split
 ·rename_i b hb
  have:=hL b (List.mem_of_getElem? hb);rw[Int.tmod_eq_emod_of_nonneg this.1];exact⟨Int.emod_nonneg _ (by omega),Int.emod_lt_of_pos _ hn⟩
 ·omega
theorem u8s_lt(n:Nat)(L:List Int):∀a∈(u8s L).flatten,Lt n a:=by
 intro x hx;obtain⟨e,he,hx⟩:=List.mem_flatten.1 hx;simp[u8s]at he;obtain⟨b,_,rfl⟩:=he;simp at hx;subst hx;exact .int _ _
@[go_sem] theorem lt_u8s(n:Nat)(L:List Int):(∀a∈(u8s L).flatten,Lt n a)=True:=eq_true (u8s_lt n L)
theorem yi8(n:Nat)(L:List Int)(a:Int):LtO n (mkr L a):=by
 unfold mkr;simp only[ltO_box,go_sem]
@[go_sem] theorem set_get{H:List AO}{id:Nat}{x:AO}(hid:id<H.length):(H.set id x)[id]?=some x:=by simp[hid]
@[go_sem] theorem ztp{H:List AO}{id:Nat}{x y:AO}:(H.set id x).set id y=H.set id y:=by simp
open Classical in
@[go_sem] theorem zse{H:List AO}{r:Res}{id:Nat}{L:List Int}{a:Int}:zez H r (H.set id (mkr L a))=if LtR H.length r then some (r,H.set id (mkr L a)) else none:=z74 (yi8 _ L a)
open Classical in
@[go_sem] theorem fin_box{H:List AO}{r:Res}{id:Nat}{L:List Int}{a:Int}:zez H r (H.set id (.box [.sl (u8s L),.int .i64 a]))=if LtR H.length r then some (r,H.set id (.box [.sl (u8s L),.int .i64 a])) else none:=zse
theorem pick_ok(L:List Int)(hL:zbr L)(hlen:L.length<=140737488355328)(a:Int)(ha:0<=a/\a<=140737488356000)(n:Int)(hn:0<n/\n<1000000)(id:Nat)(H:List AO)(hH:H[id]?=some (mkr L a)):
  F zai [.ptr id 0,.int .i64 n] H=some (.ret (.int .i64 (zaq L a n)),H.set id (mkr L (a+1))):=by
 have hid:id<H.length:=(List.getElem?_eq_some_iff.1 hH).1;have hn0:¬ n=0:=by omega
 unfold mkr at *;rw[zrd];by_cases h:(L.length:Int)<a+1
 ·have:L[a.toNat]?=none:=by rw[List.getElem?_eq_none_iff];omega
  simp only[↓reduceIte,go_sem,hH,zap (n:=a+1) (by omega) (by omega),hid,h,zaq,this]
 ·have hlt:a.toNat<L.length:=by omega
  obtain⟨b,hb⟩:∃b,L[a.toNat]?=some b:=⟨_,List.getElem?_eq_getElem hlt⟩;have hbb:=hL b (List.mem_of_getElem? hb);have hw:IntKind.wrap .i64 (a+1 - 1)=a:=by rw[zap (by omega) (by omega)];omega
  have hw2:IntKind.wrap .i64 b=b:=zap (by omega) (by omega)
  simp only[↓reduceIte,go_sem,hH,zap (n:=a+1) (by omega) (by omega),hid,h,zaq,hb,hw,hw2,ha.1,hn0]
def zao(L:List Int)(p m:Int):Nat->Int->Lv×Int
 |0,a=>(.mk 1 0 [],a)
 |d+1,a=>
  let k0:=zaq L a 10
  let k:=if d=0 then k0.tmod 4 else k0
  if (k=1/\0<p)\/(k=2/\0<p/\m=0) then (.mk 5 (zaq L (a+1) p) [],a+1+1)
  else if (k=2\/k=3)/\0<m then (.mk 6 (zaq L (a+1) m) [],a+1+1)
  else if k<4 then (.mk 1 0 [],a+1)
  else if k<6 then (.mk 2 0 [(zao L p m d (a+1)).1],(zao L p m d (a+1)).2)
  else if k<8 then (.mk 3 0 [(zao L p m d (a+1)).1,(zao L p m d (zao L p m d (a+1)).2).1],(zao L p m d (zao L p m d (a+1)).2).2)
  else (.mk 4 0 [(zao L p m d (a+1)).1,(zao L p m d (zao L p m d (a+1)).2).1],(zao L p m d (zao L p m d (a+1)).2).2)
theorem zdw(L:List Int)(p m:Int):∀(d:Nat) (a:Int),a<=(zao L p m d a).2/\(zao L p m d a).2+1<=a+2 ^ (d+1)
 |0,a=>by simp[zao]
 |d+1,a=>by
  have h1:=zdw L p m d (a+1);have h2:=zdw L p m d (zao L p m d (a+1)).2;have h3:(2:Int) ^ (d+1+1)=2*2 ^ (d+1):=by rw[Int.pow_succ];omega
  have h4:(2:Int) ^ (d+1)=2*2 ^ d:=by rw[Int.pow_succ];omega
  have h5:(0:Int)<2 ^ d:=Int.pow_pos (by decide)
  rw[zao]
  repeat' split
  all_goals (try dsimp only) <;> constructor <;> omega
theorem zbz(L:List Int)(hL:zbr L)(hlen:L.length<=140737488355328)(a:Int)(ha:0<=a/\a<=1000000)(n:Int)(hn:n<1000)(id:Nat)(H:List AO)(hid:id<H.length):
  0<n->F zai [.ptr id 0,.int .i64 n] (H.set id (mkr L a))=some (.ret (.int .i64 (zaq L a n)),H.set id (mkr L (a+1))):=by
 intro h;have:=pick_ok L hL hlen a (by omega) n ⟨h,by omega⟩ id (H.set id (mkr L a)) (set_get hid)
 rwa [ztp]at this
open Classical in
@[go_sem] theorem fin_mkr2{H:List AO}{r:Res}{id:Nat}{y:AO}{L:List Int}{a:Int}:zez (H.set id y) r (H.set id (mkr L a))=if LtR H.length r then some (r,H.set id (mkr L a)) else none:=by
 have:=zse (H:=H.set id y) (r:=r) (id:=id) (L:=L) (a:=a)
 rwa [ztp,List.length_set]at this
theorem zir(L:List Int)(hL:zbr L)(hlen:L.length<=140737488355328)(p m:Int)(hp:0<=p/\p<=100)(hm:0<=m/\m<=100):∀(d:Nat),d<=10->∀(a:Int),0<=a/\a+2 ^ (d+2)<=1000000->∀(id:Nat) (H:List AO),id<H.length ->
  F zae [.ptr id 0,.int .i64 p,.int .i64 m,.int .i64 ((d:Int)+1)] (H.set id (mkr L a))=some (.ret (.agg (zao L p m (d+1) a).1.cs),H.set id (mkr L (zao L p m (d+1) a).2)):=by
 intro d
 induction d with
 |zero=>
  intro hd a ha id H hid;have hP0:=zbz L hL hlen a (by omega) 10 (by omega) id H hid (by omega)
  have hPp:=zbz L hL hlen (a+1) (by omega) p (by omega) id H hid
  have hPm:=zbz L hL hlen (a+1) (by omega) m (by omega) id H hid
  have hk:=zar hL a (n:=10) (by omega)
  rw[zk4,zao];generalize zaq L a 10=k0 at *;have h4:¬ (4:Int)=0:=by decide
  have h5:((0:Nat):Int)+1<2:=by decide
  have h6:k0.tmod 4<4:=by
   rw[Int.tmod_eq_emod_of_nonneg hk.1];exact Int.emod_lt_of_pos _ (by omega)
  generalize hk4:k0.tmod 4=k at *;have hc:k=1\/k=2\/k=3\/(¬ k=1/\¬ k=2/\¬ k=3/\k<4):=by omega
  rcases (show (0<m/\¬ m=0)\/m=0 by omega) with⟨hm0,hm1⟩|rfl <;> by_cases hp0:0<p <;>
   (rcases hc with rfl|rfl|rfl|⟨h1,h2,h3,h7⟩ <;>
    simp only[↓reduceIte,go_sem,hP0,h4,h5,hPp,hPm,hid,List.length_set,or_false,false_or,or_true,true_or,or_self,and_self, *] <;> rfl)
 |succ d ih=>
  intro hd a ha id H hid;have hpw:(2:Int) ^ (d+1+2)=2*2 ^ (d+2):=by rw[Int.pow_succ];omega
  have hpw2:(2:Int) ^ (d+2)=2*2 ^ (d+1):=by rw[Int.pow_succ];omega
  have hpp:(0:Int)<2 ^ (d+1):=Int.pow_pos (by decide)
  have hk:=zar hL a (n:=10) (by omega)
  have h5:¬ ((d+1:Nat):Int)+1<2:=by omega
  have hw:IntKind.wrap .i64 (((d+1:Nat):Int)+1 - 1)=(d:Int)+1:=by rw[zap (by omega) (by omega)];omega
  have at1:=zdw L p m (d+1) (a+1);have hP0:=zbz L hL hlen a (by omega) 10 (by omega) id H hid (by omega)
  have hPp:=zbz L hL hlen (a+1) (by omega) p (by omega) id H hid
  have hPm:=zbz L hL hlen (a+1) (by omega) m (by omega) id H hid
  have hl1:=ih (by omega) (a+1) (by omega) id H hid
  have hl2:=ih (by omega) (zao L p m (d+1) (a+1)).2 (by omega) id H hid
  clear ih;rw[zk4,zao];generalize zaq L a 10=k at *;have hc:k=1\/k=2\/k=3\/(¬ k=1/\¬ k=2/\¬ k=3/\k<4)\/(¬ k=1/\¬ k=2/\¬ k=3/\¬ k<4/\k<6)\/(¬ k=1/\¬ k=2/\¬ k=3/\¬ k<4/\¬ k<6/\k<8)\/(¬ k=1/\¬ k=2/\¬ k=3/\¬ k<4/\¬ k<6/\¬ k<8):=by omega
  rcases (show (0<m/\¬ m=0)\/m=0 by omega) with⟨hm0,hm1⟩|rfl <;> by_cases hp0:0<p <;>
   (rcases hc with rfl|rfl|rfl|⟨h1,h2,h3,h7⟩|⟨h1,h2,h3,h7,h8⟩|⟨h1,h2,h3,h7,h8,h9⟩|⟨h1,h2,h3,h7,h8,h9⟩ <;>
    simp only[↓reduceIte,go_sem,hP0,h5,hPp,hPm,hl1,hl2,hid,hw,List.length_set,or_false,false_or,or_true,true_or,or_self,and_self,Nat.add_eq_zero_iff,Nat.succ_ne_self, *] <;> rfl)
end Go.Ab
end
