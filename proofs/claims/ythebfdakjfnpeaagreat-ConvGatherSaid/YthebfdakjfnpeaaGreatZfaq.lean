/- What the law ConvGather of layer 17 comes to, part 17. Conditions: none. -/
import Derived.Test.YthebfdakjfnpeaaGreatZfan
import Derived.Test.YthebfdakjfnpeaaGreatZfao
import Derived.Test.YthebfdakjfnpeaaGreatZfap
section
set_option linter.unusedVariables false
set_option linter.defProp false
set_option maxRecDepth 100000
namespace Go.Ab
open Go.RowKit Go.Proofs
def yf1(k:FuncId):List (FuncId×Ent)->Option Ent
 |[]=>none
 |(i,e)::r=>if k=i then some e else yf1 k r
noncomputable def tbl:List (FuncId×Ent) :=[(ze6,e5),(zjj,e6),(zg3,e7),(zmr,e8),(zk2,e9),(zih,e11),(zfe,e12),(zff,e13),(ze8,e16),(zks,e17),(zmh,e18),(zof,e19),(zms,e20),(zde,e21),(zin,e22),(zmg,e23),(zk3,e24),(zah,e25),(zkd,e26),(zit,e27),(zig,e32),(zgy,e34),(zrc,e35),(za8,e36),(zgu,e37),(zkt,e38),(zeh,e39),(zmk,e40),(zea,e41),(zfp,e42),(zhd,e43),(zhe,e44),(zke,e45),(zad,e46),(zf1,e47),(zj9,e48),(zje,e49),(zgr,e50),(zc4,e60),(zai,e61),(zax,e62),(zc3,e63),(zov,e64),(zmf,e65),(zkr,e66),(zif,e67),(zik,e68),(zij,e69),(zgd,e70),(zkv,e71),(zja,e72),(zba,e73),(zkm,e74),(zkc,e75),(zfy,e76),(zdi,e77),(zbv,e78),(zj8,e88),(zep,e89),(zbr,e90),(zjd,e91),(zdo,e92),(zb2,e93),(zn3,e94),(zbn,e95),(zb3,e96),(zbs,e97),(zcc,e98),(zcu,e99),(zml,e100),(zkb,e101),(zjc,e102),(zfd,e103),(zii,e104),(zjb,e105),(zkw,e106),(zb4,e107),(zg2,e108),(zc9,e109),(zcp,e110),(zkk,e111),(zg0,e112),(zim,e113),(zil,e114),(zdn,e115),(zeo,e119),(zia,e120),(zfn,e121),(zak,e122),(zic,e123),(zct,e124),(za4,e125),(zbb,e126),(zdh,e127),(zbk,e128),(zlj,e129),(zl8,e130),(zl9,e131),(zdk,e132),(zka,e133),(zmj,e134),(zku,e135),(zmi,e136),(zdm,e137),(zo1,e138),(zn2,e139),(zk0,e140),(zhf,e141),(zkz,e142),(zcz,e145),(zma,e146),(zqg,e147),(zkl,e148),(zib,e149),(zfz,e150),(zl7,e151),(zh9,e152),(zhl,e153),(zhk,e154),(zhj,e155),(zhi,e156),(zrx,e157),(zhh,e158),(zhg,e159),(zid,e160),(zc1,e161),(zo0,e162),(zd5,e163),(zkj,e164),(zgs,e165),(za9,e166),(zcy,e167),(zer,e168),(zqy,e169),(zu1,e170),(zjl,e171),(zbq,e172),(zck,e173),(zkp,e174),(zll,e175),(zmo,e176),(zmp,e177),(zk1,e178),(zft,e179),(znk,e180),(za2,e181),(zav,e182),(zkg,e183),(zn5,e184),(zko,e185),(zg7,e186),(zho,e187),(zfu,e188),(zee,e189),(zg5,e190),(zby,e191),(zkf,e192),(zqj,e193),(zcn,e194),(zaw,.ext (zvs 1)),(zoh,e196),(zb9,e197),(zco,e198),(zg4,e199),(zd9,e200),(zb1,e201),(zeq,e202),(zf0,e203),(ze5,e204),(zoi,e205),(zky,e206),(zfq,e207),(zio,e208),(zdy,e209),(za2+1000000,e210),(zbq+1000000,e211),(zaw+1000000,.alx (zs1 1)),(zb9+1000000,e213),(zg7+1000000,e214),(zfu+1000000,e215),(zft+1000000,e216),(zcn+1000000,e217),(zfd+1000000,e218)]
noncomputable def T:Tab:=fun k=>yf1 k tbl
noncomputable abbrev F(k:FuncId)(vs:List AV)(H:List AO):Option RH:=fnF T k vs H
noncomputable abbrev FK(k:FuncId)(vs:List AV)(H:List AO):Option RH:=fkF T k vs H
theorem ff{k:FuncId}{c:FC}{nt:Nat}{rs:List RS}{vs:List AV}(hk:T k=some (.code c nt rs))(hl:Nat.ble vs.length nt=true)(H:List AO):F k vs H=aw T c (zan H rs) ⟨⟨nt,ini 0 vs⟩,[],H,[]⟩:=yho hk (Nat.le_of_ble_eq_true hl) H
theorem ffK{k:FuncId}{c:FC}{nt:Nat}{rs:List RS}{vs:List AV}(hk:T k=some (.code c nt rs true))(hl:Nat.ble vs.length nt=true)(H:List AO):F k vs H=aw T c (zis H rs) ⟨⟨nt,ini 0 vs⟩,[],H,[]⟩:=ydh hk (Nat.le_of_ble_eq_true hl) H
theorem ffA{k:FuncId}{c:FC}{nt:Nat}{rs:List RS}{vs:List AV}(hk:T (k+1000000)=some (.ali c nt rs))(hl:Nat.ble vs.length nt=true)(H:List AO):FK k vs H=aw T c (zis H rs) ⟨⟨nt,ini 0 vs⟩,[],H,[]⟩:=yhq hk (Nat.le_of_ble_eq_true hl) H
def TOk:List (FuncId×Ent)->Prop
 |[]=>True
 |(i,e)::r=>zae Tryz.prog i e/\TOk r
theorem z51{k:FuncId}{e:Ent}:∀{l:List (FuncId×Ent)},TOk l->yf1 k l=some e->zae Tryz.prog k e
 |[],_,h=>by cases h
 |(i,x)::r,hl,h=>by
  unfold yf1 at h
  split at h
  ·rename_i hk;cases h;subst hk;exact hl.1
  ·exact z51 hl.2 h
theorem tblOk:TOk tbl:=⟨k5,k6,k7,k8,k9,k11,k12,k13,k16,k17,k18,k19,k20,k21,k22,k23,k24,k25,k26,k27,k32,k34,k35,k36,k37,k38,k39,k40,k41,k42,k43,k44,k45,k46,k47,k48,k49,k50,k60,k61,k62,k63,k64,k65,k66,k67,k68,k69,k70,k71,k72,k73,k74,k75,k76,k77,k78,k88,k89,k90,k91,k92,k93,k94,k95,k96,k97,k98,k99,k100,k101,k102,k103,k104,k105,k106,k107,k108,k109,k110,k111,k112,k113,k114,k115,k119,k120,k121,k122,k123,k124,k125,k126,k127,k128,k129,k130,k131,k132,k133,k134,k135,k136,k137,k138,k139,k140,k141,k142,k145,k146,k147,k148,k149,k150,k151,k152,k153,k154,k155,k156,k157,k158,k159,k160,k161,k162,k163,k164,k165,k166,k167,k168,k169,k170,k171,k172,k173,k174,k175,k176,k177,k178,k179,k180,k181,k182,k183,k184,k185,k186,k187,k188,k189,k190,k191,k192,k193,k194,k195,k196,k197,k198,k199,k200,k201,k202,k203,k204,k205,k206,k207,k208,k209,k210,k211,k212,k213,k214,k215,k216,k217,k218,trivial⟩
theorem F_ok{k:FuncId}{vs:List AV}{H:List AO}{r:Res}{H':List AO}(h:F k vs H=some (r,H')):zoz Tryz.prog k vs H fun q h=>q=r/\h=H':=fnF_ok zx3 (fun _ _ h=>z51 tblOk h) h
end Go.Ab
end
