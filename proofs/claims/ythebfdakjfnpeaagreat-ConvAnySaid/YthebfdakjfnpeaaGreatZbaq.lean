/- What the law ConvAny of layer 17 comes to, part 17. Conditions: none. -/
import Derived.Test.YthebfdakjfnpeaaGreatZban
import Derived.Test.YthebfdakjfnpeaaGreatZbao
import Derived.Test.YthebfdakjfnpeaaGreatZbap
section
set_option linter.unusedVariables false
set_option linter.defProp false
set_option maxRecDepth 100000
namespace Go.Ab
open Go.RowKit Go.Proofs
def ygk(k:FuncId):List (FuncId×Ent)->Option Ent
 |[]=>none
 |(i,e)::r=>if k=i then some e else ygk k r
noncomputable def tbl:List (FuncId×Ent) :=[(zhv,e1),(zli,e9),(znb,e10),(zed,e11),(zku,e12),(zfx,e16),(zez,e17),(zm0,e18),(zmz,e23),(zhj,e27),(zkn,e28),(zgi,e29),(zin,e30),(zk7,e31),(zec,e32),(zav,e33),(zg8,e34),(zr3,e35),(za8,e36),(zg3,e37),(zg5,e38),(zcj,e39),(zm3,e40),(zd5,e41),(zfq,e42),(zhm,e43),(zhn,e44),(zir,e48),(zjm,e49),(zg0,e50),(zor,e51),(za6,e52),(zha,e53),(zmw,e54),(za7,e55),(zbp,e56),(zkq,e57),(zc4,e58),(zos,e59),(zcw,e60),(zai,e61),(zaw,e62),(zcv,e63),(zpg,e64),(zmy,e65),(zk8,e66),(zg4,e67),(ziv,e68),(ziu,e69),(zgj,e70),(zla,e71),(zji,e72),(zk1,e74),(zkt,e75),(zf0,e76),(zdd,e77),(zbo,e78),(zdo,e79),(zcu,e80),(zeo,e81),(zio,e82),(zkp,e83),(zbv,e84),(zko,e85),(ziq,e86),(zmx,e87),(zkm,e88),(zel,e89),(zbj,e90),(zjl,e91),(zdj,e92),(zbw,e93),(zok,e94),(zbg,e95),(zbx,e96),(zbk,e97),(zb6,e98),(zcn,e99),(zm5,e100),(zks,e101),(zjk,e102),(zfe,e103),(zis,e104),(zjj,e105),(zlb,e106),(zby,e107),(zhd,e108),(zc2,e109),(zch,e110),(zkz,e111),(zhb,e112),(zix,e113),(ziw,e114),(zdi,e115),(zd4,e116),(zg9,e117),(zot,e118),(zek,e119),(zii,e120),(zfn,e121),(zak,e122),(zik,e123),(zcm,e124),(za2,e125),(zba,e126),(zdc,e127),(zbe,e128),(zlz,e129),(zmp,e130),(zmq,e131),(zdf,e132),(zkr,e133),(zm2,e134),(zk9,e135),(zm1,e136),(zdh,e137),(zpn,e138),(zoj,e139),(zlg,e140),(zho,e141),(zlf,e142),(zit,e143),(zm4,e144),(zcr,e145),(zmr,e146),(zq7,e147),(zk0,e148),(zij,e149),(zf1,e150),(zmo,e151),(zih,e152),(zhu,e153),(zht,e154),(zhs,e155),(zhr,e156),(zsv,e157),(zhq,e158),(zhp,e159),(zil,e160),(zcs,e161),(zpm,e162),(zdy,e163),(zky,e164),(zg1,e165),(za9,e166),(zcq,e167),(zen,e168),(zrr,e169),(zvm,e170),(zjr,e171),(zbi,e172),(zce,e173),(zk4,e174),(zl2,e175),(zm8,e176),(zm9,e177),(zlh,e178),(zfu,e179),(zn1,e180),(zaz,e181),(zat,e182),(zkw,e183),(zom,e184),(zk3,e185),(zhh,e186),(zhx,e187),(zfv,e188),(zd9,e189),(zhf,e190),(zbr,e191),(zkv,e192),(zra,e193),(zcf,e194),(zau,.ext (zwe 1)),(zo2,e196),(zb4,e197),(zcg,e198),(zhe,e199),(zd3,e200),(zbu,e201),(zem,e202),(zf4,e203),(ze4,e204),(zo3,e205),(zle,e206),(zfr,e207),(ziy,e208),(zds,e209),(zaz+1000000,e210),(zbi+1000000,e211),(zau+1000000,.alx (ztq 1)),(zb4+1000000,e213),(zhh+1000000,e214),(zfv+1000000,e215),(zfu+1000000,e216),(zcf+1000000,e217),(zfe+1000000,e218)]
noncomputable def T:Tab:=fun k=>ygk k tbl
noncomputable abbrev F(k:FuncId)(vs:List AV)(H:List AO):Option RH:=fnF T k vs H
noncomputable abbrev FK(k:FuncId)(vs:List AV)(H:List AO):Option RH:=fkF T k vs H
theorem ff{k:FuncId}{c:FC}{nt:Nat}{rs:List RS}{vs:List AV}(hk:T k=some (.code c nt rs))(hl:Nat.ble vs.length nt=true)(H:List AO):F k vs H=aw T c (zah H rs) ⟨⟨nt,ini 0 vs⟩,[],H,[]⟩:=yh9 hk (Nat.le_of_ble_eq_true hl) H
theorem ffK{k:FuncId}{c:FC}{nt:Nat}{rs:List RS}{vs:List AV}(hk:T k=some (.code c nt rs true))(hl:Nat.ble vs.length nt=true)(H:List AO):F k vs H=aw T c (zi1 H rs) ⟨⟨nt,ini 0 vs⟩,[],H,[]⟩:=yd5 hk (Nat.le_of_ble_eq_true hl) H
theorem ffA{k:FuncId}{c:FC}{nt:Nat}{rs:List RS}{vs:List AV}(hk:T (k+1000000)=some (.ali c nt rs))(hl:Nat.ble vs.length nt=true)(H:List AO):FK k vs H=aw T c (zi1 H rs) ⟨⟨nt,ini 0 vs⟩,[],H,[]⟩:=yib hk (Nat.le_of_ble_eq_true hl) H
def TOk:List (FuncId×Ent)->Prop
 |[]=>True
 |(i,e)::r=>zae Tryz.prog i e/\TOk r
theorem z6q{k:FuncId}{e:Ent}:∀{l:List (FuncId×Ent)},TOk l->ygk k l=some e->zae Tryz.prog k e
 |[],_,h=>by cases h
 |(i,x)::r,hl,h=>by
  unfold ygk at h
  split at h
  ·rename_i hk;cases h;subst hk;exact hl.1
  ·exact z6q hl.2 h
theorem tblOk:TOk tbl:=⟨k1,k9,k10,k11,k12,k16,k17,k18,k23,k27,k28,k29,k30,k31,k32,k33,k34,k35,k36,k37,k38,k39,k40,k41,k42,k43,k44,k48,k49,k50,k51,k52,k53,k54,k55,k56,k57,k58,k59,k60,k61,k62,k63,k64,k65,k66,k67,k68,k69,k70,k71,k72,k74,k75,k76,k77,k78,k79,k80,k81,k82,k83,k84,k85,k86,k87,k88,k89,k90,k91,k92,k93,k94,k95,k96,k97,k98,k99,k100,k101,k102,k103,k104,k105,k106,k107,k108,k109,k110,k111,k112,k113,k114,k115,k116,k117,k118,k119,k120,k121,k122,k123,k124,k125,k126,k127,k128,k129,k130,k131,k132,k133,k134,k135,k136,k137,k138,k139,k140,k141,k142,k143,k144,k145,k146,k147,k148,k149,k150,k151,k152,k153,k154,k155,k156,k157,k158,k159,k160,k161,k162,k163,k164,k165,k166,k167,k168,k169,k170,k171,k172,k173,k174,k175,k176,k177,k178,k179,k180,k181,k182,k183,k184,k185,k186,k187,k188,k189,k190,k191,k192,k193,k194,k195,k196,k197,k198,k199,k200,k201,k202,k203,k204,k205,k206,k207,k208,k209,k210,k211,k212,k213,k214,k215,k216,k217,k218,trivial⟩
theorem F_ok{k:FuncId}{vs:List AV}{H:List AO}{r:Res}{H':List AO}(h:F k vs H=some (r,H')):zpl Tryz.prog k vs H fun q h=>q=r/\h=H':=fnF_ok zyo (fun _ _ h=>z6q tblOk h) h
end Go.Ab
end
