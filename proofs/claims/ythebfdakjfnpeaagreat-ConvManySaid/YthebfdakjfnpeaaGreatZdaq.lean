/- What the law ConvMany of layer 17 comes to, part 17. Conditions: none. -/
import Derived.Test.YthebfdakjfnpeaaGreatZdan
import Derived.Test.YthebfdakjfnpeaaGreatZdao
import Derived.Test.YthebfdakjfnpeaaGreatZdap
section
set_option linter.unusedVariables false
set_option linter.defProp false
set_option maxRecDepth 100000
namespace Go.Ab
open Go.RowKit Go.Proofs
def yfy(k:FuncId):List (FuncId×Ent)->Option Ent
 |[]=>none
 |(i,e)::r=>if k=i then some e else yfy k r
noncomputable def tbl:List (FuncId×Ent) :=[(zgn,e3),(zll,e9),(zkx,e10),(ziu,e11),(zfd,e12),(zf7,e13),(zi1,e14),(zfy,e16),(zex,e17),(zm2,e18),(zm1,e23),(zhm,e27),(zkq,e28),(zgk,e29),(ziq,e30),(zla,e31),(zec,e32),(zav,e33),(zhb,e34),(zrz,e35),(za8,e36),(zg6,e37),(zg8,e38),(zcj,e39),(zm5,e40),(zd5,e41),(zfr,e42),(zhp,e43),(zhq,e44),(zit,e48),(zjq,e49),(zg3,e50),(zoq,e51),(za6,e52),(zhd,e53),(zmy,e54),(za7,e55),(zbp,e56),(zkt,e57),(zc4,e58),(zor,e59),(zcw,e60),(zai,e61),(zaw,e62),(zcv,e63),(zpf,e64),(zm0,e65),(zlb,e66),(zg7,e67),(ziy,e68),(zix,e69),(zgl,e70),(zld,e71),(zjm,e72),(zk4,e74),(zkw,e75),(zf1,e76),(zdd,e77),(zbo,e78),(zdo,e79),(zcu,e80),(zen,e81),(zir,e82),(zks,e83),(zbv,e84),(zkr,e85),(zis,e86),(zmz,e87),(zkp,e88),(zek,e89),(zbj,e90),(zjp,e91),(zdj,e92),(zbw,e93),(zok,e94),(zbg,e95),(zbx,e96),(zbk,e97),(zb6,e98),(zcn,e99),(zm7,e100),(zkv,e101),(zjo,e102),(zfc,e103),(ziv,e104),(zjn,e105),(zle,e106),(zby,e107),(zhg,e108),(zc2,e109),(zch,e110),(zk2,e111),(zhe,e112),(zi0,e113),(ziz,e114),(zdi,e115),(zd4,e116),(zhc,e117),(zos,e118),(zej,e119),(zik,e120),(zfo,e121),(zak,e122),(zim,e123),(zcm,e124),(za2,e125),(zba,e126),(zdc,e127),(zbe,e128),(zl2,e129),(zmr,e130),(zms,e131),(zdf,e132),(zku,e133),(zm4,e134),(zlc,e135),(zm3,e136),(zdh,e137),(zpo,e138),(zoj,e139),(zlj,e140),(zhr,e141),(zli,e142),(ziw,e143),(zm6,e144),(zcr,e145),(zmt,e146),(zq3,e147),(zk3,e148),(zil,e149),(zf2,e150),(zmq,e151),(zij,e152),(zhx,e153),(zhw,e154),(zhv,e155),(zhu,e156),(zso,e157),(zht,e158),(zhs,e159),(zin,e160),(zcs,e161),(zpn,e162),(zdy,e163),(zk1,e164),(zg4,e165),(za9,e166),(zcq,e167),(zem,e168),(zrn,e169),(zve,e170),(zjv,e171),(zbi,e172),(zce,e173),(zk7,e174),(zl5,e175),(zm9,e176),(zna,e177),(zlk,e178),(zfv,e179),(zn1,e180),(zaz,e181),(zat,e182),(zkz,e183),(zom,e184),(zk6,e185),(zhk,e186),(zhz,e187),(zfw,e188),(zd9,e189),(zhi,e190),(zbr,e191),(zky,e192),(zq6,e193),(zcf,e194),(zau,.ext (zv4 1)),(zo1,e196),(zb4,e197),(zcg,e198),(zhh,e199),(zd3,e200),(zbu,e201),(zel,e202),(zf5,e203),(ze2,e204),(zo2,e205),(zlh,e206),(zfs,e207),(zi2,e208),(zds,e209),(zaz+1000000,e210),(zbi+1000000,e211),(zau+1000000,.alx (ztj 1)),(zb4+1000000,e213),(zhk+1000000,e214),(zfw+1000000,e215),(zfv+1000000,e216),(zcf+1000000,e217),(zfc+1000000,e218)]
noncomputable def T:Tab:=fun k=>yfy k tbl
noncomputable abbrev F(k:FuncId)(vs:List AV)(H:List AO):Option RH:=fnF T k vs H
noncomputable abbrev FK(k:FuncId)(vs:List AV)(H:List AO):Option RH:=fkF T k vs H
theorem ff{k:FuncId}{c:FC}{nt:Nat}{rs:List RS}{vs:List AV}(hk:T k=some (.code c nt rs))(hl:Nat.ble vs.length nt=true)(H:List AO):F k vs H=aw T c (zah H rs) ⟨⟨nt,ini 0 vs⟩,[],H,[]⟩:=yhl hk (Nat.le_of_ble_eq_true hl) H
theorem ffK{k:FuncId}{c:FC}{nt:Nat}{rs:List RS}{vs:List AV}(hk:T k=some (.code c nt rs true))(hl:Nat.ble vs.length nt=true)(H:List AO):F k vs H=aw T c (zi5 H rs) ⟨⟨nt,ini 0 vs⟩,[],H,[]⟩:=ydj hk (Nat.le_of_ble_eq_true hl) H
theorem ffA{k:FuncId}{c:FC}{nt:Nat}{rs:List RS}{vs:List AV}(hk:T (k+1000000)=some (.ali c nt rs))(hl:Nat.ble vs.length nt=true)(H:List AO):FK k vs H=aw T c (zi5 H rs) ⟨⟨nt,ini 0 vs⟩,[],H,[]⟩:=yhm hk (Nat.le_of_ble_eq_true hl) H
def TOk:List (FuncId×Ent)->Prop
 |[]=>True
 |(i,e)::r=>zae Tryz.prog i e/\TOk r
theorem z59{k:FuncId}{e:Ent}:∀{l:List (FuncId×Ent)},TOk l->yfy k l=some e->zae Tryz.prog k e
 |[],_,h=>by cases h
 |(i,x)::r,hl,h=>by
  unfold yfy at h
  split at h
  ·rename_i hk;cases h;subst hk;exact hl.1
  ·exact z59 hl.2 h
theorem tblOk:TOk tbl:=⟨k3,k9,k10,k11,k12,k13,k14,k16,k17,k18,k23,k27,k28,k29,k30,k31,k32,k33,k34,k35,k36,k37,k38,k39,k40,k41,k42,k43,k44,k48,k49,k50,k51,k52,k53,k54,k55,k56,k57,k58,k59,k60,k61,k62,k63,k64,k65,k66,k67,k68,k69,k70,k71,k72,k74,k75,k76,k77,k78,k79,k80,k81,k82,k83,k84,k85,k86,k87,k88,k89,k90,k91,k92,k93,k94,k95,k96,k97,k98,k99,k100,k101,k102,k103,k104,k105,k106,k107,k108,k109,k110,k111,k112,k113,k114,k115,k116,k117,k118,k119,k120,k121,k122,k123,k124,k125,k126,k127,k128,k129,k130,k131,k132,k133,k134,k135,k136,k137,k138,k139,k140,k141,k142,k143,k144,k145,k146,k147,k148,k149,k150,k151,k152,k153,k154,k155,k156,k157,k158,k159,k160,k161,k162,k163,k164,k165,k166,k167,k168,k169,k170,k171,k172,k173,k174,k175,k176,k177,k178,k179,k180,k181,k182,k183,k184,k185,k186,k187,k188,k189,k190,k191,k192,k193,k194,k195,k196,k197,k198,k199,k200,k201,k202,k203,k204,k205,k206,k207,k208,k209,k210,k211,k212,k213,k214,k215,k216,k217,k218,trivial⟩
theorem F_ok{k:FuncId}{vs:List AV}{H:List AO}{r:Res}{H':List AO}(h:F k vs H=some (r,H')):zpl Tryz.prog k vs H fun q h=>q=r/\h=H':=fnF_ok zya (fun _ _ h=>z59 tblOk h) h
end Go.Ab
end
