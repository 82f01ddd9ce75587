/- What the law ConvMade of layer 17 comes to, part 17. Conditions: none. -/
import Derived.Test.YthebfdakjfnpeaaGreatZaan
import Derived.Test.YthebfdakjfnpeaaGreatZaao
import Derived.Test.YthebfdakjfnpeaaGreatZaap
section
set_option linter.unusedVariables false
set_option linter.defProp false
set_option maxRecDepth 100000
namespace Go.Ab
open Go.RowKit Go.Proofs
def yi8(k:FuncId):List (FuncId×Ent)->Option Ent
 |[]=>none
 |(i,e)::r=>if k=i then some e else yi8 k r
noncomputable def tbl:List (FuncId×Ent) :=[(zhe,e0),(zkx,e6),(zh9,e7),(zok,e8),(zmr,e9),(zjy,e10),(zjr,e11),(zf4,e12),(zf5,e13),(zgp,e16),(zfn,e17),(zoa,e18),(zqc,e19),(zol,e20),(zdr,e21),(zjz,e22),(zly,e23),(zms,e24),(zaj,e25),(zl2,e26),(zif,e27),(zlu,e28),(zhb,e29),(zjn,e30),(zmg,e31),(zez,e32),(za1,e33),(zh3,e34),(zto,e35),(zbe,e36),(zhy,e37),(zh0,e38),(zc0,e39),(zod,e40),(zer,e41),(zgi,e42),(zij,e43),(zik,e44),(zl3,e45),(zaf,e46),(zgw,e47),(zjq,e48),(zks,e49),(zhv,e50),(zp3,e51),(zbc,e52),(zh5,e53),(zn7,e54),(zbd,e55),(zb2,e56),(zlx,e57),(zdl,e58),(zp4,e59),(zdd,e60),(zak,e61),(za2,e62),(zdc,e63),(zqt,e64),(zn9,e65),(zmh,e66),(zhz,e67),(zjv,e68),(zju,e69),(zhc,e70),(zmj,e71),(zko,e72),(zbg,e73),(zma,e74),(zl1,e75),(zgs,e76),(zdv,e77),(zb1,e78),(zd8,e79),(zdb,e80),(zfc,e81),(zjo,e82),(zlw,e83),(zb9,e84),(zlv,e85),(zjp,e86),(zn8,e87),(zlt,e88),(ze9,e89),(zbw,e90),(zkr,e91),(zd1,e92),(zca,e93),(zpx,e94),(zbs,e95),(zcb,e96),(zbx,e97),(zck,e98),(zc4,e99),(zof,e100),(zl0,e101),(zkq,e102),(zf3,e103),(zjs,e104),(zkp,e105),(zmk,e106),(zcc,e107),(zh8,e108),(zdj,e109),(zcy,e110),(zl8,e111),(zh6,e112),(zjx,e113),(zjw,e114),(zd0,e115),(zeq,e116),(zh4,e117),(zp5,e118),(ze8,e119),(zji,e120),(zgf,e121),(zan,e122),(zjk,e123),(zc3,e124),(za8,e125),(zbh,e126),(zdu,e127),(zbp,e128),(zna,e129),(zn0,e130),(zn1,e131),(zdx,e132),(zlz,e133),(zoc,e134),(zmi,e135),(zob,e136),(zdz,e137),(zq1,e138),(zpw,e139),(zmp,e140),(zil,e141),(zmo,e142),(zjt,e143),(zoe,e144),(zc8,e145),(zn2,e146),(zsq,e147),(zl9,e148),(zjj,e149),(zgt,e150),(znz,e151),(zjh,e152),(zis,e153),(zir,e154),(ziq,e155),(zio,e156),(zub,e157),(zin,e158),(zim,e159),(zjl,e160),(zc9,e161),(zq0,e162),(zek,e163),(zl7,e164),(zhw,e165),(zbf,e166),(zc7,e167),(zfb,e168),(zta,e169),(zxe,e170),(zkz,e171),(zbv,e172),(zct,e173),(zmd,e174),(znc,e175),(zoh,e176),(zoi,e177),(zmq,e178),(zgm,e179),(zpe,e180),(za5,e181),(zay,e182),(zl5,e183),(zpz,e184),(zmc,e185),(zid,e186),(ziv,e187),(zgn,e188),(zew,e189),(zib,e190),(zb5,e191),(zl4,e192),(zst,e193),(zcw,e194),(za0,.ext (zx7 1)),(zqe,e196),(zci,e197),(zcx,e198),(zia,e199),(zep,e200),(zb8,e201),(zfa,e202),(zgv,e203),(zfs,e204),(zqf,e205),(zmn,e206),(zgj,e207),(zj0,e208),(zec,e209),(za5+1000000,e210),(zbv+1000000,e211),(za0+1000000,.alx (zva 1)),(zci+1000000,e213),(zid+1000000,e214),(zgn+1000000,e215),(zgm+1000000,e216),(zcw+1000000,e217),(zf3+1000000,e218)]
noncomputable def T:Tab:=fun k=>yi8 k tbl
noncomputable abbrev F(k:FuncId)(vs:List AV)(H:List AO):Option RH:=fnF T k vs H
noncomputable abbrev FK(k:FuncId)(vs:List AV)(H:List AO):Option RH:=fkF T k vs H
theorem ff{k:FuncId}{c:FC}{nt:Nat}{rs:List RS}{vs:List AV}(hk:T k=some (.code c nt rs))(hl:Nat.ble vs.length nt=true)(H:List AO):F k vs H=aw T c (zah H rs) ⟨⟨nt,ini 0 vs⟩,[],H,[]⟩:=yk1 hk (Nat.le_of_ble_eq_true hl) H
theorem ffK{k:FuncId}{c:FC}{nt:Nat}{rs:List RS}{vs:List AV}(hk:T k=some (.code c nt rs true))(hl:Nat.ble vs.length nt=true)(H:List AO):F k vs H=aw T c (zj3 H rs) ⟨⟨nt,ini 0 vs⟩,[],H,[]⟩:=ygq hk (Nat.le_of_ble_eq_true hl) H
theorem ffA{k:FuncId}{c:FC}{nt:Nat}{rs:List RS}{vs:List AV}(hk:T (k+1000000)=some (.ali c nt rs))(hl:Nat.ble vs.length nt=true)(H:List AO):FK k vs H=aw T c (zj3 H rs) ⟨⟨nt,ini 0 vs⟩,[],H,[]⟩:=yk3 hk (Nat.le_of_ble_eq_true hl) H
def TOk:List (FuncId×Ent)->Prop
 |[]=>True
 |(i,e)::r=>zad Tryz.prog i e/\TOk r
theorem z8w{k:FuncId}{e:Ent}:∀{l:List (FuncId×Ent)},TOk l->yi8 k l=some e->zad Tryz.prog k e
 |[],_,h=>by cases h
 |(i,x)::r,hl,h=>by
  unfold yi8 at h
  split at h
  ·rename_i hk;cases h;subst hk;exact hl.1
  ·exact z8w hl.2 h
theorem tblOk:TOk tbl:=⟨k0,k6,k7,k8,k9,k10,k11,k12,k13,k16,k17,k18,k19,k20,k21,k22,k23,k24,k25,k26,k27,k28,k29,k30,k31,k32,k33,k34,k35,k36,k37,k38,k39,k40,k41,k42,k43,k44,k45,k46,k47,k48,k49,k50,k51,k52,k53,k54,k55,k56,k57,k58,k59,k60,k61,k62,k63,k64,k65,k66,k67,k68,k69,k70,k71,k72,k73,k74,k75,k76,k77,k78,k79,k80,k81,k82,k83,k84,k85,k86,k87,k88,k89,k90,k91,k92,k93,k94,k95,k96,k97,k98,k99,k100,k101,k102,k103,k104,k105,k106,k107,k108,k109,k110,k111,k112,k113,k114,k115,k116,k117,k118,k119,k120,k121,k122,k123,k124,k125,k126,k127,k128,k129,k130,k131,k132,k133,k134,k135,k136,k137,k138,k139,k140,k141,k142,k143,k144,k145,k146,k147,k148,k149,k150,k151,k152,k153,k154,k155,k156,k157,k158,k159,k160,k161,k162,k163,k164,k165,k166,k167,k168,k169,k170,k171,k172,k173,k174,k175,k176,k177,k178,k179,k180,k181,k182,k183,k184,k185,k186,k187,k188,k189,k190,k191,k192,k193,k194,k195,k196,k197,k198,k199,k200,k201,k202,k203,k204,k205,k206,k207,k208,k209,k210,k211,k212,k213,k214,k215,k216,k217,k218,trivial⟩
theorem F_ok{k:FuncId}{vs:List AV}{H:List AO}{r:Res}{H':List AO}(h:F k vs H=some (r,H')):zqz Tryz.prog k vs H fun q h=>q=r/\h=H':=fnF_ok z0l (fun _ _ h=>z8w tblOk h) h
end Go.Ab
end
