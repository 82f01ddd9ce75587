/- What the law ConvSelf of layer 17 comes to, part 17. Conditions: none. -/
import Derived.Test.YthebfdakjfnpeaaGreatZean
import Derived.Test.YthebfdakjfnpeaaGreatZeao
import Derived.Test.YthebfdakjfnpeaaGreatZeap
section
set_option linter.unusedVariables false
set_option linter.defProp false
set_option maxRecDepth 100000
namespace Go.Ab
open Go.RowKit Go.Proofs
def ye1(k:FuncId):List (FuncId×Ent)->Option Ent
 |[]=>none
 |(i,e)::r=>if k=i then some e else ye1 k r
noncomputable def tbl:List (FuncId×Ent) :=[(zgd,e4),(zjb,e6),(zgz,e7),(zmm,e8),(zky,e9),(zic,e11),(zfi,e12),(zfj,e13),(zgv,e15),(zd4,e16),(zfu,e17),(zog,e19),(zmn,e20),(zdk,e21),(zii,e22),(zmf,e23),(zkz,e24),(zai,e25),(zj8,e26),(zil,e27),(zko,e31),(zdm,e32),(za2,e33),(zgt,e34),(zrf,e35),(za9,e36),(zgq,e37),(zkq,e38),(zd3,e39),(zj9,e45),(zae,e46),(zf6,e47),(zib,e48),(zi6,e49),(zgn,e50),(zj6,e53),(zmc,e54),(zcu,e55),(zc7,e56),(zj5,e57),(zdh,e58),(zn9,e59),(zda,e60),(zaj,e61),(zaw,e62),(zc8,e63),(zow,e64),(zme,e65),(zkp,e66),(zgr,e67),(zif,e68),(zie,e69),(zbb,e73),(zki,e74),(zj7,e75),(zf2,e76),(zdo,e77),(zby,e78),(zh9,e82),(zj4,e83),(zeg,e84),(zj3,e85),(zia,e86),(zmd,e87),(zj2,e88),(zev,e89),(zbt,e90),(zi5,e91),(zdu,e92),(zb5,e93),(zn3,e94),(zbp,e95),(zb6,e96),(zbu,e97),(zcf,e98),(zcz,e99),(zmh,e100),(zb7,e107),(zgy,e108),(zdf,e109),(zcs,e110),(zkg,e111),(zgx,e112),(zih,e113),(zig,e114),(zdt,e115),(zgw,e117),(zoa,e118),(zeu,e119),(zh4,e120),(zfs,e121),(zal,e122),(zh6,e123),(zcy,e124),(za3,e125),(zbc,e126),(zdn,e127),(zbl,e128),(zlf,e129),(zl5,e130),(zl6,e131),(zdq,e132),(zds,e137),(zo2,e138),(zn2,e139),(zkw,e140),(zg8,e141),(zkv,e142),(zid,e143),(zmg,e144),(zc4,e145),(zl7,e146),(zqj,e147),(zkh,e148),(zh5,e149),(zf3,e150),(zl4,e151),(zh3,e152),(zhe,e153),(zhd,e154),(zhc,e155),(zhb,e156),(zr4,e157),(zha,e158),(zg9,e159),(zh7,e160),(zc5,e161),(zo1,e162),(zec,e163),(zkf,e164),(zgo,e165),(zba,e166),(zc3,e167),(zex,e168),(zq1,e169),(zu1,e170),(zjd,e171),(zbs,e172),(zcn,e173),(zkl,e174),(zlh,e175),(zmj,e176),(zmk,e177),(zkx,e178),(zfx,e179),(znh,e180),(za0,e181),(zau,e182),(zkb,e183),(zn5,e184),(zkk,e185),(zg3,e186),(zhi,e187),(zfy,e188),(zek,e189),(zg1,e190),(zb1,e191),(zka,e192),(zqn,e193),(zcq,e194),(zav,.ext (zvq 1)),(zoi,e196),(zcd,e197),(zcr,e198),(zg0,e199),(zef,e200),(zb4,e201),(zew,e202),(zf5,e203),(ze8,e204),(zoj,e205),(zku,e206),(zfv,e207),(zij,e208),(zd2,e209),(za0+1000000,e210),(zbs+1000000,e211),(zav+1000000,.alx (zs1 1)),(zcd+1000000,e213),(zg3+1000000,e214),(zfy+1000000,e215),(zfx+1000000,e216),(zcq+1000000,e217)]
noncomputable def T:Tab:=fun k=>ye1 k tbl
noncomputable abbrev F(k:FuncId)(vs:List AV)(H:List AO):Option RH:=fnF T k vs H
noncomputable abbrev FK(k:FuncId)(vs:List AV)(H:List AO):Option RH:=fkF T k vs H
theorem ff{k:FuncId}{c:FC}{nt:Nat}{rs:List RS}{vs:List AV}(hk:T k=some (.code c nt rs))(hl:Nat.ble vs.length nt=true)(H:List AO):F k vs H=aw T c (zam H rs) ⟨⟨nt,ini 0 vs⟩,[],H,[]⟩:=ygs hk (Nat.le_of_ble_eq_true hl) H
theorem ffK{k:FuncId}{c:FC}{nt:Nat}{rs:List RS}{vs:List AV}(hk:T k=some (.code c nt rs true))(hl:Nat.ble vs.length nt=true)(H:List AO):F k vs H=aw T c (zjn H rs) ⟨⟨nt,ini 0 vs⟩,[],H,[]⟩:=ycm hk (Nat.le_of_ble_eq_true hl) H
theorem ffA{k:FuncId}{c:FC}{nt:Nat}{rs:List RS}{vs:List AV}(hk:T (k+1000000)=some (.ali c nt rs))(hl:Nat.ble vs.length nt=true)(H:List AO):FK k vs H=aw T c (zjn H rs) ⟨⟨nt,ini 0 vs⟩,[],H,[]⟩:=ygu hk (Nat.le_of_ble_eq_true hl) H
def TOk:List (FuncId×Ent)->Prop
 |[]=>True
 |(i,e)::r=>zaf Tryz.prog i e/\TOk r
theorem z5h{k:FuncId}{e:Ent}:∀{l:List (FuncId×Ent)},TOk l->ye1 k l=some e->zaf Tryz.prog k e
 |[],_,h=>by cases h
 |(i,x)::r,hl,h=>by
  unfold ye1 at h
  split at h
  ·rename_i hk;cases h;subst hk;exact hl.1
  ·exact z5h hl.2 h
theorem tblOk:TOk tbl:=⟨k4,k6,k7,k8,k9,k11,k12,k13,k15,k16,k17,k19,k20,k21,k22,k23,k24,k25,k26,k27,k31,k32,k33,k34,k35,k36,k37,k38,k39,k45,k46,k47,k48,k49,k50,k53,k54,k55,k56,k57,k58,k59,k60,k61,k62,k63,k64,k65,k66,k67,k68,k69,k73,k74,k75,k76,k77,k78,k82,k83,k84,k85,k86,k87,k88,k89,k90,k91,k92,k93,k94,k95,k96,k97,k98,k99,k100,k107,k108,k109,k110,k111,k112,k113,k114,k115,k117,k118,k119,k120,k121,k122,k123,k124,k125,k126,k127,k128,k129,k130,k131,k132,k137,k138,k139,k140,k141,k142,k143,k144,k145,k146,k147,k148,k149,k150,k151,k152,k153,k154,k155,k156,k157,k158,k159,k160,k161,k162,k163,k164,k165,k166,k167,k168,k169,k170,k171,k172,k173,k174,k175,k176,k177,k178,k179,k180,k181,k182,k183,k184,k185,k186,k187,k188,k189,k190,k191,k192,k193,k194,k195,k196,k197,k198,k199,k200,k201,k202,k203,k204,k205,k206,k207,k208,k209,k210,k211,k212,k213,k214,k215,k216,k217,trivial⟩
theorem F_ok{k:FuncId}{vs:List AV}{H:List AO}{r:Res}{H':List AO}(h:F k vs H=some (r,H')):zo0 Tryz.prog k vs H fun q h=>q=r/\h=H':=fnF_ok zxt (fun _ _ h=>z5h tblOk h) h
end Go.Ab
end
