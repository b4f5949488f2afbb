/- The functions that 'CheckSpoils' reaches, in the fast evaluator's form, each held against the program's own text by the kernel. Written by a program. -/
import Derived.Test.YtjddgepodiabkaaGreatDoorGevKM
import Derived.Test.YtjddgepodiabkaaGreatDoorProg
import Derived.KernelRfl
namespace Go.Proofs.YtjddgepodiabkaaGreatDoor.checkSpoils
open Go.Gev
set_option linter.unusedVariables false
abbrev QT(f:Nat)(r:RnK→Nat→List Value→Hs→An):Prop:=∀R N args h,r R N args h=callT Tryz.prog N R f args h
noncomputable def r3(R:RnK)(N:Nat)(args:List Value)(h:Hs):An:=unC args λb ah=>unC ah λu dg=>enK h λai=>
 kCall R 5 [] ai (λaj v=>
 kNot aj (λak=>
 jn (λ(al:Value)(am:Hs)=>
 kCall R 7 [(.int .i64 (.ofNat 64))] am (λan ao=>
 kCall R 6 [an] ao (λw x=>
 kExtr w 0 (λm=>
 kExtr w 1 (λy=>
 kI64 .neq y (.int .i64 (.ofNat 0)) (λf=>
 gdF f x (λap=>ap m x) (λaq z=>
 gdF f z (λar=>kLenV aq (λau=>ar au z)) (λav A=>
 gdF f A (λaw=>kI64 .neq av (.int .i64 (.ofNat 512)) (λax=>aw ax A)) (λay az=>
 after (λn B=>
 gdF n B (λa0=>a0 b B) (λa1 C=>
 gdF n C (λa2=>kI64 .lss a1 (.int .i64 (.ofNat 0)) (λa3=>a2 a3 C)) (λa4 a5=>
 after (λo D=>
 gdF o D (λa6=>a6 b D) (λa7 E=>
 gdF o E (λa8=>kI64 .geq a7 (.int .i64 (.ofNat 512)) (λa9=>a8 a9 E)) (λba bb=>
 after (λp F=>
 gdF p F (λbc=>bc u F) (λbd G=>
 gdF p G (λbe=>kU64 .eql bd (.int .u64 (.ofNat 0)) (λbf=>be bf G)) (λbg bh=>
 after (λbi q=>
 jn (λ(dh:Value)(bj:Hs)=>
 after (λbk bl=>
 after (λg H=>
 kIdxA 1 g b (λbm=>
 kLoad bm H (λbn=>
 kU64 .xor bn u (λbo=>
 kIdxA 1 g b (λbp=>
 kStore1 bp bo H (λdi I=>
 kI64 .quo b (.int .i64 (.ofNat 8)) (λi=>
 kI64 .geq i (.int .i64 (.ofNat 42)) (λr=>
 gdT r I (λbq=>bq i I) (λbr J=>
 gdT r J (λbs=>kI64 .lss br (.int .i64 (.ofNat 63)) (λbt=>bs bt J)) (λbu bv=>
 after (λa K=>
 gdF a K (λbw=>bw i K) (λbx L=>
 gdF a L (λbz=>kI64 .geq bx (.int .i64 (.ofNat 1)) (λb0=>bz b0 L)) (λb1 M=>
 gdF a M (λb2=>b2 b1 M) (λs O=>
 gdT s O (λb3=>b3 i O) (λb4 P=>
 gdT s P (λb5=>kI64 .leq b4 (.int .i64 (.ofNat 20)) (λb6=>b5 b6 P)) (λb7 Q=>
 gdF a Q (λb8=>after (b8) (pickB (.c b7) (.c (.bool false)) enE Q s)) (λb9 S=>
 gdF a S (λca=>ca b9 S) (λt U=>
 gdT t U (λcb=>cb b U) (λcc V=>
 gdT t V (λcd=>kI64 .neq cc (.int .i64 (.ofNat 8)) (λce=>cd ce V)) (λcf W=>
 gdF a W (λcg=>after (cg) (pickB (.c cf) (.c (.bool false)) enE W t)) (λch ci=>
 after (λX cj=>
 kCall R 8 [g] cj (λck Y=>
 obK (λj=>
 gdT j Y (λcl=>cl X Y) (λcm Z=>
 gdT j Z (λcn=>cn cm Z) (λd aa=>
 gdF d aa (λco=>co g aa) (λcp ab=>
 gdF d ab (λcq=>kCall R 9 [cp] ab (cq)) (λcr ac=>
 gdF d ac (λcs=>kLenV cr (λct=>cs ct ac)) (λcu ad=>
 gdF d ad (λcv=>kI64 .geq cu (.int .i64 (.ofNat 1)) (λcw=>cv cw ad)) (λcx ae=>
 gdT j ae (λcy=>after (cy) (pickB (.c (.bool true)) (.c cx) enE ae d)) (λcz c0=>
 after (λc1 c2=>
 clrK h c1 c2) (pickB (.c cz) (.c (.bool false)) enE c0 j))))))))) (e2 false qB ck X))) (pickB (.c (.bool true)) (.c ch) enE ci a)))))))))))) (pickB (.c bu) (.c (.bool false)) enE bv r))))))))))) (app0 22 1 8 bl bk m)) (oMkrow 22 1 0 [(.int .u64 (.ofNat 0))] [] enE bj)) λc3=>
 cnd bi
 (kI64 .eql y (.int .i64 (.ofNat 0)) (λl=>
 gdT l q (λc4=>c4 m q) (λc5 af=>
 gdT l af (λc6=>kLenV c5 (λc7=>c6 c7 af)) (λc8 ag=>
 gdT l ag (λc9=>kI64 .eql c8 (.int .i64 (.ofNat 512)) (λda=>c9 da ag)) (λdb dc=>
 after (λdd de=>
 clrK h dd de) (pickB (.c db) (.c (.bool false)) enE dc l))))))
 (c3 al q)) (pickB (.c (.bool true)) (.c bg) enE bh p)))) (pickB (.c (.bool true)) (.c ba) enE bb o)))) (pickB (.c (.bool true)) (.c a4) enE a5 n)))) (pickB (.c (.bool true)) (.c ay) enE az f)))))))))) λdf=>
 cnd ak
 (clrK h (.bool false) v)
 (df (.bool false) v)))
theorem q3:QT 3 r3:=λR N args h=>by kernel_rfl
noncomputable def r6(R:RnK)(N:Nat)(args:List Value)(h:Hs):An:=unC args λY ct=>enK h λZ=>
 after (λa u=>
 kLoads 4 a u (λaa=>
 kCall R 12 [aa] u (λab v=>
 kNot ab (λac=>
 jn (λ(cu cv:Value)(w:Hs)=>
 kFieldA 0 a (λad=>
 kLoad ad w (λae=>
 kI64 .mul (.int .i64 (.ofNat 8)) ae (λx=>
 after (λaf ag=>
 after (λl ah=>
 kStore1 l af ah (λcw ai=>
 after (λi y=>
 kLoads 4 a y (λaj=>
 kCall R 14 [aj] y (λz A=>
 kExtr z 0 (λak=>
 kExtr z 1 (λB=>
 kLoads 4 a A (λal=>
 after (λam an=>
 kCall R 15 [am] an (λao ap=>
 kCallV R i [(.int .i64 (.ofNat 0)),ao] ap (λcx b=>
 kLoads 4 a (Hs.mk b.hp b.nx b.nx) (λaq=>
 kCall R 16 [aq] (Hs.mk b.hp b.nx b.nx) (λar m=>dPut (λau f=>
 kLoads 4 a (dHidS .light [false,false,false] [some (b.nx,f.nx),none,none] f) (λav=>
 after (λaw n=>dPut (λax o=>
 kCall R 15 [ax] o (λay p=>dPut (λaz q=>
 isVal (λa0 r=>dPut (λcy C=>
 kLoads 4 a C (λa1=>
 kCall R 17 [a1,(.int .i64 (.ofNat 1))] C (λa2 a3=>
 after (λa4 a5=>
 kCall R 18 [a4] a5 (λa6 a7=>
 kCallV R i [a2,a6] a7 (λcz D=>
 kLoads 4 a D (λa8=>
 kCall R 17 [a8,(.int .i64 (.ofNat 2))] D (λa9 ba=>
 after (λbb bc=>
 after (λbd be=>
 after (λbf bg=>
 kCall R 18 [bf] bg (λbh bi=>
 kCallV R i [a9,bh] bi (λc0 E=>
 kLoads 4 a E (λbj=>
 kCall R 19 [bj] E (λF G=>
 kExtr F 0 (λH=>
 kExtr F 1 (λbk=>
 kFieldA 0 a (λbl=>
 kLoad bl G (λbm=>
 kCall R 20 [bm] G (λbn bo=>
 after (λj bp=>
 kStore1 j bn bp (λc1 I=>
 kFieldA 0 a (λbq=>
 kLoad bq I (λbr=>
 jn (λ(c2 c3 c4 c5:Value)(J:Hs)=>
 kLoads 4 a J (λbs=>
 kCall R 22 [bs] J (λK L=>
 kExtr K 0 (λbt=>
 kExtr K 1 (λc6=>
 kFieldA 0 j (λbu=>
 kLoad bu L (λbv=>
 kCallV R i [bt,bv] L (λc7 M=>
 kLoad l M (λbw=>
 clrK h (.tuple #[bw,(.int .i64 (.ofNat 0))]) M))))))))) λbx=>
 lpT (T:=Value→Value→Value→Value→Hs→An) (λ_ _ _ _ _=>none) N (λbz=>
 λ(d c8 b0 b1:Value)(O:Hs)=>
 kI64 .lss d br (λs=>
 jn (λ(P:Hs)=>
 jn (λ(b2 b3:Value)(b4:Hs)=>
 kI64 .add d (.int .i64 (.ofNat 1)) (λb5=>
 bz b5 s b2 b3 b4)) λb6=>
 kI64 .lss d H (λg=>
 gdF g P (λb7=>b7 d P) (λb8 Q=>
 gdF g Q (λb9=>b9 H Q) (λca S=>
 gdF g S (λcb=>cb bk S) (λcc U=>
 gdF g U (λcd=>kI64 .add ca cc (λce=>cd ce U)) (λcf V=>
 gdF g V (λcg=>kI64 .geq b8 cf (λch=>cg ch V)) (λci cj=>
 after (λW t=>
 jn (λ(ck:Hs)=>
 b6 d W ck) λX=>
 cnd W
 (kLoads 1 j t (λcl=>
 after (λcm cn=>
 kCall R 21 [cl,(.bool true),cm] cn (λco cp=>
 kStore1 j co cp (λc9 cq=>
 X cq))) (oMkrow 3 1 1 [(.int .i64 (.ofNat 0))] [(0,1,.c d)] enE t)))
 (X t)) (pickB (.c (.bool true)) (.c ci) enE cj g)))))))) λcr=>
 cnd s
 (cr O)
 (bx d s b0 b1 O))) (.int .i64 (.ofNat 0)) dunno dunno dunno I)))) (oAlloc 57 [(.slice none 0 0)] enE bo))))))))))) (oBuild [(.int .i64 (.ofNat 0)),(.int .i64 (.ofNat 0)),(.int .i64 (.ofNat 0)),(.slice none 0 0)] [(0,1,.c (.int .i64 (.ofNat 2))),(1,1,.c (.int .i64 (.ofNat 1))),(2,1,.c B),(3,1,.c bd)] enE be)) (oMkrow 55 2 1 [(.int .i64 (.ofNat 0)),(.int .i64 (.ofNat 0))] [(0,2,.c bb)] enE bc)) (oBuild [(.int .i64 (.ofNat 0)),(.int .i64 (.ofNat 0))] [(0,1,.c ak),(1,1,.c B)] enE ba)))))) (oBuild [(.int .i64 (.ofNat 0)),(.int .i64 (.ofNat 0)),(.int .i64 (.ofNat 0)),(.slice none 0 0)] [(0,1,.c (.int .i64 (.ofNat 2))),(1,1,.c (.int .i64 (.ofNat 1)))] enE a3)))) a0 (dNext q r .bar) (andB (dFit q r .bar) (Nat.ble 0 r.lo))) (callV (toRn R) [au,az] q i)) ay (dNext o p .bar) (andB (dFit o p .bar) (Nat.ble 0 p.lo)))) aw (dNext f n .blind) (andB (dFit f n .blind) (Nat.ble 0 n.lo))) (oBuild [(.int .i64 (.ofNat 0)),(.int .i64 (.ofNat 0)),(.int .i64 (.ofNat 0)),(.int .i64 (.ofNat 0)),(.int .u64 (.ofNat 0))] [(0,4,.c av)] enE (Hs.mk .e f.nx f.nx)))) ar (dNext b m .light) (andB (dFit b m .light) (Nat.ble 0 m.lo))))))) (oBuild [(.int .i64 (.ofNat 0)),(.int .i64 (.ofNat 0)),(.int .i64 (.ofNat 0)),(.int .i64 (.ofNat 0)),(.int .u64 (.ofNat 0))] [(0,4,.c al)] enE A))))))) (oMkfunc (.func 13) [] [.c l] enE ai))) (oAlloc 24 [(.slice none 0 0)] enE ag)) (mkslice1 22 1 8 [(.int .u64 (.ofNat 0))] w (natOf x) (natOf x)))))) λcs=>
 cnd ac
 (clrK h (.tuple #[(.slice none 0 0),(.int .i64 (.ofNat 1))]) v)
 (cs (.slice none 0 0) (.int .i64 (.ofNat 0)) v))))) (oBox 29 (.c Y) enE Z)
theorem q6:QT 6 r6:=λR N args h=>by kernel_rfl
noncomputable def r7(R:RnK)(N:Nat)(args:List Value)(h:Hs):An:=unC args λd l=>enK h λf=>
 after (λa g=>
 after (λi j=>
 after (λm b=>
 clearUp h (packR b (resV enE b [.cell (.c a) 4 true]))) (store1 4 j (cellsL i) (addrOf a))) (oBuild [(.int .i64 (.ofNat 0)),(.int .i64 (.ofNat 0)),(.int .i64 (.ofNat 0)),(.int .i64 (.ofNat 0))] [(0,1,.c d),(1,1,.c (.int .i64 (.ofNat 10))),(2,1,.c (.int .i64 (.ofNat 1))),(3,1,.c (.int .i64 (.ofNat 20)))] enE g)) (oAlloc 29 [(.int .i64 (.ofNat 0)),(.int .i64 (.ofNat 0)),(.int .i64 (.ofNat 0)),(.int .i64 (.ofNat 0))] enE f)
theorem q7:QT 7 r7:=λR N args h=>by kernel_rfl
noncomputable def r8(R:RnK)(N:Nat)(args:List Value)(h:Hs):An:=unC args λa i=>enK h λb=>
 kCall R 9 [a] b (λc d=>
 kLenV c (λf=>
 kI64 .eql f (.int .i64 (.ofNat 0)) (λg=>
 clrK h g d)))
theorem q8:QT 8 r8:=λR N args h=>by kernel_rfl
noncomputable def r9(R:RnK)(N:Nat)(args:List Value)(h:Hs):An:=unC args λl bv=>enK h λu=>
 kLenV l (λG=>
 kI64 .quo G (.int .i64 (.ofNat 8)) (λv=>
 kLenV l (λH=>
 kI64 .rem H (.int .i64 (.ofNat 8)) (λI=>
 kI64 .neq I (.int .i64 (.ofNat 0)) (λm=>
 gdF m u (λJ=>J v u) (λK w=>
 gdF m w (λL=>kI64 .lss K (.int .i64 (.ofNat 64)) (λM=>L M w)) (λO P=>
 after (λn x=>
 gdF n x (λQ=>Q v x) (λS y=>
 gdF n y (λU=>kI64 .gtr S (.int .i64 (.ofNat 1024)) (λV=>U V y)) (λW X=>
 after (λY z=>
 jn (λ(Z:Value)(aa:Hs)=>
 kCall R 23 [l] aa (λA ab=>
 kExtr A 0 (λac=>
 kExtr A 1 (λad=>
 after (λf ae=>
 after (λbw B=>
 kI64 .neq ad (.int .i64 (.ofNat 0)) (λaf=>
 jn (λ(bx:Value)(a:Hs)=>
 kLoads 5 f (Hs.mk a.hp a.nx a.nx) (λag=>
 kFieldA 0 f (λah=>
 kFieldA 1 ah (λai=>
 kLoad ai (Hs.mk a.hp a.nx a.nx) (λaj=>
 kI64 .add aj (.int .i64 (.ofNat 1)) (λC=>
 after (λak o=>dPut (λal d=>
 kFieldA 0 f (λam=>
 kFieldA 1 am (λan=>
 kLoad an (dHidS .light [true,true,false,false,false,false,false,false] [none,none,some (a.nx,d.nx),none,none,none,none,none] d) (λao=>
 kI64 .add ao (.int .i64 (.ofNat 1)) (λD=>
 after (λap p=>dPut (λaq g=>
 after (λar q=>dPut (λau i=>
 after (λav r=>dPut (λb aw=>
 kCall R 24 [b] aw (λbz ax=>
 kCall R 25 [b] ax (λb0 ay=>
 jn (λ(b1 b2:Value)(az:Hs)=>
 kCall R 27 [b] az (λb3 a0=>
 kCall R 28 [b] a0 (λb4 a1=>
 kCall R 29 [b] a1 (λb5 a2=>
 kCall R 30 [b] a2 (λb6 a3=>
 kCall R 31 [b] a3 (λb7 E=>
 kNil b (λa4=>
 kFieldA 8 a4 (λa5=>
 kLoad a5 E (λa6=>
 kCall R 32 [a6,(.func (.func 33) #[] #[])] E (λb8 F=>
 kNil b (λa7=>
 kFieldA 8 a7 (λa8=>
 kLoad a8 F (λa9=>
 clrK h a9 F))))))))))))) λba=>
 lpT (T:=Value→Value→Hs→An) (λ_ _ _=>none) N (λbb=>
 λ(j b9:Value)(s:Hs)=>
 kFieldA 0 f (λbc=>
 kFieldA 1 bc (λbd=>
 kLoad bd s (λbe=>
 kI64 .leq j be (λt=>
 jn (λ(bf:Hs)=>
 jn (λ(bg:Hs)=>
 kI64 .add j (.int .i64 (.ofNat 1)) (λbh=>
 bb bh t bg)) λbi=>
 kCall R 26 [b,j] bf (λca bj=>
 bi bj)) λbk=>
 cnd t
 (bk s)
 (ba j t s)))))) (.int .i64 (.ofNat 1)) dunno ay))) av (dNext i r .make) (andB (dFit i r .make) (Nat.ble 0 r.lo))) (oBox 69 (.c au) enE (Hs.mk .e i.nx i.nx))) ar (dNext g q .blind) (andB (dFit g q .blind) (Nat.ble 0 q.lo))) (oBuild [(.int .i64 (.ofNat 0)),(.int .i64 (.ofNat 0)),(.int .i64 (.ofNat 0)),(.int .i64 (.ofNat 0)),(.slice none 0 0),(.slice none 0 0),(.slice none 0 0),(.slice none 0 0),(.slice none 0 0)] [(0,5,.c ag),(5,1,.c al),(6,1,.c aq)] enE (Hs.mk .e g.nx g.nx))) ap (dNext d p .make) (andB (dFit d p .make) (Nat.ble 0 p.lo))) (mkslice1 4 1 1 [(.bool false)] (Hs.mk .e d.nx d.nx) (natOf D) (natOf D))))))) ak (dNext a o .make) (andB (dFit a o .make) (Nat.ble 0 o.lo))) (mkslice1 53 4 48 [(.int .i64 (.ofNat 0)),(.int .i64 (.ofNat 0)),(.int .i64 (.ofNat 0)),(.slice none 0 0)] (Hs.mk .e a.nx a.nx) (natOf C) (natOf C)))))))) λbl=>
 cnd af
 (after (λbm bn=>
 after (λbo bp=>
 clrK h bo bp) (oMkrow 37 4 1 [(.int .i64 (.ofNat 0)),(.int .i64 (.ofNat 0)),(.int .i64 (.ofNat 0)),(.int .i64 (.ofNat 0))] [(0,4,.c bm)] enE bn)) (oBuild [(.int .i64 (.ofNat 0)),(.int .i64 (.ofNat 0)),(.int .i64 (.ofNat 0)),(.int .i64 (.ofNat 0))] [(0,1,.c (.int .i64 (.ofNat 0))),(1,1,.c (.int .i64 (.ofNat 2))),(2,1,.c (.int .i64 (.ofNat 0))),(3,1,.c (.int .i64 (.ofNat 0)))] enE B))
 (bl Z B))) (store1 5 ae (cellsL ac) (addrOf f))) (oAlloc 61 [(.int .i64 (.ofNat 0)),(.int .i64 (.ofNat 0)),(.int .i64 (.ofNat 0)),(.int .i64 (.ofNat 0)),(.slice none 0 0)] enE ab))))) λbq=>
 cnd Y
 (after (λbr bs=>
 after (λbt bu=>
 clrK h bt bu) (oMkrow 37 4 1 [(.int .i64 (.ofNat 0)),(.int .i64 (.ofNat 0)),(.int .i64 (.ofNat 0)),(.int .i64 (.ofNat 0))] [(0,4,.c br)] enE bs)) (oBuild [(.int .i64 (.ofNat 0)),(.int .i64 (.ofNat 0)),(.int .i64 (.ofNat 0)),(.int .i64 (.ofNat 0))] [(0,1,.c (.int .i64 (.ofNat 0))),(1,1,.c (.int .i64 (.ofNat 1))),(2,1,.c (.int .i64 (.ofNat 0))),(3,1,.c (.int .i64 (.ofNat 0)))] enE z))
 (bq (.slice none 0 0) z)) (pickB (.c (.bool true)) (.c W) enE X n)))) (pickB (.c (.bool true)) (.c O) enE P m))))))))
theorem q9:QT 9 r9:=λR N args h=>by kernel_rfl
noncomputable def r12(R:RnK)(N:Nat)(args:List Value)(h:Hs):An:=unC args λy ay=>enK h λz=>
 after (λa l=>
 kFieldA 0 a (λA=>
 kLoad A l (λB=>
 kCall R 35 [B,(.int .i64 (.ofNat 64)),(.int .i64 (.ofNat 1024))] l (λC m=>
 kNot C (λb=>
 gdF b m (λD=>kFieldA 1 a (λE=>D E m)) (λF g=>
 gdF b g (λG=>kLoad F g (λH=>G H g)) (λI n=>
 gdF b n (λJ=>kCall R 35 [I,(.int .i64 (.ofNat 4)),(.int .i64 (.ofNat 64))] n (J)) (λK o=>
 gdF b o (λL=>kNot K (λM=>L M o)) (λO P=>
 after (λd p=>
 gdF d p (λQ=>kFieldA 2 a (λS=>Q S p)) (λU i=>
 gdF d i (λV=>kLoad U i (λW=>V W i)) (λX q=>
 gdF d q (λY=>kCall R 35 [X,(.int .i64 (.ofNat 1)),(.int .i64 (.ofNat 8))] q (Y)) (λZ r=>
 gdF d r (λaa=>kNot Z (λab=>aa ab r)) (λac ad=>
 after (λf s=>
 gdF f s (λae=>kFieldA 3 a (λaf=>ae af s)) (λag j=>
 gdF f j (λah=>kLoad ag j (λai=>ah ai j)) (λaj t=>
 gdF f t (λak=>kCall R 35 [aj,(.int .i64 (.ofNat 16)),(.int .i64 (.ofNat 110))] t (ak)) (λal u=>
 gdF f u (λam=>kNot al (λan=>am an u)) (λao ap=>
 after (λaq v=>
 jn (λ(az:Value)(w:Hs)=>
 kLoads 4 a w (λar=>
 kCall R 36 [ar] w (λx au=>
 kExtr x 0 (λa0=>
 kExtr x 1 (λav=>
 kI64 .geq av (.int .i64 (.ofNat 1)) (λaw=>
 clrK h aw au)))))) λax=>
 cnd aq
 (clrK h (.bool false) v)
 (ax (.bool false) v)) (pickB (.c (.bool true)) (.c ao) enE ap f)))))) (pickB (.c (.bool true)) (.c ac) enE ad d)))))) (pickB (.c (.bool true)) (.c O) enE P b)))))))))) (oBox 29 (.c y) enE z)
theorem q12:QT 12 r12:=λR N args h=>by kernel_rfl
noncomputable def r13(R:RnK)(N:Nat)(args:List Value)(h:Hs):An:=unC args λb d=>unC d λf g=>unC g λi p=>enK h λa=>
 kLoad i a (λj=>
 kI64 .mul (.int .i64 (.ofNat 8)) b (λl=>
 after (λm n=>
 after (λq o=>
 clrK h (.tuple #[]) o) (copy0 1 n m f)) (oSlice 1 (.c j) (some (.c l)) none none enE a)))
theorem q13:QT 13 r13:=λR N args h=>by kernel_rfl
noncomputable def r14(R:RnK)(N:Nat)(args:List Value)(h:Hs):An:=unC args λj y=>enK h λl=>
 after (λb g=>
 kLoads 4 b g (λm=>
 kCall R 12 [m] g (λn i=>
 kNot n (λo=>
 jn (λ(z A:Value)(a:Hs)=>
 kLoads 4 b (Hs.mk a.hp a.nx a.nx) (λp=>
 kFieldA 1 b (λq=>
 kLoad q (Hs.mk a.hp a.nx a.nx) (λr=>
 kCall R 17 [p,r] (Hs.mk a.hp a.nx a.nx) (λs d=>dPut (λt f=>
 kI64 .add t (.int .i64 (.ofNat 1)) (λu=>
 kFieldA 1 b (λv=>
 kLoad v (dHidS .light [true,false,false,false,false,false] [none,none,some (a.nx,f.nx),none,none,none] f) (λw=>
 clrK h (.tuple #[u,w]) f)))) s (dNext a d .light) (andB (dFit a d .light) (Nat.ble 0 d.lo))))))) λx=>
 cnd o
 (clrK h (.tuple #[(.int .i64 (.ofNat 0)),(.int .i64 (.ofNat 0))]) i)
 (x (.int .i64 (.ofNat 0)) (.int .i64 (.ofNat 0)) i))))) (oBox 29 (.c j) enE l)
theorem q14:QT 14 r14:=λR N args h=>by kernel_rfl
noncomputable def r15(R:RnK)(N:Nat)(args:List Value)(h:Hs):An:=unC args λp Y=>enK h λq=>
 after (λb m=>
 kFieldA 0 b (λr=>
 kLoads 4 r m (λs=>
 kCall R 12 [s] m (λt n=>
 kNot t (λu=>
 jn (λ(Z:Value)(d:Hs)=>
 kFieldA 0 b (λv=>
 kFieldA 0 v (λw=>
 kLoad w d (λx=>
 kToU x (λy=>
 kFieldA 0 b (λz=>
 kFieldA 1 z (λA=>
 kLoad A d (λB=>
 kToU B (λC=>
 kFieldA 0 b (λD=>
 kFieldA 2 D (λE=>
 kLoad E d (λF=>
 kToU F (λG=>
 kFieldA 0 b (λH=>
 kFieldA 3 H (λI=>
 kLoad I d (λJ=>
 kToU J (λK=>
 after (λo a=>
 kFieldA 4 b (λL=>
 kLoad L (Hs.mk a.hp a.nx a.nx) (λM=>
 kCall R 37 [o] (Hs.mk a.hp a.nx a.nx) (λO f=>dPut (λP g=>
 after (λQ i=>dPut (λS j=>
 after (λU l=>dPut (λV W=>
 clrK h V W) U (dNext j l .bar) (andB (dFit j l .bar) (Nat.ble 0 l.lo))) (app0 22 1 8 j o S)) Q (dNext g i .bar) (andB (dFit g i .bar) (Nat.ble 0 i.lo))) (oMkrow 22 1 2 [(.int .u64 (.ofNat 0))] [(0,1,.c M),(1,1,.c P)] enE g)) O (dNext a f .light) (andB (dFit a f .light) (Nat.ble 0 f.lo)))))) (oMkrow 22 1 6 [(.int .u64 (.ofNat 0))] [(0,1,.c (.int .u64 (.ofNat 5497010944029229057))),(1,1,.c y),(2,1,.c C),(3,1,.c G),(4,1,.c K),(5,1,.c (.int .u64 (.ofNat 0)))] enE d)))))))))))))))))) λX=>
 cnd u
 (clrK h (.slice none 0 0) n)
 (X (.slice none 0 0) n)))))) (oBox 47 (.c p) enE q)
theorem q15:QT 15 r15:=λR N args h=>by kernel_rfl
noncomputable def r16(R:RnK)(N:Nat)(args:List Value)(h:Hs):An:=unC args λg r=>enK h λi=>
 after (λa b=>
 kLoads 4 a b (λj=>
 kCall R 12 [j] b (λl d=>
 kNot l (λm=>
 jn (λ(s:Value)(f:Hs)=>
 kFieldA 0 a (λn=>
 kLoad n f (λo=>
 kI64 .sub o (.int .i64 (.ofNat 1)) (λp=>
 clrK h p f)))) λq=>
 cnd m
 (clrK h (.int .i64 (.ofNat 0)) d)
 (q (.int .i64 (.ofNat 0)) d))))) (oBox 29 (.c g) enE i)
theorem q16:QT 16 r16:=λR N args h=>by kernel_rfl
noncomputable def r17(R:RnK)(N:Nat)(args:List Value)(h:Hs):An:=unC args λq r=>unC r λf V=>enK h λs=>
 after (λb g=>
 kLoads 4 b g (λt=>
 kCall R 12 [t] g (λu i=>
 kNot u (λa=>
 gdF a i (λv=>v f i) (λw j=>
 gdF a j (λx=>kFieldA 1 b (λy=>x y j)) (λz d=>
 gdF a d (λA=>kLoad z d (λB=>A B d)) (λC l=>
 gdF a l (λD=>kCall R 35 [w,(.int .i64 (.ofNat 1)),C] l (D)) (λE m=>
 gdF a m (λF=>kNot E (λG=>F G m)) (λH I=>
 after (λJ n=>
 jn (λ(W:Value)(o:Hs)=>
 kLoads 4 b o (λK=>
 kCall R 38 [K] o (λp L=>
 kExtr p 0 (λM=>
 kExtr p 1 (λO=>
 kI64 .add M O (λP=>
 kI64 .add P f (λQ=>
 kI64 .sub Q (.int .i64 (.ofNat 1)) (λS=>
 clrK h S L)))))))) λU=>
 cnd J
 (clrK h (.int .i64 (.ofNat 0)) n)
 (U (.int .i64 (.ofNat 0)) n)) (pickB (.c (.bool true)) (.c H) enE I a)))))))))) (oBox 29 (.c q) enE s)
theorem q17:QT 17 r17:=λR N args h=>by kernel_rfl
noncomputable def r18(R:RnK)(N:Nat)(args:List Value)(h:Hs):An:=unC args λt a4=>enK h λu=>
 after (λb m=>
 kLoads 4 b m (λv=>
 kCall R 39 [v] m (λw n=>
 kNot w (λx=>
 jn (λ(y:Value)(z:Hs)=>
 after (λa g=>
 kFieldA 0 b (λA=>
 kLoad A g (λB=>
 kI64 .eql B (.int .i64 (.ofNat 0)) (λC=>
 jn (λ(a5:Value)(i:Hs)=>
 kFieldA 0 b (λD=>
 kLoad D i (λE=>
 kToU E (λF=>
 kFieldA 1 b (λG=>
 kLoad G i (λH=>
 kToU H (λI=>
 kShl I (.int .u64 (.ofNat 8)) (λJ=>
 kU64 .or F J (λK=>
 kIdxA 1 a (.int .i64 (.ofNat 0)) (λL=>
 kStore1 L K i (λa6 o=>
 kFieldA 2 b (λM=>
 kLoad M o (λO=>
 kToU O (λP=>
 kIdxA 1 a (.int .i64 (.ofNat 1)) (λQ=>
 kStore1 Q P o (λa7 p=>
 kFieldA 3 b (λS=>
 kLoad S p (λq=>
 kLenV q (λU=>
 jn (λ(a8 a9 ba bb:Value)(V:Hs)=>
 after (λW X=>
 kCall R 37 [W] X (λY Z=>
 kIdxA 1 a (.int .i64 (.ofNat 7)) (λaa=>
 kStore1 aa Y Z (λbc ab=>
 clrK h a ab)))) (oSlice 1 (.c a) none (some (.c (.int .i64 (.ofNat 7)))) none enE V)) λac=>
 lpT (T:=Value→Value→Value→Value→Hs→An) (λ_ _ _ _ _=>none) N (λad=>
 λ(d bd ae af:Value)(r:Hs)=>
 kI64 .lss d U (λj=>
 jn (λ(s:Hs)=>
 jn (λ(ag ah:Value)(ai:Hs)=>
 kI64 .add d (.int .i64 (.ofNat 1)) (λaj=>
 ad aj j ag ah ai)) λak=>
 kIdxA 2 q d (λal=>
 kLoads 2 al s (λam=>
 after (λf an=>
 after (λbe l=>
 kI64 .add (.int .i64 (.ofNat 2)) d (λao=>
 kFieldA 0 f (λap=>
 kLoad ap l (λaq=>
 kToU aq (λar=>
 kFieldA 1 f (λau=>
 kLoad au l (λav=>
 kToU av (λaw=>
 kShl aw (.int .u64 (.ofNat 32)) (λax=>
 kU64 .or ar ax (λay=>
 kIdxA 1 a ao (λaz=>
 kStore1 az ay l (λbf a0=>
 ak d f a0)))))))))))) (store1 2 an (cellsL am) (addrOf f))) (oAlloc 55 [(.int .i64 (.ofNat 0)),(.int .i64 (.ofNat 0))] enE s)))) λa1=>
 cnd j
 (a1 r)
 (ac d j ae af r))) (.int .i64 (.ofNat 0)) dunno dunno dunno p))))))))))))))))))) λa2=>
 cnd C
 (clrK h a g)
 (a2 y g))))) (mkslice1 22 1 8 [(.int .u64 (.ofNat 0))] z (natOf (.int .i64 (.ofNat 8))) (natOf (.int .i64 (.ofNat 8))))) λa3=>
 cnd x
 (clrK h (.slice none 0 0) n)
 (a3 (.slice none 0 0) n))))) (oBox 53 (.c t) enE u)
theorem q18:QT 18 r18:=λR N args h=>by kernel_rfl
noncomputable def r19(R:RnK)(N:Nat)(args:List Value)(h:Hs):An:=unC args λi t=>enK h λj=>
 after (λa b=>
 kLoads 4 a b (λl=>
 kCall R 12 [l] b (λm d=>
 kNot m (λn=>
 jn (λ(u v:Value)(f:Hs)=>
 kLoads 4 a f (λo=>
 kCall R 36 [o] f (λg p=>
 kExtr g 0 (λq=>
 kExtr g 1 (λr=>
 clrK h (.tuple #[q,r]) p))))) λs=>
 cnd n
 (clrK h (.tuple #[(.int .i64 (.ofNat 0)),(.int .i64 (.ofNat 0))]) d)
 (s (.int .i64 (.ofNat 0)) (.int .i64 (.ofNat 0)) d))))) (oBox 29 (.c i) enE j)
theorem q19:QT 19 r19:=λR N args h=>by kernel_rfl
noncomputable def r20(R:RnK)(N:Nat)(args:List Value)(h:Hs):An:=unC args λf u=>enK h λg=>
 after (λa i=>
 after (λj l=>
 after (λm n=>
 kI64 .add m (.int .i64 (.ofNat 64)) (λo=>
 kI64 .sub o (.int .i64 (.ofNat 1)) (λp=>
 kI64 .quo p (.int .i64 (.ofNat 64)) (λb=>
 after (λq r=>
 after (λs t=>
 kStore1 a s t (λv d=>
 clearUp h (packR d (resV enE d [.cell (.c a) 1 true])))) (oBuild [(.slice none 0 0)] [(0,1,.c q)] enE r)) (mkslice1 22 1 8 [(.int .u64 (.ofNat 0))] n (natOf b) (natOf b)))))) (oMinmax false [.c j,.c (.int .i64 (.ofNat 65536))] enE l)) (oMinmax true [.c f,.c (.int .i64 (.ofNat 0))] enE i)) (oAlloc 57 [(.slice none 0 0)] enE g)
theorem q20:QT 20 r20:=λR N args h=>by kernel_rfl
noncomputable def r21(R:RnK)(N:Nat)(args:List Value)(h:Hs):An:=unC args λE F=>unC F λo G=>unC G λp a4=>enK h λH=>
 after (λq I=>
 after (λr s=>
 kFieldA 0 q (λJ=>
 kLoad J s (λK=>
 kCall R 40 [K] s (λL M=>
 after (λO P=>
 after (λf Q=>
 kStore1 f O Q (λa5 S=>
 kLenV p (λU=>
 jn (λ(a6 a7 a8 a9 ba:Value)(t:Hs)=>
 kLoads 1 f t (λV=>
 kStore1 r V t (λbb u=>
 clearUp h (packR u (resV enE u [.cell (.c r) 1 true]))))) λW=>
 lpT (T:=Value→Value→Value→Value→Value→Hs→An) (λ_ _ _ _ _ _=>none) N (λX=>
 λ(g bc Y Z v:Value)(w:Hs)=>
 kI64 .lss g U (λi=>
 jn (λ(j:Hs)=>
 jn (λ(aa ab ac:Value)(ad:Hs)=>
 kI64 .add g (.int .i64 (.ofNat 1)) (λae=>
 X ae i aa ab ac ad)) λx=>
 kIdxA 1 p g (λaf=>
 kLoad af j (λa=>
 kLoads 1 q j (λag=>
 kCall R 41 [ag,a] j (λah y=>
 kNot ah (λl=>
 jn (λ(d:Hs)=>
 kFieldA 0 f (λai=>
 kLoad ai d (λz=>
 kI64 .quo a (.int .i64 (.ofNat 64)) (λA=>
 kIdxA 1 z A (λaj=>
 kLoad aj d (λak=>
 kI64 .rem a (.int .i64 (.ofNat 64)) (λal=>
 kShl (.int .u64 (.ofNat 1)) al (λam=>
 kU64 .andNot ak am (λan=>
 kIdxA 1 z A (λao=>
 kStore1 ao an d (λap m=>dPut (λbd b=>
 jn (λ(aq:Hs)=>
 x a l o aq) λB=>
 cnd o
 (kFieldA 0 f (λar=>
 kLoad ar b (λC=>
 kI64 .quo a (.int .i64 (.ofNat 64)) (λD=>
 kIdxA 1 C D (λau=>
 kLoad au b (λav=>
 kI64 .rem a (.int .i64 (.ofNat 64)) (λaw=>
 kShl (.int .u64 (.ofNat 1)) aw (λax=>
 kU64 .or av ax (λay=>
 kIdxA 1 C D (λaz=>
 kStore1 az ay b (λa0 n=>dPut (λbe a1=>
 B a1) a0 (dNext b n .bar) (andB (dFit b n .bar) (Nat.ble 0 n.lo)))))))))))))
 (B b)) ap (dNext d m .bar) (andB (dFit d m .bar) (Nat.ble 0 m.lo))))))))))))) λa2=>
 cnd l
 (x a l v y)
 (a2 y))))))) λa3=>
 cnd i
 (a3 w)
 (W g i Y Z v w))) (.int .i64 (.ofNat 0)) dunno dunno dunno dunno S))) (oAlloc 57 [(.slice none 0 0)] enE P)) (oBuild [(.slice none 0 0)] [(0,1,.c L)] enE M))))) (oAlloc 57 [(.slice none 0 0)] enE I)) (oBox 57 (.c E) enE H)
theorem q21:QT 21 r21:=λR N args h=>by kernel_rfl
noncomputable def r22(R:RnK)(N:Nat)(args:List Value)(h:Hs):An:=unC args λi t=>enK h λj=>
 after (λa b=>
 kLoads 4 a b (λl=>
 kCall R 12 [l] b (λm d=>
 kNot m (λn=>
 jn (λ(u v:Value)(f:Hs)=>
 kLoads 4 a f (λo=>
 kCall R 38 [o] f (λg p=>
 kExtr g 0 (λq=>
 kExtr g 1 (λr=>
 clrK h (.tuple #[q,r]) p))))) λs=>
 cnd n
 (clrK h (.tuple #[(.int .i64 (.ofNat 0)),(.int .i64 (.ofNat 0))]) d)
 (s (.int .i64 (.ofNat 0)) (.int .i64 (.ofNat 0)) d))))) (oBox 29 (.c i) enE j)
theorem q22:QT 22 r22:=λR N args h=>by kernel_rfl
noncomputable def r23(R:RnK)(N:Nat)(args:List Value)(h:Hs):An:=unC args λn W=>enK h λv=>
 after (λb w=>
 kCall R 42 [n] w (λf x=>
 kExtr f 0 (λy=>
 kExtr f 1 (λz=>
 kExtr f 2 (λA=>
 after (λo B=>
 after (λX p=>
 kNot z (λg=>
 gdT g p (λC=>C A p) (λD q=>
 gdT g q (λE=>kNot D (λF=>E F q)) (λG H=>
 after (λI r=>
 jn (λ(Y:Value)(a:Hs)=>
 kFieldA 0 o (λJ=>
 kLoads 4 J (Hs.mk a.hp a.nx a.nx) (λK=>
 kCall R 40 [n] (Hs.mk a.hp a.nx a.nx) (λL i=>dPut (λM d=>
 after (λO j=>dPut (λP l=>
 after (λQ m=>dPut (λZ s=>
 clearUp h (packR s (resV enE s [.cell (.c b) 5 true,.t (.c (.int .i64 (.ofNat 0)))]))) Q (dNext l m .bar) (andB (dFit l m .bar) (Nat.ble 0 m.lo))) (store1 5 l (cellsL P) (addrOf b))) O (dNext d j .blind) (andB (dFit d j .blind) (Nat.ble 0 j.lo))) (oBuild [(.int .i64 (.ofNat 0)),(.int .i64 (.ofNat 0)),(.int .i64 (.ofNat 0)),(.int .i64 (.ofNat 0)),(.slice none 0 0)] [(0,4,.c K),(4,1,.c M)] enE (Hs.mk .e d.nx d.nx))) L (dNext a i .light) (andB (dFit a i .light) (Nat.ble 0 i.lo)))))) λS=>
 cnd I
 (after (λU V=>
 after (λaa u=>
 clearUp h (packR u (resV enE u [.cell (.c b) 5 true,.t (.c (.int .i64 (.ofNat 13)))]))) (store1 5 V (cellsL U) (addrOf b))) (oBuild [(.int .i64 (.ofNat 0)),(.int .i64 (.ofNat 0)),(.int .i64 (.ofNat 0)),(.int .i64 (.ofNat 0)),(.slice none 0 0)] [] enE r))
 (S (.int .i64 (.ofNat 0)) r)) (pickB (.c G) (.c (.bool false)) enE H g))))) (store1 5 B (cellsL y) (addrOf o))) (oAlloc 47 [(.int .i64 (.ofNat 0)),(.int .i64 (.ofNat 0)),(.int .i64 (.ofNat 0)),(.int .i64 (.ofNat 0)),(.int .u64 (.ofNat 0))] enE x)))))) (oAlloc 61 [(.int .i64 (.ofNat 0)),(.int .i64 (.ofNat 0)),(.int .i64 (.ofNat 0)),(.int .i64 (.ofNat 0)),(.slice none 0 0)] enE v)
theorem q23:QT 23 r23:=λR N args h=>by kernel_rfl
noncomputable def r24(R:RnK)(N:Nat)(args:List Value)(h:Hs):An:=unC args λf b9=>enK h λm=>
 kNil f (λB=>
 kFieldA 0 B (λC=>
 kFieldA 0 C (λD=>
 kFieldA 0 D (λE=>
 kLoad E m (λF=>
 kI64 .sub F (.int .i64 (.ofNat 1)) (λn=>
 kNil f (λG=>
 kFieldA 0 G (λH=>
 kLoads 5 H m (λI=>
 kCall R 44 [I,(.int .i64 (.ofNat 0))] m (λJ K=>
 kCall R 43 [J] K (λs L=>
 kExtr s 0 (λM=>
 kExtr s 1 (λd=>
 after (λo O=>
 after (λca t=>
 kNil f (λP=>
 kFieldA 0 P (λQ=>
 kLoads 5 Q t (λS=>
 kCall R 44 [S,n] t (λU V=>
 kCall R 43 [U] V (λu W=>
 kExtr u 0 (λX=>
 kExtr u 1 (λg=>
 after (λp Y=>
 after (λcb a=>
 gdT d a (λZ=>kFieldA 0 o (λaa=>Z aa a)) (λab _=>
 gdT d a (λac=>kFieldA 0 ab (λad=>ac ad a)) (λae _=>
 gdT d a (λaf=>kLoad ae (Hs.mk a.hp a.nx a.nx) (λag=>af ag a)) (λah _=>
 gdT d a (λai=>ai f a) (λaj _=>
 gdT d a (λak=>kNil aj (λal=>ak al a)) (λam _=>
 gdT d a (λan=>kFieldA 0 am (λao=>an ao a)) (λap _=>
 gdT d a (λaq=>kFieldA 0 ap (λar=>aq ar a)) (λau _=>
 gdT d a (λav=>kFieldA 0 au (λaw=>av aw a)) (λax _=>
 gdT d a (λay=>kLoad ax (Hs.mk a.hp a.nx a.nx) (λaz=>ay az a)) (λa0 _=>
 gdT d a (λa1=>kI64 .eql ah a0 (λa2=>a1 a2 a)) (λa3 _=>
 after (λa4 q=>dPut (λa5 b=>
 gdT g b (λa6=>kFieldA 0 p (λa7=>a6 a7 b)) (λa8 _=>
 gdT g b (λa9=>kLoads 4 a8 (Hs.mk b.hp b.nx b.nx) (λba=>a9 ba b)) (λbb _=>
 gdT g b (λbc=>bc f b) (λbd _=>
 gdT g b (λbe=>kNil bd (λbf=>be bf b)) (λbg _=>
 gdT g b (λbh=>kFieldA 0 bg (λbi=>bh bi b)) (λbj _=>
 gdT g b (λbk=>kFieldA 0 bj (λbl=>bk bl b)) (λbm _=>
 gdT g b (λbn=>kLoads 4 bm (Hs.mk b.hp b.nx b.nx) (λbo=>bn bo b)) (λbp _=>
 gdT g b (λbq=>obK (λbr=>bq br b) (e2 false (qA [.i,.i,.i,.i]) bb bp)) (λbs _=>
 after (λbt r=>dPut (λbu j=>
 kNot a5 (λbv=>
 jn (λ(cc:Value)(l:Hs)=>
 kNot bu (λbw=>
 jn (λ(cd:Value)(bx:Hs)=>
 clrK h (.tuple #[]) bx) λv=>
 cnd bw
 (kCall R 45 [f,(.int .i64 (.ofNat 0)),(.int .i64 (.ofNat 4)),n,(.int .i64 (.ofNat 0))] l (λce bz=>
 v dunno bz))
 (kFieldA 4 p (λb0=>
 kLoad b0 l (λb1=>
 kU64 .neq b1 (.int .u64 (.ofNat 0)) (λw=>
 jn (λ(b2:Hs)=>
 v w b2) λx=>
 cnd w
 (kCall R 45 [f,(.int .i64 (.ofNat 0)),(.int .i64 (.ofNat 5)),n,(.int .i64 (.ofNat 0))] l (λcf b3=>
 x b3))
 (x l))))))) λy=>
 cnd bv
 (kCall R 45 [f,(.int .i64 (.ofNat 0)),(.int .i64 (.ofNat 3)),(.int .i64 (.ofNat 0)),(.int .i64 (.ofNat 0))] j (λcg b4=>
 y dunno b4))
 (kFieldA 4 o (λb5=>
 kLoad b5 j (λb6=>
 kU64 .neq b6 (.int .u64 (.ofNat 0)) (λz=>
 jn (λ(b7:Hs)=>
 y z b7) λA=>
 cnd z
 (kCall R 45 [f,(.int .i64 (.ofNat 0)),(.int .i64 (.ofNat 5)),(.int .i64 (.ofNat 0)),(.int .i64 (.ofNat 0))] j (λch b8=>
 A b8))
 (A j))))))) bt (dNext b r .blind) (andB (dFit b r .blind) (Nat.ble 0 r.lo))) (pickB (.c bs) (.c (.bool false)) enE (Hs.mk .e b.nx b.nx) g)))))))))) a4 (dNext a q .blind) (andB (dFit a q .blind) (Nat.ble 0 q.lo))) (pickB (.c a3) (.c (.bool false)) enE (Hs.mk .e a.nx a.nx) d)))))))))))) (store1 5 Y (cellsL X) (addrOf p))) (oAlloc 47 [(.int .i64 (.ofNat 0)),(.int .i64 (.ofNat 0)),(.int .i64 (.ofNat 0)),(.int .i64 (.ofNat 0)),(.int .u64 (.ofNat 0))] enE W))))))))) (store1 5 O (cellsL M) (addrOf o))) (oAlloc 47 [(.int .i64 (.ofNat 0)),(.int .i64 (.ofNat 0)),(.int .i64 (.ofNat 0)),(.int .i64 (.ofNat 0)),(.int .u64 (.ofNat 0))] enE L))))))))))))))
theorem q24:QT 24 r24:=λR N args h=>by kernel_rfl
noncomputable def r25(R:RnK)(N:Nat)(args:List Value)(h:Hs):An:=unC args λb W=>enK h λf=>
 kNil b (λo=>
 kFieldA 0 o (λp=>
 kFieldA 0 p (λq=>
 kFieldA 2 q (λr=>
 kLoad r f (λs=>
 jn (λ(X Y Z aa ab:Value)(t:Hs)=>
 clrK h (.tuple #[]) t) λu=>
 lpT (T:=Value→Value→Value→Value→Value→Hs→An) (λ_ _ _ _ _ _=>none) N (λv=>
 λ(a ac w x y:Value)(g:Hs)=>
 kI64 .lss a s (λd=>
 jn (λ(i:Hs)=>
 jn (λ(z A B:Value)(C:Hs)=>
 kI64 .add a (.int .i64 (.ofNat 1)) (λD=>
 v D d z A B C)) λE=>
 kNil b (λF=>
 kFieldA 0 F (λG=>
 kFieldA 0 G (λH=>
 kLoads 4 H i (λI=>
 kCall R 46 [I,a] i (λj c=>
 kExtr j 0 (λl=>
 kExtr j 1 (λad=>
 kNil b (λJ=>
 kFieldA 0 J (λK=>
 kFieldA 4 K (λL=>
 kLoad L c (λM=>
 kI64 .mul (.int .i64 (.ofNat 8)) l (λO=>
 kIdxA 1 M O (λP=>
 kLoad P c (λQ=>
 kU64 .neq Q (.int .u64 (.ofNat 0)) (λm=>
 jn (λ(S:Hs)=>
 E a l m S) λn=>
 cnd m
 (kCall R 45 [b,(.int .i64 (.ofNat 1)),(.int .i64 (.ofNat 1)),a,(.int .i64 (.ofNat 0))] c (λae U=>
 n U))
 (n c))))))))))))))))) λV=>
 cnd d
 (V g)
 (u a d w x y g))) (.int .i64 (.ofNat 0)) dunno dunno dunno dunno f)))))
theorem q25:QT 25 r25:=λR N args h=>by kernel_rfl
noncomputable def r26(R:RnK)(N:Nat)(args:List Value)(h:Hs):An:=unC args λd al=>unC al λi e0=>enK h λj=>
 kNil d (λam=>
 kFieldA 0 am (λan=>
 kLoads 5 an (Hs.mk j.hp j.nx j.nx) (λao=>
 kNil d (λap=>
 kFieldA 0 ap (λaq=>
 kFieldA 0 aq (λar=>
 kLoads 4 ar (Hs.mk j.hp j.nx j.nx) (λau=>
 kCall R 17 [au,i] (Hs.mk j.hp j.nx j.nx) (λav w=>dPut (λaw x=>
 kCall R 44 [ao,aw] x (λax y=>dPut (λay z=>
 kCall R 47 [ay] z (λaz A=>dPut (λV q=>
 kExtr V 0 (λa0=>
 kExtr V 1 (λa1=>
 after (λa2 B=>dPut (λf C=>
 after (λa3 D=>dPut (λe1 m=>
 jn (λ(e3 e4 e5 e6 e7 e8:Value)(a4:Hs)=>
 clrK h (.tuple #[]) a4) λa5=>
 kNot a1 (λW=>
 jn (λ(a6 a7 a8 a9 ba:Value)(bb:Hs)=>
 a5 W a6 a7 a8 a9 ba bb) λX=>
 cnd W
 (kCall R 45 [d,(.int .i64 (.ofNat 2)),(.int .i64 (.ofNat 1)),i,(.int .i64 (.ofNat 0))] m (λe9 bc=>
 X dunno dunno dunno dunno dunno bc))
 (kNil d (λbd=>
 kFieldA 0 bd (λbe=>
 kFieldA 0 be (λbf=>
 kLoads 4 bf (Hs.mk m.hp m.nx m.nx) (λbg=>
 kLoads 4 f (Hs.mk m.hp m.nx m.nx) (λbh=>
 kCall R 48 [bg,bh] m (λbi E=>dPut (λbj F=>
 kNot bj (λY=>
 jn (λ(bk bl bm bn:Value)(bo:Hs)=>
 X Y bk bl bm bn bo) λZ=>
 cnd Y
 (kCall R 45 [d,(.int .i64 (.ofNat 2)),(.int .i64 (.ofNat 2)),i,(.int .i64 (.ofNat 0))] F (λfa bp=>
 Z dunno dunno dunno dunno bp))
 (kI64 .eql i (.int .i64 (.ofNat 1)) (λr=>
 gdT r F (λbq=>kFieldA 0 f (λbr=>bq br F)) (λbs G=>
 gdT r G (λbt=>kLoad bs G (λbu=>bt bu G)) (λbv aa=>
 gdT r aa (λbw=>kI64 .neq bv (.int .i64 (.ofNat 2)) (λbx=>bw bx aa)) (λbz b0=>
 after (λab b=>
 jn (λ(b1 b2 b3:Value)(b4:Hs)=>
 Z ab b1 b2 b3 b4) λac=>
 cnd ab
 (kCall R 45 [d,(.int .i64 (.ofNat 2)),(.int .i64 (.ofNat 3)),i,(.int .i64 (.ofNat 0))] b (λfb b5=>
 ac dunno dunno dunno b5))
 (kI64 .eql i (.int .i64 (.ofNat 2)) (λo=>
 gdT o b (λb6=>kFieldA 0 f (λb7=>b6 b7 b)) (λb8 _=>
 gdT o b (λb9=>kLoad b8 b (λca=>b9 ca b)) (λcb _=>
 gdT o b (λcc=>kI64 .neq cb (.int .i64 (.ofNat 2)) (λcd=>cc cd b)) (λce _=>
 gdT o b (λcf=>cf ce b) (λp _=>
 gdF p b (λcg=>cg d b) (λch _=>
 gdF p b (λci=>kLoads 4 f b (λcj=>ci cj b)) (λck _=>
 gdF p b (λcl=>kCall R 49 [ch,ck] b (λcm H=>dPut cl cm (dNext b H .bar) (andB (dFit b H .bar) (Nat.ble 0 H.lo)))) (λcn l=>
 gdF p l (λco=>kNot cn (λcp=>co cp l)) (λcq _=>
 gdT o l (λcr=>after (λcs I=>dPut cr cs (dNext l I .blind) (andB (dFit l I .blind) (Nat.ble 0 I.lo))) (pickB (.c (.bool true)) (.c cq) enE (Hs.mk .e l.nx l.nx) p)) (λct a=>
 gdT o a (λcu=>cu ct a) (λn _=>
 gdF n a (λcv=>kFieldA 2 f (λcw=>cv cw a)) (λcx _=>
 gdF n a (λcy=>kLoad cx (dHidS .light [true,true,true,true,true,true,true,true,true,true,true,true,true,true] [none,none,some (l.nx,a.nx),none,some (b.nx,l.nx),none,none,none,none,none,none,none,none,none] a) (λcz=>cy cz a)) (λc0 _=>
 gdF n a (λc1=>c1 d a) (λc2 _=>
 gdF n a (λc3=>kNil c2 (λc4=>c3 c4 a)) (λc5 _=>
 gdF n a (λc6=>kFieldA 0 c5 (λc7=>c6 c7 a)) (λc8 _=>
 gdF n a (λc9=>kFieldA 0 c8 (λda=>c9 da a)) (λdb _=>
 gdF n a (λdc=>kFieldA 1 db (λdd=>dc dd a)) (λde _=>
 gdF n a (λdf=>kLoad de (dHidS .light [true,true,true,true,true,false,false,true,true,true,true,true,true,true,true,true,true,true,true,true] [none,none,none,none,none,none,none,none,some (l.nx,a.nx),none,some (b.nx,l.nx),none,none,none,none,none,none,none,none,none] a) (λdg=>df dg a)) (λdh _=>
 gdF n a (λdi=>kI64 .neq c0 dh (λdj=>di dj a)) (λdk _=>
 gdT o a (λdl=>after (λdm J=>dPut dl dm (dNext a J .blind) (andB (dFit a J .blind) (Nat.ble 0 J.lo))) (pickB (.c (.bool true)) (.c dk) enE (Hs.mk .e a.nx a.nx) n)) (λdn s=>
 after (λdp K=>dPut (λad L=>
 jn (λ(dq dr:Value)(ds:Hs)=>
 ac ad dq dr ds) λae=>
 cnd ad
 (kCall R 45 [d,(.int .i64 (.ofNat 2)),(.int .i64 (.ofNat 4)),i,(.int .i64 (.ofNat 0))] L (λfc dt=>
 ae dunno dunno dt))
 (kI64 .neq i (.int .i64 (.ofNat 2)) (λt=>
 gdT t L (λdu=>du d L) (λdv M=>
 gdT t M (λdw=>kLoads 4 f M (λdx=>dw dx M)) (λdy af=>
 gdT t af (λdz=>kCall R 49 [dv,dy] af (dz)) (λd0 d1=>
 after (λag u=>
 jn (λ(d2:Value)(d3:Hs)=>
 ae ag d2 d3) λah=>
 cnd ag
 (kCall R 45 [d,(.int .i64 (.ofNat 2)),(.int .i64 (.ofNat 5)),i,(.int .i64 (.ofNat 0))] u (λfd d4=>
 ah dunno d4))
 (kFieldA 0 f (λd5=>
 kLoad d5 u (λd6=>
 kI64 .eql d6 (.int .i64 (.ofNat 2)) (λv=>
 gdT v u (λd7=>kFieldA 1 f (λd8=>d7 d8 u)) (λd9 O=>
 gdT v O (λea=>kLoad d9 O (λeb=>ea eb O)) (λec ai=>
 gdT v ai (λed=>kI64 .neq ec (.int .i64 (.ofNat 1)) (λee=>ed ee ai)) (λef eg=>
 after (λaj P=>
 jn (λ(eh:Hs)=>
 ah aj eh) λak=>
 cnd aj
 (kCall R 45 [d,(.int .i64 (.ofNat 2)),(.int .i64 (.ofNat 6)),i,(.int .i64 (.ofNat 0))] P (λfe ei=>
 ak ei))
 (lwF f P (λg=>
 kNil d (λej=>
 kFieldA 5 ej (λek=>
 kLoad ek (Hs.mk g.hp g.nx g.nx) (λel=>
 kNil d (λem=>
 kFieldA 6 em (λen=>
 kLoad en (Hs.mk g.hp g.nx g.nx) (λeo=>
 kLoads 4 f (Hs.mk g.hp g.nx g.nx) (λep=>
 kFieldA 0 f (λeq=>
 kLoad eq (lowF (cutV f) g g) (λer=>
 kI64 .neq er (.int .i64 (.ofNat 0)) (λes=>
 kIdxA 4 el i (λet=>
 after (λeu Q=>dPut (λff S=>
 kIdxA 1 eo i (λew=>
 kStore1 ew es S (λex U=>dPut (λfg ey=>
 lwFE f P ey (λez=>
 ak ez)) ex (dNext S U .bar) (andB (dFit S U .bar) (Nat.ble 0 U.lo))))) eu (dNext g Q .bar) (andB (dFit g Q .bar) (Nat.ble 0 Q.lo))) (store1 4 g (cellsL ep) (addrOf et)))))))))))))))) (pickB (.c ef) (.c (.bool false)) enE eg v))))))))) (pickB (.c d0) (.c (.bool false)) enE d1 t))))))) dp (dNext s K .blind) (andB (dFit s K .blind) (Nat.ble 0 K.lo))) (pickB (.c dn) (.c (.bool false)) enE (Hs.mk .e s.nx s.nx) o)))))))))))))))))))))))) (pickB (.c bz) (.c (.bool false)) enE b0 r)))))))) bi (dNext m E .bar) (andB (dFit m E .bar) (Nat.ble 0 E.lo))))))))))) a3 (dNext C D .bar) (andB (dFit C D .bar) (Nat.ble 0 D.lo))) (store1 4 C (cellsL a0) (addrOf f))) a2 (dNext q B .make) (andB (dFit q B .make) (Nat.ble 0 B.lo))) (oAlloc 53 [(.int .i64 (.ofNat 0)),(.int .i64 (.ofNat 0)),(.int .i64 (.ofNat 0)),(.slice none 0 0)] enE (Hs.mk .e q.nx q.nx))))) az (dNext z A .bar) (andB (dFit z A .bar) (Nat.ble 0 A.lo)))) ax (dNext x y .bar) (andB (dFit x y .bar) (Nat.ble 0 y.lo)))) av (dNext j w .light) (andB (dFit j w .light) (Nat.ble 0 w.lo))))))))))
theorem q26:QT 26 r26:=λR N args h=>by kernel_rfl
noncomputable def r27(R:RnK)(N:Nat)(args:List Value)(h:Hs):An:=unC args λi bx=>enK h λM=>
 after (λr s=>
 kNil i (λO=>
 kFieldA 6 O (λP=>
 kLoad P s (λQ=>
 kLenV Q (λS=>
 jn (λ(bz b0 b1 b2 b3 b4 b5 b6 b7 b8 b9 ca cb:Value)(U:Hs)=>
 clrK h (.tuple #[]) U) λV=>
 lpT (T:=Value→Value→Value→Value→Value→Value→Value→Value→Value→Value→Value→Value→Value→Hs→An) (λ_ _ _ _ _ _ _ _ _ _ _ _ _ _=>none) N (λW=>
 λ(a cc X Y Z t aa u v w ab x ac:Value)(y:Hs)=>
 kI64 .lss a S (λj=>
 jn (λ(ad:Hs)=>
 jn (λ(ae af ag ah ai aj ak al am an ao:Value)(ap:Hs)=>
 kI64 .add a (.int .i64 (.ofNat 1)) (λaq=>
 W aq j ae af ag ah ai aj ak al am an ao ap)) λar=>
 kCall R 50 [i,a] ad (λl au=>
 kLenV l (λz=>
 jn (λ(av aw ax ay az m a0:Value)(A:Hs)=>
 kI64 .neq m (.int .i64 (.ofNat 0)) (λB=>
 jn (λ(a1:Hs)=>
 ar a av z aw l ax ay az m a0 B a1) λC=>
 cnd B
 (kCall R 45 [i,(.int .i64 (.ofNat 3)),(.int .i64 (.ofNat 1)),a,m] A (λcd a2=>
 C a2))
 (C A))) λa3=>
 lpT (T:=Value→Value→Value→Value→Value→Value→Value→Hs→An) (λ_ _ _ _ _ _ _ _=>none) N (λa4=>
 λ(d ce a5 a6 a7 b D:Value)(E:Hs)=>
 kI64 .lss d z (λn=>
 jn (λ(o:Hs)=>
 jn (λ(a8 a9 ba bb bc:Value)(bd:Hs)=>
 kI64 .add d (.int .i64 (.ofNat 1)) (λbe=>
 a4 be n a8 a9 ba bb bc bd)) λbf=>
 kIdxA 1 l d (λbg=>
 kLoad bg o (λp=>
 after (λf q=>
 kI64 .eql f (.int .i64 (.ofNat 0)) (λF=>
 jn (λ(bh bi:Value)(bj:Hs)=>
 bf p f F bh bi bj) λG=>
 cnd F
 (after (λcf bk=>
 G b D bk) (mapup1 true q p a r))
 (kI64 .eql b (.int .i64 (.ofNat 0)) (λg=>
 gdF g q (λbl=>bl f q) (λbm H=>
 gdF g H (λbn=>bn b H) (λbo I=>
 gdF g I (λbp=>kI64 .lss bm bo (λbq=>bp bq I)) (λbr bs=>
 after (λJ K=>
 jn (λ(bt:Value)(bu:Hs)=>
 G bt J bu) λL=>
 cnd J
 (L f K)
 (L b K)) (pickB (.c (.bool true)) (.c br) enE bs g)))))))) (ret1 o (lk1 true o (.int .i64 (.ofNat 0)) false p r))))) λbv=>
 cnd n
 (bv E)
 (a3 d n a5 a6 a7 b D E))) (.int .i64 (.ofNat 0)) t u v w (.int .i64 (.ofNat 0)) x au))) λbw=>
 cnd j
 (bw y)
 (V a j X Y Z t aa u v w ab x ac y))) (.int .i64 (.ofNat 0)) dunno dunno dunno dunno dunno dunno dunno dunno dunno dunno dunno dunno s))))) (mkmap1 M (.int .i64 0))
theorem q27:QT 27 r27:=λR N args h=>by kernel_rfl
noncomputable def r28(R:RnK)(N:Nat)(args:List Value)(h:Hs):An:=unC args λg f8=>enK h λbb=>
 after (λaf ag=>
 kNil g (λbc=>
 kFieldA 6 bc (λbd=>
 kLoad bd ag (λbe=>
 kLenV be (λbf=>
 jn (λ(f9 ga gb gc gd ge gf gg gh gi gj gk gl gm gn go gp gq gr:Value)(bg:Hs)=>
 clrK h (.tuple #[]) bg) λbh=>
 lpT (T:=Value→Value→Value→Value→Value→Value→Value→Value→Value→Value→Value→Value→Value→Value→Value→Value→Value→Value→Value→Hs→An) (λ_ _ _ _ _ _ _ _ _ _ _ _ _ _ _ _ _ _ _ _=>none) N (λbi=>
 λ(b gs bj bk ah ai t aj u v w x y z ak A B C D:Value)(al:Hs)=>
 kI64 .lss b bf (λE=>
 jn (λ(m:Hs)=>
 jn (λ(bl bm bn bo bp bq br bs bt bu bv bw bx bz b0 b1 b2:Value)(b3:Hs)=>
 kI64 .add b (.int .i64 (.ofNat 1)) (λb4=>
 bi b4 E bl bm bn bo bp bq br bs bt bu bv bw bx bz b0 b1 b2 b3)) λam=>
 kNil g (λb5=>
 kFieldA 6 b5 (λb6=>
 kLoad b6 m (λb7=>
 kIdxA 1 b7 b (λb8=>
 kLoad b8 m (λb9=>
 kNot b9 (λl=>
 gdF l m (λca=>ca g m) (λcb an=>
 gdF l an (λcc=>kNil cb (λcd=>cc cd an)) (λce ao=>
 gdF l ao (λcf=>kFieldA 5 ce (λcg=>cf cg ao)) (λch F=>
 gdF l F (λci=>kLoad ch F (λcj=>ci cj F)) (λck ap=>
 gdF l ap (λcl=>cl b ap) (λcm aq=>
 gdF l aq (λcn=>kIdxA 4 ck cm (λco=>cn co aq)) (λcp ar=>
 gdF l ar (λcq=>kFieldA 0 cp (λcr=>cq cr ar)) (λcs G=>
 gdF l G (λct=>kLoad cs G (λcu=>ct cu G)) (λcv au=>
 gdF l au (λcw=>kI64 .neq cv (.int .i64 (.ofNat 2)) (λcx=>cw cx au)) (λcy cz=>
 after (λH av=>
 jn (λ(c0:Hs)=>
 after (λI c1=>
 kCall R 50 [g,b] c1 (λJ c2=>
 kLenV J (λaw=>
 jn (λ(c3 c4 c5 c6 c7 c8 c9 da db dc dd de:Value)(df:Hs)=>
 am b H c3 aw c4 J c5 c6 c7 c8 c9 da I db dc dd de df) λdg=>
 lpT (T:=Value→Value→Value→Value→Value→Value→Value→Value→Value→Value→Value→Value→Hs→An) (λ_ _ _ _ _ _ _ _ _ _ _ _ _=>none) N (λdh=>
 λ(i gt di dj dk dl dm ax K L n M:Value)(ay:Hs)=>
 kI64 .lss i aw (λO=>
 jn (λ(P:Hs)=>
 jn (λ(dn dp dq dr ds dt du dv dw dx:Value)(dy:Hs)=>
 kI64 .add i (.int .i64 (.ofNat 1)) (λdz=>
 dh dz O dn dp dq dr ds dt du dv dw dx dy)) λQ=>
 kIdxA 1 J i (λd0=>
 kLoad d0 P (λo=>
 kNil g (λd1=>
 kFieldA 0 d1 (λd2=>
 kLoads 5 d2 P (λd3=>
 kCall R 44 [d3,o] P (λd4 d5=>
 kCall R 51 [d4] d5 (λaz d6=>
 kExtr az 0 (λd7=>
 kExtr az 1 (λp=>
 after (λd d8=>
 after (λgu a0=>
 kNot p (λq=>
 jn (λ(S:Hs)=>
 kFieldA 0 d (λd9=>
 kLoad d9 S (λea=>
 kI64 .eql ea (.int .i64 (.ofNat 0)) (λU=>
 jn (λ(a1:Hs)=>
 kLoads 2 d a1 (λeb=>
 after (λec V=>
 kFieldA 1 d (λed=>
 kLoad ed V (λee=>
 after (λef eg=>
 kCall R 52 [g,ec,ef] eg (λW a2=>
 kFieldA 1 d (λeh=>
 kLoad eh a2 (λei=>
 after (λgv a=>
 kI64 .eql W (.int .i64 (.ofNat 0)) (λj=>
 gdT j a (λej=>ej g a) (λek _=>
 gdT j a (λel=>kNil ek (λem=>el em a)) (λen _=>
 gdT j a (λeo=>kFieldA 5 en (λep=>eo ep a)) (λeq _=>
 gdT j a (λer=>kLoad eq (Hs.mk a.hp a.nx a.nx) (λes=>er es a)) (λet _=>
 gdT j a (λeu=>kFieldA 0 d (λew=>eu ew a)) (λex _=>
 gdT j a (λey=>kLoad ex (Hs.mk a.hp a.nx a.nx) (λez=>ey ez a)) (λe0 _=>
 gdT j a (λe1=>kIdxA 4 et e0 (λe3=>e1 e3 a)) (λe4 _=>
 gdT j a (λe5=>kFieldA 0 e4 (λe6=>e5 e6 a)) (λe7 _=>
 gdT j a (λe8=>kLoad e7 a (λe9=>e8 e9 a)) (λfa _=>
 gdT j a (λfb=>kI64 .eql fa (.int .i64 (.ofNat 2)) (λfc=>fb fc a)) (λfd _=>
 after (λfe X=>dPut (λa3 r=>
 jn (λ(Y ff:Value)(f:Hs)=>
 kI64 .neq Y (.int .i64 (.ofNat 0)) (λa4=>
 jn (λ(fg:Hs)=>
 Q o p q i d U Y a3 ff a4 fg) λa5=>
 cnd a4
 (kCall R 45 [g,(.int .i64 (.ofNat 4)),Y,b,i] f (λgw fh=>
 a5 fh))
 (kNil g (λfi=>
 kFieldA 7 fi (λfj=>
 kLoad fj (Hs.mk f.hp f.nx f.nx) (λfk=>
 kLoads 2 d (Hs.mk f.hp f.nx f.nx) (λfl=>
 after (λfm Z=>dPut (λfn s=>
 after (λfo aa=>dPut (λfp ab=>
 after (λfq ac=>dPut (λfr ad=>
 kNil g (λfs=>
 kFieldA 7 fs (λft=>
 kStore1 ft fr ad (λfu ae=>dPut (λgx fv=>
 a5 fv) fu (dNext ad ae .bar) (andB (dFit ad ae .bar) (Nat.ble 0 ae.lo)))))) fq (dNext ab ac .bar) (andB (dFit ab ac .bar) (Nat.ble 0 ac.lo))) (app0 102 4 40 ab fk fp)) fo (dNext s aa .light) (andB (dFit s aa .light) (Nat.ble 0 aa.lo))) (oMkrow 102 4 1 [(.int .i64 (.ofNat 0)),(.int .i64 (.ofNat 0)),(.int .i64 (.ofNat 0)),(.string ⟨#[]⟩)] [(0,4,.c fn)] enE (dHidS .light [true,true,true,true,false,false,false,false,false] [some (f.nx,s.nx),none,none,none,none,none,none,none,none] s))) fm (dNext f Z .blind) (andB (dFit f Z .blind) (Nat.ble 0 Z.lo))) (oBuild [(.int .i64 (.ofNat 0)),(.int .i64 (.ofNat 0)),(.int .i64 (.ofNat 0)),(.string ⟨#[]⟩)] [(0,1,.c b),(1,1,.c i),(2,2,.c fl)] enE (Hs.mk .e f.nx f.nx))))))))) λa6=>
 cnd a3
 (kFieldA 0 d (λfw=>
 kLoad fw r (λfx=>
 after (λa7 a8=>
 jn (λ(fy:Value)(a9:Hs)=>
 kFieldA 0 d (λfz=>
 kLoad fz a9 (λf0=>
 after (λgy f1=>
 a6 fy a7 f1) (mapup1 true a9 f0 (.bool true) af)))) λba=>
 cnd a7
 (ba (.int .i64 (.ofNat 6)) a8)
 (ba W a8)) (ret1 r (lk1 true r (.bool false) false fx af)))))
 (a6 W n r)) fe (dNext a X .blind) (andB (dFit a X .blind) (Nat.ble 0 X.lo))) (pickB (.c fd) (.c (.bool false)) enE (Hs.mk .e a.nx a.nx) j))))))))))))) (mapup1 false a2 ei (.bool true) I))))) (ret1 V (lk1 false V (.bool false) false ee I))))) (oBuild [(.int .i64 (.ofNat 0)),(.int .i64 (.ofNat 0)),(.int .i64 (.ofNat 0)),(.string ⟨#[]⟩)] [(0,1,.c b),(1,1,.c i),(2,2,.c eb)] enE a1))) λf2=>
 cnd U
 (Q o p q i d U K L n M S)
 (f2 S))))) λf3=>
 cnd q
 (kCall R 45 [g,(.int .i64 (.ofNat 4)),(.int .i64 (.ofNat 1)),b,i] a0 (λgz f4=>
 Q o p q i d ax K L n M f4))
 (f3 a0))) (store1 2 d8 (cellsL d7) (addrOf d))) (oAlloc 97 [(.int .i64 (.ofNat 0)),(.string ⟨#[]⟩)] enE d6))))))))))) λf5=>
 cnd O
 (f5 ay)
 (dg i O di dj dk dl dm ax K L n M ay))) (.int .i64 (.ofNat 0)) t u v w x y z A B C D c2))) (mkmap1 c0 (.int .i64 0))) λf6=>
 cnd H
 (am b H ah ai t aj u v w x y z ak A B C D av)
 (f6 av)) (pickB (.c (.bool true)) (.c cy) enE cz l))))))))))))))))) λf7=>
 cnd E
 (f7 al)
 (bh b E bj bk ah ai t aj u v w x y z ak A B C D al))) (.int .i64 (.ofNat 0)) dunno dunno dunno dunno dunno dunno dunno dunno dunno dunno dunno dunno dunno dunno dunno dunno dunno dunno ag))))) (mkmap1 bb (.int .i64 0))
theorem q28:QT 28 r28:=λR N args h=>by kernel_rfl
noncomputable def r29(R:RnK)(N:Nat)(args:List Value)(h:Hs):An:=unC args λo dn=>enK h λX=>
 after (λj Y=>
 after (λdp Z=>
 after (λdq aa=>
 jn (λ(dr ds dt du dv dw dx dy:Value)(B:Hs)=>
 kNil o (λab=>
 kFieldA 6 ab (λac=>
 kLoad ac B (λC=>
 kLenV C (λad=>
 jn (λ(dz d0 d1 d2 d3:Value)(ae:Hs)=>
 clrK h (.tuple #[]) ae) λaf=>
 lpT (T:=Value→Value→Value→Value→Value→Hs→An) (λ_ _ _ _ _ _=>none) N (λag=>
 λ(f d4 ah ai aj:Value)(D:Hs)=>
 kI64 .lss f ad (λr=>
 jn (λ(s:Hs)=>
 jn (λ(ak al am:Value)(an:Hs)=>
 kI64 .add f (.int .i64 (.ofNat 1)) (λao=>
 ag ao r ak al am an)) λap=>
 kIdxA 1 C f (λaq=>
 kLoad aq s (λl=>
 gdT l s (λar=>ar j s) (λau E=>
 gdT l E (λav=>av f E) (λaw t=>
 gdT l t (λax=>after (ax) (ret1 t (lk1 true t (.bool false) false aw au))) (λay F=>
 gdT l F (λaz=>kNot ay (λa0=>az a0 F)) (λa1 a2=>
 after (λG H=>
 jn (λ(a3:Hs)=>
 ap l f G a3) λI=>
 cnd G
 (kCall R 45 [o,(.int .i64 (.ofNat 5)),(.int .i64 (.ofNat 1)),f,(.int .i64 (.ofNat 0))] H (λd5 a4=>
 I a4))
 (I H)) (pickB (.c a1) (.c (.bool false)) enE a2 l)))))))) λa5=>
 cnd r
 (a5 D)
 (af f r ah ai aj D))) (.int .i64 (.ofNat 0)) dunno dunno dunno dunno B))))) λa6=>
 lpT (T:=Value→Value→Value→Value→Value→Value→Value→Value→Hs→An) (λ_ _ _ _ _ _ _ _ _=>none) N (λa7=>
 λ(p d6 a8 a9 J ba K L:Value)(M:Hs)=>
 jn (λ(O:Hs)=>
 jn (λ(bb bc bd be bf bg bh:Value)(bi:Hs)=>
 a7 bb p bc bd be bf bg bh bi) λbj=>
 kNil o (λbk=>
 kFieldA 7 bk (λbl=>
 kLoad bl O (λu=>
 kLenV u (λP=>
 jn (λ(bm bn bo bp bq:Value)(br:Hs)=>
 bj bm bn P bo u bp bq br) λbs=>
 lpT (T:=Value→Value→Value→Value→Value→Hs→An) (λ_ _ _ _ _ _=>none) N (λbt=>
 λ(Q q d7 bu bv:Value)(S:Hs)=>
 kI64 .lss q P (λv=>
 jn (λ(U:Hs)=>
 jn (λ(bw bx bz:Value)(b0:Hs)=>
 kI64 .add q (.int .i64 (.ofNat 1)) (λb1=>
 bt bw b1 v bx bz b0)) λb2=>
 kIdxA 4 u q (λb3=>
 kLoads 4 b3 U (λb4=>
 after (λm b5=>
 after (λd8 g=>
 kFieldA 0 m (λb6=>
 kLoad b6 g (λb7=>
 after (λb8 w=>dPut (λd a=>
 gdT d a (λb9=>b9 o a) (λca _=>
 gdT d a (λcb=>kNil ca (λcc=>cb cc a)) (λcd _=>
 gdT d a (λce=>kFieldA 6 cd (λcf=>ce cf a)) (λcg _=>
 gdT d a (λch=>kLoad cg (dHidS .light [true,true,true,true,true,true,true,true] [none,none,none,none,some (g.nx,a.nx),none,none,none] a) (λci=>ch ci a)) (λcj _=>
 gdT d a (λck=>kFieldA 0 m (λcl=>ck cl a)) (λcm _=>
 gdT d a (λcn=>kLoad cm (dHidS .light [true,false,false,false,false,true,true,true,true,true] [none,none,none,none,none,none,some (g.nx,a.nx),none,none,none] a) (λco=>cn co a)) (λcp _=>
 gdT d a (λcq=>kIdxA 1 cj cp (λcr=>cq cr a)) (λcs _=>
 gdT d a (λct=>kLoad cs a (λcu=>ct cu a)) (λcv _=>
 after (λcw x=>dPut (λi b=>
 gdT i b (λcx=>cx j b) (λcy _=>
 gdT i b (λcz=>kFieldA 2 m (λc0=>cz c0 b)) (λc1 _=>
 gdT i b (λc2=>kFieldA 0 c1 (λc3=>c2 c3 b)) (λc4 _=>
 gdT i b (λc5=>kLoad c4 b (λc6=>c5 c6 b)) (λc7 _=>
 gdT i b (λc8=>after (λc9 y=>dPut c8 c9 (dNext b y .bar) (andB (dFit b y .bar) (Nat.ble 0 y.lo))) (ret1 b (lk1 true b (.bool false) false c7 cy))) (λda n=>
 gdT i n (λdb=>kNot da (λdc=>db dc n)) (λdd _=>
 after (λde z=>dPut (λV A=>
 jn (λ(df:Value)(dg:Hs)=>
 b2 df m V dg) λW=>
 cnd V
 (kFieldA 2 m (λdh=>
 kFieldA 0 dh (λdi=>
 kLoad di A (λdj=>
 after (λd9 dk=>
 W (.bool true) dk) (mapup1 true A dj (.bool true) j)))))
 (W Q A)) de (dNext n z .blind) (andB (dFit n z .blind) (Nat.ble 0 z.lo))) (pickB (.c dd) (.c (.bool false)) enE (Hs.mk .e n.nx n.nx) i)))))))) cw (dNext a x .blind) (andB (dFit a x .blind) (Nat.ble 0 x.lo))) (pickB (.c cv) (.c (.bool false)) enE (Hs.mk .e a.nx a.nx) d)))))))))) b8 (dNext g w .bar) (andB (dFit g w .bar) (Nat.ble 0 w.lo))) (ret1 g (lk1 true g (.bool false) false b7 j))))) (store1 4 b5 (cellsL b4) (addrOf m))) (oAlloc 102 [(.int .i64 (.ofNat 0)),(.int .i64 (.ofNat 0)),(.int .i64 (.ofNat 0)),(.string ⟨#[]⟩)] enE U)))) λdl=>
 cnd v
 (dl S)
 (bs Q q v bu bv S))) (.bool false) (.int .i64 (.ofNat 0)) J K L O))))) λdm=>
 cnd p
 (dm M)
 (a6 p p a8 a9 J ba K L M)) (.bool true) dunno dunno dunno dunno dunno dunno dunno aa) (mapup1 true Z (.int .i64 (.ofNat 2)) (.bool true) j)) (mapup1 true Y (.int .i64 (.ofNat 1)) (.bool true) j)) (mkmap1 X (.int .i64 0))
theorem q29:QT 29 r29:=λR N args h=>by kernel_rfl
noncomputable def r30(R:RnK)(N:Nat)(args:List Value)(h:Hs):An:=unC args λj co=>enK h λF=>
 after (λl v=>
 kNil j (λG=>
 kFieldA 7 G (λH=>
 kLoad H v (λw=>
 kLenV w (λI=>
 jn (λ(cp cq cr:Value)(x:Hs)=>
 kNil j (λJ=>
 kFieldA 6 J (λK=>
 kLoad K x (λy=>
 kLenV y (λL=>
 jn (λ(cs ct cu cv cw:Value)(M:Hs)=>
 clrK h (.tuple #[]) M) λO=>
 lpT (T:=Value→Value→Value→Value→Value→Hs→An) (λ_ _ _ _ _ _=>none) N (λP=>
 λ(i cx Q S U:Value)(z:Hs)=>
 kI64 .lss i L (λn=>
 jn (λ(a:Hs)=>
 jn (λ(V W X:Value)(Y:Hs)=>
 kI64 .add i (.int .i64 (.ofNat 1)) (λZ=>
 P Z n V W X Y)) λaa=>
 kIdxA 1 y i (λab=>
 kLoad ab a (λg=>
 gdT g a (λac=>ac j a) (λad _=>
 gdT g a (λae=>kNil ad (λaf=>ae af a)) (λag _=>
 gdT g a (λah=>kFieldA 5 ag (λai=>ah ai a)) (λaj _=>
 gdT g a (λak=>kLoad aj a (λal=>ak al a)) (λam _=>
 gdT g a (λan=>an i a) (λao _=>
 gdT g a (λap=>kIdxA 4 am ao (λaq=>ap aq a)) (λar _=>
 gdT g a (λau=>kFieldA 0 ar (λav=>au av a)) (λaw _=>
 gdT g a (λax=>kLoad aw a (λay=>ax ay a)) (λaz _=>
 gdT g a (λa0=>kI64 .neq az (.int .i64 (.ofNat 2)) (λa1=>a0 a1 a)) (λa2 _=>
 after (λa3 o=>dPut (λf d=>
 gdT f d (λa4=>a4 l d) (λa5 _=>
 gdT f d (λa6=>a6 i d) (λa7 _=>
 gdT f d (λa8=>after (λa9 p=>dPut a8 a9 (dNext d p .light) (andB (dFit d p .light) (Nat.ble 0 p.lo))) (ret1 (dHidS .light [true,true,true,true,true,true,true,true,true,true,true,true,true,true,true] [none,none,none,some (a.nx,d.nx),none,none,none,none,none,none,none,none,none,none,none] d) (lk1 true (dHidS .light [true,true,true,true,true,true,true,true,true,true,true,true,true,true,true] [none,none,none,some (a.nx,d.nx),none,none,none,none,none,none,none,none,none,none,none] d) (.int .i64 (.ofNat 0)) false a7 a5))) (λba b=>
 gdT f b (λbb=>bb j b) (λbc _=>
 gdT f b (λbd=>kNil bc (λbe=>bd be b)) (λbf _=>
 gdT f b (λbg=>kFieldA 5 bf (λbh=>bg bh b)) (λbi _=>
 gdT f b (λbj=>kLoad bi (dHidS .light [true,true,true,false,false,false,true,true,true,true,true,true,true,true,true,true,true,true,true] [none,none,none,some (d.nx,b.nx),none,none,none,some (a.nx,d.nx),none,none,none,none,none,none,none,none,none,none,none] b) (λbk=>bj bk b)) (λbl _=>
 gdT f b (λbm=>bm i b) (λbn _=>
 gdT f b (λbo=>kIdxA 4 bl bn (λbp=>bo bp b)) (λbq _=>
 gdT f b (λbr=>kFieldA 1 bq (λbs=>br bs b)) (λbt _=>
 gdT f b (λbu=>kLoad bt (dHidS .light [true,true,true,true,true,true,true,false,false,false,true,true,true,true,true,true,true,true,true,true,true,true,true] [none,none,none,none,none,none,none,some (d.nx,b.nx),none,none,none,some (a.nx,d.nx),none,none,none,none,none,none,none,none,none,none,none] b) (λbv=>bu bv b)) (λbw _=>
 gdT f b (λbx=>kI64 .neq ba bw (λbz=>bx bz b)) (λb0 _=>
 after (λb1 q=>dPut (λA r=>
 jn (λ(b2:Hs)=>
 aa g i A b2) λB=>
 cnd A
 (after (λb3 b4=>
 kCall R 45 [j,(.int .i64 (.ofNat 6)),(.int .i64 (.ofNat 1)),i,b3] b4 (λcy b5=>
 B b5)) (ret1 r (lk1 true r (.int .i64 (.ofNat 0)) false i l)))
 (B r)) b1 (dNext b q .blind) (andB (dFit b q .blind) (Nat.ble 0 q.lo))) (pickB (.c b0) (.c (.bool false)) enE (Hs.mk .e b.nx b.nx) f)))))))))))))) a3 (dNext a o .blind) (andB (dFit a o .blind) (Nat.ble 0 o.lo))) (pickB (.c a2) (.c (.bool false)) enE (Hs.mk .e a.nx a.nx) g))))))))))))) λb6=>
 cnd n
 (b6 z)
 (O i n Q S U z))) (.int .i64 (.ofNat 0)) dunno dunno dunno dunno x))))) λb7=>
 lpT (T:=Value→Value→Value→Hs→An) (λ_ _ _ _=>none) N (λb8=>
 λ(m cz b9:Value)(C:Hs)=>
 kI64 .lss m I (λs=>
 jn (λ(D:Hs)=>
 jn (λ(ca:Value)(cb:Hs)=>
 kI64 .add m (.int .i64 (.ofNat 1)) (λcc=>
 b8 cc s ca cb)) λcd=>
 kIdxA 4 w m (λce=>
 kLoads 4 ce D (λcf=>
 after (λt cg=>
 after (λc0 u=>
 kFieldA 2 t (λch=>
 kFieldA 0 ch (λci=>
 kLoad ci u (λE=>
 after (λcj ck=>
 kI64 .add cj (.int .i64 (.ofNat 1)) (λcl=>
 after (λc1 cm=>
 cd t cm) (mapup1 true ck E cl l))) (ret1 u (lk1 true u (.int .i64 (.ofNat 0)) false E l)))))) (store1 4 cg (cellsL cf) (addrOf t))) (oAlloc 102 [(.int .i64 (.ofNat 0)),(.int .i64 (.ofNat 0)),(.int .i64 (.ofNat 0)),(.string ⟨#[]⟩)] enE D)))) λcn=>
 cnd s
 (cn C)
 (b7 m s b9 C))) (.int .i64 (.ofNat 0)) dunno dunno v))))) (mkmap1 F (.int .i64 0))
theorem q30:QT 30 r30:=λR N args h=>by kernel_rfl
noncomputable def r31(R:RnK)(N:Nat)(args:List Value)(h:Hs):An:=unC args λb dv=>enK h λu=>
 kNil b (λah=>
 kFieldA 0 ah (λai=>
 kFieldA 0 ai (λaj=>
 kLoads 4 aj u (λak=>
 kCall R 19 [ak] u (λv al=>
 kExtr v 0 (λw=>
 kExtr v 1 (λam=>
 after (λx y=>
 kNil b (λan=>
 kFieldA 6 an (λao=>
 kLoad ao y (λap=>
 kLenV ap (λaq=>
 jn (λ(dw dx dy dz d0 d1 d2 d3:Value)(z:Hs)=>
 kNil b (λar=>
 kFieldA 0 ar (λau=>
 kLoads 5 au z (λav=>
 kCall R 53 [av] z (λaw ax=>
 after (λf ay=>
 kStore1 f aw ay (λd4 A=>
 kFieldA 0 f (λaz=>
 kLoad az A (λa0=>
 kLenV a0 (λa1=>
 kI64 .mul (.int .i64 (.ofNat 64)) a1 (λa2=>
 jn (λ(d5 d6 d7 d8 d9 ea eb ec:Value)(a3:Hs)=>
 clrK h (.tuple #[]) a3) λa4=>
 lpT (T:=Value→Value→Value→Value→Value→Value→Value→Value→Hs→An) (λ_ _ _ _ _ _ _ _ _=>none) N (λa5=>
 λ(a ed a6 a7 B a8 C n:Value)(D:Hs)=>
 kI64 .lss a a2 (λo=>
 jn (λ(E:Hs)=>
 jn (λ(a9 ba bb bc bd be:Value)(bf:Hs)=>
 kI64 .add a (.int .i64 (.ofNat 1)) (λbg=>
 a5 bg o a9 ba bb bc bd be bf)) λbh=>
 kI64 .lss a w (λd=>
 gdF d E (λbi=>bi a E) (λbj F=>
 gdF d F (λbk=>bk w F) (λbl G=>
 gdF d G (λbm=>bm am G) (λbn H=>
 gdF d H (λbo=>kI64 .add bl bn (λbp=>bo bp H)) (λbq I=>
 gdF d I (λbr=>kI64 .geq bj bq (λbs=>br bs I)) (λbt bu=>
 after (λj J=>
 gdF j J (λbv=>bv x J) (λbw K=>
 gdF j K (λbx=>bx a K) (λbz p=>
 gdF j p (λb0=>after (b0) (ret1 p (lk1 true p (.bool false) false bz bw))) (λb1 b2=>
 after (λl g=>
 jn (λ(b3 b4 b5 b6:Value)(b7:Hs)=>
 bh a b3 b4 l b5 b6 b7) λb8=>
 kNil b (λb9=>
 kFieldA 0 b9 (λca=>
 kFieldA 0 ca (λcb=>
 kFieldA 0 cb (λcc=>
 kLoad cc g (λcd=>
 kI64 .geq a cd (λL=>
 jn (λ(ce cf cg:Value)(ch:Hs)=>
 b8 L ce cf cg ch) λM=>
 cnd L
 (kLoads 1 f g (λci=>
 kCall R 54 [ci,a] g (λO P=>
 jn (λ(cj:Hs)=>
 M O C n cj) λQ=>
 cnd O
 (kCall R 45 [b,(.int .i64 (.ofNat 7)),(.int .i64 (.ofNat 2)),a,(.int .i64 (.ofNat 0))] P (λee ck=>
 Q ck))
 (Q P))))
 (kLoads 1 f g (λcl=>
 kCall R 54 [cl,a] g (λcm S=>
 obK (λU=>
 gdT U S (λcn=>cn l S) (λco cp=>
 after (λV q=>
 jn (λ(cq:Value)(cr:Hs)=>
 M B V cq cr) λW=>
 cnd V
 (kCall R 45 [b,(.int .i64 (.ofNat 7)),(.int .i64 (.ofNat 1)),a,(.int .i64 (.ofNat 1))] q (λef cs=>
 W n cs))
 (kLoads 1 f q (λct=>
 kCall R 54 [ct,a] q (λcu X=>
 obK (λY=>
 jn (λ(cv:Hs)=>
 W Y cv) λZ=>
 cnd Y
 (kCall R 45 [b,(.int .i64 (.ofNat 7)),(.int .i64 (.ofNat 1)),a,(.int .i64 (.ofNat 0))] X (λeg cw=>
 Z cw))
 (Z X)) (e2 true qB cu l))))) (pickB (.c co) (.c (.bool false)) enE cp U))) (e2 true qB cm l))))))))))) (pickB (.c (.bool true)) (.c b1) enE b2 j))))) (pickB (.c (.bool true)) (.c bt) enE bu d)))))))) λcx=>
 cnd o
 (cx D)
 (a4 a o a6 a7 B a8 C n D))) (.int .i64 (.ofNat 0)) dunno dunno dunno dunno dunno dunno dunno A)))))) (oAlloc 57 [(.slice none 0 0)] enE ax)))))) λcy=>
 lpT (T:=Value→Value→Value→Value→Value→Value→Value→Value→Hs→An) (λ_ _ _ _ _ _ _ _ _=>none) N (λcz=>
 λ(i eh c0 c1 c2 aa c3 ab:Value)(ac:Hs)=>
 kI64 .lss i aq (λr=>
 jn (λ(c4:Hs)=>
 jn (λ(c5 c6 c7 c8 c9 da:Value)(db:Hs)=>
 kI64 .add i (.int .i64 (.ofNat 1)) (λdc=>
 cz dc r c5 c6 c7 c8 c9 da db)) λdd=>
 kCall R 50 [b,i] c4 (λs de=>
 kLenV s (λad=>
 jn (λ(df dg dh:Value)(di:Hs)=>
 dd i df ad dg s dh di) λdj=>
 lpT (T:=Value→Value→Value→Hs→An) (λ_ _ _ _=>none) N (λdk=>
 λ(m ei dl:Value)(ae:Hs)=>
 kI64 .lss m ad (λt=>
 jn (λ(af:Hs)=>
 jn (λ(dm:Value)(dn:Hs)=>
 kI64 .add m (.int .i64 (.ofNat 1)) (λdp=>
 dk dp t dm dn)) λdq=>
 kIdxA 1 s m (λdr=>
 kLoad dr af (λag=>
 after (λej ds=>
 dq ag ds) (mapup1 true af ag (.bool true) x)))) λdt=>
 cnd t
 (dt ae)
 (dj m t dl ae))) (.int .i64 (.ofNat 0)) aa ab de))) λdu=>
 cnd r
 (du ac)
 (cy i r c0 c1 c2 aa c3 ab ac))) (.int .i64 (.ofNat 0)) dunno dunno dunno dunno dunno dunno dunno y))))) (mkmap1 al (.int .i64 0)))))))))
theorem q31:QT 31 r31:=λR N args h=>by kernel_rfl
noncomputable def r32(R:RnK)(N:Nat)(args:List Value)(h:Hs):An:=unC args λa c=>unC c λd m=>enK h λf=>
 kLenV a (λb=>
 kToU b (λg=>
 kCall R 56 [g] f (λi j=>
 kCall R 55 [a,(.int .i64 (.ofNat 0)),b,i,d] j (λn l=>
 clrK h (.tuple #[]) l))))
theorem q32:QT 32 r32:=λR N args h=>by kernel_rfl
noncomputable def r33(R:RnK)(N:Nat)(args:List Value)(h:Hs):An:=unC args λf g=>unC g λi K=>enK h λj=>
 after (λb l=>
 after (λd a=>
 kFieldA 0 b (λm=>
 kLoad m a (λn=>
 kFieldA 0 d (λo=>
 kLoad o a (λp=>
 kI64 .sub n p (λq=>
 kFieldA 2 b (λr=>
 kLoad r a (λs=>
 kFieldA 2 d (λt=>
 kLoad t a (λu=>
 kI64 .sub s u (λv=>
 kFieldA 3 b (λw=>
 kLoad w a (λx=>
 kFieldA 3 d (λy=>
 kLoad y a (λz=>
 kI64 .sub x z (λA=>
 kFieldA 1 b (λB=>
 kLoad B a (λC=>
 kFieldA 1 d (λD=>
 kLoad D a (λE=>
 kI64 .sub C E (λF=>
 after (λG H=>
 kCall R 34 [G] H (λI J=>
 clrK h I J)) (oMkrow 3 1 4 [(.int .i64 (.ofNat 0))] [(0,1,.c q),(1,1,.c v),(2,1,.c A),(3,1,.c F)] enE a)))))))))))))))))))))) (oBox 37 (.c i) enE l)) (oBox 37 (.c f) enE j)
theorem q33:QT 33 r33:=λR N args h=>by kernel_rfl
noncomputable def r34(R:RnK)(N:Nat)(args:List Value)(h:Hs):An:=unC args λf D=>enK h λl=>
 kLenV f (λm=>
 jn (λ(E F G H I:Value)(n:Hs)=>
 clrK h (.int .i64 (.ofNat 0)) n) λo=>
 lpT (T:=Value→Value→Value→Value→Value→Hs→An) (λ_ _ _ _ _ _=>none) N (λp=>
 λ(a J q r g:Value)(i:Hs)=>
 kI64 .lss a m (λb=>
 jn (λ(c:Hs)=>
 jn (λ(s t u:Value)(v:Hs)=>
 kI64 .add a (.int .i64 (.ofNat 1)) (λw=>
 p w b s t u v)) λx=>
 kIdxA 1 f a (λy=>
 kLoad y c (λd=>
 kI64 .neq d (.int .i64 (.ofNat 0)) (λj=>
 jn (λ(z:Value)(A:Hs)=>
 x d j z A) λB=>
 cnd j
 (clrK h d c)
 (B g c))))) λC=>
 cnd b
 (C i)
 (o a b q r g i))) (.int .i64 (.ofNat 0)) dunno dunno dunno (.int .i64 (.ofNat 0)) l)
theorem q34:QT 34 r34:=λR N args h=>by kernel_rfl
noncomputable def r35(R:RnK)(N:Nat)(args:List Value)(h:Hs):An:=unC args λb i=>unC i λj l=>unC l λm x=>enK h λd=>
 kI64 .geq b j (λa=>
 gdT a d (λn=>n b d) (λo f=>
 gdT a f (λp=>p m f) (λq g=>
 gdT a g (λr=>kI64 .leq o q (λs=>r s g)) (λt u=>
 after (λv w=>
 clrK h v w) (pickB (.c t) (.c (.bool false)) enE u a)))))
theorem q35:QT 35 r35:=λR N args h=>by kernel_rfl
noncomputable def r36(R:RnK)(N:Nat)(args:List Value)(h:Hs):An:=unC args λi w=>enK h λj=>
 after (λa d=>
 kLoads 4 a d (λl=>
 kCall R 38 [l] d (λf b=>
 kExtr f 0 (λm=>
 kExtr f 1 (λn=>
 kI64 .add m n (λo=>
 kFieldA 1 a (λp=>
 kLoad p b (λq=>
 kI64 .mul (.int .i64 (.ofNat 2)) q (λr=>
 kI64 .add o r (λg=>
 kFieldA 0 a (λs=>
 kLoad s b (λt=>
 kI64 .sub t (.int .i64 (.ofNat 1)) (λu=>
 kI64 .sub u g (λv=>
 clrK h (.tuple #[g,v]) b)))))))))))))) (oBox 29 (.c i) enE j)
theorem q36:QT 36 r36:=λR N args h=>by kernel_rfl
noncomputable def r37(R:RnK)(N:Nat)(args:List Value)(h:Hs):An:=unC args λa f=>enK h λb=>
 kCall R 57 [(.int .u64 (.ofNat 7811896474847682849)),a] b (λc d=>
 clrK h c d)
theorem q37:QT 37 r37:=λR N args h=>by kernel_rfl
noncomputable def r38(R:RnK)(N:Nat)(args:List Value)(h:Hs):An:=unC args λd t=>enK h λf=>
 after (λb a=>
 kFieldA 2 b (λg=>
 kLoad g (Hs.mk a.hp a.nx a.nx) (λi=>
 kFieldA 3 b (λj=>
 kLoad j (Hs.mk a.hp a.nx a.nx) (λl=>
 kI64 .mul i l (λm=>
 kI64 .add (.int .i64 (.ofNat 1)) m (λn=>
 kFieldA 0 b (λo=>
 kLoad o (Hs.mk a.hp a.nx a.nx) (λp=>
 kI64 .add p (.int .i64 (.ofNat 512)) (λq=>
 kI64 .sub q (.int .i64 (.ofNat 1)) (λr=>
 kI64 .quo r (.int .i64 (.ofNat 512)) (λs=>
 clrK h (.tuple #[n,s]) a)))))))))))) (oBox 29 (.c d) enE f)
theorem q38:QT 38 r38:=λR N args h=>by kernel_rfl
noncomputable def r39(R:RnK)(N:Nat)(args:List Value)(h:Hs):An:=unC args λy a8=>enK h λz=>
 after (λa g=>
 kFieldA 0 a (λA=>
 kLoad A g (λB=>
 kI64 .eql B (.int .i64 (.ofNat 0)) (λC=>
 jn (λ(D:Value)(m:Hs)=>
 kFieldA 0 a (λE=>
 kLoad E m (λF=>
 kCall R 59 [F,(.int .i64 (.ofNat 1)),(.int .i64 (.ofNat 3))] m (λG n=>
 kNot G (λb=>
 gdF b n (λH=>kFieldA 1 a (λI=>H I n)) (λJ i=>
 gdF b i (λK=>kLoad J i (λL=>K L i)) (λM o=>
 gdF b o (λO=>kCall R 59 [M,(.int .i64 (.ofNat 0)),(.int .i64 (.ofNat 16777215))] o (O)) (λP p=>
 gdF b p (λQ=>kNot P (λS=>Q S p)) (λU V=>
 after (λd q=>
 gdF d q (λW=>kFieldA 2 a (λX=>W X q)) (λY j=>
 gdF d j (λZ=>kLoad Y j (λaa=>Z aa j)) (λab r=>
 gdF d r (λac=>kCall R 59 [ab,(.int .i64 (.ofNat 0)),(.int .i64 (.ofNat 1099511627776))] r (ac)) (λad s=>
 gdF d s (λae=>kNot ad (λaf=>ae af s)) (λag ah=>
 after (λf t=>
 gdF f t (λai=>kFieldA 3 a (λaj=>ai aj t)) (λak l=>
 gdF f l (λal=>kLoad ak l (λam=>al am l)) (λan u=>
 gdF f u (λao=>kLenV an (λap=>ao ap u)) (λaq v=>
 gdF f v (λar=>kI64 .gtr aq (.int .i64 (.ofNat 4)) (λau=>ar au v)) (λav aw=>
 after (λax w=>
 jn (λ(a9:Value)(x:Hs)=>
 kFieldA 3 a (λay=>
 kLoad ay x (λaz=>
 kCall R 60 [az,(.func (.func 61) #[] #[])] x (λa0 a1=>
 kNot a0 (λa2=>
 clrK h a2 a1))))) λa3=>
 cnd ax
 (clrK h (.bool false) w)
 (a3 D w)) (pickB (.c (.bool true)) (.c av) enE aw f)))))) (pickB (.c (.bool true)) (.c ag) enE ah d)))))) (pickB (.c (.bool true)) (.c U) enE V b)))))))))) λa4=>
 cnd C
 (kLoads 4 a g (λa5=>
 kCall R 58 [a5] g (λa6 a7=>
 clrK h a6 a7)))
 (a4 (.bool false) g))))) (oBox 53 (.c y) enE z)
theorem q39:QT 39 r39:=λR N args h=>by kernel_rfl
noncomputable def r40(R:RnK)(N:Nat)(args:List Value)(h:Hs):An:=unC args λa m=>enK h λb=>
 obK (λc=>
 jn (λ(n:Value)(d:Hs)=>
 after (λf g=>
 after (λi j=>
 clrK h i j) (app0 22 1 8 g f a)) (oMkrow 22 1 0 [(.int .u64 (.ofNat 0))] [] enE d)) λl=>
 cnd c
 (clrK h (.slice none 0 0) b)
 (l (.slice none 0 0) b)) (e2 false qS a (.slice none 0 0))
theorem q40:QT 40 r40:=λR N args h=>by kernel_rfl
noncomputable def r41(R:RnK)(N:Nat)(args:List Value)(h:Hs):An:=unC args λm n=>unC n λd K=>enK h λo=>
 after (λp f=>
 kI64 .geq d (.int .i64 (.ofNat 0)) (λa=>
 gdT a f (λq=>q d f) (λr g=>
 gdT a g (λs=>kI64 .quo r (.int .i64 (.ofNat 64)) (λt=>s t g)) (λu i=>
 gdT a i (λv=>kFieldA 0 p (λw=>v w i)) (λx b=>
 gdT a b (λy=>kLoad x b (λz=>y z b)) (λA j=>
 gdT a j (λB=>kLenV A (λC=>B C j)) (λD l=>
 gdT a l (λE=>kI64 .lss u D (λF=>E F l)) (λG H=>
 after (λI J=>
 clrK h I J) (pickB (.c G) (.c (.bool false)) enE H a))))))))) (oBox 57 (.c m) enE o)
theorem q41:QT 41 r41:=λR N args h=>by kernel_rfl
noncomputable def r42(R:RnK)(N:Nat)(args:List Value)(h:Hs):An:=unC args λi b3=>enK h λG=>
 after (λd v=>
 kLenV i (λH=>
 kI64 .quo H (.int .i64 (.ofNat 8)) (λn=>
 kLenV i (λI=>
 kI64 .rem I (.int .i64 (.ofNat 8)) (λJ=>
 kI64 .neq J (.int .i64 (.ofNat 0)) (λo=>
 gdF o v (λK=>K n v) (λL w=>
 gdF o w (λM=>kI64 .lss L (.int .i64 (.ofNat 64)) (λO=>M O w)) (λP Q=>
 after (λp x=>
 gdF p x (λS=>S n x) (λU y=>
 gdF p y (λV=>kI64 .gtr U (.int .i64 (.ofNat 1024)) (λW=>V W y)) (λX Y=>
 after (λZ z=>
 jn (λ(b4 b5:Value)(aa:Hs)=>
 after (λab ac=>
 kCall R 43 [ab] ac (λA ad=>
 kExtr A 0 (λae=>
 kExtr A 1 (λf=>
 after (λq af=>
 after (λb6 ag=>
 kLenV i (λah=>
 kI64 .sub ah (.int .i64 (.ofNat 8)) (λai=>
 after (λaj ak=>
 kCall R 43 [aj] ak (λB al=>
 kExtr B 0 (λam=>
 kExtr B 1 (λg=>
 after (λr an=>
 after (λb7 a=>
 gdT f a (λao=>kFieldA 0 q (λap=>ao ap a)) (λaq _=>
 gdT f a (λar=>kFieldA 0 aq (λau=>ar au a)) (λav _=>
 gdT f a (λaw=>kLoad av (Hs.mk a.hp a.nx a.nx) (λax=>aw ax a)) (λay _=>
 gdT f a (λaz=>az n a) (λa0 _=>
 gdT f a (λa1=>kI64 .eql ay a0 (λa2=>a1 a2 a)) (λa3 _=>
 after (λa4 s=>dPut (λj b=>
 gdT g b (λa5=>kFieldA 0 r (λa6=>a5 a6 b)) (λa7 _=>
 gdT g b (λa8=>kFieldA 0 a7 (λa9=>a8 a9 b)) (λba _=>
 gdT g b (λbb=>kLoad ba (dHidS .light [true,true,true,true,false,false,false,false,false,false,true,true] [none,none,none,none,some (a.nx,b.nx),none,none,none,none,none,none,none] b) (λbc=>bb bc b)) (λbd _=>
 gdT g b (λbe=>be n b) (λbf _=>
 gdT g b (λbg=>kI64 .eql bd bf (λbh=>bg bh b)) (λbi _=>
 after (λbj u=>dPut (λl m=>
 jn (λ(b8 b9 ca cb:Value)(bk:Hs)=>
 after (λbl bm=>
 after (λcc C=>
 clearUp h (packR C (resV enE C [.cell (.c d) 5 true,.t (.c (.bool false)),.t (.c (.bool false))]))) (store1 5 bm (cellsL bl) (addrOf d))) (oBuild [(.int .i64 (.ofNat 0)),(.int .i64 (.ofNat 0)),(.int .i64 (.ofNat 0)),(.int .i64 (.ofNat 0)),(.int .u64 (.ofNat 0))] [] enE bk)) λbn=>
 jn (λ(bo bp bq:Value)(br:Hs)=>
 bn bo bp j bq br) λbs=>
 cnd j
 (kLoads 5 q m (λbt=>
 after (λcd D=>
 clearUp h (packR D (resV enE D [.cell (.c d) 5 true,.t (.c j),.t (.c l)]))) (store1 5 m (cellsL bt) (addrOf d))))
 (jn (λ(bu bv:Value)(bw:Hs)=>
 bs bu bv l bw) λbx=>
 cnd l
 (kLoads 5 r m (λbz=>
 after (λce E=>
 clearUp h (packR E (resV enE E [.cell (.c d) 5 true,.t (.c j),.t (.c l)]))) (store1 5 m (cellsL bz) (addrOf d))))
 (bx j l m))) bj (dNext b u .blind) (andB (dFit b u .blind) (Nat.ble 0 u.lo))) (pickB (.c bi) (.c (.bool false)) enE (Hs.mk .e b.nx b.nx) g))))))) a4 (dNext a s .blind) (andB (dFit a s .blind) (Nat.ble 0 s.lo))) (pickB (.c a3) (.c (.bool false)) enE (Hs.mk .e a.nx a.nx) f))))))) (store1 5 an (cellsL am) (addrOf r))) (oAlloc 47 [(.int .i64 (.ofNat 0)),(.int .i64 (.ofNat 0)),(.int .i64 (.ofNat 0)),(.int .i64 (.ofNat 0)),(.int .u64 (.ofNat 0))] enE al))))) (oSlice 1 (.c i) (some (.c ai)) none none enE ag)))) (store1 5 af (cellsL ae) (addrOf q))) (oAlloc 47 [(.int .i64 (.ofNat 0)),(.int .i64 (.ofNat 0)),(.int .i64 (.ofNat 0)),(.int .i64 (.ofNat 0)),(.int .u64 (.ofNat 0))] enE ad))))) (oSlice 1 (.c i) none (some (.c (.int .i64 (.ofNat 8)))) none enE aa)) λb0=>
 cnd Z
 (after (λb1 b2=>
 after (λcf F=>
 clearUp h (packR F (resV enE F [.cell (.c d) 5 true,.t (.c (.bool false)),.t (.c (.bool false))]))) (store1 5 b2 (cellsL b1) (addrOf d))) (oBuild [(.int .i64 (.ofNat 0)),(.int .i64 (.ofNat 0)),(.int .i64 (.ofNat 0)),(.int .i64 (.ofNat 0)),(.int .u64 (.ofNat 0))] [] enE z))
 (b0 (.bool false) (.bool false) z)) (pickB (.c (.bool true)) (.c X) enE Y p)))) (pickB (.c (.bool true)) (.c P) enE Q o))))))))) (oAlloc 47 [(.int .i64 (.ofNat 0)),(.int .i64 (.ofNat 0)),(.int .i64 (.ofNat 0)),(.int .i64 (.ofNat 0)),(.int .u64 (.ofNat 0))] enE G)
theorem q42:QT 42 r42:=λR N args h=>by kernel_rfl
noncomputable def r43(R:RnK)(N:Nat)(args:List Value)(h:Hs):An:=unC args λd bo=>enK h λL=>
 after (λf x=>
 kLenV d (λM=>
 kI64 .neq M (.int .i64 (.ofNat 8)) (λO=>
 jn (λ(P:Value)(Q:Hs)=>
 after (λy S=>
 kLenV y (λU=>
 jn (λ(bp bq br bs V:Value)(a:Hs)=>
 kIdxA 1 d (.int .i64 (.ofNat 1)) (λW=>
 kLoad W (Hs.mk a.hp a.nx a.nx) (λX=>
 kTo64 X (λY=>
 kIdxA 1 d (.int .i64 (.ofNat 2)) (λZ=>
 kLoad Z (Hs.mk a.hp a.nx a.nx) (λaa=>
 kTo64 aa (λab=>
 kIdxA 1 d (.int .i64 (.ofNat 3)) (λac=>
 kLoad ac (Hs.mk a.hp a.nx a.nx) (λad=>
 kTo64 ad (λae=>
 kIdxA 1 d (.int .i64 (.ofNat 4)) (λaf=>
 kLoad af (Hs.mk a.hp a.nx a.nx) (λag=>
 kTo64 ag (λah=>
 after (λai l=>dPut (λaj g=>
 after (λak m=>dPut (λz n=>
 after (λal o=>dPut (λbt b=>
 kLoads 4 z (Hs.mk b.hp b.nx b.nx) (λam=>
 kIdxA 1 d (.int .i64 (.ofNat 6)) (λan=>
 kLoad an (Hs.mk b.hp b.nx b.nx) (λao=>
 after (λap p=>dPut (λaq i=>
 after (λar q=>dPut (λr s=>
 after (λau u=>dPut (λbu A=>
 kLoads 5 r A (λav=>
 kCall R 15 [av] A (λaw ax=>
 kCall R 62 [aw,d] ax (λay B=>
 kNot ay (λaz=>
 jn (λ(bv:Value)(C:Hs)=>
 kLoads 5 r C (λa0=>
 after (λbw D=>
 clearUp h (packR D (resV enE D [.cell (.c f) 5 true,.t (.c (.bool true))]))) (store1 5 C (cellsL a0) (addrOf f)))) λa1=>
 cnd az
 (after (λa2 a3=>
 after (λbx E=>
 clearUp h (packR E (resV enE E [.cell (.c f) 5 true,.t (.c (.bool false))]))) (store1 5 a3 (cellsL a2) (addrOf f))) (oBuild [(.int .i64 (.ofNat 0)),(.int .i64 (.ofNat 0)),(.int .i64 (.ofNat 0)),(.int .i64 (.ofNat 0)),(.int .u64 (.ofNat 0))] [] enE B))
 (a1 V B)))))) au (dNext s u .bar) (andB (dFit s u .bar) (Nat.ble 0 u.lo))) (store1 5 s (cellsL aq) (addrOf r))) ar (dNext i q .make) (andB (dFit i q .make) (Nat.ble 0 q.lo))) (oAlloc 47 [(.int .i64 (.ofNat 0)),(.int .i64 (.ofNat 0)),(.int .i64 (.ofNat 0)),(.int .i64 (.ofNat 0)),(.int .u64 (.ofNat 0))] enE (Hs.mk .e i.nx i.nx))) ap (dNext b p .blind) (andB (dFit b p .blind) (Nat.ble 0 p.lo))) (oBuild [(.int .i64 (.ofNat 0)),(.int .i64 (.ofNat 0)),(.int .i64 (.ofNat 0)),(.int .i64 (.ofNat 0)),(.int .u64 (.ofNat 0))] [(0,4,.c am),(4,1,.c ao)] enE (Hs.mk .e b.nx b.nx)))))) al (dNext n o .bar) (andB (dFit n o .bar) (Nat.ble 0 o.lo))) (store1 4 n (cellsL aj) (addrOf z))) ak (dNext g m .make) (andB (dFit g m .make) (Nat.ble 0 m.lo))) (oAlloc 29 [(.int .i64 (.ofNat 0)),(.int .i64 (.ofNat 0)),(.int .i64 (.ofNat 0)),(.int .i64 (.ofNat 0))] enE (Hs.mk .e g.nx g.nx))) ai (dNext a l .blind) (andB (dFit a l .blind) (Nat.ble 0 l.lo))) (oBuild [(.int .i64 (.ofNat 0)),(.int .i64 (.ofNat 0)),(.int .i64 (.ofNat 0)),(.int .i64 (.ofNat 0))] [(0,1,.c Y),(1,1,.c ab),(2,1,.c ae),(3,1,.c ah)] enE (Hs.mk .e a.nx a.nx))))))))))))))) λa4=>
 lpT (T:=Value→Value→Value→Value→Value→Hs→An) (λ_ _ _ _ _ _=>none) N (λa5=>
 λ(j bz a6 a7 F:Value)(G:Hs)=>
 kI64 .lss j U (λv=>
 jn (λ(w:Hs)=>
 jn (λ(a8 a9 ba:Value)(bb:Hs)=>
 kI64 .add j (.int .i64 (.ofNat 1)) (λbc=>
 a5 bc v a8 a9 ba bb)) λbd=>
 kIdxA 1 y j (λbe=>
 kLoad be w (λH=>
 kU64 .gtr H (.int .u64 (.ofNat 1024)) (λI=>
 jn (λ(bf:Value)(bg:Hs)=>
 bd H I bf bg) λbh=>
 cnd I
 (after (λbi bj=>
 after (λb0 J=>
 clearUp h (packR J (resV enE J [.cell (.c f) 5 true,.t (.c (.bool false))]))) (store1 5 bj (cellsL bi) (addrOf f))) (oBuild [(.int .i64 (.ofNat 0)),(.int .i64 (.ofNat 0)),(.int .i64 (.ofNat 0)),(.int .i64 (.ofNat 0)),(.int .u64 (.ofNat 0))] [] enE w))
 (bh F w))))) λbk=>
 cnd v
 (bk G)
 (a4 j v a6 a7 F G))) (.int .i64 (.ofNat 0)) dunno dunno dunno P S)) (oSlice 1 (.c d) (some (.c (.int .i64 (.ofNat 1)))) (some (.c (.int .i64 (.ofNat 6)))) none enE Q)) λbl=>
 cnd O
 (after (λbm bn=>
 after (λb1 K=>
 clearUp h (packR K (resV enE K [.cell (.c f) 5 true,.t (.c (.bool false))]))) (store1 5 bn (cellsL bm) (addrOf f))) (oBuild [(.int .i64 (.ofNat 0)),(.int .i64 (.ofNat 0)),(.int .i64 (.ofNat 0)),(.int .i64 (.ofNat 0)),(.int .u64 (.ofNat 0))] [] enE x))
 (bl (.bool false) x)))) (oAlloc 47 [(.int .i64 (.ofNat 0)),(.int .i64 (.ofNat 0)),(.int .i64 (.ofNat 0)),(.int .i64 (.ofNat 0)),(.int .u64 (.ofNat 0))] enE L)
theorem q43:QT 43 r43:=λR N args h=>by kernel_rfl
noncomputable def r44(R:RnK)(N:Nat)(args:List Value)(h:Hs):An:=unC args λp q=>unC q λb Y=>enK h λr=>
 after (λf g=>
 kI64 .lss b (.int .i64 (.ofNat 0)) (λa=>
 gdF a g (λs=>s b g) (λt i=>
 gdF a i (λu=>kFieldA 4 f (λv=>u v i)) (λw d=>
 gdF a d (λx=>kLoad w d (λy=>x y d)) (λz j=>
 gdF a j (λA=>kLenV z (λB=>A B j)) (λC l=>
 gdF a l (λD=>kI64 .quo C (.int .i64 (.ofNat 8)) (λE=>D E l)) (λF m=>
 gdF a m (λG=>kI64 .geq t F (λH=>G H m)) (λI J=>
 after (λK n=>
 jn (λ(Z:Value)(o:Hs)=>
 kFieldA 4 f (λL=>
 kLoad L o (λM=>
 kI64 .mul (.int .i64 (.ofNat 8)) b (λO=>
 kI64 .add b (.int .i64 (.ofNat 1)) (λP=>
 kI64 .mul (.int .i64 (.ofNat 8)) P (λQ=>
 after (λS U=>
 kCall R 40 [S] U (λV W=>
 clrK h V W)) (oSlice 1 (.c M) (some (.c O)) (some (.c Q)) none enE o))))))) λX=>
 cnd K
 (clrK h (.slice none 0 0) n)
 (X (.slice none 0 0) n)) (pickB (.c (.bool true)) (.c I) enE J a))))))))) (oBox 61 (.c p) enE r)
theorem q44:QT 44 r44:=λR N args h=>by kernel_rfl
noncomputable def r45(R:RnK)(N:Nat)(args:List Value)(h:Hs):An:=unC args λa d=>unC d λf g=>unC g λi j=>unC j λl m=>unC m λn A=>enK h λb=>
 kNil a (λo=>
 kFieldA 8 o (λp=>
 kLoad p b (λq=>
 after (λr s=>
 after (λt u=>
 after (λv w=>
 kNil a (λx=>
 kFieldA 8 x (λy=>
 kStore1 y v w (λB z=>
 clrK h (.tuple #[]) z)))) (app0 37 4 32 u q t)) (oMkrow 37 4 1 [(.int .i64 (.ofNat 0)),(.int .i64 (.ofNat 0)),(.int .i64 (.ofNat 0)),(.int .i64 (.ofNat 0))] [(0,4,.c r)] enE s)) (oBuild [(.int .i64 (.ofNat 0)),(.int .i64 (.ofNat 0)),(.int .i64 (.ofNat 0)),(.int .i64 (.ofNat 0))] [(0,1,.c f),(1,1,.c i),(2,1,.c l),(3,1,.c n)] enE b))))
theorem q45:QT 45 r45:=λR N args h=>by kernel_rfl
noncomputable def r46(R:RnK)(N:Nat)(args:List Value)(h:Hs):An:=unC args λq r=>unC r λg X=>enK h λs=>
 after (λd i=>
 kLoads 4 d i (λt=>
 kCall R 12 [t] i (λu j=>
 kNot u (λa=>
 gdF a j (λv=>v g j) (λw l=>
 gdF a l (λx=>kFieldA 2 d (λy=>x y l)) (λz f=>
 gdF a f (λA=>kLoad z f (λB=>A B f)) (λC m=>
 gdF a m (λD=>kI64 .sub C (.int .i64 (.ofNat 1)) (λE=>D E m)) (λF n=>
 gdF a n (λG=>kCall R 35 [w,(.int .i64 (.ofNat 0)),F] n (G)) (λH o=>
 gdF a o (λI=>kNot H (λJ=>I J o)) (λK L=>
 after (λM p=>
 jn (λ(Y Z:Value)(b:Hs)=>
 kFieldA 3 d (λO=>
 kLoad O (Hs.mk b.hp b.nx b.nx) (λP=>
 kI64 .mul g P (λQ=>
 kI64 .add (.int .i64 (.ofNat 1)) Q (λS=>
 kFieldA 3 d (λU=>
 kLoad U (Hs.mk b.hp b.nx b.nx) (λV=>
 clrK h (.tuple #[S,V]) b))))))) λW=>
 cnd M
 (clrK h (.tuple #[(.int .i64 (.ofNat 0)),(.int .i64 (.ofNat 0))]) p)
 (W (.int .i64 (.ofNat 0)) (.int .i64 (.ofNat 0)) p)) (pickB (.c (.bool true)) (.c K) enE L a))))))))))) (oBox 29 (.c q) enE s)
theorem q46:QT 46 r46:=λR N args h=>by kernel_rfl
noncomputable def r47(R:RnK)(N:Nat)(args:List Value)(h:Hs):An:=unC args λb cj=>enK h λQ=>
 after (λd x=>
 kLenV b (λS=>
 kI64 .neq S (.int .i64 (.ofNat 8)) (λf=>
 gdF f x (λU=>U b x) (λV y=>
 gdF f y (λW=>kIdxA 1 V (.int .i64 (.ofNat 0)) (λX=>W X y)) (λY o=>
 gdF f o (λZ=>kLoad Y o (λaa=>Z aa o)) (λab z=>
 gdF f z (λac=>kShr ab (.int .u64 (.ofNat 32)) (λad=>ac ad z)) (λae A=>
 gdF f A (λaf=>kU64 .neq ae (.int .u64 (.ofNat 0)) (λag=>af ag A)) (λah ai=>
 after (λg B=>
 gdF g B (λaj=>aj b B) (λak C=>
 gdF g C (λal=>kIdxA 1 ak (.int .i64 (.ofNat 1)) (λam=>al am C)) (λan p=>
 gdF g p (λao=>kLoad an p (λap=>ao ap p)) (λaq D=>
 gdF g D (λar=>kU64 .gtr aq (.int .u64 (.ofNat 1099511627776)) (λau=>ar au D)) (λav aw=>
 after (λax E=>
 jn (λ(ay:Value)(a:Hs)=>
 kIdxA 1 b (.int .i64 (.ofNat 0)) (λaz=>
 kLoad az (Hs.mk a.hp a.nx a.nx) (λa0=>
 kU64 .and a0 (.int .u64 (.ofNat 255)) (λa1=>
 kTo64 a1 (λa2=>
 kIdxA 1 b (.int .i64 (.ofNat 0)) (λa3=>
 kLoad a3 (Hs.mk a.hp a.nx a.nx) (λa4=>
 kShr a4 (.int .u64 (.ofNat 8)) (λa5=>
 kTo64 a5 (λa6=>
 kIdxA 1 b (.int .i64 (.ofNat 1)) (λa7=>
 kLoad a7 (Hs.mk a.hp a.nx a.nx) (λa8=>
 kTo64 a8 (λa9=>
 after (λba q=>dPut (λbb m=>
 after (λbc r=>dPut (λi s=>
 after (λbd u=>dPut (λck be=>
 after (λF bf=>
 kLenV F (λbg=>
 jn (λ(cl cm cn co:Value)(G:Hs)=>
 kLoads 4 i G (λbh=>
 kCall R 18 [bh] G (λbi bj=>
 kCall R 62 [bi,b] bj (λbk H=>
 kNot bk (λbl=>
 jn (λ(cp:Value)(I:Hs)=>
 kLoads 4 i I (λbm=>
 after (λcq J=>
 clearUp h (packR J (resV enE J [.cell (.c d) 4 true,.t (.c (.bool true))]))) (store1 4 I (cellsL bm) (addrOf d)))) λbn=>
 cnd bl
 (after (λbo bp=>
 after (λcr K=>
 clearUp h (packR K (resV enE K [.cell (.c d) 4 true,.t (.c (.bool false))]))) (store1 4 bp (cellsL bo) (addrOf d))) (oBuild [(.int .i64 (.ofNat 0)),(.int .i64 (.ofNat 0)),(.int .i64 (.ofNat 0)),(.slice none 0 0)] [] enE H))
 (bn ay H)))))) λL=>
 lpT (T:=Value→Value→Value→Value→Hs→An) (λ_ _ _ _ _=>none) N (λbq=>
 λ(j cs br bs:Value)(M:Hs)=>
 kI64 .lss j bg (λn=>
 jn (λ(v:Hs)=>
 jn (λ(bt bu:Value)(bv:Hs)=>
 kI64 .add j (.int .i64 (.ofNat 1)) (λbw=>
 bq bw n bt bu bv)) λbx=>
 kIdxA 1 F j (λbz=>
 kLoad bz v (λl=>
 kU64 .eql l (.int .u64 (.ofNat 0)) (λw=>
 jn (λ(O:Hs)=>
 kFieldA 3 i (λb0=>
 kLoad b0 O (λb1=>
 kU64 .and l (.int .u64 (.ofNat 4294967295)) (λb2=>
 kTo64 b2 (λb3=>
 kShr l (.int .u64 (.ofNat 32)) (λb4=>
 kTo64 b4 (λb5=>
 after (λb6 b7=>
 after (λb8 b9=>
 after (λca cb=>
 kFieldA 3 i (λcc=>
 kStore1 cc ca cb (λct cd=>
 bx l w cd))) (app0 55 2 16 b9 b1 b8)) (oMkrow 55 2 1 [(.int .i64 (.ofNat 0)),(.int .i64 (.ofNat 0))] [(0,2,.c b6)] enE b7)) (oBuild [(.int .i64 (.ofNat 0)),(.int .i64 (.ofNat 0))] [(0,1,.c b3),(1,1,.c b5)] enE O)))))))) λce=>
 cnd w
 (L j n l w v)
 (ce v))))) λcf=>
 cnd n
 (cf M)
 (L j n br bs M))) (.int .i64 (.ofNat 0)) dunno dunno dunno bf)) (oSlice 1 (.c b) (some (.c (.int .i64 (.ofNat 2)))) (some (.c (.int .i64 (.ofNat 6)))) none enE be)) bd (dNext s u .bar) (andB (dFit s u .bar) (Nat.ble 0 u.lo))) (store1 4 s (cellsL bb) (addrOf i))) bc (dNext m r .make) (andB (dFit m r .make) (Nat.ble 0 r.lo))) (oAlloc 53 [(.int .i64 (.ofNat 0)),(.int .i64 (.ofNat 0)),(.int .i64 (.ofNat 0)),(.slice none 0 0)] enE (Hs.mk .e m.nx m.nx))) ba (dNext a q .blind) (andB (dFit a q .blind) (Nat.ble 0 q.lo))) (oBuild [(.int .i64 (.ofNat 0)),(.int .i64 (.ofNat 0)),(.int .i64 (.ofNat 0)),(.slice none 0 0)] [(0,1,.c a2),(1,1,.c a6),(2,1,.c a9)] enE (Hs.mk .e a.nx a.nx)))))))))))))) λcg=>
 cnd ax
 (after (λch ci=>
 after (λcu P=>
 clearUp h (packR P (resV enE P [.cell (.c d) 4 true,.t (.c (.bool false))]))) (store1 4 ci (cellsL ch) (addrOf d))) (oBuild [(.int .i64 (.ofNat 0)),(.int .i64 (.ofNat 0)),(.int .i64 (.ofNat 0)),(.slice none 0 0)] [] enE E))
 (cg (.bool false) E)) (pickB (.c (.bool true)) (.c av) enE aw g)))))) (pickB (.c (.bool true)) (.c ah) enE ai f))))))))) (oAlloc 53 [(.int .i64 (.ofNat 0)),(.int .i64 (.ofNat 0)),(.int .i64 (.ofNat 0)),(.slice none 0 0)] enE Q)
theorem q47:QT 47 r47:=λR N args h=>by kernel_rfl
noncomputable def r48(R:RnK)(N:Nat)(args:List Value)(h:Hs):An:=unC args λH I=>unC I λJ b3=>enK h λK=>
 after (λp L=>
 after (λf y=>
 kLoads 4 p y (λM=>
 kCall R 12 [M] y (λO z=>
 kNot O (λP=>
 jn (λ(Q:Value)(n:Hs)=>
 kFieldA 0 f (λS=>
 kLoad S n (λU=>
 kI64 .eql U (.int .i64 (.ofNat 0)) (λV=>
 jn (λ(W:Value)(A:Hs)=>
 kFieldA 0 f (λX=>
 kLoad X A (λY=>
 kCall R 59 [Y,(.int .i64 (.ofNat 1)),(.int .i64 (.ofNat 3))] A (λZ B=>
 kNot Z (λl=>
 gdF l B (λaa=>kFieldA 1 f (λab=>aa ab B)) (λac q=>
 gdF l q (λad=>kLoad ac q (λae=>ad ae q)) (λaf C=>
 gdF l C (λag=>kCall R 59 [af,(.int .i64 (.ofNat 1)),(.int .i64 (.ofNat 200))] C (ag)) (λah D=>
 gdF l D (λai=>kNot ah (λaj=>ai aj D)) (λak al=>
 after (λm r=>
 gdF m r (λam=>kLoads 4 p r (λan=>am an r)) (λao s=>
 gdF m s (λap=>kLoads 4 f s (λaq=>ap aq s)) (λar E=>
 gdF m E (λau=>kCall R 63 [ao,ar] E (au)) (λav F=>
 gdF m F (λaw=>kNot av (λax=>aw ax F)) (λay az=>
 after (λa0 G=>
 jn (λ(b4:Value)(a:Hs)=>
 kFieldA 3 f (λa1=>
 kLoad a1 a (λa2=>
 kLenV a2 (λa3=>
 kI64 .leq a3 (.int .i64 (.ofNat 4)) (λo=>
 gdT o a (λa4=>kLoads 4 p (Hs.mk a.hp a.nx a.nx) (λa5=>a4 a5 a)) (λa6 _=>
 gdT o a (λa7=>kLoads 4 f (Hs.mk a.hp a.nx a.nx) (λa8=>a7 a8 a)) (λa9 _=>
 gdT o a (λba=>kCall R 64 [a6,a9] a (λbb t=>dPut ba bb (dNext a t .bar) (andB (dFit a t .bar) (Nat.ble 0 t.lo)))) (λbc d=>
 after (λbd u=>dPut (λi b=>
 gdT i b (λbe=>kLoads 4 f (dHidS .light [true,true,true,true,true,true,true,true,true,true] [none,some (d.nx,b.nx),some (a.nx,d.nx),none,none,none,none,none,none,none] b) (λbf=>be bf b)) (λbg _=>
 gdT i b (λbh=>kCall R 65 [bg] (dHidS .light [true,true,true,true,true,true,true,true,true,true,true] [none,none,some (d.nx,b.nx),some (a.nx,d.nx),none,none,none,none,none,none,none] b) (λbi v=>dPut bh bi (dNext b v .light) (andB (dFit b v .light) (Nat.ble 0 v.lo)))) (λbj g=>
 gdT i g (λbk=>kLoads 4 f (dHidS .light [false,false,true,true,true,true,true,true,true,true,true,true] [some (b.nx,g.nx),none,none,some (d.nx,b.nx),some (a.nx,d.nx),none,none,none,none,none,none,none] g) (λbl=>bk bl g)) (λbm _=>
 gdT i g (λbn=>kCall R 66 [bm] g (λbo w=>dPut bn bo (dNext g w .bar) (andB (dFit g w .bar) (Nat.ble 0 w.lo)))) (λbp j=>
 gdT i j (λbq=>kI64 .eql bj bp (λbr=>bq br j)) (λbs _=>
 after (λbt x=>dPut (λbu bv=>
 clrK h bu bv) bt (dNext j x .blind) (andB (dFit j x .blind) (Nat.ble 0 x.lo))) (pickB (.c bs) (.c (.bool false)) enE (Hs.mk .e j.nx j.nx) i))))))) bd (dNext d u .blind) (andB (dFit d u .blind) (Nat.ble 0 u.lo))) (pickB (.c bc) (.c (.bool false)) enE (Hs.mk .e d.nx d.nx) o))))))))) λbw=>
 cnd a0
 (clrK h (.bool false) G)
 (bw W G)) (pickB (.c (.bool true)) (.c ay) enE az m)))))) (pickB (.c (.bool true)) (.c ak) enE al l)))))))))) λbx=>
 cnd V
 (kLoads 4 f n (λbz=>
 kCall R 58 [bz] n (λb0 b1=>
 clrK h b0 b1)))
 (bx Q n))))) λb2=>
 cnd P
 (clrK h (.bool false) z)
 (b2 (.bool false) z))))) (oBox 53 (.c J) enE L)) (oBox 29 (.c H) enE K)
theorem q48:QT 48 r48:=λR N args h=>by kernel_rfl
noncomputable def r49(R:RnK)(N:Nat)(args:List Value)(h:Hs):An:=unC args λf g=>unC g λi A=>enK h λj=>
 after (λl a=>
 kNil f (λm=>
 kFieldA 0 m (λn=>
 kFieldA 0 n (λo=>
 kLoads 4 o a (λp=>
 kCall R 14 [p] a (λb d=>
 kExtr b 0 (λq=>
 kExtr b 1 (λr=>
 kFieldA 3 l (λs=>
 kLoad s d (λt=>
 after (λu v=>
 after (λw x=>
 kCall R 67 [t,w] x (λy z=>
 clrK h y z)) (oMkrow 55 2 1 [(.int .i64 (.ofNat 0)),(.int .i64 (.ofNat 0))] [(0,2,.c u)] enE v)) (oBuild [(.int .i64 (.ofNat 0)),(.int .i64 (.ofNat 0))] [(0,1,.c q),(1,1,.c r)] enE d))))))))))) (oBox 53 (.c i) enE j)
theorem q49:QT 49 r49:=λR N args h=>by kernel_rfl
noncomputable def r50(R:RnK)(N:Nat)(args:List Value)(h:Hs):An:=unC args λl z=>unC z λm be=>enK h λa=>
 kNil l (λA=>
 kFieldA 6 A (λB=>
 kLoad B a (λC=>
 kIdxA 1 C m (λD=>
 kLoad D a (λE=>
 jn (λ(bf bg bh bi bj bk bl bm F bn:Value)(G:Hs)=>
 clrK h F G) λn=>
 cnd E
 (kNil l (λH=>
 kFieldA 5 H (λI=>
 kLoad I a (λJ=>
 kIdxA 4 J m (λK=>
 kFieldA 3 K (λL=>
 kLoad L a (λg=>
 kLenV g (λo=>
 jn (λ(M O P Q S U V W:Value)(X:Hs)=>
 n M o O g P Q S U V W X) λY=>
 lpT (T:=Value→Value→Value→Value→Value→Value→Value→Value→Hs→An) (λ_ _ _ _ _ _ _ _ _=>none) N (λZ=>
 λ(d bo aa ab ac p q r:Value)(s:Hs)=>
 kI64 .lss d o (λi=>
 jn (λ(t:Hs)=>
 jn (λ(ad ae af ag ah ai:Value)(aj:Hs)=>
 kI64 .add d (.int .i64 (.ofNat 1)) (λak=>
 Z ak i ad ae af ag ah ai aj)) λal=>
 kIdxA 2 g d (λam=>
 kLoads 2 am t (λan=>
 after (λf ao=>
 after (λbp u=>
 kFieldA 1 f (λap=>
 kLoad ap u (λv=>
 jn (λ(aq ar au av:Value)(aw:Hs)=>
 al f aq v ar au av aw) λax=>
 lpT (T:=Value→Value→Value→Value→Hs→An) (λ_ _ _ _ _=>none) N (λay=>
 λ(b bq w az:Value)(x:Hs)=>
 kI64 .lss b v (λj=>
 jn (λ(y:Hs)=>
 jn (λ(a0 a1:Value)(a2:Hs)=>
 kI64 .add b (.int .i64 (.ofNat 1)) (λa3=>
 ay a3 j a0 a1 a2)) λa4=>
 kFieldA 0 f (λa5=>
 kLoad a5 y (λa6=>
 kI64 .add a6 b (λa7=>
 after (λa8 a9=>
 after (λba bb=>
 a4 ba b bb) (app0 3 1 8 a9 w a8)) (oMkrow 3 1 1 [(.int .i64 (.ofNat 0))] [(0,1,.c a7)] enE y))))) λbc=>
 cnd j
 (bc x)
 (ax b j w az x))) (.int .i64 (.ofNat 0)) p q r u))) (store1 2 ao (cellsL an) (addrOf f))) (oAlloc 55 [(.int .i64 (.ofNat 0)),(.int .i64 (.ofNat 0))] enE t)))) λbd=>
 cnd i
 (bd s)
 (Y d i aa ab ac p q r s))) (.int .i64 (.ofNat 0)) dunno dunno dunno dunno dunno (.slice none 0 0) dunno a))))))))
 (n dunno dunno dunno dunno dunno dunno dunno dunno (.slice none 0 0) dunno a))))))
theorem q50:QT 50 r50:=λR N args h=>by kernel_rfl
noncomputable def r51(R:RnK)(N:Nat)(args:List Value)(h:Hs):An:=unC args λb b3=>enK h λP=>
 after (λd x=>
 kLenV b (λQ=>
 kI64 .neq Q (.int .i64 (.ofNat 8)) (λg=>
 gdF g x (λS=>S b x) (λU y=>
 gdF g y (λV=>kIdxA 1 U (.int .i64 (.ofNat 0)) (λW=>V W y)) (λX n=>
 gdF g n (λY=>kLoad X n (λZ=>Y Z n)) (λaa z=>
 gdF g z (λab=>kU64 .gtr aa (.int .u64 (.ofNat 64)) (λac=>ab ac z)) (λad ae=>
 after (λi A=>
 gdF i A (λaf=>af b A) (λag B=>
 gdF i B (λah=>kIdxA 1 ag (.int .i64 (.ofNat 1)) (λai=>ah ai B)) (λaj o=>
 gdF i o (λak=>kLoad aj o (λal=>ak al o)) (λam C=>
 gdF i C (λan=>kU64 .gtr am (.int .u64 (.ofNat 40)) (λao=>an ao C)) (λap aq=>
 after (λar D=>
 jn (λ(au:Value)(av:Hs)=>
 after (λa E=>
 kIdxA 1 b (.int .i64 (.ofNat 1)) (λaw=>
 kLoad aw E (λax=>
 kTo64 ax (λay=>
 jn (λ(b4 b5 b6:Value)(F:Hs)=>
 lwC a F (λj=>
 kIdxA 1 b (.int .i64 (.ofNat 0)) (λaz=>
 kLoad az (lowM (cutV a) j j) (λa0=>
 kTo64 a0 (λa1=>
 kCall R 69 [a] j (λa2 p=>dPut (λa3 l=>
 after (λa4 q=>dPut (λa5 m=>
 after (λa6 r=>dPut (λs u=>
 after (λa7 v=>dPut (λb7 a8=>
 lwCE a F a8 (λG=>
 kLoads 2 s G (λa9=>
 kCall R 70 [a9] G (λba bb=>
 kCall R 62 [ba,b] bb (λbc H=>
 kNot bc (λbd=>
 jn (λ(b8:Value)(I:Hs)=>
 kLoads 2 s I (λbe=>
 after (λb9 J=>
 clearUp h (packR J (resV enE J [.cell (.c d) 2 true,.t (.c (.bool true))]))) (store1 2 I (cellsL be) (addrOf d)))) λbf=>
 cnd bd
 (after (λbg bh=>
 after (λca K=>
 clearUp h (packR K (resV enE K [.cell (.c d) 2 true,.t (.c (.bool false))]))) (store1 2 bh (cellsL bg) (addrOf d))) (oBuild [(.int .i64 (.ofNat 0)),(.string ⟨#[]⟩)] [] enE H))
 (bf au H))))))) a7 (dNext u v .bar) (andB (dFit u v .bar) (Nat.ble (cutV a) v.lo))) (store1 2 u (cellsL a5) (addrOf s))) a6 (dNext m r .make) (andB (dFit m r .make) (Nat.ble (cutV a) r.lo))) (oAlloc 97 [(.int .i64 (.ofNat 0)),(.string ⟨#[]⟩)] enE (Hs.mk .e m.nx m.nx))) a4 (dNext l q .blind) (andB (dFit l q .blind) (Nat.ble (cutV a) q.lo))) (oBuild [(.int .i64 (.ofNat 0)),(.string ⟨#[]⟩)] [(0,1,.c a1),(1,1,.c a3)] enE (Hs.mk .e l.nx l.nx))) a2 (dNext j p .bar) (andB (dFit j p .bar) (Nat.ble (cutV a) p.lo)))))))) λbi=>
 lpT (T:=Value→Value→Value→Hs→An) (λ_ _ _ _=>none) N (λbj=>
 λ(f cb bk:Value)(L:Hs)=>
 kI64 .lss f ay (λw=>
 jn (λ(M:Hs)=>
 jn (λ(bl:Value)(bm:Hs)=>
 kI64 .add f (.int .i64 (.ofNat 1)) (λbn=>
 bj bn w bl bm)) λbo=>
 kI64 .quo f (.int .i64 (.ofNat 8)) (λbp=>
 kI64 .add (.int .i64 (.ofNat 2)) bp (λbq=>
 kIdxA 1 b bq (λbr=>
 kLoad br M (λbs=>
 kI64 .rem f (.int .i64 (.ofNat 8)) (λbt=>
 kI64 .mul (.int .i64 (.ofNat 8)) bt (λbu=>
 kShr bs bu (λbv=>
 kTo8 bv (λbw=>
 kCall R 68 [a,bw] M (λcc bx=>
 bo f bx)))))))))) λbz=>
 cnd w
 (bz L)
 (bi f w bk L))) (.int .i64 (.ofNat 0)) dunno dunno E)))) (oAlloc 116 [(.pointer none),(.slice none 0 0)] enE av)) λb0=>
 cnd ar
 (after (λb1 b2=>
 after (λcd O=>
 clearUp h (packR O (resV enE O [.cell (.c d) 2 true,.t (.c (.bool false))]))) (store1 2 b2 (cellsL b1) (addrOf d))) (oBuild [(.int .i64 (.ofNat 0)),(.string ⟨#[]⟩)] [] enE D))
 (b0 (.bool false) D)) (pickB (.c (.bool true)) (.c ap) enE aq i)))))) (pickB (.c (.bool true)) (.c ad) enE ae g)))))))) (oAlloc 97 [(.int .i64 (.ofNat 0)),(.string ⟨#[]⟩)] enE P)
theorem q51:QT 51 r51:=λR N args h=>by kernel_rfl
noncomputable def r52(R:RnK)(N:Nat)(args:List Value)(h:Hs):An:=unC args λv K=>unC K λL M=>unC M λw c3=>enK h λO=>
 after (λi n=>
 kFieldA 2 i (λP=>
 kFieldA 0 P (λQ=>
 kLoad Q n (λl=>
 jn (λ(c4 c5 c6 c7 c8:Value)(S:Hs)=>
 clrK h (.int .i64 (.ofNat 0)) S) λU=>
 kNil v (λV=>
 kFieldA 6 V (λW=>
 kLoad W n (λX=>
 kLenV X (λY=>
 kI64 .geq l Y (λb=>
 gdF b n (λZ=>Z v n) (λaa x=>
 gdF b x (λab=>kNil aa (λac=>ab ac x)) (λad y=>
 gdF b y (λae=>kFieldA 6 ad (λaf=>ae af y)) (λag p=>
 gdF b p (λah=>kLoad ag p (λai=>ah ai p)) (λaj z=>
 gdF b z (λak=>ak l z) (λal A=>
 gdF b A (λam=>kIdxA 1 aj al (λan=>am an A)) (λao q=>
 gdF b q (λap=>kLoad ao q (λaq=>ap aq q)) (λar B=>
 gdF b B (λau=>kNot ar (λav=>au av B)) (λaw ax=>
 after (λC j=>
 jn (λ(ay az a0 a1:Value)(a2:Hs)=>
 U C ay az a0 a1 a2) λa3=>
 cnd C
 (clrK h (.int .i64 (.ofNat 2)) j)
 (kI64 .leq l (.int .i64 (.ofNat 2)) (λD=>
 jn (λ(a4 a5 a6:Value)(a7:Hs)=>
 a3 D a4 a5 a6 a7) λa8=>
 cnd D
 (clrK h (.int .i64 (.ofNat 3)) j)
 (jn (λ(E:Value)(a:Hs)=>
 jn (λ(a9 ba:Value)(bb:Hs)=>
 a8 E a9 ba bb) λbc=>
 cnd E
 (clrK h (.int .i64 (.ofNat 4)) a)
 (kFieldA 0 i (λbd=>
 kLoad bd a (λbe=>
 kI64 .eql be (.int .i64 (.ofNat 2)) (λf=>
 gdT f a (λbf=>bf l a) (λbg _=>
 gdT f a (λbh=>kFieldA 1 i (λbi=>bh bi a)) (λbj _=>
 gdT f a (λbk=>kLoad bj a (λbl=>bk bl a)) (λbm _=>
 gdT f a (λbn=>kI64 .add bm (.int .i64 (.ofNat 1)) (λbo=>bn bo a)) (λbp _=>
 gdT f a (λbq=>kI64 .neq bg bp (λbr=>bq br a)) (λbs _=>
 gdT f a (λbt=>bt bs a) (λg _=>
 gdF g a (λbu=>kFieldA 2 i (λbv=>bu bv a)) (λbw _=>
 gdF g a (λbx=>kFieldA 1 bw (λbz=>bx bz a)) (λb0 _=>
 gdF g a (λb1=>kLoad b0 (Hs.mk a.hp a.nx a.nx) (λb2=>b1 b2 a)) (λb3 _=>
 gdF g a (λb4=>b4 l a) (λb5 _=>
 gdF g a (λb6=>kCall R 71 [b5] (Hs.mk a.hp a.nx a.nx) (λb7 r=>dPut b6 b7 (dNext a r .light) (andB (dFit a r .light) (Nat.ble 0 r.lo)))) (λb8 d=>
 gdF g d (λb9=>obK (λca=>b9 ca d) (s2 .add (.string ⟨#[35]⟩) b8)) (λcb _=>
 gdF g d (λcc=>obK (λcd=>cc cd d) (s2 .neq b3 cb)) (λce _=>
 gdT f d (λcf=>after (λcg s=>dPut cf cg (dNext d s .blind) (andB (dFit d s .blind) (Nat.ble 0 s.lo))) (pickB (.c (.bool true)) (.c ce) enE (Hs.mk .e d.nx d.nx) g)) (λch o=>
 after (λci t=>dPut (λF G=>
 jn (λ(cj:Value)(ck:Hs)=>
 bc F cj ck) λcl=>
 cnd F
 (clrK h (.int .i64 (.ofNat 5)) G)
 (cl (.int .i64 (.ofNat 0)) G)) ci (dNext o t .blind) (andB (dFit o t .blind) (Nat.ble 0 t.lo))) (pickB (.c ch) (.c (.bool false)) enE (Hs.mk .e o.nx o.nx) f)))))))))))))))))))) λH=>
 cnd w
 (H w j)
 (kFieldA 0 i (λcm=>
 kLoad cm j (λcn=>
 kI64 .eql cn (.int .i64 (.ofNat 1)) (λm=>
 gdT m j (λco=>kFieldA 2 i (λcp=>co cp j)) (λcq I=>
 gdT m I (λcr=>kFieldA 1 cq (λcs=>cr cs I)) (λct u=>
 gdT m u (λcu=>kLoad ct u (λcv=>cu cv u)) (λcw J=>
 gdT m J (λcx=>obK (λcy=>cx cy J) (s2 .eql cw (.string ⟨#[108,111,115,116,43,102,111,117,110,100]⟩))) (λcz c0=>
 after (λc1 c2=>
 H c1 c2) (pickB (.c cz) (.c (.bool false)) enE c0 m))))))))))))) (pickB (.c (.bool true)) (.c aw) enE ax b)))))))))))))))))) (oBox 102 (.c L) enE O)
theorem q52:QT 52 r52:=λR N args h=>by kernel_rfl
noncomputable def r53(R:RnK)(N:Nat)(args:List Value)(h:Hs):An:=unC args λu aa=>enK h λv=>
 after (λn w=>
 after (λo p=>
 kFieldA 0 n (λx=>
 kLoads 4 x p (λy=>
 kCall R 22 [y] p (λq z=>
 kExtr q 0 (λA=>
 kExtr q 1 (λB=>
 after (λd C=>
 jn (λ(ab ac ad:Value)(r:Hs)=>
 kLoads 1 d r (λD=>
 kStore1 o D r (λae s=>
 clearUp h (packR s (resV enE s [.cell (.c o) 1 true]))))) λE=>
 lpT (T:=Value→Value→Value→Hs→An) (λ_ _ _ _=>none) N (λF=>
 λ(b af G:Value)(t:Hs)=>
 kI64 .lss b B (λf=>
 jn (λ(a:Hs)=>
 jn (λ(H:Value)(I:Hs)=>
 kI64 .add b (.int .i64 (.ofNat 1)) (λJ=>
 F J f H I)) λK=>
 kFieldA 0 d (λL=>
 kLoad L (Hs.mk a.hp a.nx a.nx) (λM=>
 kLoads 5 n (Hs.mk a.hp a.nx a.nx) (λO=>
 kI64 .add A b (λP=>
 kCall R 44 [O,P] (Hs.mk a.hp a.nx a.nx) (λQ g=>dPut (λS i=>
 after (λU j=>dPut (λV l=>
 kFieldA 0 d (λW=>
 kStore1 W V l (λX m=>dPut (λag Y=>
 K b Y) X (dNext l m .bar) (andB (dFit l m .bar) (Nat.ble 0 m.lo))))) U (dNext i j .bar) (andB (dFit i j .bar) (Nat.ble 0 j.lo))) (app0 22 1 8 i M S)) Q (dNext a g .light) (andB (dFit a g .light) (Nat.ble 0 g.lo)))))))) λZ=>
 cnd f
 (Z t)
 (E b f G t))) (.int .i64 (.ofNat 0)) dunno dunno C) (oAlloc 57 [(.slice none 0 0)] enE z))))))) (oAlloc 57 [(.slice none 0 0)] enE w)) (oBox 61 (.c u) enE v)
theorem q53:QT 53 r53:=λR N args h=>by kernel_rfl
noncomputable def r54(R:RnK)(N:Nat)(args:List Value)(h:Hs):An:=unC args λt u=>unC u λb ai=>enK h λv=>
 after (λg i=>
 kLoads 1 g i (λw=>
 kCall R 41 [w,b] i (λa j=>
 gdT a j (λx=>kFieldA 0 g (λy=>x y j)) (λz d=>
 gdT a d (λA=>kLoad z d (λB=>A B d)) (λC l=>
 gdT a l (λD=>D b l) (λE m=>
 gdT a m (λF=>kI64 .quo E (.int .i64 (.ofNat 64)) (λG=>F G m)) (λH n=>
 gdT a n (λI=>kIdxA 1 C H (λJ=>I J n)) (λK f=>
 gdT a f (λL=>kLoad K f (λM=>L M f)) (λO o=>
 gdT a o (λP=>P b o) (λQ p=>
 gdT a p (λS=>kI64 .rem Q (.int .i64 (.ofNat 64)) (λU=>S U p)) (λV q=>
 gdT a q (λW=>kShr O V (λX=>W X q)) (λY r=>
 gdT a r (λZ=>kU64 .and Y (.int .u64 (.ofNat 1)) (λaa=>Z aa r)) (λab s=>
 gdT a s (λac=>kU64 .eql ab (.int .u64 (.ofNat 1)) (λad=>ac ad s)) (λae af=>
 after (λag ah=>
 clrK h ag ah) (pickB (.c ae) (.c (.bool false)) enE af a))))))))))))))) (oBox 57 (.c t) enE v)
theorem q54:QT 54 r54:=λR N args h=>by kernel_rfl
noncomputable def r55(R:RnK)(N:Nat)(args:List Value)(h:Hs):An:=unC args λf ai=>unC ai λaj ak=>unC ak λal am=>unC am λan ao=>unC ao λi dq=>enK h λap=>
 jn (λ(dr ds dt du dv dw dx dy dz d0 d1 d2 d3 d4 d5 d6 d7 d8 d9 ea eb ec:Value)(aq:Hs)=>
 clrK h (.tuple #[]) aq) λed=>
 lpT (T:=Value→Value→Value→Value→Value→Value→Value→Value→Value→Value→Value→Value→Value→Value→Value→Value→Value→Value→Value→Value→Value→Value→Hs→An) (λ_ _ _ _ _ _ _ _ _ _ _ _ _ _ _ _ _ _ _ _ _ _ _=>none) N (λar=>
 λ(b g ee ef r eg n eh ei ej ek F el au em av aw ax ay az a0 a1:Value)(G:Hs)=>
 jn (λ(a2 a3 a4 a5 a6 a7 a8 a9 ba bb bc bd be bf bg bh bi bj bk bl bm bn:Value)(bo:Hs)=>
 ar a2 a3 a4 a5 a6 a7 a8 a9 ba bb bc bd be bf bg bh bi bj bk bl bm bn bo) λH=>
 kI64 .sub b g (λo=>
 kI64 .leq o (.int .i64 (.ofNat 12)) (λs=>
 jn (λ(I:Hs)=>
 kI64 .eql r (.int .i64 (.ofNat 0)) (λt=>
 jn (λ(J:Hs)=>
 kNot n (λu=>
 jn (λ(p:Value)(bp:Hs)=>
 kCall R 75 [f,g,b,i] bp (λK L=>
 kExtr K 0 (λM=>
 kExtr K 1 (λO=>
 kI64 .eql O (.int .i64 (.ofNat 2)) (λv=>
 jn (λ(w m:Value)(P:Hs)=>
 gdT n P (λbq=>bq F P) (λbr bs=>
 after (λx Q=>
 gdT x Q (λbt=>bt w Q) (λbu S=>
 gdT x S (λbv=>kI64 .eql bu (.int .i64 (.ofNat 1)) (λbw=>bv bw S)) (λbx bz=>
 after (λy U=>
 jn (λ(V:Value)(a:Hs)=>
 kI64 .gtr g (.int .i64 (.ofNat 0)) (λd=>
 gdT d a (λb0=>b0 i a) (λb1 _=>
 gdT d a (λb2=>b2 f a) (λb3 _=>
 gdT d a (λb4=>b4 g a) (λb5 _=>
 gdT d a (λb6=>kI64 .sub b5 (.int .i64 (.ofNat 1)) (λb7=>b6 b7 a)) (λb8 _=>
 gdT d a (λb9=>kIdxA 4 b3 b8 (λca=>b9 ca a)) (λcb _=>
 gdT d a (λcc=>kLoads 4 cb (Hs.mk a.hp a.nx a.nx) (λcd=>cc cd a)) (λce _=>
 gdT d a (λcf=>cf f a) (λcg _=>
 gdT d a (λch=>ch m a) (λci _=>
 gdT d a (λcj=>kIdxA 4 cg ci (λck=>cj ck a)) (λcl _=>
 gdT d a (λcm=>kLoads 4 cl (Hs.mk a.hp a.nx a.nx) (λcn=>cm cn a)) (λco _=>
 gdT d a (λcp=>isVal (λcq z=>dPut cp cq (dNext a z .bar) (andB (dFit a z .bar) (Nat.ble 0 z.lo))) (callV (toRn R) [ce,co] a b1)) (λcr j=>
 gdT d j (λcs=>kI64 .lss cr (.int .i64 (.ofNat 0)) (λct=>cs ct j)) (λcu _=>
 gdT d j (λcv=>kNot cu (λcw=>cv cw j)) (λcx _=>
 after (λcy A=>dPut (λB W=>
 jn (λ(q cz:Value)(c0:Hs)=>
 kCall R 79 [f,q,b,m,i] c0 (λX Y=>
 kExtr X 0 (λl=>
 kExtr X 1 (λZ=>
 kI64 .sub l q (λC=>
 kI64 .sub b l (λD=>
 kI64 .quo o (.int .i64 (.ofNat 8)) (λE=>
 kI64 .lss C D (λaa=>
 jn (λ(c1 c2 c3:Value)(c4:Hs)=>
 H c1 c2 o s p t c3 u w v m Z y V B cz Z l C D aa E c4) λab=>
 cnd aa
 (kI64 .geq C E (λc5=>
 kCall R 55 [f,q,l,p,i] Y (λen c6=>
 kI64 .add l (.int .i64 (.ofNat 1)) (λc7=>
 ab b c7 c5 c6))))
 (kI64 .geq D E (λc8=>
 kI64 .add l (.int .i64 (.ofNat 1)) (λc9=>
 kCall R 55 [f,c9,b,p,i] Y (λeo da=>
 ab l q c8 da)))))))))))) λdb=>
 cnd B
 (kCall R 78 [f,g,b,m,i] W (λac dc=>
 H b ac o s p t n u w v m F y V B ac aw ax ay az a0 a1 dc))
 (db g av W)) cy (dNext j A .blind) (andB (dFit j A .blind) (Nat.ble 0 A.lo))) (pickB (.c cx) (.c (.bool false)) enE (Hs.mk .e j.nx j.nx) d)))))))))))))))) λad=>
 cnd y
 (kCall R 77 [f,g,b,i] U (λae af=>
 jn (λ(dd:Hs)=>
 ad ae dd) λde=>
 cnd ae
 (clrK h (.tuple #[]) af)
 (de af)))
 (ad au U)) (pickB (.c bx) (.c (.bool false)) enE bz x)))) (pickB (.c br) (.c (.bool false)) enE bs n))) λag=>
 cnd v
 (kCall R 76 [f,g,b,i] L (λep df=>
 kI64 .sub b (.int .i64 (.ofNat 1)) (λdg=>
 kI64 .sub M g (λdh=>
 kI64 .sub dg dh (λdi=>
 ag (.int .i64 (.ofNat 1)) di df)))))
 (ag O M L)))))) λah=>
 cnd u
 (kCall R 74 [f,g,b,i] J (λeq dj=>
 kI64 .sub r (.int .i64 (.ofNat 1)) (λdk=>
 ah dk dj)))
 (ah r J))) λdl=>
 cnd t
 (kCall R 73 [f,g,b,i] I (λer dm=>
 clrK h (.tuple #[]) dm))
 (dl I))) λdn=>
 cnd s
 (kCall R 72 [f,g,b,i] G (λes dp=>
 clrK h (.tuple #[]) dp))
 (dn G)))) al aj dunno dunno an dunno (.bool true) dunno dunno dunno dunno (.bool true) dunno dunno dunno dunno dunno dunno dunno dunno dunno dunno ap
theorem q55:QT 55 r55:=λR N args h=>by kernel_rfl
noncomputable def r56(R:RnK)(N:Nat)(args:List Value)(h:Hs):An:=unC args λa m=>enK h λb=>
 jn (λ(n:Value)(c:Hs)=>
 kCall R 81 [a] c (λd f=>
 clrK h d f)) λg=>
 cnd (.bool false)
 (obK (λi=>
 kCall R 80 [i] b (λj l=>
 clrK h j l)) (convI1 .u32 a))
 (g (.int .i64 (.ofNat 0)) b)
theorem q56:QT 56 r56:=λR N args h=>by kernel_rfl
noncomputable def r57(R:RnK)(N:Nat)(args:List Value)(h:Hs):An:=unC args λj l=>unC l λc D=>enK h λm=>
 kLenV c (λn=>
 jn (λ(E F o G:Value)(p:Hs)=>
 clrK h o p) λq=>
 lpT (T:=Value→Value→Value→Value→Hs→An) (λ_ _ _ _ _=>none) N (λr=>
 λ(a H d s:Value)(f:Hs)=>
 kI64 .lss a n (λb=>
 jn (λ(g:Hs)=>
 jn (λ(t u:Value)(v:Hs)=>
 kI64 .add a (.int .i64 (.ofNat 1)) (λw=>
 r w b t u v)) λx=>
 kIdxA 1 c a (λy=>
 kLoad y g (λi=>
 kCall R 82 [d,(.int .i64 (.ofNat 9))] g (λz A=>
 kU64 .xor z i (λB=>
 x B i A))))) λC=>
 cnd b
 (C f)
 (q a b d s f))) (.int .i64 (.ofNat 0)) dunno j dunno m)
theorem q57:QT 57 r57:=λR N args h=>by kernel_rfl
noncomputable def r58(R:RnK)(N:Nat)(args:List Value)(h:Hs):An:=unC args λs ai=>enK h λt=>
 after (λb g=>
 kFieldA 0 b (λu=>
 kLoad u g (λv=>
 kI64 .eql v (.int .i64 (.ofNat 0)) (λd=>
 gdT d g (λw=>kFieldA 1 b (λx=>w x g)) (λy i=>
 gdT d i (λz=>kLoad y i (λA=>z A i)) (λB m=>
 gdT d m (λC=>kI64 .eql B (.int .i64 (.ofNat 0)) (λD=>C D m)) (λE F=>
 after (λf n=>
 gdT f n (λG=>kFieldA 2 b (λH=>G H n)) (λI j=>
 gdT f j (λJ=>kLoad I j (λK=>J K j)) (λL o=>
 gdT f o (λM=>kI64 .eql L (.int .i64 (.ofNat 0)) (λO=>M O o)) (λP Q=>
 after (λa p=>
 gdT a p (λS=>kFieldA 3 b (λU=>S U p)) (λV l=>
 gdT a l (λW=>kLoad V l (λX=>W X l)) (λY q=>
 gdT a q (λZ=>kLenV Y (λaa=>Z aa q)) (λab r=>
 gdT a r (λac=>kI64 .eql ab (.int .i64 (.ofNat 0)) (λad=>ac ad r)) (λae af=>
 after (λag ah=>
 clrK h ag ah) (pickB (.c ae) (.c (.bool false)) enE af a)))))) (pickB (.c P) (.c (.bool false)) enE Q f))))) (pickB (.c E) (.c (.bool false)) enE F d)))))))) (oBox 53 (.c s) enE t)
theorem q58:QT 58 r58:=λR N args h=>by kernel_rfl
noncomputable def r59(R:RnK)(N:Nat)(args:List Value)(h:Hs):An:=unC args λb i=>unC i λj l=>unC l λm x=>enK h λd=>
 kI64 .geq b j (λa=>
 gdT a d (λn=>n b d) (λo f=>
 gdT a f (λp=>p m f) (λq g=>
 gdT a g (λr=>kI64 .leq o q (λs=>r s g)) (λt u=>
 after (λv w=>
 clrK h v w) (pickB (.c t) (.c (.bool false)) enE u a)))))
theorem q59:QT 59 r59:=λR N args h=>by kernel_rfl
noncomputable def r60(R:RnK)(N:Nat)(args:List Value)(h:Hs):An:=unC args λa b=>unC b λc j=>enK h λd=>
 kCall R 83 [a,c] d (λf g=>
 kI64 .geq f (.int .i64 (.ofNat 0)) (λi=>
 clrK h i g))
theorem q60:QT 60 r60:=λR N args h=>by kernel_rfl
noncomputable def r61(R:RnK)(N:Nat)(args:List Value)(h:Hs):An:=unC args λl E=>enK h λm=>
 after (λd f=>
 kFieldA 0 d (λn=>
 kLoad n f (λo=>
 kCall R 59 [o,(.int .i64 (.ofNat 0)),(.int .i64 (.ofNat 2147483648))] f (λp g=>
 kNot p (λa=>
 gdF a g (λq=>kFieldA 1 d (λr=>q r g)) (λs b=>
 gdF a b (λt=>kLoad s b (λu=>t u b)) (λv i=>
 gdF a i (λw=>kCall R 59 [v,(.int .i64 (.ofNat 1)),(.int .i64 (.ofNat 2147483648))] i (w)) (λx j=>
 gdF a j (λy=>kNot x (λz=>y z j)) (λA B=>
 after (λC D=>
 clrK h C D) (pickB (.c (.bool true)) (.c A) enE B a)))))))))) (oBox 55 (.c l) enE m)
theorem q61:QT 61 r61:=λR N args h=>by kernel_rfl
noncomputable def r62(R:RnK)(N:Nat)(args:List Value)(h:Hs):An:=unC args λc m=>unC m λf O=>enK h λg=>
 kLenV c (λn=>
 kLenV f (λo=>
 kI64 .neq n o (λp=>
 jn (λ(q:Value)(r:Hs)=>
 kLenV c (λs=>
 jn (λ(P Q S U V:Value)(t:Hs)=>
 clrK h (.bool true) t) λu=>
 lpT (T:=Value→Value→Value→Value→Value→Hs→An) (λ_ _ _ _ _ _=>none) N (λv=>
 λ(b W w x i:Value)(j:Hs)=>
 kI64 .lss b s (λd=>
 jn (λ(a:Hs)=>
 jn (λ(y z A:Value)(B:Hs)=>
 kI64 .add b (.int .i64 (.ofNat 1)) (λC=>
 v C d y z A B)) λD=>
 kIdxA 1 c b (λE=>
 kLoad E (Hs.mk a.hp a.nx a.nx) (λF=>
 kIdxA 1 f b (λG=>
 kLoad G (Hs.mk a.hp a.nx a.nx) (λH=>
 kU64 .neq F H (λl=>
 jn (λ(I:Value)(J:Hs)=>
 D b l I J) λK=>
 cnd l
 (clrK h (.bool false) a)
 (K i a))))))) λL=>
 cnd d
 (L j)
 (u b d w x i j))) (.int .i64 (.ofNat 0)) dunno dunno dunno q r)) λM=>
 cnd p
 (clrK h (.bool false) g)
 (M (.bool false) g))))
theorem q62:QT 62 r62:=λR N args h=>by kernel_rfl
noncomputable def r63(R:RnK)(N:Nat)(args:List Value)(h:Hs):An:=unC args λj l=>unC l λm Q=>enK h λn=>
 after (λo p=>
 after (λb a=>
 kFieldA 0 b (λq=>
 kLoad q a (λd=>
 jn (λ(S U V:Value)(f:Hs)=>
 kFieldA 2 b (λr=>
 kLoad r f (λs=>
 kCall R 59 [s,(.int .i64 (.ofNat 1)),(.int .i64 (.ofNat 400))] f (λt u=>
 clrK h t u)))) λv=>
 kI64 .eql d (.int .i64 (.ofNat 1)) (λg=>
 jn (λ(w x:Value)(y:Hs)=>
 v g w x y) λz=>
 cnd g
 (kFieldA 2 b (λA=>
 kLoad A a (λB=>
 kCall R 59 [B,(.int .i64 (.ofNat 0)),(.int .i64 (.ofNat 4096))] a (λC D=>
 clrK h C D))))
 (kI64 .eql d (.int .i64 (.ofNat 2)) (λi=>
 jn (λ(E:Value)(F:Hs)=>
 z i E F) λG=>
 cnd i
 (kFieldA 2 b (λH=>
 kLoad H a (λI=>
 kFieldA 0 o (λJ=>
 kLoad J a (λK=>
 after (λL M=>
 kCall R 59 [I,(.int .i64 (.ofNat 0)),L] M (λO P=>
 clrK h O P)) (oMinmax false [.c K,.c (.int .i64 (.ofNat 4096))] enE a))))))
 (G (.bool false) a))))))) (oBox 53 (.c m) enE p)) (oBox 29 (.c j) enE n)
theorem q63:QT 63 r63:=λR N args h=>by kernel_rfl
noncomputable def r64(R:RnK)(N:Nat)(args:List Value)(h:Hs):An:=unC args λa3 a4=>unC a4 λa5 f3=>enK h λa6=>
 after (λD a7=>
 after (λn E=>
 kLoads 4 D E (λa8=>
 kCall R 14 [a8] E (λF p=>
 kExtr F 0 (λa9=>
 kExtr F 1 (λba=>
 kFieldA 0 n (λbb=>
 kLoad bb p (λbc=>
 kI64 .eql bc (.int .i64 (.ofNat 2)) (λf=>
 gdT f p (λbd=>kFieldA 3 n (λbe=>bd be p)) (λbf q=>
 gdT f q (λbg=>kLoad bf q (λbh=>bg bh q)) (λbi G=>
 gdT f G (λbj=>bj a9 G) (λbk H=>
 gdT f H (λbl=>bl ba H) (λbm I=>
 gdT f I (λbn=>after (bn) (oBuild [(.int .i64 (.ofNat 0)),(.int .i64 (.ofNat 0))] [(0,1,.c bk),(1,1,.c bm)] enE I)) (λbo J=>
 gdT f J (λbp=>after (bp) (oMkrow 55 2 1 [(.int .i64 (.ofNat 0)),(.int .i64 (.ofNat 0))] [(0,2,.c bo)] enE J)) (λbq K=>
 gdT f K (λbr=>kCall R 67 [bi,bq] K (br)) (λbs bt=>
 after (λbu L=>
 jn (λ(bv:Value)(M:Hs)=>
 kLoads 4 D M (λbw=>
 kCall R 19 [bw] M (λO P=>
 kExtr O 0 (λr=>
 kExtr O 1 (λQ=>
 kFieldA 3 n (λbx=>
 kLoad bx P (λS=>
 kLenV S (λbz=>
 jn (λ(f4 f5 f6 f7 f8 f9 ga gb gc gd ge gf:Value)(b0:Hs)=>
 clrK h (.bool true) b0) λb1=>
 lpT (T:=Value→Value→Value→Value→Value→Value→Value→Value→Value→Value→Value→Value→Hs→An) (λ_ _ _ _ _ _ _ _ _ _ _ _ _=>none) N (λb2=>
 λ(i gg b3 b4 b5 b6 b7 U b8 V W X:Value)(Y:Hs)=>
 kI64 .lss i bz (λs=>
 jn (λ(Z:Hs)=>
 jn (λ(b9 ca cb cc cd ce cf cg ch ci:Value)(cj:Hs)=>
 kI64 .add i (.int .i64 (.ofNat 1)) (λck=>
 b2 ck s b9 ca cb cc cd ce cf cg ch ci cj)) λcl=>
 kIdxA 2 S i (λcm=>
 kLoads 2 cm Z (λcn=>
 after (λa co=>
 after (λgh t=>
 kFieldA 1 a (λcp=>
 kLoad cp t (λcq=>
 kI64 .lss cq (.int .i64 (.ofNat 1)) (λj=>
 gdF j t (λcr=>kFieldA 0 a (λcs=>cr cs t)) (λct u=>
 gdF j u (λcu=>kLoad ct u (λcv=>cu cv u)) (λcw aa=>
 gdF j aa (λcx=>cx r aa) (λcy ab=>
 gdF j ab (λcz=>kI64 .lss cw cy (λc0=>cz c0 ab)) (λc1 c2=>
 after (λg ac=>
 gdF g ac (λc3=>kFieldA 0 a (λc4=>c3 c4 ac)) (λc5 v=>
 gdF g v (λc6=>kLoad c5 v (λc7=>c6 c7 v)) (λc8 ad=>
 gdF g ad (λc9=>c9 r ad) (λda ae=>
 gdF g ae (λdb=>kI64 .sub c8 da (λdc=>db dc ae)) (λdd af=>
 gdF g af (λde=>de Q af) (λdf ag=>
 gdF g ag (λdg=>kI64 .geq dd df (λdh=>dg dh ag)) (λdi dj=>
 after (λb ah=>
 gdF b ah (λdk=>kFieldA 1 a (λdl=>dk dl ah)) (λdm w=>
 gdF b w (λdn=>kLoad dm w (λdp=>dn dp w)) (λdq ai=>
 gdF b ai (λdr=>dr Q ai) (λds aj=>
 gdF b aj (λdt=>kFieldA 0 a (λdu=>dt du aj)) (λdv x=>
 gdF b x (λdw=>kLoad dv x (λdx=>dw dx x)) (λdy ak=>
 gdF b ak (λdz=>dz r ak) (λd0 al=>
 gdF b al (λd1=>kI64 .sub dy d0 (λd2=>d1 d2 al)) (λd3 am=>
 gdF b am (λd4=>kI64 .sub ds d3 (λd5=>d4 d5 am)) (λd6 an=>
 gdF b an (λd7=>kI64 .gtr dq d6 (λd8=>d7 d8 an)) (λd9 ea=>
 after (λao ap=>
 jn (λ(eb:Value)(aq:Hs)=>
 kFieldA 3 n (λec=>
 kLoad ec aq (λed=>
 after (λy ee=>
 kLenV y (λar=>
 jn (λ(ef eg eh ei ej:Value)(ek:Hs)=>
 cl a ao i ef ar eg y eh ei ej ek) λel=>
 lpT (T:=Value→Value→Value→Value→Value→Hs→An) (λ_ _ _ _ _ _=>none) N (λem=>
 λ(o gi en eo au:Value)(av:Hs)=>
 kI64 .lss o ar (λz=>
 jn (λ(aw:Hs)=>
 jn (λ(ep eq er:Value)(es:Hs)=>
 kI64 .add o (.int .i64 (.ofNat 1)) (λet=>
 em et z ep eq er es)) λeu=>
 kIdxA 2 y o (λew=>
 kLoads 2 ew aw (λex=>
 after (λl ey=>
 after (λgj m=>
 kFieldA 0 a (λez=>
 kLoad ez m (λe0=>
 kFieldA 0 l (λe1=>
 kLoad e1 m (λe3=>
 kFieldA 1 l (λe4=>
 kLoad e4 m (λe5=>
 kI64 .add e3 e5 (λe6=>
 kI64 .lss e0 e6 (λd=>
 gdT d m (λe7=>kFieldA 0 l (λe8=>e7 e8 m)) (λe9 A=>
 gdT d A (λfa=>kLoad e9 A (λfb=>fa fb A)) (λfc ax=>
 gdT d ax (λfd=>kFieldA 0 a (λfe=>fd fe ax)) (λff B=>
 gdT d B (λfg=>kLoad ff B (λfh=>fg fh B)) (λfi ay=>
 gdT d ay (λfj=>kFieldA 1 a (λfk=>fj fk ay)) (λfl C=>
 gdT d C (λfm=>kLoad fl C (λfn=>fm fn C)) (λfo az=>
 gdT d az (λfp=>kI64 .add fi fo (λfq=>fp fq az)) (λfr a0=>
 gdT d a0 (λfs=>kI64 .lss fc fr (λft=>fs ft a0)) (λfu fv=>
 after (λa1 a2=>
 jn (λ(fw:Value)(fx:Hs)=>
 eu l a1 fw fx) λfy=>
 cnd a1
 (clrK h (.bool false) a2)
 (fy au a2)) (pickB (.c fu) (.c (.bool false)) enE fv d)))))))))))))))))) (store1 2 ey (cellsL ex) (addrOf l))) (oAlloc 55 [(.int .i64 (.ofNat 0)),(.int .i64 (.ofNat 0))] enE aw)))) λfz=>
 cnd z
 (fz av)
 (el o z en eo au av))) (.int .i64 (.ofNat 0)) U V W eb ee)) (oSlice 2 (.c ed) none (some (.c i)) none enE aq)))) λf0=>
 cnd ao
 (clrK h (.bool false) ap)
 (f0 X ap)) (pickB (.c (.bool true)) (.c d9) enE ea b))))))))))) (pickB (.c (.bool true)) (.c di) enE dj g)))))))) (pickB (.c (.bool true)) (.c c1) enE c2 j))))))))) (store1 2 co (cellsL cn) (addrOf a))) (oAlloc 55 [(.int .i64 (.ofNat 0)),(.int .i64 (.ofNat 0))] enE Z)))) λf1=>
 cnd s
 (f1 Y)
 (b1 i s b3 b4 b5 b6 b7 U b8 V W X Y))) (.int .i64 (.ofNat 0)) dunno dunno dunno dunno dunno dunno dunno dunno dunno dunno bv P)))))))) λf2=>
 cnd bu
 (clrK h (.bool true) L)
 (f2 (.bool false) L)) (pickB (.c bs) (.c (.bool false)) enE bt f)))))))))))))))) (oBox 53 (.c a5) enE a7)) (oBox 29 (.c a3) enE a6)
theorem q64:QT 64 r64:=λR N args h=>by kernel_rfl
noncomputable def r65(R:RnK)(N:Nat)(args:List Value)(h:Hs):An:=unC args λn J=>enK h λo=>
 after (λp f=>
 kFieldA 3 p (λq=>
 kLoad q f (λg=>
 kLenV g (λr=>
 jn (λ(K L s M:Value)(t:Hs)=>
 clrK h s t) λu=>
 lpT (T:=Value→Value→Value→Value→Hs→An) (λ_ _ _ _ _=>none) N (λv=>
 λ(a O i w:Value)(j:Hs)=>
 kI64 .lss a r (λb=>
 jn (λ(l:Hs)=>
 jn (λ(x y:Value)(z:Hs)=>
 kI64 .add a (.int .i64 (.ofNat 1)) (λA=>
 v A b x y z)) λB=>
 kIdxA 2 g a (λC=>
 kLoads 2 C l (λD=>
 after (λd E=>
 after (λP m=>
 kFieldA 1 d (λF=>
 kLoad F m (λG=>
 kI64 .add i G (λH=>
 B H d m)))) (store1 2 E (cellsL D) (addrOf d))) (oAlloc 55 [(.int .i64 (.ofNat 0)),(.int .i64 (.ofNat 0))] enE l)))) λI=>
 cnd b
 (I j)
 (u a b i w j))) (.int .i64 (.ofNat 0)) dunno (.int .i64 (.ofNat 0)) dunno f)))) (oBox 53 (.c n) enE o)
theorem q65:QT 65 r65:=λR N args h=>by kernel_rfl
noncomputable def r66(R:RnK)(N:Nat)(args:List Value)(h:Hs):An:=unC args λm Z=>enK h λn=>
 after (λb a=>
 jn (λ(aa ab ac ad:Value)(o:Hs)=>
 clrK h (.int .i64 (.ofNat 0)) o) λp=>
 kFieldA 2 b (λq=>
 kLoad q a (λr=>
 kI64 .lss r (.int .i64 (.ofNat 0)) (λf=>
 jn (λ(s t u:Value)(v:Hs)=>
 p f s t u v) λw=>
 cnd f
 (clrK h (.int .i64 (.ofNat 0)) a)
 (kFieldA 0 b (λx=>
 kLoad x a (λy=>
 kI64 .eql y (.int .i64 (.ofNat 2)) (λg=>
 jn (λ(z A:Value)(B:Hs)=>
 w g z A B) λC=>
 cnd g
 (kFieldA 2 b (λD=>
 kLoad D a (λE=>
 clrK h E a)))
 (kFieldA 0 b (λF=>
 kLoad F a (λG=>
 kI64 .eql G (.int .i64 (.ofNat 1)) (λi=>
 jn (λ(j:Value)(d:Hs)=>
 jn (λ(H:Value)(I:Hs)=>
 C j H I) λJ=>
 cnd j
 (kFieldA 2 b (λK=>
 kLoad K d (λL=>
 kI64 .quo L (.int .i64 (.ofNat 64)) (λM=>
 kFieldA 2 b (λO=>
 kLoad O d (λP=>
 kI64 .rem P (.int .i64 (.ofNat 64)) (λQ=>
 after (λS U=>
 kI64 .add M S (λV=>
 clrK h V U)) (oMinmax false [.c Q,.c (.int .i64 (.ofNat 1))] enE d))))))))
 (J (.int .i64 (.ofNat 0)) d)) λl=>
 cnd i
 (l i a)
 (kFieldA 0 b (λW=>
 kLoad W a (λX=>
 kI64 .eql X (.int .i64 (.ofNat 3)) (λY=>
 l Y a)))))))))))))))) (oBox 53 (.c m) enE n)
theorem q66:QT 66 r66:=λR N args h=>by kernel_rfl
noncomputable def r67(R:RnK)(N:Nat)(args:List Value)(h:Hs):An:=unC args λc n=>unC n λf P=>enK h λg=>
 kLenV c (λo=>
 kLenV f (λp=>
 kI64 .neq o p (λq=>
 jn (λ(r:Value)(s:Hs)=>
 kLenV c (λt=>
 jn (λ(Q S U V W:Value)(u:Hs)=>
 clrK h (.bool true) u) λv=>
 lpT (T:=Value→Value→Value→Value→Value→Hs→An) (λ_ _ _ _ _ _=>none) N (λw=>
 λ(b X x y j:Value)(l:Hs)=>
 kI64 .lss b t (λd=>
 jn (λ(a:Hs)=>
 jn (λ(z A B:Value)(C:Hs)=>
 kI64 .add b (.int .i64 (.ofNat 1)) (λD=>
 w D d z A B C)) λE=>
 kIdxA 2 c b (λF=>
 kLoads 2 F (Hs.mk a.hp a.nx a.nx) (λG=>
 kIdxA 2 f b (λH=>
 kLoads 2 H (Hs.mk a.hp a.nx a.nx) (λI=>
 obK (λm=>
 jn (λ(J:Value)(K:Hs)=>
 E b m J K) λL=>
 cnd m
 (clrK h (.bool false) a)
 (L j a)) (e2 true (qA [.i,.i]) G I)))))) λM=>
 cnd d
 (M l)
 (v b d x y j l))) (.int .i64 (.ofNat 0)) dunno dunno dunno r s)) λO=>
 cnd q
 (clrK h (.bool false) g)
 (O (.bool false) g))))
theorem q67:QT 67 r67:=λR N args h=>by kernel_rfl
noncomputable def r68(R:RnK)(N:Nat)(args:List Value)(h:Hs):An:=unC args λa d=>unC d λf t=>enK h λg=>
 kCall R 84 [a] g (λu b=>
 kNil a (λi=>
 kFieldA 1 i (λj=>
 kLoad j b (λl=>
 after (λm n=>
 after (λo p=>
 kNil a (λq=>
 kFieldA 1 q (λr=>
 kStore1 r o p (λv s=>
 clrK h Value.nilIface s)))) (app0 5 1 1 n l m)) (oMkrow 5 1 1 [(.int .u8 (.ofNat 0))] [(0,1,.c f)] enE b)))))
theorem q68:QT 68 r68:=λR N args h=>by kernel_rfl
noncomputable def r69(R:RnK)(N:Nat)(args:List Value)(h:Hs):An:=unC args λf u=>enK h λa=>
 kNil f (λg=>
 kFieldA 1 g (λi=>
 kLoad i (Hs.mk a.hp a.nx a.nx) (λj=>
 after (λl c=>dPut (λm b=>
 kNil f (λn=>
 kFieldA 1 n (λo=>
 kLoad o (dHidS .light [true,true,true,false,false,false,false,false] [none,none,none,some (a.nx,b.nx),none,none,none,none] b) (λp=>
 kLenV p (λq=>
 after (λr d=>dPut (λs t=>
 clrK h s t) r (dNext b d .bar) (andB (dFit b d .bar) (Nat.ble 0 d.lo))) (ustr1 5 b m (nat64 q))))))) l (dNext a c .light) (andB (dFit a c .light) (Nat.ble 0 c.lo))) (ret1 (Hs.mk a.hp a.nx a.nx) (sdata1 j)))))
theorem q69:QT 69 r69:=λR N args h=>by kernel_rfl
noncomputable def r70(R:RnK)(N:Nat)(args:List Value)(h:Hs):An:=unC args λx a7=>enK h λy=>
 after (λf r=>
 kLoads 2 f r (λz=>
 kCall R 85 [z] r (λA s=>
 kNot A (λB=>
 jn (λ(C:Value)(D:Hs)=>
 after (λa i=>
 kFieldA 0 f (λE=>
 kLoad E i (λF=>
 kI64 .eql F (.int .i64 (.ofNat 0)) (λG=>
 jn (λ(a8:Value)(t:Hs)=>
 lwC a t (λg=>
 kFieldA 0 f (λH=>
 kLoad H g (λI=>
 kToU I (λJ=>
 kFieldA 1 f (λK=>
 kLoad K (lowM (cutV a) g g) (λL=>
 kLenS L (λM=>
 kToU M (λO=>
 kIdxA 1 a (.int .i64 (.ofNat 0)) (λP=>
 kStore1 P J g (λQ j=>dPut (λa9 l=>
 kIdxA 1 a (.int .i64 (.ofNat 1)) (λS=>
 kStore1 S O l (λU m=>dPut (λba V=>
 lwCE a t V (λu=>
 kFieldA 1 f (λW=>
 kLoad W u (λX=>
 kLenS X (λY=>
 jn (λ(bb bc bd:Value)(Z:Hs)=>
 after (λaa ab=>
 kCall R 37 [aa] ab (λac ad=>
 kIdxA 1 a (.int .i64 (.ofNat 7)) (λae=>
 kStore1 ae ac ad (λbe af=>
 clrK h a af)))) (oSlice 1 (.c a) none (some (.c (.int .i64 (.ofNat 7)))) none enE Z)) λag=>
 lpT (T:=Value→Value→Value→Hs→An) (λ_ _ _ _=>none) N (λah=>
 λ(d bf ai:Value)(v:Hs)=>
 kI64 .lss d Y (λn=>
 jn (λ(b:Hs)=>
 jn (λ(aj:Value)(ak:Hs)=>
 kI64 .add d (.int .i64 (.ofNat 1)) (λal=>
 ah al n aj ak)) λam=>
 kI64 .quo d (.int .i64 (.ofNat 8)) (λan=>
 kI64 .add (.int .i64 (.ofNat 2)) an (λw=>
 kIdxA 1 a w (λao=>
 kLoad ao (Hs.mk b.hp b.nx b.nx) (λap=>
 kFieldA 1 f (λaq=>
 kLoad aq (Hs.mk b.hp b.nx b.nx) (λar=>
 after (λau o=>dPut (λav p=>
 kToU av (λaw=>
 kI64 .rem d (.int .i64 (.ofNat 8)) (λax=>
 kI64 .mul (.int .i64 (.ofNat 8)) ax (λay=>
 kShl aw ay (λaz=>
 kU64 .or ap az (λa0=>
 kIdxA 1 a w (λa1=>
 kStore1 a1 a0 p (λa2 q=>dPut (λbg a3=>
 am d a3) a2 (dNext p q .bar) (andB (dFit p q .bar) (Nat.ble 0 q.lo)))))))))) au (dNext b o .blind) (andB (dFit b o .blind) (Nat.ble 0 o.lo))) (oIdxS (.c ar) (.c d) enE (Hs.mk .e b.nx b.nx))))))))) λa4=>
 cnd n
 (a4 v)
 (ag d n ai v))) (.int .i64 (.ofNat 0)) dunno dunno u))))) U (dNext l m .bar) (andB (dFit l m .bar) (Nat.ble (cutV a) m.lo))))) Q (dNext g j .bar) (andB (dFit g j .bar) (Nat.ble (cutV a) j.lo))))))))))))) λa5=>
 cnd G
 (clrK h a i)
 (a5 C i))))) (mkslice1 22 1 8 [(.int .u64 (.ofNat 0))] D (natOf (.int .i64 (.ofNat 8))) (natOf (.int .i64 (.ofNat 8))))) λa6=>
 cnd B
 (clrK h (.slice none 0 0) s)
 (a6 (.slice none 0 0) s))))) (oBox 97 (.c x) enE y)
theorem q70:QT 70 r70:=λR N args h=>by kernel_rfl
noncomputable def r72(R:RnK)(N:Nat)(args:List Value)(h:Hs):An:=unC args λg w=>unC w λs x=>unC x λy z=>unC z λA bj=>enK h λB=>
 kI64 .add s (.int .i64 (.ofNat 1)) (λC=>
 jn (λ(bk bl bm bn:Value)(D:Hs)=>
 clrK h (.tuple #[]) D) λE=>
 lpT (T:=Value→Value→Value→Value→Hs→An) (λ_ _ _ _ _=>none) N (λF=>
 λ(j bo G t:Value)(u:Hs)=>
 kI64 .lss j y (λl=>
 jn (λ(H:Hs)=>
 jn (λ(I J:Value)(K:Hs)=>
 kI64 .add j (.int .i64 (.ofNat 1)) (λL=>
 F L l I J K)) λM=>
 jn (λ(O P:Value)(Q:Hs)=>
 M O P Q) λS=>
 lpT (T:=Value→Value→Hs→An) (λ_ _ _=>none) N (λU=>
 λ(d bp:Value)(a:Hs)=>
 kI64 .gtr d s (λb=>
 gdT b a (λV=>V A a) (λW _=>
 gdT b a (λX=>X g a) (λY _=>
 gdT b a (λZ=>Z d a) (λaa _=>
 gdT b a (λab=>kIdxA 4 Y aa (λac=>ab ac a)) (λad _=>
 gdT b a (λae=>kLoads 4 ad (Hs.mk a.hp a.nx a.nx) (λaf=>ae af a)) (λag _=>
 gdT b a (λah=>ah g a) (λai _=>
 gdT b a (λaj=>aj d a) (λak _=>
 gdT b a (λal=>kI64 .sub ak (.int .i64 (.ofNat 1)) (λam=>al am a)) (λan _=>
 gdT b a (λao=>kIdxA 4 ai an (λap=>ao ap a)) (λaq _=>
 gdT b a (λar=>kLoads 4 aq (Hs.mk a.hp a.nx a.nx) (λau=>ar au a)) (λav _=>
 gdT b a (λaw=>isVal (λax m=>dPut aw ax (dNext a m .bar) (andB (dFit a m .bar) (Nat.ble 0 m.lo))) (callV (toRn R) [ag,av] a W)) (λay i=>
 gdT b i (λaz=>kI64 .lss ay (.int .i64 (.ofNat 0)) (λa0=>az a0 i)) (λa1 _=>
 after (λa2 n=>dPut (λo v=>
 jn (λ(f:Hs)=>
 jn (λ(a3:Hs)=>
 kI64 .sub d (.int .i64 (.ofNat 1)) (λa4=>
 U a4 o a3)) λa5=>
 kI64 .sub d (.int .i64 (.ofNat 1)) (λa6=>
 kI64 .sub d (.int .i64 (.ofNat 1)) (λa7=>
 kIdxA 4 g a7 (λa8=>
 kLoads 4 a8 (Hs.mk f.hp f.nx f.nx) (λa9=>
 kIdxA 4 g d (λba=>
 kLoads 4 ba (Hs.mk f.hp f.nx f.nx) (λbb=>
 kIdxA 4 g d (λbc=>
 after (λbd p=>dPut (λbq q=>
 kIdxA 4 g a6 (λbe=>
 after (λbf r=>dPut (λbr bg=>
 a5 bg) bf (dNext q r .bar) (andB (dFit q r .bar) (Nat.ble 0 r.lo))) (store1 4 q (cellsL bb) (addrOf be)))) bd (dNext f p .bar) (andB (dFit f p .bar) (Nat.ble 0 p.lo))) (store1 4 f (cellsL a9) (addrOf bc)))))))))) λbh=>
 cnd o
 (bh v)
 (S d o v)) a2 (dNext i n .blind) (andB (dFit i n .blind) (Nat.ble 0 n.lo))) (pickB (.c a1) (.c (.bool false)) enE (Hs.mk .e i.nx i.nx) b))))))))))))))) j t H) λbi=>
 cnd l
 (bi u)
 (E j l G t u))) C dunno dunno dunno B)
theorem q72:QT 72 r72:=λR N args h=>by kernel_rfl
noncomputable def r75(R:RnK)(N:Nat)(args:List Value)(h:Hs):An:=unC args λc w=>unC w λd x=>unC x λy z=>unC z λf ah=>enK h λA=>
 kI64 .sub y d (λa=>
 after (λb i=>
 kI64 .quo a (.int .i64 (.ofNat 4)) (λB=>
 kI64 .mul B (.int .i64 (.ofNat 1)) (λC=>
 kI64 .add d C (λj=>
 kI64 .quo a (.int .i64 (.ofNat 4)) (λD=>
 kI64 .mul D (.int .i64 (.ofNat 2)) (λE=>
 kI64 .add d E (λl=>
 kI64 .quo a (.int .i64 (.ofNat 4)) (λF=>
 kI64 .mul F (.int .i64 (.ofNat 3)) (λG=>
 kI64 .add d G (λm=>
 kI64 .geq a (.int .i64 (.ofNat 8)) (λH=>
 jn (λ(ai aj n ak:Value)(g:Hs)=>
 kLoad b g (λo=>
 jn (λ(al am I J:Value)(K:Hs)=>
 clrK h (.tuple #[I,J]) K) λL=>
 kI64 .eql o (.int .i64 (.ofNat 0)) (λp=>
 jn (λ(M O P:Value)(Q:Hs)=>
 L p M O P Q) λS=>
 cnd p
 (clrK h (.tuple #[n,(.int .i64 (.ofNat 1))]) g)
 (kI64 .eql o (.int .i64 (.ofNat 12)) (λq=>
 jn (λ(U V:Value)(W:Hs)=>
 S q U V W) λan=>
 cnd q
 (clrK h (.tuple #[n,(.int .i64 (.ofNat 2))]) g)
 (clrK h (.tuple #[n,(.int .i64 (.ofNat 0))]) g)))))) λr=>
 cnd H
 (kI64 .geq a (.int .i64 (.ofNat 50)) (λs=>
 jn (λ(t X u:Value)(Y:Hs)=>
 kCall R 91 [c,t,X,u,b,f] Y (λZ aa=>
 r s t Z u aa)) λv=>
 cnd s
 (kCall R 90 [c,j,b,f] i (λab ac=>
 kCall R 90 [c,l,b,f] ac (λad ae=>
 kCall R 90 [c,m,b,f] ae (λaf ag=>
 v ab ad af ag))))
 (v j l m i)))
 (r dunno j l m i)))))))))))) (oAlloc 3 [(.int .i64 (.ofNat 0))] enE A))
theorem q75:QT 75 r75:=λR N args h=>by kernel_rfl
noncomputable def r77(R:RnK)(N:Nat)(args:List Value)(h:Hs):An:=unC args λb au=>unC au λu av=>unC av λq aw=>unC aw λv fg=>enK h λax=>
 kI64 .add u (.int .i64 (.ofNat 1)) (λay=>
 jn (λ(fh fi fj fk fl fm fn fo fp fq fr fs ft fu fv:Value)(az:Hs)=>
 clrK h (.bool false) az) λa0=>
 lpT (T:=Value→Value→Value→Value→Value→Value→Value→Value→Value→Value→Value→Value→Value→Value→Value→Hs→An) (λ_ _ _ _ _ _ _ _ _ _ _ _ _ _ _ _=>none) N (λa1=>
 λ(w fw V W a2 a3 a4 X x y a5 Y z A Z:Value)(aa:Hs)=>
 kI64 .lss w (.int .i64 (.ofNat 5)) (λB=>
 jn (λ(a6:Hs)=>
 jn (λ(a7 a8 a9 ba bb bc bd be bf bg bh bi bj:Value)(bk:Hs)=>
 kI64 .add w (.int .i64 (.ofNat 1)) (λbl=>
 a1 bl B a7 a8 a9 ba bb bc bd be bf bg bh bi bj bk)) λbm=>
 jn (λ(f bn:Value)(ab:Hs)=>
 kI64 .eql f q (λac=>
 jn (λ(bo:Value)(ad:Hs)=>
 kI64 .sub q u (λbp=>
 kI64 .lss bp (.int .i64 (.ofNat 50)) (λae=>
 jn (λ(bq:Value)(j:Hs)=>
 kI64 .sub f (.int .i64 (.ofNat 1)) (λbr=>
 kI64 .sub f (.int .i64 (.ofNat 1)) (λbs=>
 kIdxA 4 b bs (λbt=>
 kLoads 4 bt (Hs.mk j.hp j.nx j.nx) (λbu=>
 kIdxA 4 b f (λbv=>
 kLoads 4 bv (Hs.mk j.hp j.nx j.nx) (λbw=>
 kIdxA 4 b f (λbx=>
 after (λbz C=>dPut (λfx D=>
 kIdxA 4 b br (λb0=>
 after (λb1 E=>dPut (λfy af=>
 kI64 .sub f u (λb2=>
 kI64 .geq b2 (.int .i64 (.ofNat 2)) (λag=>
 jn (λ(b3 b4 b5:Value)(ah:Hs)=>
 kI64 .sub q f (λb6=>
 kI64 .geq b6 (.int .i64 (.ofNat 2)) (λai=>
 jn (λ(b7 b8 b9:Value)(ca:Hs)=>
 bm f bn ac ae ag b3 b4 b5 ai b7 b8 b9 bq ca) λaj=>
 cnd ai
 (kI64 .add f (.int .i64 (.ofNat 1)) (λcb=>
 jn (λ(cc cd ce:Value)(cf:Hs)=>
 aj cc cd ce cf) λak=>
 lpT (T:=Value→Value→Value→Hs→An) (λ_ _ _ _=>none) N (λcg=>
 λ(g fz ch:Value)(al:Hs)=>
 kI64 .lss g q (λs=>
 jn (λ(l:Hs)=>
 jn (λ(ci:Value)(cj:Hs)=>
 kI64 .add g (.int .i64 (.ofNat 1)) (λck=>
 cg ck s ci cj)) λcl=>
 kIdxA 4 b g (λcm=>
 kLoads 4 cm (Hs.mk l.hp l.nx l.nx) (λcn=>
 kI64 .sub g (.int .i64 (.ofNat 1)) (λco=>
 kIdxA 4 b co (λcp=>
 kLoads 4 cp (Hs.mk l.hp l.nx l.nx) (λcq=>
 isVal (λcr F=>dPut (λcs am=>
 kI64 .lss cs (.int .i64 (.ofNat 0)) (λct=>
 kNot ct (λG=>
 jn (λ(m:Hs)=>
 kI64 .sub g (.int .i64 (.ofNat 1)) (λcu=>
 kI64 .sub g (.int .i64 (.ofNat 1)) (λcv=>
 kIdxA 4 b cv (λcw=>
 kLoads 4 cw (Hs.mk m.hp m.nx m.nx) (λcx=>
 kIdxA 4 b g (λcy=>
 kLoads 4 cy (Hs.mk m.hp m.nx m.nx) (λcz=>
 kIdxA 4 b g (λc0=>
 after (λc1 H=>dPut (λf0 I=>
 kIdxA 4 b cu (λc2=>
 after (λc3 J=>dPut (λf1 c4=>
 cl G c4) c3 (dNext I J .bar) (andB (dFit I J .bar) (Nat.ble 0 J.lo))) (store1 4 I (cellsL cz) (addrOf c2)))) c1 (dNext m H .bar) (andB (dFit m H .bar) (Nat.ble 0 H.lo))) (store1 4 m (cellsL cx) (addrOf c0)))))))))) λc5=>
 cnd G
 (ak g s G am)
 (c5 am)))) cr (dNext l F .bar) (andB (dFit l F .bar) (Nat.ble 0 F.lo))) (callV (toRn R) [cn,cq] l v))))))) λc6=>
 cnd s
 (c6 al)
 (ak g s ch al))) cb z A ah))
 (aj Y z A ah)))) λan=>
 cnd ag
 (kI64 .sub f (.int .i64 (.ofNat 1)) (λc7=>
 jn (λ(c8 c9 da:Value)(db:Hs)=>
 an c8 c9 da db) λao=>
 lpT (T:=Value→Value→Value→Hs→An) (λ_ _ _ _=>none) N (λdc=>
 λ(i f2 dd:Value)(ap:Hs)=>
 kI64 .geq i (.int .i64 (.ofNat 1)) (λt=>
 jn (λ(n:Hs)=>
 jn (λ(de:Value)(df:Hs)=>
 kI64 .sub i (.int .i64 (.ofNat 1)) (λdg=>
 dc dg t de df)) λdh=>
 kIdxA 4 b i (λdi=>
 kLoads 4 di (Hs.mk n.hp n.nx n.nx) (λdj=>
 kI64 .sub i (.int .i64 (.ofNat 1)) (λdk=>
 kIdxA 4 b dk (λdl=>
 kLoads 4 dl (Hs.mk n.hp n.nx n.nx) (λdm=>
 isVal (λdn K=>dPut (λdp aq=>
 kI64 .lss dp (.int .i64 (.ofNat 0)) (λdq=>
 kNot dq (λL=>
 jn (λ(o:Hs)=>
 kI64 .sub i (.int .i64 (.ofNat 1)) (λdr=>
 kI64 .sub i (.int .i64 (.ofNat 1)) (λds=>
 kIdxA 4 b ds (λdt=>
 kLoads 4 dt (Hs.mk o.hp o.nx o.nx) (λdu=>
 kIdxA 4 b i (λdv=>
 kLoads 4 dv (Hs.mk o.hp o.nx o.nx) (λdw=>
 kIdxA 4 b i (λdx=>
 after (λdy M=>dPut (λf3 O=>
 kIdxA 4 b dr (λdz=>
 after (λd0 P=>dPut (λf4 d1=>
 dh L d1) d0 (dNext O P .bar) (andB (dFit O P .bar) (Nat.ble 0 P.lo))) (store1 4 O (cellsL dw) (addrOf dz)))) dy (dNext o M .bar) (andB (dFit o M .bar) (Nat.ble 0 M.lo))) (store1 4 o (cellsL du) (addrOf dx)))))))))) λd2=>
 cnd L
 (ao i t L aq)
 (d2 aq)))) dn (dNext n K .bar) (andB (dFit n K .bar) (Nat.ble 0 K.lo))) (callV (toRn R) [dj,dm] n v))))))) λd3=>
 cnd t
 (d3 ap)
 (ao i t dd ap))) c7 x y af))
 (an X x y af)))) b1 (dNext D E .bar) (andB (dFit D E .bar) (Nat.ble 0 E.lo))) (store1 4 D (cellsL bw) (addrOf b0)))) bz (dNext j C .bar) (andB (dFit j C .bar) (Nat.ble 0 C.lo))) (store1 4 j (cellsL bu) (addrOf bx)))))))))) λd4=>
 cnd ae
 (clrK h (.bool false) ad)
 (d4 bo ad)))) λd5=>
 cnd ac
 (clrK h (.bool true) ab)
 (d5 Z ab))) λd6=>
 lpT (T:=Value→Value→Hs→An) (λ_ _ _=>none) N (λd7=>
 λ(r f5:Value)(a:Hs)=>
 kI64 .lss r q (λd=>
 gdT d a (λd8=>d8 v a) (λd9 _=>
 gdT d a (λea=>ea b a) (λeb _=>
 gdT d a (λec=>ec r a) (λed _=>
 gdT d a (λee=>kIdxA 4 eb ed (λef=>ee ef a)) (λeg _=>
 gdT d a (λeh=>kLoads 4 eg (Hs.mk a.hp a.nx a.nx) (λei=>eh ei a)) (λej _=>
 gdT d a (λek=>ek b a) (λel _=>
 gdT d a (λem=>em r a) (λen _=>
 gdT d a (λeo=>kI64 .sub en (.int .i64 (.ofNat 1)) (λep=>eo ep a)) (λeq _=>
 gdT d a (λer=>kIdxA 4 el eq (λes=>er es a)) (λet _=>
 gdT d a (λeu=>kLoads 4 et (Hs.mk a.hp a.nx a.nx) (λew=>eu ew a)) (λex _=>
 gdT d a (λey=>isVal (λez Q=>dPut ey ez (dNext a Q .bar) (andB (dFit a Q .bar) (Nat.ble 0 Q.lo))) (callV (toRn R) [ej,ex] a d9)) (λe0 p=>
 gdT d p (λe1=>kI64 .lss e0 (.int .i64 (.ofNat 0)) (λe3=>e1 e3 p)) (λe4 _=>
 gdT d p (λe5=>kNot e4 (λe6=>e5 e6 p)) (λe7 _=>
 after (λe8 S=>dPut (λU ar=>
 jn (λ(e9:Hs)=>
 jn (λ(fa:Value)(fb:Hs)=>
 d7 fa U fb) λfc=>
 kI64 .add r (.int .i64 (.ofNat 1)) (λfd=>
 fc fd e9)) λfe=>
 cnd U
 (fe ar)
 (d6 r U ar)) e8 (dNext p S .blind) (andB (dFit p S .blind) (Nat.ble 0 S.lo))) (pickB (.c e7) (.c (.bool false)) enE (Hs.mk .e p.nx p.nx) d)))))))))))))))) V W a6) λff=>
 cnd B
 (ff aa)
 (a0 w B V W a2 a3 a4 X x y a5 Y z A Z aa))) (.int .i64 (.ofNat 0)) dunno ay dunno dunno dunno dunno dunno dunno dunno dunno dunno dunno dunno (.bool false) ax)
theorem q77:QT 77 r77:=λR N args h=>by kernel_rfl
noncomputable def r81(R:RnK)(N:Nat)(args:List Value)(h:Hs):An:=unC args λa F=>enK h λf=>
 kU64 .geq a (.int .u64 (.ofNat 4294967296)) (λp=>
 jn (λ(b g:Value)(i:Hs)=>
 kU64 .geq b (.int .u64 (.ofNat 65536)) (λq=>
 jn (λ(d j:Value)(l:Hs)=>
 kU64 .geq d (.int .u64 (.ofNat 256)) (λr=>
 jn (λ(s t:Value)(u:Hs)=>
 kTo8 s (λv=>
 after (λw x=>
 kTo64 w (λy=>
 kI64 .add t y (λz=>
 clrK h z x))) (oIdxS (.c (.string ⟨#[0,1,2,2,3,3,3,3,4,4,4,4,4,4,4,4,5,5,5,5,5,5,5,5,5,5,5,5,5,5,5,5,6,6,6,6,6,6,6,6,6,6,6,6,6,6,6,6,6,6,6,6,6,6,6,6,6,6,6,6,6,6,6,6,7,7,7,7,7,7,7,7,7,7,7,7,7,7,7,7,7,7,7,7,7,7,7,7,7,7,7,7,7,7,7,7,7,7,7,7,7,7,7,7,7,7,7,7,7,7,7,7,7,7,7,7,7,7,7,7,7,7,7,7,7,7,7,7,8,8,8,8,8,8,8,8,8,8,8,8,8,8,8,8,8,8,8,8,8,8,8,8,8,8,8,8,8,8,8,8,8,8,8,8,8,8,8,8,8,8,8,8,8,8,8,8,8,8,8,8,8,8,8,8,8,8,8,8,8,8,8,8,8,8,8,8,8,8,8,8,8,8,8,8,8,8,8,8,8,8,8,8,8,8,8,8,8,8,8,8,8,8,8,8,8,8,8,8,8,8,8,8,8,8,8,8,8,8,8,8,8,8,8,8,8,8,8,8,8,8,8,8,8,8,8,8]⟩)) (.c v) enE u))) λm=>
 cnd r
 (kShr d (.int .u64 (.ofNat 8)) (λA=>
 kI64 .add j (.int .i64 (.ofNat 8)) (λB=>
 m A B l)))
 (m d j l))) λn=>
 cnd q
 (kShr b (.int .u64 (.ofNat 16)) (λC=>
 kI64 .add g (.int .i64 (.ofNat 16)) (λD=>
 n C D i)))
 (n b g i))) λo=>
 cnd p
 (kShr a (.int .u64 (.ofNat 32)) (λE=>
 o E (.int .i64 (.ofNat 32)) f))
 (o a (.int .i64 (.ofNat 0)) f))
theorem q81:QT 81 r81:=λR N args h=>by kernel_rfl
noncomputable def r82(R:RnK)(N:Nat)(args:List Value)(h:Hs):An:=unC args λa c=>unC c λd n=>enK h λf=>
 kToU d (λg=>
 kU64 .and g (.int .u64 (.ofNat 63)) (λb=>
 kShl a b (λi=>
 kU64 .sub (.int .u64 (.ofNat 64)) b (λj=>
 kShr a j (λl=>
 kU64 .or i l (λm=>
 clrK h m f))))))
theorem q82:QT 82 r82:=λR N args h=>by kernel_rfl
noncomputable def r83(R:RnK)(N:Nat)(args:List Value)(h:Hs):An:=unC args λc l=>unC l λm G=>enK h λn=>
 kLenV c (λo=>
 jn (λ(H I J K L:Value)(p:Hs)=>
 clrK h (.int .i64 (.negSucc 0)) p) λq=>
 lpT (T:=Value→Value→Value→Value→Value→Hs→An) (λ_ _ _ _ _ _=>none) N (λr=>
 λ(a M s t d:Value)(f:Hs)=>
 kI64 .lss a o (λb=>
 jn (λ(g:Hs)=>
 jn (λ(u v w:Value)(x:Hs)=>
 kI64 .add a (.int .i64 (.ofNat 1)) (λy=>
 r y b u v w x)) λz=>
 kIdxA 2 c a (λA=>
 kLoads 2 A g (λB=>
 kCallV R m [B] g (λi j=>
 jn (λ(C:Value)(D:Hs)=>
 z a i C D) λE=>
 cnd i
 (clrK h a j)
 (E d j))))) λF=>
 cnd b
 (F f)
 (q a b s t d f))) (.int .i64 (.ofNat 0)) dunno dunno dunno (.int .i64 (.ofNat 0)) n)
theorem q83:QT 83 r83:=λR N args h=>by kernel_rfl
noncomputable def r85(R:RnK)(N:Nat)(args:List Value)(h:Hs):An:=unC args λo X=>enK h λp=>
 after (λa b=>
 kFieldA 0 a (λq=>
 kLoad q b (λr=>
 kI64 .eql r (.int .i64 (.ofNat 0)) (λs=>
 jn (λ(Y:Value)(g:Hs)=>
 kFieldA 0 a (λt=>
 kLoad t g (λu=>
 kI64 .geq u (.int .i64 (.ofNat 1)) (λd=>
 gdT d g (λv=>kFieldA 0 a (λw=>v w g)) (λx i=>
 gdT d i (λy=>kLoad x i (λz=>y z i)) (λA l=>
 gdT d l (λB=>kI64 .leq A (.int .i64 (.ofNat 64)) (λC=>B C l)) (λD E=>
 after (λf m=>
 gdT f m (λF=>kFieldA 1 a (λG=>F G m)) (λH j=>
 gdT f j (λI=>kLoad H j (λJ=>I J j)) (λK n=>
 gdT f n (λL=>kCall R 93 [K] n (L)) (λM O=>
 after (λP Q=>
 clrK h P Q) (pickB (.c M) (.c (.bool false)) enE O f))))) (pickB (.c D) (.c (.bool false)) enE E d)))))))) λS=>
 cnd s
 (kFieldA 1 a (λU=>
 kLoad U b (λV=>
 obK (λW=>
 clrK h W b) (s2 .eql V (.string ⟨#[]⟩)))))
 (S (.bool false) b))))) (oBox 97 (.c o) enE p)
theorem q85:QT 85 r85:=λR N args h=>by kernel_rfl
noncomputable def r90(R:RnK)(N:Nat)(args:List Value)(h:Hs):An:=unC args λb c=>unC c λa d=>unC d λf g=>unC g λi p=>enK h λj=>
 kI64 .sub a (.int .i64 (.ofNat 1)) (λl=>
 kI64 .add a (.int .i64 (.ofNat 1)) (λm=>
 kCall R 91 [b,l,a,m,f,i] j (λn o=>
 clrK h n o)))
theorem q90:QT 90 r90:=λR N args h=>by kernel_rfl
noncomputable def r91(R:RnK)(N:Nat)(args:List Value)(h:Hs):An:=unC args λa i=>unC i λj l=>unC l λm n=>unC n λo p=>unC p λb q=>unC q λc z=>enK h λr=>
 kCall R 95 [a,j,m,b,c] r (λd s=>
 kExtr d 0 (λt=>
 kExtr d 1 (λu=>
 kCall R 95 [a,u,o,b,c] s (λf v=>
 kExtr f 0 (λw=>
 kExtr f 1 (λA=>
 kCall R 95 [a,t,w,b,c] v (λg x=>
 kExtr g 0 (λB=>
 kExtr g 1 (λy=>
 clrK h y x)))))))))
theorem q91:QT 91 r91:=λR N args h=>by kernel_rfl
noncomputable def r93(R:RnK)(N:Nat)(args:List Value)(h:Hs):An:=unC args λa ao=>enK h λj=>
 kLenS a (λx=>
 kI64 .geq x (.int .i64 (.ofNat 1)) (λb=>
 gdT b j (λy=>y a j) (λz l=>
 gdT b l (λA=>kLenS z (λB=>A B l)) (λC m=>
 gdT b m (λD=>kI64 .leq C (.int .i64 (.ofNat 40)) (λE=>D E m)) (λF G=>
 after (λg n=>
 gdT g n (λH=>H a n) (λI o=>
 gdT g o (λJ=>obK (λK=>J K o) (s2 .neq I (.string ⟨#[46]⟩))) (λL M=>
 after (λi p=>
 gdT i p (λO=>O a p) (λP q=>
 gdT i q (λQ=>obK (λS=>Q S q) (s2 .neq P (.string ⟨#[46,46]⟩))) (λU V=>
 after (λd r=>
 gdT d r (λW=>W a r) (λX s=>
 gdT d s (λY=>kCall R 96 [X,(.string ⟨#[47]⟩)] s (Y)) (λZ t=>
 gdT d t (λaa=>kNot Z (λab=>aa ab t)) (λac ad=>
 after (λf u=>
 gdT f u (λae=>ae a u) (λaf v=>
 gdT f v (λag=>kCall R 96 [af,(.string ⟨#[0]⟩)] v (ag)) (λah w=>
 gdT f w (λai=>kNot ah (λaj=>ai aj w)) (λak al=>
 after (λam an=>
 clrK h am an) (pickB (.c ak) (.c (.bool false)) enE al f))))) (pickB (.c ac) (.c (.bool false)) enE ad d))))) (pickB (.c U) (.c (.bool false)) enE V i)))) (pickB (.c L) (.c (.bool false)) enE M g)))) (pickB (.c F) (.c (.bool false)) enE G b))))))
theorem q93:QT 93 r93:=λR N args h=>by kernel_rfl
noncomputable def r95(R:RnK)(N:Nat)(args:List Value)(h:Hs):An:=unC args λg j=>unC j λb l=>unC l λc m=>unC m λi n=>unC n λo D=>enK h λa=>
 kIdxA 4 g c (λp=>
 kLoads 4 p (Hs.mk a.hp a.nx a.nx) (λq=>
 kIdxA 4 g b (λr=>
 kLoads 4 r (Hs.mk a.hp a.nx a.nx) (λs=>
 isVal (λt d=>dPut (λu f=>
 kI64 .lss u (.int .i64 (.ofNat 0)) (λv=>
 jn (λ(E F:Value)(w:Hs)=>
 clrK h (.tuple #[b,c]) w) λx=>
 cnd v
 (kNil i (λy=>
 kLoad y f (λz=>
 kI64 .add z (.int .i64 (.ofNat 1)) (λA=>
 kNil i (λB=>
 kStore1 B A f (λG C=>
 clrK h (.tuple #[c,b]) C))))))
 (x (.int .i64 (.ofNat 0)) (.int .i64 (.ofNat 0)) f))) t (dNext a d .bar) (andB (dFit a d .bar) (Nat.ble 0 d.lo))) (callV (toRn R) [q,s] a o)))))
theorem q95:QT 95 r95:=λR N args h=>by kernel_rfl
noncomputable def r96(R:RnK)(N:Nat)(args:List Value)(h:Hs):An:=unC args λa b=>unC b λc j=>enK h λd=>
 kCall R 101 [a,c] d (λf g=>
 kI64 .geq f (.int .i64 (.ofNat 0)) (λi=>
 clrK h i g))
theorem q96:QT 96 r96:=λR N args h=>by kernel_rfl
noncomputable def r101(R:RnK)(N:Nat)(args:List Value)(h:Hs):An:=unC args λa b=>unC b λc i=>enK h λd=>
 kCall R 106 [a,c] d (λf g=>
 clrK h f g)
theorem q101:QT 101 r101:=λR N args h=>by kernel_rfl
noncomputable def r106(R:RnK)(N:Nat)(args:List Value)(h:Hs):An:=unC args λb P=>unC P λd cu=>enK h λp=>
 kLenS d (λg=>
 jn (λ(cv cw cx cy Q:Value)(S:Hs)=>
 after (λq U=>
 after (λV W=>
 kLenS b (λX=>
 kI64 .sub X g (λY=>
 kI64 .add Y (.int .i64 (.ofNat 1)) (λr=>
 jn (λ(cz c0 c1 c2 c3 c4 c5 c6 c7 c8 c9 da db dc:Value)(Z:Hs)=>
 clrK h (.int .i64 (.negSucc 0)) Z) λaa=>
 lpT (T:=Value→Value→Value→Value→Value→Value→Value→Value→Value→Value→Value→Value→Value→Value→Hs→An) (λ_ _ _ _ _ _ _ _ _ _ _ _ _ _ _=>none) N (λab=>
 λ(f dd ac s t ad u ae af ag ah ai aj l:Value)(v:Hs)=>
 kI64 .lss f r (λm=>
 jn (λ(ak:Hs)=>
 jn (λ(al am an ao ap aq ar au av aw ax ay az:Value)(a0:Hs)=>
 ab al m am an ao ap aq ar au av aw ax ay az a0) λde=>
 after (λa1 w=>
 kU8 .neq a1 q (λa2=>
 jn (λ(i df dg a3:Value)(a4:Hs)=>
 kI64 .add i (.int .i64 (.ofNat 1)) (λa5=>
 after (λa6 x=>
 kU8 .eql a6 V (λa=>
 gdT a x (λa7=>a7 b x) (λa8 y=>
 gdT a y (λa9=>a9 i y) (λba z=>
 gdT a z (λbb=>bb i z) (λbc A=>
 gdT a A (λbd=>bd g A) (λbe B=>
 gdT a B (λbf=>kI64 .add bc be (λbg=>bf bg B)) (λbh C=>
 gdT a C (λbi=>after (bi) (oCutstr (.c a8) (some (.c ba)) (some (.c bh)) enE C)) (λbj D=>
 gdT a D (λbk=>bk d D) (λbl E=>
 gdT a E (λbm=>obK (λbn=>bm bn E) (s2 .eql bj bl)) (λbo bp=>
 after (λbq F=>
 jn (λ(dh:Value)(di:Hs)=>
 kI64 .add i (.int .i64 (.ofNat 1)) (λdj=>
 kI64 .add u (.int .i64 (.ofNat 1)) (λdk=>
 none))) λbr=>
 cnd bq
 (clrK h i F)
 (br a3 F)) (pickB (.c bo) (.c (.bool false)) enE bp a))))))))))) (oIdxS (.c b) (.c a5) enE a4))) λG=>
 cnd a2
 (kI64 .add f (.int .i64 (.ofNat 1)) (λbs=>
 after (λbt bu=>
 kCall R 109 [bt,q] bu (λn H=>
 kI64 .lss n (.int .i64 (.ofNat 0)) (λI=>
 jn (λ(bv:Value)(bw:Hs)=>
 kI64 .add n (.int .i64 (.ofNat 1)) (λbx=>
 kI64 .add f bx (λbz=>
 G bz n I bv bw))) λb0=>
 cnd I
 (clrK h (.int .i64 (.negSucc 0)) H)
 (b0 l H)))) (oCutstr (.c b) (some (.c bs)) (some (.c r)) enE w)))
 (G f s t l w))) (oIdxS (.c b) (.c f) enE ak)) λb1=>
 cnd m
 (b1 v)
 (aa f m ac s t ad u ae af ag ah ai aj l v))) (.int .i64 (.ofNat 0)) dunno dunno dunno dunno dunno (.int .i64 (.ofNat 0)) dunno dunno dunno dunno dunno dunno Q W)))) (oIdxS (.c d) (.c (.int .i64 (.ofNat 1))) enE U)) (oIdxS (.c d) (.c (.int .i64 (.ofNat 0))) enE S)) λb2=>
 kI64 .eql g (.int .i64 (.ofNat 0)) (λj=>
 gdF j p (λb3=>b3 d p) (λb4 J=>
 gdF j J (λb5=>b5 b J) (λb6 K=>
 gdF j K (λb7=>obK (λb8=>b7 b8 K) (s2 .eql b4 b6)) (λb9 ca=>
 after (λL o=>
 jn (λ(cb cc cd ce:Value)(cf:Hs)=>
 b2 L cb cc cd ce cf) λcg=>
 cnd L
 (clrK h (.int .i64 (.ofNat 0)) o)
 (kI64 .eql g (.int .i64 (.ofNat 1)) (λM=>
 jn (λ(ch ci cj:Value)(ck:Hs)=>
 cg M ch ci cj ck) λcl=>
 cnd M
 (after (λcm cn=>
 kCall R 109 [b,cm] cn (λco cp=>
 clrK h co cp)) (oIdxS (.c d) (.c (.int .i64 (.ofNat 0))) enE o))
 (kLenS b (λcq=>
 kI64 .geq g cq (λO=>
 jn (λ(cr cs:Value)(ct:Hs)=>
 cl O cr cs ct) λdl=>
 cnd O
 (clrK h (.int .i64 (.negSucc 0)) o)
 (none))))))) (pickB (.c (.bool true)) (.c b9) enE ca j))))))
theorem q106:QT 106 r106:=λR N args h=>by kernel_rfl
noncomputable def r109(R:RnK)(N:Nat)(args:List Value)(h:Hs):An:=unC args λa b=>unC b λc i=>enK h λd=>
 after (λf g=>
 clrK h f g) (ret1 d (idxB1 a c))
theorem q109:QT 109 r109:=λR N args h=>by kernel_rfl
noncomputable def entries:List (Nat × FnK):=[(3,r3),(6,r6),(7,r7),(8,r8),(9,r9),(12,r12),(13,r13),(14,r14),(15,r15),(16,r16),(17,r17),(18,r18),(19,r19),(20,r20),(21,r21),(22,r22),(23,r23),(24,r24),(25,r25),(26,r26),(27,r27),(28,r28),(29,r29),(30,r30),(31,r31),(32,r32),(33,r33),(34,r34),(35,r35),(36,r36),(37,r37),(38,r38),(39,r39),(40,r40),(41,r41),(42,r42),(43,r43),(44,r44),(45,r45),(46,r46),(47,r47),(48,r48),(49,r49),(50,r50),(51,r51),(52,r52),(53,r53),(54,r54),(55,r55),(56,r56),(57,r57),(58,r58),(59,r59),(60,r60),(61,r61),(62,r62),(63,r63),(64,r64),(65,r65),(66,r66),(67,r67),(68,r68),(69,r69),(70,r70),(72,r72),(75,r75),(77,r77),(81,r81),(82,r82),(83,r83),(85,r85),(90,r90),(91,r91),(93,r93),(95,r95),(96,r96),(101,r101),(106,r106),(109,r109)]
theorem entries_ok:AllOk Tryz.prog entries:=⟨q3,q6,q7,q8,q9,q12,q13,q14,q15,q16,q17,q18,q19,q20,q21,q22,q23,q24,q25,q26,q27,q28,q29,q30,q31,q32,q33,q34,q35,q36,q37,q38,q39,q40,q41,q42,q43,q44,q45,q46,q47,q48,q49,q50,q51,q52,q53,q54,q55,q56,q57,q58,q59,q60,q61,q62,q63,q64,q65,q66,q67,q68,q69,q70,q72,q75,q77,q81,q82,q83,q85,q90,q91,q93,q95,q96,q101,q106,q109,trivial⟩
end Go.Proofs.YtjddgepodiabkaaGreatDoor.checkSpoils
