import Derived.Test.YtnbnmojckhcdeaaGreatDoorGevKM
import Derived.Test.YtnbnmojckhcdeaaGreatDoorProg
import Derived.KernelRfl
namespace Go.Proofs.YtnbnmojckhcdeaaGreatDoor.treeMoves
open Go.Gev
set_option linter.unusedVariables false
abbrev QT(f:Nat)(r:RnK→Nat→List Value→Hs→An):Prop:=∀R N args h,r R N args h=callT Tryz.prog N R f args h
noncomputable def r5(R:RnK)(N:Nat)(args:List Value)(h:Hs):An:=unC args λd S=>unC S λo U=>unC U λf c2=>enK h λV=>
 E_d R 6 [] V (λW u=>
 kNot W (λX=>
 jn (λ(Y:Value)(v:Hs)=>
 L_o d (λZ=>
 kI64 .gtr Z (.int .i64 (.ofNat 25)) (λg=>
 gdF g v (λaa=>aa o v) (λab w=>
 gdF g w (λac=>Q_v ab (λad=>ac ad w)) (λae x=>
 gdF g x (λaf=>kI64 .gtr ae (.int .i64 (.ofNat 450)) (λag=>af ag x)) (λah ai=>
 after (λi y=>
 gdF i y (λaj=>aj f y) (λak z=>
 gdF i z (λal=>Q_v ak (λam=>al am z)) (λan A=>
 gdF i A (λao=>kI64 .gtr an (.int .i64 (.ofNat 450)) (λap=>ao ap A)) (λaq ar=>
 after (λau B=>
 jn (λ(av:Value)(aw:Hs)=>
 E_d R 7 [(.int .i64 (.ofNat 10))] aw (λa ax=>
 jn (λ(c3 c4 c5 ay:Value)(az:Hs)=>
 E_d R 9 [a] az (λC a0=>
 after (λa1 a2=>
 E_d R 10 [a,a1] a2 (λa3 a4=>
 after (λD a5=>
 after (λc6 a6=>
 after (λa7 a8=>
 E_d R 10 [a,a7] a8 (λa9 ba=>
 after (λp bb=>
 after (λc7 q=>
 kFieldA 0 p (λbc=>
 kLoad bc q (λbd=>
 kI64 .neq bd (.int .i64 (.ofNat 0)) (λj=>
 gdF j q (λbe=>kFieldA 0 D (λbf=>be bf q)) (λbg r=>
 gdF j r (λbh=>kLoad bg r (λbi=>bh bi r)) (λbj E=>
 gdF j E (λbk=>kI64 .neq bj (.int .i64 (.ofNat 2)) (λbl=>bk bl E)) (λbm bn=>
 after (λbo l=>
 jn (λ(c8:Value)(bp:Hs)=>
 after (λbq br=>
 E_d R 10 [a,bq] br (λbs bt=>
 after (λF bu=>
 after (λc9 s=>
 kFieldA 0 F (λbv=>
 kLoad bv s (λbw=>
 kI64 .neq bw (.int .i64 (.ofNat 0)) (λm=>
 gdF m s (λbx=>bx C s) (λbz G=>
 gdF m G (λb0=>b0 a G) (λb1 H=>
 gdF m H (λb2=>E_d R 11 [bz,b1] H (b2)) (λb3 b4=>
 after (λb5 b6=>
 clrK h b5 b6) (pickB (.c (.bool true)) (.c b3) enE b4 m)))))))) (store1 7 bu (A_4 bs) (addrOf F))) (L_0 34 [(.int .i64 (.ofNat 0)),(.int .i64 (.ofNat 0)),(.int .i64 (.ofNat 0)),(.int .i64 (.ofNat 0)),(.int .i64 (.ofNat 0)),(.slice none 0 0),(.slice none 0 0)] enE bt))) (I_p [(.int .i64 (.ofNat 0)),(.string ⟨#[]⟩),(.string ⟨#[]⟩),(.int .i64 (.ofNat 0)),(.int .i64 (.ofNat 0)),(.slice none 0 0)] [(0,1,.c (.int .i64 (.ofNat 6))),(1,1,.c f),(2,1,.c o)] enE bp)) λb7=>
 cnd bo
 (kFieldA 0 p (λb8=>
 kLoad b8 l (λb9=>
 kI64 .eql b9 (.int .i64 (.ofNat 0)) (λn=>
 gdF n l (λca=>ca C l) (λcb I=>
 gdF n I (λcc=>cc a I) (λcd J=>
 gdF n J (λce=>E_d R 11 [cb,cd] J (ce)) (λcf cg=>
 after (λch ci=>
 clrK h ch ci) (pickB (.c (.bool true)) (.c cf) enE cg n))))))))
 (b7 ay l)) (pickB (.c (.bool true)) (.c bm) enE bn j)))))))) (store1 7 bb (A_4 a9) (addrOf p))) (L_0 34 [(.int .i64 (.ofNat 0)),(.int .i64 (.ofNat 0)),(.int .i64 (.ofNat 0)),(.int .i64 (.ofNat 0)),(.int .i64 (.ofNat 0)),(.slice none 0 0),(.slice none 0 0)] enE ba))) (I_p [(.int .i64 (.ofNat 0)),(.string ⟨#[]⟩),(.string ⟨#[]⟩),(.int .i64 (.ofNat 0)),(.int .i64 (.ofNat 0)),(.slice none 0 0)] [(0,1,.c (.int .i64 (.ofNat 6))),(1,1,.c o),(2,1,.c f)] enE a6)) (store1 7 a5 (A_4 a3) (addrOf D))) (L_0 34 [(.int .i64 (.ofNat 0)),(.int .i64 (.ofNat 0)),(.int .i64 (.ofNat 0)),(.int .i64 (.ofNat 0)),(.int .i64 (.ofNat 0)),(.slice none 0 0),(.slice none 0 0)] enE a4))) (I_p [(.int .i64 (.ofNat 0)),(.string ⟨#[]⟩),(.string ⟨#[]⟩),(.int .i64 (.ofNat 0)),(.int .i64 (.ofNat 0)),(.slice none 0 0)] [(0,1,.c (.int .i64 (.ofNat 12))),(1,1,.c f)] enE a0))) λcj=>
 lpT (T:=Value→Value→Value→Value→Hs→An) (λ_ _ _ _ _=>none) N (λck=>
 λ(b da cl K:Value)(L:Hs)=>
 L_o d (λcm=>
 kI64 .lss b cm (λt=>
 jn (λ(M:Hs)=>
 jn (λ(cn co:Value)(cp:Hs)=>
 kI64 .add b (.int .i64 (.ofNat 1)) (λcq=>
 ck cq t cn co cp)) λcr=>
 L_x 6 d b (λcs=>
 H_7 6 cs M (λct=>
 E_d R 8 [ct] M (λO P=>
 jn (λ(cu:Value)(Q:Hs)=>
 L_x 6 d b (λcv=>
 H_7 6 cv Q (λcw=>
 E_d R 10 [a,cw] Q (λdb cx=>
 cr O cu cx)))) λcy=>
 cnd O
 (clrK h (.bool true) P)
 (cy K P))))) λcz=>
 cnd t
 (cz L)
 (cj b t cl K L)))) (.int .i64 (.ofNat 0)) dunno dunno av ax)) λc0=>
 cnd au
 (clrK h (.bool true) B)
 (c0 Y B)) (pickB (.c (.bool true)) (.c aq) enE ar i))))) (pickB (.c (.bool true)) (.c ah) enE ai g))))))) λc1=>
 cnd X
 (clrK h (.bool false) u)
 (c1 (.bool false) u)))
theorem q5:QT 5 r5:=λR N args h=>by kernel_rfl
noncomputable def r7(R:RnK)(N:Nat)(args:List Value)(h:Hs):An:=unC args λf K=>enK h λg=>
 after (λi j=>
 after (λl m=>
 after (λn o=>
 after (λp q=>
 after (λa b=>
 kNil a (λr=>
 kFieldA 1 r (λs=>
 kLoad s b (λt=>
 after (λu v=>
 after (λw x=>
 after (λy z=>
 after (λL d=>
 kNil a (λA=>
 kFieldA 1 A (λB=>
 kLoad B d (λC=>
 after (λD E=>
 after (λF G=>
 after (λH I=>
 after (λM J=>
 clrK h a J) (mapup1 true I (.int .i64 (.ofNat 2)) H C)) (oBox 49 (.c F) enE G)) (I_p [(.int .i64 (.ofNat 0)),(.slice none 0 0),(.map none),(.int .i64 (.ofNat 0)),(.int .i64 (.ofNat 0))] [(0,1,.c (.int .i64 (.ofNat 2))),(2,1,.c D),(3,1,.c (.int .i64 (.ofNat 1)))] enE E)) (mkmap1 d (.int .i64 0)))))) (mapup1 true z (.int .i64 (.ofNat 1)) y t)) (oBox 49 (.c w) enE x)) (I_p [(.int .i64 (.ofNat 0)),(.slice none 0 0),(.map none),(.int .i64 (.ofNat 0)),(.int .i64 (.ofNat 0))] [(0,1,.c (.int .i64 (.ofNat 2))),(2,1,.c u),(3,1,.c (.int .i64 (.ofNat 1)))] enE v)) (mkmap1 b (.int .i64 0)))))) (oBox 45 (.c p) enE q)) (I_p [(.int .i64 (.ofNat 0)),(.map none)] [(0,1,.c l),(1,1,.c n)] enE o)) (mkmap1 m (.int .i64 0))) (O_l false [.c i,.c (.int .i64 (.ofNat 64))] enE j)) (O_l true [.c f,.c (.int .i64 (.ofNat 2))] enE g)
theorem q7:QT 7 r7:=λR N args h=>by kernel_rfl
noncomputable def r8(R:RnK)(N:Nat)(args:List Value)(h:Hs):An:=unC args λp Z=>enK h λq=>
 after (λd f=>
 kFieldA 1 d (λr=>
 kLoad r f (λs=>
 Q_v s (λt=>
 kI64 .gtr t (.int .i64 (.ofNat 500)) (λa=>
 gdF a f (λu=>kFieldA 2 d (λv=>u v f)) (λw g=>
 gdF a g (λx=>kLoad w g (λy=>x y g)) (λz j=>
 gdF a j (λA=>Q_v z (λB=>A B j)) (λC l=>
 gdF a l (λD=>kI64 .gtr C (.int .i64 (.ofNat 500)) (λE=>D E l)) (λF G=>
 after (λb m=>
 gdF b m (λH=>kFieldA 5 d (λI=>H I m)) (λJ i=>
 gdF b i (λK=>kLoad J i (λL=>K L i)) (λM n=>
 gdF b n (λO=>L_o M (λP=>O P n)) (λQ o=>
 gdF b o (λS=>kI64 .gtr Q (.int .i64 (.ofNat 5000)) (λU=>S U o)) (λV W=>
 after (λX Y=>
 clrK h X Y) (pickB (.c (.bool true)) (.c V) enE W b)))))) (pickB (.c (.bool true)) (.c F) enE G a)))))))))) (oBox 29 (.c p) enE q)
theorem q8:QT 8 r8:=λR N args h=>by kernel_rfl
noncomputable def r10(R:RnK)(N:Nat)(args:List Value)(h:Hs):An:=unC args λi af=>unC af λag eg=>enK h λah=>
 after (λd ai=>
 after (λa b=>
 kFieldA 0 d (λaj=>
 kLoad aj b (λf=>
 jn (λ(eh ei ej ek el em en eo ep eq:Value)(ak:Hs)=>
 E_d R 17 [(.int .i64 (.ofNat 1))] ak (λal am=>
 after (λer x=>
 D_4 h (G_p x (resV enE x [.cell (.c a) 7 true]))) (store1 7 am (A_4 al) (addrOf a)))) λan=>
 kI64 .eql f (.int .i64 (.ofNat 1)) (λy=>
 jn (λ(ao ap aq ar au av aw ax ay:Value)(az:Hs)=>
 an y ao ap aq ar au av aw ax ay az) λa0=>
 cnd y
 (kFieldA 1 d (λa1=>
 kLoad a1 b (λa2=>
 after (λa3 a4=>
 after (λa5 a6=>
 after (λa7 a8=>
 E_d R 16 [i,a2,a7] a8 (λa9 ba=>
 after (λes z=>
 D_4 h (G_p z (resV enE z [.cell (.c a) 7 true]))) (store1 7 ba (A_4 a9) (addrOf a)))) (oBox 49 (.c a5) enE a6)) (I_p [(.int .i64 (.ofNat 0)),(.slice none 0 0),(.map none),(.int .i64 (.ofNat 0)),(.int .i64 (.ofNat 0))] [(0,1,.c (.int .i64 (.ofNat 2))),(2,1,.c a3)] enE a4)) (mkmap1 b (.int .i64 0)))))
 (kI64 .eql f (.int .i64 (.ofNat 2)) (λA=>
 jn (λ(bb bc bd be bf bg bh bi:Value)(bj:Hs)=>
 a0 A bb bc bd be bf bg bh bi bj) λbk=>
 cnd A
 (kFieldA 1 d (λbl=>
 kLoad bl b (λbm=>
 after (λbn bo=>
 after (λbp bq=>
 E_d R 16 [i,bm,bp] bq (λbr bs=>
 after (λet B=>
 D_4 h (G_p B (resV enE B [.cell (.c a) 7 true]))) (store1 7 bs (A_4 br) (addrOf a)))) (oBox 49 (.c bn) enE bo)) (I_p [(.int .i64 (.ofNat 0)),(.slice none 0 0),(.map none),(.int .i64 (.ofNat 0)),(.int .i64 (.ofNat 0))] [(0,1,.c (.int .i64 (.ofNat 1)))] enE b))))
 (kI64 .eql f (.int .i64 (.ofNat 7)) (λC=>
 jn (λ(bt bu bv bw bx bz b0:Value)(b1:Hs)=>
 bk C bt bu bv bw bx bz b0 b1) λb2=>
 cnd C
 (kFieldA 5 d (λb3=>
 kLoad b3 b (λb4=>
 L_o b4 (λb5=>
 kI64 .lss b5 (.int .i64 (.ofNat 1)) (λj=>
 gdF j b (λb6=>kFieldA 5 d (λb7=>b6 b7 b)) (λb8 o=>
 gdF j o (λb9=>kLoad b8 o (λca=>b9 ca o)) (λcb D=>
 gdF j D (λcc=>L_o cb (λcd=>cc cd D)) (λce E=>
 gdF j E (λcf=>kI64 .gtr ce (.int .i64 (.ofNat 400)) (λcg=>cf cg E)) (λch ci=>
 after (λcj F=>
 jn (λ(g:Hs)=>
 kFieldA 1 d (λck=>
 kLoad ck (Hs.mk g.hp g.nx g.nx) (λcl=>
 kFieldA 5 d (λcm=>
 kLoad cm (Hs.mk g.hp g.nx g.nx) (λcn=>
 E_d R 14 [cn] (Hs.mk g.hp g.nx g.nx) (λco p=>dPut (λcp m=>
 after (λcq q=>dPut (λcr n=>
 after (λcs r=>dPut (λct s=>
 E_d R 16 [i,cl,ct] s (λcu t=>dPut (λcv u=>
 after (λcw v=>dPut (λeu G=>
 D_4 h (G_p G (resV enE G [.cell (.c a) 7 true]))) cw (F_u u v .bar) (andB (dFit u v .bar) (Nat.ble 0 v.lo))) (store1 7 u (A_4 cv) (addrOf a))) cu (F_u s t .bar) (andB (dFit s t .bar) (Nat.ble 0 t.lo)))) cs (F_u n r .make) (andB (dFit n r .make) (Nat.ble 0 r.lo))) (oBox 49 (.c cr) enE (Hs.mk .e n.nx n.nx))) cq (F_u m q .blind) (andB (dFit m q .blind) (Nat.ble 0 q.lo))) (I_p [(.int .i64 (.ofNat 0)),(.slice none 0 0),(.map none),(.int .i64 (.ofNat 0)),(.int .i64 (.ofNat 0))] [(0,1,.c (.int .i64 (.ofNat 3))),(1,1,.c cp)] enE (Hs.mk .e m.nx m.nx))) co (F_u g p .light) (andB (dFit g p .light) (Nat.ble 0 p.lo)))))))) λcx=>
 cnd cj
 (E_d R 17 [(.int .i64 (.ofNat 1))] F (λcy cz=>
 after (λew H=>
 D_4 h (G_p H (resV enE H [.cell (.c a) 7 true]))) (store1 7 cz (A_4 cy) (addrOf a))))
 (cx F)) (pickB (.c (.bool true)) (.c ch) enE ci j))))))))))
 (kI64 .eql f (.int .i64 (.ofNat 3)) (λI=>
 jn (λ(c0 c1 c2 c3 c4:Value)(c5:Hs)=>
 b2 dunno I c0 c1 c2 c3 c4 c5) λc6=>
 cnd I
 (H_7 6 d b (λc7=>
 E_d R 18 [i,c7] b (λc8 c9=>
 after (λex J=>
 D_4 h (G_p J (resV enE J [.cell (.c a) 7 true]))) (store1 7 c9 (A_4 c8) (addrOf a)))))
 (kI64 .eql f (.int .i64 (.ofNat 4)) (λK=>
 jn (λ(da db dc dd:Value)(de:Hs)=>
 c6 K da db dc dd de) λdf=>
 cnd K
 (H_7 6 d b (λdg=>
 E_d R 19 [i,dg] b (λdh di=>
 after (λey L=>
 D_4 h (G_p L (resV enE L [.cell (.c a) 7 true]))) (store1 7 di (A_4 dh) (addrOf a)))))
 (kI64 .eql f (.int .i64 (.ofNat 5)) (λM=>
 jn (λ(dj dk dl:Value)(dm:Hs)=>
 df M dj dk dl dm) λdn=>
 cnd M
 (H_7 6 d b (λdp=>
 E_d R 20 [i,dp] b (λdq dr=>
 after (λez O=>
 D_4 h (G_p O (resV enE O [.cell (.c a) 7 true]))) (store1 7 dr (A_4 dq) (addrOf a)))))
 (kI64 .eql f (.int .i64 (.ofNat 6)) (λP=>
 jn (λ(ds dt:Value)(du:Hs)=>
 dn P ds dt du) λdv=>
 cnd P
 (H_7 6 d b (λdw=>
 E_d R 21 [i,dw] b (λdx dy=>
 after (λe0 Q=>
 D_4 h (G_p Q (resV enE Q [.cell (.c a) 7 true]))) (store1 7 dy (A_4 dx) (addrOf a)))))
 (kI64 .eql f (.int .i64 (.ofNat 8)) (λS=>
 jn (λ(U:Value)(l:Hs)=>
 jn (λ(dz:Value)(d0:Hs)=>
 dv U dz d0) λd1=>
 cnd U
 (H_7 6 d l (λd2=>
 E_d R 22 [i,d2] l (λd3 d4=>
 after (λe1 V=>
 D_4 h (G_p V (resV enE V [.cell (.c a) 7 true]))) (store1 7 d4 (A_4 d3) (addrOf a)))))
 (kI64 .eql f (.int .i64 (.ofNat 9)) (λW=>
 jn (λ(X:Value)(w:Hs)=>
 jn (λ(d5:Hs)=>
 d1 X d5) λd6=>
 cnd X
 (H_7 6 d w (λd7=>
 E_d R 23 [i,d7] w (λd8 d9=>
 after (λe3 Y=>
 D_4 h (G_p Y (resV enE Y [.cell (.c a) 7 true]))) (store1 7 d9 (A_4 d8) (addrOf a)))))
 (d6 w)) λZ=>
 cnd W
 (Z W l)
 (kI64 .eql f (.int .i64 (.ofNat 10)) (λaa=>
 jn (λ(ea:Value)(eb:Hs)=>
 Z ea eb) λab=>
 cnd aa
 (ab aa l)
 (kI64 .eql f (.int .i64 (.ofNat 11)) (λec=>
 ab ec l))))))) λac=>
 cnd S
 (ac S b)
 (kI64 .eql f (.int .i64 (.ofNat 12)) (λad=>
 jn (λ(ed:Value)(ee:Hs)=>
 ac ed ee) λae=>
 cnd ad
 (ae ad b)
 (kI64 .eql f (.int .i64 (.ofNat 13)) (λef=>
 ae ef b)))))))))))))))))))))) (L_0 34 [(.int .i64 (.ofNat 0)),(.int .i64 (.ofNat 0)),(.int .i64 (.ofNat 0)),(.int .i64 (.ofNat 0)),(.int .i64 (.ofNat 0)),(.slice none 0 0),(.slice none 0 0)] enE ai)) (oBox 29 (.c ag) enE ah)
theorem q10:QT 10 r10:=λR N args h=>by kernel_rfl
noncomputable def r11(R:RnK)(N:Nat)(args:List Value)(h:Hs):An:=unC args λn p=>unC p λo M=>enK h λa=>
 kNil n (λq=>
 kFieldA 0 q (λr=>
 kLoad r (Hs.mk a.hp a.nx a.nx) (λs=>
 kNil o (λt=>
 kFieldA 0 t (λu=>
 kLoad u (Hs.mk a.hp a.nx a.nx) (λv=>
 kI64 .eql s v (λb=>
 gdT b a (λw=>w n a) (λx _=>
 gdT b a (λy=>E_d R 12 [x] a (λz i=>dPut y z (F_u a i .bar) (andB (dFit a i .bar) (Nat.ble 0 i.lo)))) (λA d=>
 gdT b d (λB=>B o d) (λC _=>
 gdT b d (λD=>E_d R 12 [C] d (λE j=>dPut D E (F_u d j .bar) (andB (dFit d j .bar) (Nat.ble 0 j.lo)))) (λF f=>
 gdT b f (λG=>E_d R 24 [A,F,(.func (.func 25) #[] #[])] f (λH l=>dPut G H (F_u f l .bar) (andB (dFit f l .bar) (Nat.ble 0 l.lo)))) (λI g=>
 after (λJ m=>dPut (λK L=>
 clrK h K L) J (F_u g m .blind) (andB (dFit g m .blind) (Nat.ble 0 m.lo))) (pickB (.c I) (.c (.bool false)) enE (Hs.mk .e g.nx g.nx) b)))))))))))))
theorem q11:QT 11 r11:=λR N args h=>by kernel_rfl
noncomputable def r12(R:RnK)(N:Nat)(args:List Value)(h:Hs):An:=unC args λG ck=>enK h λH=>
 kNil G (λU=>
 kFieldA 1 U (λV=>
 kLoad V H (λW=>
 E_d R 29 [W] H (λX Y=>
 E_d R 28 [X] Y (λI Z=>
 L_o I (λaa=>
 jn (λ(cl cm cn co cp cq cr cs ct cu ab:Value)(ac:Hs)=>
 clrK h ab ac) λad=>
 lpT (T:=Value→Value→Value→Value→Value→Value→Value→Value→Value→Value→Value→Hs→An) (λ_ _ _ _ _ _ _ _ _ _ _ _=>none) N (λae=>
 λ(i cv af ag ah ai J aj ak K L:Value)(M:Hs)=>
 kI64 .lss i aa (λp=>
 jn (λ(j:Hs)=>
 jn (λ(al am an ao ap aq ar au av:Value)(aw:Hs)=>
 kI64 .add i (.int .i64 (.ofNat 1)) (λax=>
 ae ax p al am an ao ap aq ar au av aw)) λay=>
 L_x 1 I i (λaz=>
 kLoad az j (λq=>
 kNil G (λa0=>
 kFieldA 1 a0 (λa1=>
 kLoad a1 j (λa2=>
 after (λf b=>
 kNil f (λa3=>
 kFieldA 0 a3 (λa4=>
 kLoad a4 (Hs.mk b.hp b.nx b.nx) (λa5=>
 kNil f (λa6=>
 kFieldA 1 a6 (λa7=>
 kLoad a7 (Hs.mk b.hp b.nx b.nx) (λa8=>
 E_d R 14 [a8] (Hs.mk b.hp b.nx b.nx) (λa9 r=>dPut (λba l=>
 after (λbb s=>dPut (λbc m=>
 after (λbd t=>dPut (λg u=>
 after (λbe v=>dPut (λcw O=>
 kNil f (λbf=>
 kFieldA 2 bf (λbg=>
 kLoad bg O (λbh=>
 E_d R 31 [bh] O (λbi bj=>
 E_d R 30 [bi] bj (λw bk=>
 L_o w (λP=>
 jn (λ(bl bm bn:Value)(Q:Hs)=>
 H_7 4 g Q (λbo=>
 after (λbp bq=>
 after (λbr bs=>
 ay q f bl P bm w g bn br bs) (app0 57 4 64 bq L bp)) (M_d 57 4 1 [(.int .i64 (.ofNat 0)),(.int .i64 (.ofNat 0)),(.slice none 0 0),(.slice none 0 0)] [(0,4,.c bo)] enE Q))) λbt=>
 lpT (T:=Value→Value→Value→Hs→An) (λ_ _ _ _=>none) N (λbu=>
 λ(n cx bv:Value)(S:Hs)=>
 kI64 .lss n P (λx=>
 jn (λ(a:Hs)=>
 jn (λ(bw:Value)(bx:Hs)=>
 kI64 .add n (.int .i64 (.ofNat 1)) (λbz=>
 bu bz x bw bx)) λb0=>
 L_x 1 w n (λb1=>
 kLoad b1 a (λy=>
 kFieldA 3 g (λb2=>
 kLoad b2 (Hs.mk a.hp a.nx a.nx) (λb3=>
 kNil f (λb4=>
 kFieldA 2 b4 (λb5=>
 kLoad b5 (Hs.mk a.hp a.nx a.nx) (λb6=>
 after (λb7 z=>dPut (λb8 d=>
 after (λb9 A=>dPut (λca o=>
 after (λcb B=>dPut (λcc C=>
 after (λcd D=>dPut (λce E=>
 kFieldA 3 g (λcf=>
 H_l cf ce E (λcg F=>dPut (λcy ch=>
 b0 y ch) cg (F_u E F .bar) (andB (dFit E F .bar) (Nat.ble 0 F.lo))))) cd (F_u C D .bar) (andB (dFit C D .bar) (Nat.ble 0 D.lo))) (app0 61 2 24 C b3 cc)) cb (F_u o B .light) (andB (dFit o B .light) (Nat.ble 0 B.lo))) (M_d 61 2 1 [(.string ⟨#[]⟩),(.int .i64 (.ofNat 0))] [(0,2,.c ca)] enE (R_q .light [true,true,true,true,true,true,true,true,false,false] [some (d.nx,o.nx),some (a.nx,d.nx),none,none,none,none,none,none,none,none] o))) b9 (F_u d A .blind) (andB (dFit d A .blind) (Nat.ble 0 A.lo))) (I_p [(.string ⟨#[]⟩),(.int .i64 (.ofNat 0))] [(0,1,.c y),(1,1,.c b8)] enE (Hs.mk .e d.nx d.nx))) b7 (F_u a z .light) (andB (dFit a z .light) (Nat.ble 0 z.lo))) (ret1 (Hs.mk a.hp a.nx a.nx) (lk1 false (Hs.mk a.hp a.nx a.nx) (.int .i64 (.ofNat 0)) false y b6)))))))))) λci=>
 cnd x
 (ci S)
 (bt n x bv S))) (.int .i64 (.ofNat 0)) J K bk))))))) be (F_u u v .bar) (andB (dFit u v .bar) (Nat.ble 0 v.lo))) (store1 4 u (A_4 bc) (addrOf g))) bd (F_u m t .make) (andB (dFit m t .make) (Nat.ble 0 t.lo))) (L_0 57 [(.int .i64 (.ofNat 0)),(.int .i64 (.ofNat 0)),(.slice none 0 0),(.slice none 0 0)] enE (Hs.mk .e m.nx m.nx))) bb (F_u l s .blind) (andB (dFit l s .blind) (Nat.ble 0 s.lo))) (I_p [(.int .i64 (.ofNat 0)),(.int .i64 (.ofNat 0)),(.slice none 0 0),(.slice none 0 0)] [(0,1,.c q),(1,1,.c a5),(2,1,.c ba)] enE (Hs.mk .e l.nx l.nx))) a9 (F_u b r .light) (andB (dFit b r .light) (Nat.ble 0 r.lo)))))))))) (ret1 j (lk1 true j (.pointer none) false q a2)))))))) λcj=>
 cnd p
 (cj M)
 (ad i p af ag ah ai J aj ak K L M))) (.int .i64 (.ofNat 0)) dunno dunno dunno dunno dunno dunno dunno dunno dunno (.slice none 0 0) Z))))))
theorem q12:QT 12 r12:=λR N args h=>by kernel_rfl
noncomputable def r14(R:RnK)(N:Nat)(args:List Value)(h:Hs):An:=unC args λa m=>enK h λb=>
 obK (λc=>
 jn (λ(n:Value)(d:Hs)=>
 after (λf g=>
 after (λi j=>
 clrK h i j) (app0 5 1 1 g f a)) (M_d 5 1 0 [(.int .u8 (.ofNat 0))] [] enE d)) λl=>
 cnd c
 (clrK h (.slice none 0 0) b)
 (l (.slice none 0 0) b)) (e2 false qS a (.slice none 0 0))
theorem q14:QT 14 r14:=λR N args h=>by kernel_rfl
noncomputable def r16(R:RnK)(N:Nat)(args:List Value)(h:Hs):An:=unC args λb q=>unC q λr s=>unC s λt Q=>enK h λu=>
 after (λa v=>
 E_d R 33 [b,r] v (λd g=>
 kExtr d 0 (λw=>
 kExtr d 1 (λx=>
 kExtr d 2 (λi=>
 kI64 .neq i (.int .i64 (.ofNat 0)) (λy=>
 jn (λ(z:Hs)=>
 E_d R 34 [b] z (λj l=>
 kExtr j 0 (λf=>
 kExtr j 1 (λA=>
 kNot A (λB=>
 jn (λ(m:Hs)=>
 kNil b (λC=>
 kFieldA 1 C (λD=>
 kLoad D m (λE=>
 after (λS F=>
 E_d R 35 [b,w,x,f] F (λU G=>
 after (λH I=>
 after (λV n=>
 D_4 h (G_p n (resV enE n [.cell (.c a) 7 true]))) (store1 7 I (A_4 H) (addrOf a))) (I_p [(.int .i64 (.ofNat 0)),(.int .i64 (.ofNat 0)),(.int .i64 (.ofNat 0)),(.int .i64 (.ofNat 0)),(.int .i64 (.ofNat 0)),(.slice none 0 0),(.slice none 0 0)] [(1,1,.c f)] enE G))) (mapup1 true m f t E))))) λJ=>
 cnd B
 (E_d R 17 [(.int .i64 (.ofNat 7))] l (λK L=>
 after (λW o=>
 D_4 h (G_p o (resV enE o [.cell (.c a) 7 true]))) (store1 7 L (A_4 K) (addrOf a))))
 (J l)))))) λM=>
 cnd y
 (E_d R 17 [i] g (λO P=>
 after (λX p=>
 D_4 h (G_p p (resV enE p [.cell (.c a) 7 true]))) (store1 7 P (A_4 O) (addrOf a))))
 (M g))))))) (L_0 34 [(.int .i64 (.ofNat 0)),(.int .i64 (.ofNat 0)),(.int .i64 (.ofNat 0)),(.int .i64 (.ofNat 0)),(.int .i64 (.ofNat 0)),(.slice none 0 0),(.slice none 0 0)] enE u)
theorem q16:QT 16 r16:=λR N args h=>by kernel_rfl
noncomputable def r17(R:RnK)(N:Nat)(args:List Value)(h:Hs):An:=unC args λd l=>enK h λf=>
 after (λa g=>
 after (λi j=>
 after (λm b=>
 D_4 h (G_p b (resV enE b [.cell (.c a) 7 true]))) (store1 7 j (A_4 i) (addrOf a))) (I_p [(.int .i64 (.ofNat 0)),(.int .i64 (.ofNat 0)),(.int .i64 (.ofNat 0)),(.int .i64 (.ofNat 0)),(.int .i64 (.ofNat 0)),(.slice none 0 0),(.slice none 0 0)] [(0,1,.c d)] enE g)) (L_0 34 [(.int .i64 (.ofNat 0)),(.int .i64 (.ofNat 0)),(.int .i64 (.ofNat 0)),(.int .i64 (.ofNat 0)),(.int .i64 (.ofNat 0)),(.slice none 0 0),(.slice none 0 0)] enE f)
theorem q17:QT 17 r17:=λR N args h=>by kernel_rfl
noncomputable def r18(R:RnK)(N:Nat)(args:List Value)(h:Hs):An:=unC args λb B=>unC B λC a2=>enK h λD=>
 after (λm E=>
 after (λa n=>
 kFieldA 1 m (λF=>
 kLoad F n (λG=>
 E_d R 36 [b,G,(.bool false)] n (λo d=>
 kExtr o 0 (λf=>
 kExtr o 1 (λp=>
 jn (λ(a3 a4:Value)(q:Hs)=>
 kFieldA 2 m (λH=>
 kLoad H q (λI=>
 E_d R 33 [b,I] q (λi g=>
 kExtr i 0 (λJ=>
 kExtr i 1 (λK=>
 kExtr i 2 (λr=>
 jn (λ(a5 a6:Value)(L:Hs)=>
 E_d R 35 [b,J,K,f] L (λa7 M=>
 after (λO P=>
 after (λa8 s=>
 D_4 h (G_p s (resV enE s [.cell (.c a) 7 true]))) (store1 7 P (A_4 O) (addrOf a))) (I_p [(.int .i64 (.ofNat 0)),(.int .i64 (.ofNat 0)),(.int .i64 (.ofNat 0)),(.int .i64 (.ofNat 0)),(.int .i64 (.ofNat 0)),(.slice none 0 0),(.slice none 0 0)] [(1,1,.c f)] enE M))) λQ=>
 kI64 .neq r (.int .i64 (.ofNat 0)) (λt=>
 jn (λ(S:Value)(U:Hs)=>
 Q t S U) λV=>
 cnd t
 (E_d R 17 [r] g (λW X=>
 after (λa9 u=>
 D_4 h (G_p u (resV enE u [.cell (.c a) 7 true]))) (store1 7 X (A_4 W) (addrOf a))))
 (kNil b (λY=>
 kFieldA 1 Y (λZ=>
 kLoad Z g (λaa=>
 after (λab j=>
 kNil ab (λac=>
 kFieldA 4 ac (λad=>
 kLoad ad j (λae=>
 kI64 .geq ae (.int .i64 (.ofNat 200)) (λv=>
 jn (λ(af:Hs)=>
 V v af) λag=>
 cnd v
 (E_d R 17 [(.int .i64 (.ofNat 10))] j (λah ai=>
 after (λba w=>
 D_4 h (G_p w (resV enE w [.cell (.c a) 7 true]))) (store1 7 ai (A_4 ah) (addrOf a))))
 (ag j)))))) (ret1 g (lk1 true g (.pointer none) false f aa)))))))))))))) λaj=>
 kI64 .neq p (.int .i64 (.ofNat 0)) (λx=>
 jn (λ(ak:Value)(al:Hs)=>
 aj x ak al) λam=>
 cnd x
 (E_d R 17 [p] d (λan ao=>
 after (λbb y=>
 D_4 h (G_p y (resV enE y [.cell (.c a) 7 true]))) (store1 7 ao (A_4 an) (addrOf a))))
 (kNil b (λap=>
 kFieldA 1 ap (λaq=>
 kLoad aq d (λar=>
 after (λau l=>
 kNil au (λav=>
 kFieldA 0 av (λaw=>
 kLoad aw l (λax=>
 kI64 .eql ax (.int .i64 (.ofNat 2)) (λz=>
 jn (λ(ay:Hs)=>
 am z ay) λaz=>
 cnd z
 (E_d R 17 [(.int .i64 (.ofNat 5))] l (λa0 a1=>
 after (λbc A=>
 D_4 h (G_p A (resV enE A [.cell (.c a) 7 true]))) (store1 7 a1 (A_4 a0) (addrOf a))))
 (az l)))))) (ret1 d (lk1 true d (.pointer none) false f ar))))))))))))) (L_0 34 [(.int .i64 (.ofNat 0)),(.int .i64 (.ofNat 0)),(.int .i64 (.ofNat 0)),(.int .i64 (.ofNat 0)),(.int .i64 (.ofNat 0)),(.slice none 0 0),(.slice none 0 0)] enE E)) (oBox 29 (.c C) enE D)
theorem q18:QT 18 r18:=λR N args h=>by kernel_rfl
noncomputable def r19(R:RnK)(N:Nat)(args:List Value)(h:Hs):An:=unC args λf r=>unC r λs Y=>enK h λt=>
 after (λu v=>
 after (λa i=>
 kFieldA 1 u (λw=>
 kLoad w i (λx=>
 E_d R 37 [f,x] i (λb d=>
 kExtr b 0 (λy=>
 kExtr b 1 (λz=>
 kExtr b 2 (λj=>
 kExtr b 3 (λl=>
 jn (λ(Z aa:Value)(A:Hs)=>
 E_d R 38 [f,y,z] A (λab B=>
 after (λC D=>
 after (λac m=>
 D_4 h (G_p m (resV enE m [.cell (.c a) 7 true]))) (store1 7 D (A_4 C) (addrOf a))) (I_p [(.int .i64 (.ofNat 0)),(.int .i64 (.ofNat 0)),(.int .i64 (.ofNat 0)),(.int .i64 (.ofNat 0)),(.int .i64 (.ofNat 0)),(.slice none 0 0),(.slice none 0 0)] [(1,1,.c j)] enE B))) λE=>
 kI64 .neq l (.int .i64 (.ofNat 0)) (λn=>
 jn (λ(F:Value)(G:Hs)=>
 E n F G) λH=>
 cnd n
 (E_d R 17 [l] d (λI J=>
 after (λad o=>
 D_4 h (G_p o (resV enE o [.cell (.c a) 7 true]))) (store1 7 J (A_4 I) (addrOf a))))
 (kNil f (λK=>
 kFieldA 1 K (λL=>
 kLoad L d (λM=>
 after (λO g=>
 kNil O (λP=>
 kFieldA 0 P (λQ=>
 kLoad Q g (λS=>
 kI64 .eql S (.int .i64 (.ofNat 2)) (λp=>
 jn (λ(U:Hs)=>
 H p U) λV=>
 cnd p
 (E_d R 17 [(.int .i64 (.ofNat 5))] g (λW X=>
 after (λae q=>
 D_4 h (G_p q (resV enE q [.cell (.c a) 7 true]))) (store1 7 X (A_4 W) (addrOf a))))
 (V g)))))) (ret1 d (lk1 true d (.pointer none) false j M))))))))))))))) (L_0 34 [(.int .i64 (.ofNat 0)),(.int .i64 (.ofNat 0)),(.int .i64 (.ofNat 0)),(.int .i64 (.ofNat 0)),(.int .i64 (.ofNat 0)),(.slice none 0 0),(.slice none 0 0)] enE v)) (oBox 29 (.c s) enE t)
theorem q19:QT 19 r19:=λR N args h=>by kernel_rfl
noncomputable def r20(R:RnK)(N:Nat)(args:List Value)(h:Hs):An:=unC args λd x=>unC x λy a1=>enK h λz=>
 after (λA B=>
 after (λa l=>
 kFieldA 1 A (λC=>
 kLoad C l (λD=>
 E_d R 37 [d,D] l (λf g=>
 kExtr f 0 (λE=>
 kExtr f 1 (λF=>
 kExtr f 2 (λi=>
 kExtr f 3 (λm=>
 jn (λ(a2 a3 a4 a5:Value)(G:Hs)=>
 E_d R 38 [d,E,F] G (λa6 H=>
 after (λI J=>
 after (λa7 n=>
 D_4 h (G_p n (resV enE n [.cell (.c a) 7 true]))) (store1 7 J (A_4 I) (addrOf a))) (I_p [(.int .i64 (.ofNat 0)),(.int .i64 (.ofNat 0)),(.int .i64 (.ofNat 0)),(.int .i64 (.ofNat 0)),(.int .i64 (.ofNat 0)),(.slice none 0 0),(.slice none 0 0)] [(1,1,.c i)] enE H))) λK=>
 kI64 .neq m (.int .i64 (.ofNat 0)) (λo=>
 jn (λ(L M O:Value)(P:Hs)=>
 K o L M O P) λQ=>
 cnd o
 (E_d R 17 [m] g (λS U=>
 after (λa8 p=>
 D_4 h (G_p p (resV enE p [.cell (.c a) 7 true]))) (store1 7 U (A_4 S) (addrOf a))))
 (kNil d (λV=>
 kFieldA 1 V (λW=>
 kLoad W g (λX=>
 after (λY b=>
 kNil Y (λZ=>
 kFieldA 0 Z (λaa=>
 kLoad aa b (λab=>
 kI64 .neq ab (.int .i64 (.ofNat 2)) (λq=>
 jn (λ(ac ad:Value)(ae:Hs)=>
 Q q ac ad ae) λaf=>
 cnd q
 (E_d R 17 [(.int .i64 (.ofNat 4))] b (λag ah=>
 after (λa9 r=>
 D_4 h (G_p r (resV enE r [.cell (.c a) 7 true]))) (store1 7 ah (A_4 ag) (addrOf a))))
 (kI64 .eql i (.int .i64 (.ofNat 2)) (λs=>
 jn (λ(ai:Value)(aj:Hs)=>
 af s ai aj) λak=>
 cnd s
 (E_d R 17 [(.int .i64 (.ofNat 12))] b (λal am=>
 after (λba t=>
 D_4 h (G_p t (resV enE t [.cell (.c a) 7 true]))) (store1 7 am (A_4 al) (addrOf a))))
 (kNil d (λan=>
 kFieldA 1 an (λao=>
 kLoad ao b (λap=>
 after (λaq j=>
 kNil aq (λar=>
 kFieldA 2 ar (λau=>
 kLoad au j (λav=>
 after (λaw u=>
 kI64 .gtr aw (.int .i64 (.ofNat 0)) (λv=>
 jn (λ(ax:Hs)=>
 ak v ax) λay=>
 cnd v
 (E_d R 17 [(.int .i64 (.ofNat 6))] u (λaz a0=>
 after (λbb w=>
 D_4 h (G_p w (resV enE w [.cell (.c a) 7 true]))) (store1 7 a0 (A_4 az) (addrOf a))))
 (ay u))) (ret1 j (maplen1 j av)))))) (ret1 b (lk1 true b (.pointer none) false i ap))))))))))))) (ret1 g (lk1 true g (.pointer none) false i X))))))))))))))) (L_0 34 [(.int .i64 (.ofNat 0)),(.int .i64 (.ofNat 0)),(.int .i64 (.ofNat 0)),(.int .i64 (.ofNat 0)),(.int .i64 (.ofNat 0)),(.slice none 0 0),(.slice none 0 0)] enE B)) (oBox 29 (.c y) enE z)
theorem q20:QT 20 r20:=λR N args h=>by kernel_rfl
noncomputable def r21(R:RnK)(N:Nat)(args:List Value)(h:Hs):An:=unC args λb am=>unC am λan dl=>enK h λao=>
 after (λm ap=>
 after (λa w=>
 kFieldA 1 m (λaq=>
 kLoad aq w (λar=>
 E_d R 39 [ar] w (λn x=>
 kExtr n 0 (λdm=>
 kExtr n 1 (λdn=>
 kExtr n 2 (λy=>
 kI64 .neq y (.int .i64 (.ofNat 0)) (λau=>
 jn (λ(z:Hs)=>
 kFieldA 2 m (λav=>
 kLoad av z (λaw=>
 E_d R 39 [aw] z (λo A=>
 kExtr o 0 (λax=>
 kExtr o 1 (λp=>
 kExtr o 2 (λB=>
 kI64 .neq B (.int .i64 (.ofNat 0)) (λay=>
 jn (λ(C:Hs)=>
 kFieldA 1 m (λaz=>
 kLoad az C (λa0=>
 E_d R 37 [b,a0] C (λl q=>
 kExtr l 0 (λa1=>
 kExtr l 1 (λa2=>
 kExtr l 2 (λd=>
 kExtr l 3 (λD=>
 jn (λ(dp dq:Value)(a3:Hs)=>
 E_d R 40 [b,ax] a3 (λE f=>
 kExtr E 0 (λg=>
 kExtr E 1 (λF=>
 jn (λ(dr ds dt:Value)(a4:Hs)=>
 E_d R 42 [b,g,p] a4 (λG r=>
 kExtr G 0 (λH=>
 kExtr G 1 (λa5=>
 jn (λ(du dv dw:Value)(a6:Hs)=>
 E_d R 35 [b,g,p,d] a6 (λdx s=>
 kNil b (λa7=>
 kFieldA 1 a7 (λa8=>
 kLoad a8 s (λa9=>
 after (λba I=>
 kNil ba (λbb=>
 kFieldA 2 bb (λbc=>
 kLoad bc I (λbd=>
 after (λdy t=>
 kNil b (λbe=>
 kFieldA 1 be (λbf=>
 kLoad bf t (λbg=>
 after (λbh i=>
 kNil bh (λbi=>
 kFieldA 0 bi (λbj=>
 kLoad bj i (λbk=>
 kI64 .neq bk (.int .i64 (.ofNat 2)) (λbl=>
 jn (λ(bm:Hs)=>
 after (λbn bo=>
 after (λdz J=>
 D_4 h (G_p J (resV enE J [.cell (.c a) 7 true]))) (store1 7 bo (A_4 bn) (addrOf a))) (I_p [(.int .i64 (.ofNat 0)),(.int .i64 (.ofNat 0)),(.int .i64 (.ofNat 0)),(.int .i64 (.ofNat 0)),(.int .i64 (.ofNat 0)),(.slice none 0 0),(.slice none 0 0)] [(1,1,.c d)] enE bm)) λK=>
 cnd bl
 (kNil b (λbp=>
 kFieldA 1 bp (λbq=>
 kLoad bq i (λbr=>
 after (λL M=>
 kNil L (λbs=>
 kFieldA 4 bs (λbt=>
 kLoad bt M (λbu=>
 kI64 .sub bu (.int .i64 (.ofNat 1)) (λbv=>
 kNil L (λbw=>
 kFieldA 4 bw (λbx=>
 H_l bx bv M (λd0 bz=>
 K bz)))))))) (ret1 i (lk1 true i (.pointer none) false d br))))))
 (K i)))))) (ret1 t (lk1 true t (.pointer none) false d bg)))))) (mapdel1 false I a2 bd))))) (ret1 s (lk1 true s (.pointer none) false a1 a9))))))) λO=>
 cnd a5
 (kI64 .eql H d (λP=>
 jn (λ(b0:Hs)=>
 E_d R 43 [b,d,H] b0 (λu Q=>
 kI64 .neq u (.int .i64 (.ofNat 0)) (λS=>
 jn (λ(b1:Hs)=>
 E_d R 38 [b,g,p] b1 (λd1 b2=>
 O P u S b2)) λb3=>
 cnd S
 (E_d R 17 [u] Q (λb4 b5=>
 after (λd2 U=>
 D_4 h (G_p U (resV enE U [.cell (.c a) 7 true]))) (store1 7 b5 (A_4 b4) (addrOf a))))
 (b3 Q)))) λb6=>
 cnd P
 (after (λb7 b8=>
 after (λd3 V=>
 D_4 h (G_p V (resV enE V [.cell (.c a) 7 true]))) (store1 7 b8 (A_4 b7) (addrOf a))) (I_p [(.int .i64 (.ofNat 0)),(.int .i64 (.ofNat 0)),(.int .i64 (.ofNat 0)),(.int .i64 (.ofNat 0)),(.int .i64 (.ofNat 0)),(.slice none 0 0),(.slice none 0 0)] [(1,1,.c d)] enE r))
 (b6 r)))
 (O dunno dunno dunno r))))) λb9=>
 kI64 .neq F (.int .i64 (.ofNat 0)) (λW=>
 jn (λ(ca cb:Value)(cc:Hs)=>
 b9 W ca cb cc) λcd=>
 cnd W
 (E_d R 17 [F] f (λce cf=>
 after (λd4 X=>
 D_4 h (G_p X (resV enE X [.cell (.c a) 7 true]))) (store1 7 cf (A_4 ce) (addrOf a))))
 (kI64 .eql g (.int .i64 (.ofNat 2)) (λY=>
 jn (λ(cg:Value)(ch:Hs)=>
 cd Y cg ch) λci=>
 cnd Y
 (E_d R 17 [(.int .i64 (.ofNat 12))] f (λcj ck=>
 after (λd5 Z=>
 D_4 h (G_p Z (resV enE Z [.cell (.c a) 7 true]))) (store1 7 ck (A_4 cj) (addrOf a))))
 (kNil b (λcl=>
 kFieldA 1 cl (λcm=>
 kLoad cm f (λcn=>
 after (λco v=>
 kNil co (λcp=>
 kFieldA 0 cp (λcq=>
 kLoad cq v (λcr=>
 kI64 .eql cr (.int .i64 (.ofNat 2)) (λj=>
 gdT j v (λcs=>cs b v) (λct aa=>
 gdT j aa (λcu=>cu g aa) (λcv ab=>
 gdT j ab (λcw=>cw d ab) (λcx ac=>
 gdT j ac (λcy=>E_d R 41 [ct,cv,cx] ac (cy)) (λcz c0=>
 after (λad ae=>
 jn (λ(c1:Hs)=>
 ci ad c1) λc2=>
 cnd ad
 (E_d R 17 [(.int .i64 (.ofNat 1))] ae (λc3 c4=>
 after (λd6 af=>
 D_4 h (G_p af (resV enE af [.cell (.c a) 7 true]))) (store1 7 c4 (A_4 c3) (addrOf a))))
 (c2 ae)) (pickB (.c cz) (.c (.bool false)) enE c0 j)))))))))) (ret1 f (lk1 true f (.pointer none) false d cn))))))))))))) λc5=>
 kI64 .neq D (.int .i64 (.ofNat 0)) (λag=>
 jn (λ(c6:Value)(c7:Hs)=>
 c5 ag c6 c7) λc8=>
 cnd ag
 (E_d R 17 [D] q (λc9 da=>
 after (λd7 ah=>
 D_4 h (G_p ah (resV enE ah [.cell (.c a) 7 true]))) (store1 7 da (A_4 c9) (addrOf a))))
 (kI64 .eql d (.int .i64 (.ofNat 2)) (λai=>
 jn (λ(db:Hs)=>
 c8 ai db) λdc=>
 cnd ai
 (E_d R 17 [(.int .i64 (.ofNat 12))] q (λdd de=>
 after (λd8 aj=>
 D_4 h (G_p aj (resV enE aj [.cell (.c a) 7 true]))) (store1 7 de (A_4 dd) (addrOf a))))
 (dc q)))))))))))) λdf=>
 cnd ay
 (E_d R 17 [B] A (λdg dh=>
 after (λd9 ak=>
 D_4 h (G_p ak (resV enE ak [.cell (.c a) 7 true]))) (store1 7 dh (A_4 dg) (addrOf a))))
 (df A))))))))) λdi=>
 cnd au
 (E_d R 17 [y] x (λdj dk=>
 after (λea al=>
 D_4 h (G_p al (resV enE al [.cell (.c a) 7 true]))) (store1 7 dk (A_4 dj) (addrOf a))))
 (di x))))))))) (L_0 34 [(.int .i64 (.ofNat 0)),(.int .i64 (.ofNat 0)),(.int .i64 (.ofNat 0)),(.int .i64 (.ofNat 0)),(.int .i64 (.ofNat 0)),(.slice none 0 0),(.slice none 0 0)] enE ap)) (oBox 29 (.c an) enE ao)
theorem q21:QT 21 r21:=λR N args h=>by kernel_rfl
noncomputable def r22(R:RnK)(N:Nat)(args:List Value)(h:Hs):An:=unC args λl H=>unC H λI bs=>enK h λJ=>
 after (λm K=>
 after (λa n=>
 kFieldA 1 m (λL=>
 kLoad L n (λM=>
 kFieldA 0 m (λO=>
 kLoad O n (λP=>
 kI64 .eql P (.int .i64 (.ofNat 13)) (λQ=>
 E_d R 36 [l,M,Q] n (λt u=>
 kExtr t 0 (λg=>
 kExtr t 1 (λv=>
 kI64 .neq v (.int .i64 (.ofNat 0)) (λS=>
 jn (λ(o:Hs)=>
 kNil l (λU=>
 kFieldA 1 U (λV=>
 kLoad V o (λW=>
 after (λf b=>
 kFieldA 0 m (λX=>
 kLoad X b (λw=>
 jn (λ(bt bu bv bw:Value)(i:Hs)=>
 kNil f (λY=>
 kFieldA 4 Y (λZ=>
 kLoad Z i (λaa=>
 kNil f (λab=>
 kFieldA 0 ab (λac=>
 kLoad ac i (λad=>
 kI64 .eql ad (.int .i64 (.ofNat 2)) (λae=>
 jn (λ(af:Value)(d:Hs)=>
 kNil f (λag=>
 kFieldA 0 ag (λah=>
 kLoad ah (Hs.mk d.hp d.nx d.nx) (λai=>
 E_d R 45 [f] (Hs.mk d.hp d.nx d.nx) (λaj p=>dPut (λak j=>
 after (λal q=>dPut (λam r=>
 after (λan s=>dPut (λbx x=>
 D_4 h (G_p x (resV enE x [.cell (.c a) 7 true]))) an (F_u r s .bar) (andB (dFit r s .bar) (Nat.ble 0 s.lo))) (store1 7 r (A_4 am) (addrOf a))) al (F_u j q .blind) (andB (dFit j q .blind) (Nat.ble 0 q.lo))) (I_p [(.int .i64 (.ofNat 0)),(.int .i64 (.ofNat 0)),(.int .i64 (.ofNat 0)),(.int .i64 (.ofNat 0)),(.int .i64 (.ofNat 0)),(.slice none 0 0),(.slice none 0 0)] [(1,1,.c g),(2,1,.c ai),(3,1,.c af),(4,1,.c ak)] enE (Hs.mk .e j.nx j.nx))) aj (F_u d p .light) (andB (dFit d p .light) (Nat.ble 0 p.lo))))))) λy=>
 cnd ae
 (y (.int .i64 (.ofNat 1)) i)
 (y aa i))))))))) λao=>
 kI64 .eql w (.int .i64 (.ofNat 8)) (λz=>
 jn (λ(ap aq ar:Value)(au:Hs)=>
 ao z ap aq ar au) λav=>
 cnd z
 (kNil f (λaw=>
 kFieldA 0 aw (λax=>
 kLoad ax b (λay=>
 kI64 .neq ay (.int .i64 (.ofNat 3)) (λaz=>
 jn (λ(A:Hs)=>
 kNil f (λa0=>
 kFieldA 1 a0 (λa1=>
 kLoad a1 A (λa2=>
 E_d R 14 [a2] A (λa3 a4=>
 after (λa5 a6=>
 after (λbz B=>
 D_4 h (G_p B (resV enE B [.cell (.c a) 7 true]))) (store1 7 a6 (A_4 a5) (addrOf a))) (I_p [(.int .i64 (.ofNat 0)),(.int .i64 (.ofNat 0)),(.int .i64 (.ofNat 0)),(.int .i64 (.ofNat 0)),(.int .i64 (.ofNat 0)),(.slice none 0 0),(.slice none 0 0)] [(1,1,.c g),(5,1,.c a3)] enE a4)))))) λa7=>
 cnd az
 (E_d R 17 [(.int .i64 (.ofNat 1))] b (λa8 a9=>
 after (λb0 C=>
 D_4 h (G_p C (resV enE C [.cell (.c a) 7 true]))) (store1 7 a9 (A_4 a8) (addrOf a))))
 (a7 b))))))
 (kI64 .eql w (.int .i64 (.ofNat 13)) (λD=>
 jn (λ(ba:Value)(bb:Hs)=>
 av dunno D ba bb) λbc=>
 cnd D
 (kNil f (λbd=>
 kFieldA 0 bd (λbe=>
 kLoad be b (λbf=>
 kI64 .neq bf (.int .i64 (.ofNat 2)) (λbg=>
 jn (λ(bh:Hs)=>
 E_d R 44 [l,g] bh (λbi bj=>
 after (λbk bl=>
 after (λb1 E=>
 D_4 h (G_p E (resV enE E [.cell (.c a) 7 true]))) (store1 7 bl (A_4 bk) (addrOf a))) (I_p [(.int .i64 (.ofNat 0)),(.int .i64 (.ofNat 0)),(.int .i64 (.ofNat 0)),(.int .i64 (.ofNat 0)),(.int .i64 (.ofNat 0)),(.slice none 0 0),(.slice none 0 0)] [(1,1,.c g),(6,1,.c bi)] enE bj))) λbm=>
 cnd bg
 (E_d R 17 [(.int .i64 (.ofNat 4))] b (λbn bo=>
 after (λb2 F=>
 D_4 h (G_p F (resV enE F [.cell (.c a) 7 true]))) (store1 7 bo (A_4 bn) (addrOf a))))
 (bm b))))))
 (bc dunno b))))))) (ret1 o (lk1 true o (.pointer none) false g W)))))) λbp=>
 cnd S
 (E_d R 17 [v] u (λbq br=>
 after (λb3 G=>
 D_4 h (G_p G (resV enE G [.cell (.c a) 7 true]))) (store1 7 br (A_4 bq) (addrOf a))))
 (bp u))))))))))) (L_0 34 [(.int .i64 (.ofNat 0)),(.int .i64 (.ofNat 0)),(.int .i64 (.ofNat 0)),(.int .i64 (.ofNat 0)),(.int .i64 (.ofNat 0)),(.slice none 0 0),(.slice none 0 0)] enE K)) (oBox 29 (.c I) enE J)
theorem q22:QT 22 r22:=λR N args h=>by kernel_rfl
noncomputable def r23(R:RnK)(N:Nat)(args:List Value)(h:Hs):An:=unC args λo ah=>unC ah λai dm=>enK h λaj=>
 after (λf ak=>
 after (λa p=>
 kFieldA 3 f (λal=>
 kLoad al p (λam=>
 kI64 .lss am (.int .i64 (.ofNat 0)) (λj=>
 gdT j p (λan=>kFieldA 0 f (λao=>an ao p)) (λap q=>
 gdT j q (λaq=>kLoad ap q (λar=>aq ar q)) (λau G=>
 gdT j G (λav=>kI64 .neq au (.int .i64 (.ofNat 11)) (λaw=>av aw G)) (λax ay=>
 after (λg H=>
 gdF g H (λaz=>kFieldA 4 f (λa0=>az a0 H)) (λa1 r=>
 gdF g r (λa2=>kLoad a1 r (λa3=>a2 a3 r)) (λa4 I=>
 gdF g I (λa5=>kI64 .lss a4 (.int .i64 (.ofNat 0)) (λa6=>a5 a6 I)) (λa7 J=>
 gdF g J (λa8=>a8 a7 J) (λl K=>
 gdT l K (λa9=>kFieldA 0 f (λba=>a9 ba K)) (λbb s=>
 gdT l s (λbc=>kLoad bb s (λbd=>bc bd s)) (λbe L=>
 gdT l L (λbf=>kI64 .neq be (.int .i64 (.ofNat 10)) (λbg=>bf bg L)) (λbh M=>
 gdF g M (λbi=>after (bi) (pickB (.c bh) (.c (.bool false)) enE M l)) (λbj bk=>
 after (λbl O=>
 jn (λ(P:Hs)=>
 kFieldA 1 f (λbm=>
 kLoad bm P (λbn=>
 E_d R 36 [o,bn,(.bool true)] P (λQ S=>
 kExtr Q 0 (λm=>
 kExtr Q 1 (λU=>
 kI64 .neq U (.int .i64 (.ofNat 0)) (λbo=>
 jn (λ(t:Hs)=>
 kNil o (λbp=>
 kFieldA 1 bp (λbq=>
 kLoad bq t (λbr=>
 after (λi u=>
 kNil i (λbs=>
 kFieldA 0 bs (λbt=>
 kLoad bt u (λbu=>
 kI64 .eql bu (.int .i64 (.ofNat 2)) (λbv=>
 jn (λ(b:Hs)=>
 kFieldA 0 f (λbw=>
 kLoad bw b (λV=>
 jn (λ(dn dp dq:Value)(v:Hs)=>
 kFieldA 4 f (λbx=>
 kLoad bx v (λbz=>
 kI64 .gtr bz (.int .i64 (.ofNat 4096)) (λb0=>
 jn (λ(W:Hs)=>
 kFieldA 4 f (λb1=>
 kLoad b1 W (λb2=>
 E_d R 47 [i,b2] W (λdr X=>
 kNil i (λb3=>
 kFieldA 1 b3 (λb4=>
 kLoad b4 X (λb5=>
 L_o b5 (λb6=>
 after (λb7 b8=>
 after (λds Y=>
 D_4 h (G_p Y (resV enE Y [.cell (.c a) 7 true]))) (store1 7 b8 (A_4 b7) (addrOf a))) (I_p [(.int .i64 (.ofNat 0)),(.int .i64 (.ofNat 0)),(.int .i64 (.ofNat 0)),(.int .i64 (.ofNat 0)),(.int .i64 (.ofNat 0)),(.slice none 0 0),(.slice none 0 0)] [(1,1,.c m),(4,1,.c b6)] enE X))))))))) λb9=>
 cnd b0
 (E_d R 17 [(.int .i64 (.ofNat 9))] v (λca cb=>
 after (λdt Z=>
 D_4 h (G_p Z (resV enE Z [.cell (.c a) 7 true]))) (store1 7 cb (A_4 ca) (addrOf a))))
 (b9 v))))) λcc=>
 kI64 .eql V (.int .i64 (.ofNat 9)) (λaa=>
 jn (λ(cd ce:Value)(cf:Hs)=>
 cc aa cd ce cf) λcg=>
 cnd aa
 (kFieldA 3 f (λch=>
 kLoad ch (Hs.mk b.hp b.nx b.nx) (λci=>
 kNil i (λcj=>
 kFieldA 1 cj (λck=>
 kLoad ck (Hs.mk b.hp b.nx b.nx) (λcl=>
 L_o cl (λcm=>
 after (λcn w=>dPut (λx d=>
 kNil i (λco=>
 kFieldA 1 co (λcp=>
 kLoad cp (Hs.mk d.hp d.nx d.nx) (λcq=>
 kFieldA 4 f (λcr=>
 kLoad cr (Hs.mk d.hp d.nx d.nx) (λcs=>
 kNil i (λct=>
 kFieldA 1 ct (λcu=>
 kLoad cu (Hs.mk d.hp d.nx d.nx) (λcv=>
 L_o cv (λcw=>
 kI64 .sub cw x (λcx=>
 after (λcy y=>dPut (λcz z=>
 kI64 .add x cz (λc0=>
 after (λc1 A=>dPut (λc2 B=>
 E_d R 14 [c2] B (λc3 C=>dPut (λc4 n=>
 after (λc5 D=>dPut (λc6 E=>
 after (λc7 F=>dPut (λdu ab=>
 D_4 h (G_p ab (resV enE ab [.cell (.c a) 7 true]))) c7 (F_u E F .bar) (andB (dFit E F .bar) (Nat.ble 0 F.lo))) (store1 7 E (A_4 c6) (addrOf a))) c5 (F_u n D .blind) (andB (dFit n D .blind) (Nat.ble 0 D.lo))) (I_p [(.int .i64 (.ofNat 0)),(.int .i64 (.ofNat 0)),(.int .i64 (.ofNat 0)),(.int .i64 (.ofNat 0)),(.int .i64 (.ofNat 0)),(.slice none 0 0),(.slice none 0 0)] [(1,1,.c m),(5,1,.c c4)] enE (Hs.mk .e n.nx n.nx))) c3 (F_u B C .bar) (andB (dFit B C .bar) (Nat.ble 0 C.lo)))) c1 (F_u z A .bar) (andB (dFit z A .bar) (Nat.ble 0 A.lo))) (L_2 1 (.c cq) (some (.c x)) (some (.c c0)) none enE z))) cy (F_u d y .blind) (andB (dFit d y .blind) (Nat.ble 0 y.lo))) (O_l false [.c cs,.c cx] enE (Hs.mk .e d.nx d.nx))))))))))))) cn (F_u b w .blind) (andB (dFit b w .blind) (Nat.ble 0 w.lo))) (O_l false [.c ci,.c cm] enE (Hs.mk .e b.nx b.nx)))))))))
 (kI64 .eql V (.int .i64 (.ofNat 10)) (λac=>
 jn (λ(c8:Hs)=>
 cg dunno ac c8) λc9=>
 cnd ac
 (H_7 6 f b (λda=>
 E_d R 46 [o,m,da] b (λdb dc=>
 after (λdv ad=>
 D_4 h (G_p ad (resV enE ad [.cell (.c a) 7 true]))) (store1 7 dc (A_4 db) (addrOf a)))))
 (c9 b))))))) λdd=>
 cnd bv
 (E_d R 17 [(.int .i64 (.ofNat 5))] u (λde df=>
 after (λdw ae=>
 D_4 h (G_p ae (resV enE ae [.cell (.c a) 7 true]))) (store1 7 df (A_4 de) (addrOf a))))
 (dd u)))))) (ret1 t (lk1 true t (.pointer none) false m br)))))) λdg=>
 cnd bo
 (E_d R 17 [U] S (λdh di=>
 after (λdx af=>
 D_4 h (G_p af (resV enE af [.cell (.c a) 7 true]))) (store1 7 di (A_4 dh) (addrOf a))))
 (dg S)))))))) λdj=>
 cnd bl
 (E_d R 17 [(.int .i64 (.ofNat 1))] O (λdk dl=>
 after (λdy ag=>
 D_4 h (G_p ag (resV enE ag [.cell (.c a) 7 true]))) (store1 7 dl (A_4 dk) (addrOf a))))
 (dj O)) (pickB (.c (.bool true)) (.c bj) enE bk g)))))))))) (pickB (.c ax) (.c (.bool false)) enE ay j)))))))) (L_0 34 [(.int .i64 (.ofNat 0)),(.int .i64 (.ofNat 0)),(.int .i64 (.ofNat 0)),(.int .i64 (.ofNat 0)),(.int .i64 (.ofNat 0)),(.slice none 0 0),(.slice none 0 0)] enE ak)) (oBox 29 (.c ai) enE aj)
theorem q23:QT 23 r23:=λR N args h=>by kernel_rfl
noncomputable def r24(R:RnK)(N:Nat)(args:List Value)(h:Hs):An:=unC args λb r=>unC r λi s=>unC s λt ag=>enK h λj=>
 L_o b (λu=>
 L_o i (λv=>
 kI64 .neq u v (λw=>
 jn (λ(x:Value)(y:Hs)=>
 L_o b (λz=>
 jn (λ(ah ai aj ak al am an:Value)(A:Hs)=>
 clrK h (.bool true) A) λB=>
 lpT (T:=Value→Value→Value→Value→Value→Value→Value→Hs→An) (λ_ _ _ _ _ _ _ _=>none) N (λC=>
 λ(a ao D E F G l:Value)(m:Hs)=>
 kI64 .lss a z (λc=>
 jn (λ(n:Hs)=>
 jn (λ(H I J K L:Value)(M:Hs)=>
 kI64 .add a (.int .i64 (.ofNat 1)) (λO=>
 C O c H I J K L M)) λP=>
 L_x 4 b a (λQ=>
 H_7 4 Q n (λS=>
 after (λd U=>
 after (λap o=>
 L_x 4 i a (λV=>
 H_7 4 V o (λW=>
 after (λf X=>
 after (λaq g=>
 H_7 4 d g (λY=>
 H_7 4 f g (λZ=>
 s_u R t [Y,Z] g (λaa p=>
 kNot aa (λq=>
 jn (λ(ab:Value)(ac:Hs)=>
 P a d f q ab ac) λad=>
 cnd q
 (clrK h (.bool false) p)
 (ad l p)))))) (store1 4 X (A_4 W) (addrOf f))) (L_0 57 [(.int .i64 (.ofNat 0)),(.int .i64 (.ofNat 0)),(.slice none 0 0),(.slice none 0 0)] enE o)))) (store1 4 U (A_4 S) (addrOf d))) (L_0 57 [(.int .i64 (.ofNat 0)),(.int .i64 (.ofNat 0)),(.slice none 0 0),(.slice none 0 0)] enE n)))) λae=>
 cnd c
 (ae m)
 (B a c D E F G l m))) (.int .i64 (.ofNat 0)) dunno dunno dunno dunno dunno x y)) λaf=>
 cnd w
 (clrK h (.bool false) j)
 (af (.bool false) j))))
theorem q24:QT 24 r24:=λR N args h=>by kernel_rfl
noncomputable def r25(R:RnK)(N:Nat)(args:List Value)(h:Hs):An:=unC args λy z=>unC z λA a8=>enK h λB=>
 after (λf C=>
 after (λg i=>
 kFieldA 0 f (λD=>
 kLoad D i (λE=>
 kFieldA 0 g (λF=>
 kLoad F i (λG=>
 kI64 .eql E G (λa=>
 gdT a i (λH=>kFieldA 1 f (λI=>H I i)) (λJ j=>
 gdT a j (λK=>kLoad J j (λL=>K L j)) (λM q=>
 gdT a q (λO=>kFieldA 1 g (λP=>O P q)) (λQ l=>
 gdT a l (λS=>kLoad Q l (λU=>S U l)) (λV r=>
 gdT a r (λW=>kI64 .eql M V (λX=>W X r)) (λY Z=>
 after (λb s=>
 gdT b s (λaa=>kFieldA 2 f (λab=>aa ab s)) (λac m=>
 gdT b m (λad=>kLoad ac m (λae=>ad ae m)) (λaf t=>
 gdT b t (λag=>kFieldA 2 g (λah=>ag ah t)) (λai n=>
 gdT b n (λaj=>kLoad ai n (λak=>aj ak n)) (λal u=>
 gdT b u (λam=>E_d R 26 [af,al] u (am)) (λan ao=>
 after (λd v=>
 gdT d v (λap=>kFieldA 3 f (λaq=>ap aq v)) (λar o=>
 gdT d o (λau=>kLoad ar o (λav=>au av o)) (λaw w=>
 gdT d w (λax=>kFieldA 3 g (λay=>ax ay w)) (λaz p=>
 gdT d p (λa0=>kLoad az p (λa1=>a0 a1 p)) (λa2 x=>
 gdT d x (λa3=>E_d R 27 [aw,a2] x (a3)) (λa4 a5=>
 after (λa6 a7=>
 clrK h a6 a7) (pickB (.c a4) (.c (.bool false)) enE a5 d))))))) (pickB (.c an) (.c (.bool false)) enE ao b))))))) (pickB (.c Y) (.c (.bool false)) enE Z a)))))))))))) (oBox 57 (.c A) enE C)) (oBox 57 (.c y) enE B)
theorem q25:QT 25 r25:=λR N args h=>by kernel_rfl
noncomputable def r26(R:RnK)(N:Nat)(args:List Value)(h:Hs):An:=unC args λc d=>unC d λf m=>enK h λa=>
 after (λg b=>
 after (λi j=>
 obK (λl=>
 clrK h l j) (s2 .eql g i)) (ret1 b (S_h b f))) (ret1 a (S_h a c))
theorem q26:QT 26 r26:=λR N args h=>by kernel_rfl
noncomputable def r27(R:RnK)(N:Nat)(args:List Value)(h:Hs):An:=unC args λc n=>unC n λf Q=>enK h λg=>
 L_o c (λo=>
 L_o f (λp=>
 kI64 .neq o p (λq=>
 jn (λ(r:Value)(t:Hs)=>
 L_o c (λu=>
 jn (λ(S U V W X:Value)(v:Hs)=>
 clrK h (.bool true) v) λw=>
 lpT (T:=Value→Value→Value→Value→Value→Hs→An) (λ_ _ _ _ _ _=>none) N (λx=>
 λ(b Y y z j:Value)(l:Hs)=>
 kI64 .lss b u (λd=>
 jn (λ(a:Hs)=>
 jn (λ(A B C:Value)(D:Hs)=>
 kI64 .add b (.int .i64 (.ofNat 1)) (λE=>
 x E d A B C D)) λF=>
 L_x 2 c b (λG=>
 H_7 2 G (Hs.mk a.hp a.nx a.nx) (λH=>
 L_x 2 f b (λI=>
 H_7 2 I (Hs.mk a.hp a.nx a.nx) (λJ=>
 obK (λm=>
 jn (λ(K:Value)(L:Hs)=>
 F b m K L) λM=>
 cnd m
 (clrK h (.bool false) a)
 (M j a)) (e2 true (qA [.s,.i]) H J)))))) λO=>
 cnd d
 (O l)
 (w b d y z j l))) (.int .i64 (.ofNat 0)) dunno dunno dunno r t)) λP=>
 cnd q
 (clrK h (.bool false) g)
 (P (.bool false) g))))
theorem q27:QT 27 r27:=λR N args h=>by kernel_rfl
noncomputable def r29(R:RnK)(N:Nat)(args:List Value)(h:Hs):An:=unC args λa j=>enK h λb=>
 after (λd f=>
 after (λg i=>
 clrK h g i) (Y_p (.func 50) [] [.c d] enE f)) (oBox 43 (.c a) enE b)
theorem q29:QT 29 r29:=λR N args h=>by kernel_rfl
noncomputable def r31(R:RnK)(N:Nat)(args:List Value)(h:Hs):An:=unC args λa j=>enK h λb=>
 after (λd f=>
 after (λg i=>
 clrK h g i) (Y_p (.func 53) [] [.c d] enE f)) (oBox 47 (.c a) enE b)
theorem q31:QT 31 r31:=λR N args h=>by kernel_rfl
noncomputable def r33(R:RnK)(N:Nat)(args:List Value)(h:Hs):An:=unC args λd q=>unC q λr O=>enK h λs=>
 E_d R 39 [r] s (λa f=>
 kExtr a 0 (λt=>
 kExtr a 1 (λu=>
 kExtr a 2 (λb=>
 kI64 .neq b (.int .i64 (.ofNat 0)) (λv=>
 jn (λ(P Q w:Value)(x:Hs)=>
 E_d R 40 [d,t] x (λg i=>
 kExtr g 0 (λy=>
 kExtr g 1 (λc=>
 kI64 .neq c (.int .i64 (.ofNat 0)) (λz=>
 jn (λ(A j l:Value)(B:Hs)=>
 E_d R 42 [d,j,l] B (λm n=>
 kExtr m 0 (λS=>
 kExtr m 1 (λC=>
 jn (λ(D o E:Value)(p:Hs)=>
 kI64 .eql o (.int .i64 (.ofNat 2)) (λF=>
 jn (λ(U G H:Value)(I:Hs)=>
 clrK h (.tuple #[G,H,(.int .i64 (.ofNat 0))]) I) λJ=>
 cnd F
 (clrK h (.tuple #[(.int .i64 (.ofNat 0)),(.string ⟨#[]⟩),(.int .i64 (.ofNat 12))]) p)
 (J D o E p))) λK=>
 cnd C
 (clrK h (.tuple #[(.int .i64 (.ofNat 0)),(.string ⟨#[]⟩),(.int .i64 (.ofNat 3))]) n)
 (K A j l n))))) λL=>
 cnd z
 (clrK h (.tuple #[(.int .i64 (.ofNat 0)),(.string ⟨#[]⟩),c]) i)
 (L c y w i)))))) λM=>
 cnd v
 (clrK h (.tuple #[(.int .i64 (.ofNat 0)),(.string ⟨#[]⟩),b]) f)
 (M b (.int .i64 (.ofNat 0)) u f))))))
theorem q33:QT 33 r33:=λR N args h=>by kernel_rfl
noncomputable def r34(R:RnK)(N:Nat)(args:List Value)(h:Hs):An:=unC args λf J=>enK h λm=>
 jn (λ(K L M O P:Value)(n:Hs)=>
 clrK h (.tuple #[(.int .i64 (.ofNat 0)),(.bool false)]) n) λo=>
 lpT (T:=Value→Value→Value→Value→Value→Hs→An) (λ_ _ _ _ _ _=>none) N (λp=>
 λ(a Q q g i:Value)(b:Hs)=>
 kNil f (λr=>
 kFieldA 0 r (λs=>
 kLoad s b (λt=>
 kI64 .leq a t (λc=>
 jn (λ(d:Hs)=>
 jn (λ(u v w:Value)(x:Hs)=>
 kI64 .add a (.int .i64 (.ofNat 1)) (λy=>
 p y c u v w x)) λz=>
 kNil f (λA=>
 kFieldA 1 A (λB=>
 kLoad B d (λC=>
 after (λD j=>
 obK (λl=>
 jn (λ(E F:Value)(G:Hs)=>
 z l E F G) λH=>
 cnd l
 (clrK h (.tuple #[a,(.bool true)]) j)
 (H g i j)) (e2 false qP D (.pointer none))) (ret1 d (lk1 true d (.pointer none) false a C)))))) λI=>
 cnd c
 (I b)
 (o a c q g i b)))))) (.int .i64 (.ofNat 1)) dunno dunno (.int .i64 (.ofNat 0)) (.bool false) m
theorem q34:QT 34 r34:=λR N args h=>by kernel_rfl
noncomputable def r35(R:RnK)(N:Nat)(args:List Value)(h:Hs):An:=unC args λf m=>unC m λg n=>unC n λo p=>unC p λi Q=>enK h λc=>
 kNil f (λq=>
 kFieldA 1 q (λr=>
 kLoad r c (λs=>
 after (λa d=>
 kNil f (λt=>
 kFieldA 1 t (λu=>
 kLoad u d (λv=>
 after (λw j=>
 kNil w (λx=>
 kFieldA 2 x (λy=>
 kLoad y j (λz=>
 after (λS b=>
 kNil a (λA=>
 kFieldA 0 A (λB=>
 kLoad B b (λC=>
 kI64 .eql C (.int .i64 (.ofNat 2)) (λD=>
 jn (λ(E:Hs)=>
 clrK h (.tuple #[]) E) λl=>
 cnd D
 (kNil a (λF=>
 kFieldA 3 F (λG=>
 H_l G g b (λU H=>
 l H))))
 (kNil a (λI=>
 kFieldA 4 I (λJ=>
 kLoad J b (λK=>
 kI64 .add K (.int .i64 (.ofNat 1)) (λL=>
 kNil a (λM=>
 kFieldA 4 M (λO=>
 H_l O L b (λV P=>
 l P))))))))))))) (mapup1 false j o i z))))) (ret1 d (lk1 true d (.pointer none) false g v)))))) (ret1 c (lk1 true c (.pointer none) false i s)))))
theorem q35:QT 35 r35:=λR N args h=>by kernel_rfl
noncomputable def r36(R:RnK)(N:Nat)(args:List Value)(h:Hs):An:=unC args λb d=>unC d λf g=>unC g λi s=>enK h λj=>
 after (λl m=>
 after (λn o=>
 E_d R 54 [n,(.int .i64 (.ofNat 1)),f,i] o (λa p=>
 kExtr a 0 (λq=>
 kExtr a 1 (λr=>
 clrK h (.tuple #[q,r]) p)))) (oBox 99 (.c l) enE m)) (I_p [(.pointer none),(.int .i64 (.ofNat 0))] [(0,1,.c b)] enE j)
theorem q36:QT 36 r36:=λR N args h=>by kernel_rfl
noncomputable def r37(R:RnK)(N:Nat)(args:List Value)(h:Hs):An:=unC args λd o=>unC o λp L=>enK h λq=>
 E_d R 39 [p] q (λa f=>
 kExtr a 0 (λr=>
 kExtr a 1 (λs=>
 kExtr a 2 (λb=>
 kI64 .neq b (.int .i64 (.ofNat 0)) (λt=>
 jn (λ(M O u v:Value)(w:Hs)=>
 E_d R 40 [d,r] w (λg i=>
 kExtr g 0 (λx=>
 kExtr g 1 (λc=>
 kI64 .neq c (.int .i64 (.ofNat 0)) (λy=>
 jn (λ(z j l P:Value)(A:Hs)=>
 E_d R 42 [d,j,l] A (λm n=>
 kExtr m 0 (λB=>
 kExtr m 1 (λC=>
 kNot C (λD=>
 jn (λ(Q E F G:Value)(H:Hs)=>
 clrK h (.tuple #[E,F,G,(.int .i64 (.ofNat 0))]) H) λI=>
 cnd D
 (clrK h (.tuple #[(.int .i64 (.ofNat 0)),(.string ⟨#[]⟩),(.int .i64 (.ofNat 0)),(.int .i64 (.ofNat 2))]) n)
 (I z j l B n)))))) λJ=>
 cnd y
 (clrK h (.tuple #[(.int .i64 (.ofNat 0)),(.string ⟨#[]⟩),(.int .i64 (.ofNat 0)),c]) i)
 (J c x u v i)))))) λK=>
 cnd t
 (clrK h (.tuple #[(.int .i64 (.ofNat 0)),(.string ⟨#[]⟩),(.int .i64 (.ofNat 0)),b]) f)
 (K b (.int .i64 (.ofNat 0)) s (.int .i64 (.ofNat 0)) f))))))
theorem q37:QT 37 r37:=λR N args h=>by kernel_rfl
noncomputable def r38(R:RnK)(N:Nat)(args:List Value)(h:Hs):An:=unC args λa q=>unC q λj r=>unC r λl ab=>enK h λc=>
 kNil a (λs=>
 kFieldA 1 s (λt=>
 kLoad t c (λu=>
 after (λv d=>
 kNil v (λw=>
 kFieldA 2 w (λx=>
 kLoad x d (λy=>
 after (λm f=>
 kNil a (λz=>
 kFieldA 1 z (λA=>
 kLoad A f (λB=>
 after (λg i=>
 kNil a (λC=>
 kFieldA 1 C (λD=>
 kLoad D i (λE=>
 after (λF n=>
 kNil F (λG=>
 kFieldA 2 G (λH=>
 kLoad H n (λI=>
 after (λac o=>
 kNil g (λJ=>
 kFieldA 4 J (λK=>
 kLoad K o (λL=>
 kI64 .sub L (.int .i64 (.ofNat 1)) (λM=>
 kNil g (λO=>
 kFieldA 4 O (λP=>
 H_l P M o (λad b=>
 kNil g (λQ=>
 kFieldA 4 Q (λS=>
 kLoad S b (λU=>
 kI64 .leq U (.int .i64 (.ofNat 0)) (λV=>
 jn (λ(W:Hs)=>
 clrK h (.tuple #[]) W) λp=>
 cnd V
 (kNil a (λX=>
 kFieldA 1 X (λY=>
 kLoad Y b (λZ=>
 after (λae aa=>
 p aa) (mapdel1 true b m Z)))))
 (p b))))))))))))) (mapdel1 false n l I))))) (ret1 i (lk1 true i (.pointer none) false j E)))))) (ret1 f (lk1 true f (.pointer none) false m B)))))) (ret1 d (lk1 false d (.int .i64 (.ofNat 0)) false l y)))))) (ret1 c (lk1 true c (.pointer none) false j u)))))
theorem q38:QT 38 r38:=λR N args h=>by kernel_rfl
noncomputable def r39(R:RnK)(N:Nat)(args:List Value)(h:Hs):An:=unC args λg ap=>enK h λA=>
 E_d R 55 [g] A (λo p=>
 kExtr o 0 (λd=>
 kExtr o 1 (λq=>
 kI64 .neq q (.int .i64 (.ofNat 0)) (λB=>
 jn (λ(C D E:Value)(r:Hs)=>
 L_o d (λF=>
 kI64 .sub F (.int .i64 (.ofNat 1)) (λf=>
 kI64 .lss f (.int .i64 (.ofNat 0)) (λa=>
 gdF a r (λG=>G d r) (λH s=>
 gdF a s (λI=>I f s) (λJ t=>
 gdF a t (λK=>L_x 1 H J (λL=>K L t)) (λM i=>
 gdF a i (λO=>kLoad M i (λP=>O P i)) (λQ u=>
 gdF a u (λS=>obK (λU=>S U u) (s2 .eql Q (.string ⟨#[46,46]⟩))) (λV W=>
 after (λj v=>
 gdF j v (λX=>X g v) (λY w=>
 gdF j w (λZ=>obK (λaa=>Z aa w) (s2 .eql Y (.string ⟨#[46]⟩))) (λab ac=>
 after (λl x=>
 gdF l x (λad=>ad g x) (λae y=>
 gdF l y (λaf=>E_d R 56 [ae,(.string ⟨#[47,46]⟩)] y (af)) (λag ah=>
 after (λai z=>
 jn (λ(aq ar au:Value)(b:Hs)=>
 after (λaj m=>dPut (λak n=>
 L_x 1 d f (λal=>
 kLoad al (R_q .light [true,true,true,false,false,false] [none,none,none,some (b.nx,n.nx),none,none] n) (λam=>
 clrK h (.tuple #[ak,am,(.int .i64 (.ofNat 0))]) n))) aj (F_u b m .light) (andB (dFit b m .light) (Nat.ble 0 m.lo))) (L_2 1 (.c d) none (some (.c f)) none enE (Hs.mk b.hp b.nx b.nx))) λan=>
 cnd ai
 (clrK h (.tuple #[(.slice none 0 0),(.string ⟨#[]⟩),(.int .i64 (.ofNat 1))]) z)
 (an C D E z)) (pickB (.c (.bool true)) (.c ag) enE ah l)))) (pickB (.c (.bool true)) (.c ab) enE ac j)))) (pickB (.c (.bool true)) (.c V) enE W a)))))))))) λao=>
 cnd B
 (clrK h (.tuple #[(.slice none 0 0),(.string ⟨#[]⟩),q]) p)
 (ao (.slice none 0 0) (.string ⟨#[]⟩) (.int .i64 (.ofNat 0)) p)))))
theorem q39:QT 39 r39:=λR N args h=>by kernel_rfl
noncomputable def r40(R:RnK)(N:Nat)(args:List Value)(h:Hs):An:=unC args λd m=>unC m λn L=>enK h λo=>
 after (λp q=>
 after (λr s=>
 E_d R 57 [r,(.int .i64 (.ofNat 1)),n,(.bool true)] s (λf a=>
 kExtr f 0 (λg=>
 kExtr f 1 (λi=>
 jn (λ(M O P Q:Value)(t:Hs)=>
 clrK h (.tuple #[g,(.int .i64 (.ofNat 0))]) t) λu=>
 kI64 .neq i (.int .i64 (.ofNat 0)) (λj=>
 jn (λ(v w x:Value)(y:Hs)=>
 u j v w x y) λz=>
 cnd j
 (clrK h (.tuple #[(.int .i64 (.ofNat 0)),i]) a)
 (kNil d (λA=>
 kFieldA 1 A (λB=>
 kLoad B a (λC=>
 after (λD b=>
 kNil D (λE=>
 kFieldA 0 E (λF=>
 kLoad F b (λG=>
 kI64 .neq G (.int .i64 (.ofNat 2)) (λl=>
 jn (λ(H I:Value)(J:Hs)=>
 z l H I J) λK=>
 cnd l
 (clrK h (.tuple #[(.int .i64 (.ofNat 0)),(.int .i64 (.ofNat 4))]) b)
 (K (.int .i64 (.ofNat 0)) (.int .i64 (.ofNat 0)) b)))))) (ret1 a (lk1 true a (.pointer none) false g C))))))))))) (oBox 99 (.c p) enE q)) (I_p [(.pointer none),(.int .i64 (.ofNat 0))] [(0,1,.c d)] enE o)
theorem q40:QT 40 r40:=λR N args h=>by kernel_rfl
noncomputable def r41(R:RnK)(N:Nat)(args:List Value)(h:Hs):An:=unC args λn o=>unC o λp q=>unC q λg P=>enK h λr=>
 jn (λ(s Q:Value)(t:Hs)=>
 kI64 .eql s g (λu=>
 clrK h u t)) λv=>
 lpT (T:=Value→Value→Hs→An) (λ_ _ _=>none) N (λw=>
 λ(a S:Value)(i:Hs)=>
 kI64 .neq a g (λb=>
 gdT b i (λx=>x a i) (λy j=>
 gdT b j (λz=>kI64 .neq y (.int .i64 (.ofNat 1)) (λA=>z A j)) (λB C=>
 after (λd l=>
 jn (λ(f:Hs)=>
 jn (λ(D:Value)(E:Hs)=>
 w D d E) λF=>
 kNil n (λG=>
 kFieldA 1 G (λH=>
 kLoad H f (λI=>
 after (λJ m=>
 kNil J (λK=>
 kFieldA 3 K (λL=>
 kLoad L m (λM=>
 F M m)))) (ret1 f (lk1 true f (.pointer none) false a I)))))) λO=>
 cnd d
 (O l)
 (v a d l)) (pickB (.c B) (.c (.bool false)) enE C b))))) p dunno r
theorem q41:QT 41 r41:=λR N args h=>by kernel_rfl
noncomputable def r42(R:RnK)(N:Nat)(args:List Value)(h:Hs):An:=unC args λn o=>unC o λf p=>unC p λg I=>enK h λi=>
 kI64 .eql f (.int .i64 (.ofNat 1)) (λa=>
 gdT a i (λq=>q g i) (λr j=>
 gdT a j (λs=>obK (λt=>s t j) (s2 .eql r (.string ⟨#[108,111,115,116,43,102,111,117,110,100]⟩))) (λu v=>
 after (λw l=>
 jn (λ(J K:Value)(b:Hs)=>
 kNil n (λx=>
 kFieldA 1 x (λy=>
 kLoad y b (λz=>
 after (λA d=>
 kNil A (λB=>
 kFieldA 2 B (λC=>
 kLoad C d (λD=>
 after (λm E=>
 kExtr m 0 (λF=>
 kExtr m 1 (λG=>
 clrK h (.tuple #[F,G]) E))) (ret1 d (lk1 false d (.int .i64 (.ofNat 0)) true g D)))))) (ret1 b (lk1 true b (.pointer none) false f z)))))) λH=>
 cnd w
 (clrK h (.tuple #[(.int .i64 (.ofNat 2)),(.bool true)]) l)
 (H (.int .i64 (.ofNat 0)) (.bool false) l)) (pickB (.c u) (.c (.bool false)) enE v a))))
theorem q42:QT 42 r42:=λR N args h=>by kernel_rfl
noncomputable def r43(R:RnK)(N:Nat)(args:List Value)(h:Hs):An:=unC args λi G=>unC G λH I=>unC I λj b5=>enK h λa=>
 kNil i (λJ=>
 kFieldA 1 J (λK=>
 kLoad K (Hs.mk a.hp a.nx a.nx) (λL=>
 after (λM l=>dPut (λO d=>
 kNil O (λP=>
 kFieldA 0 P (λQ=>
 kLoad Q (R_q .light [true,true,true,true,true,true,true,true] [none,none,some (a.nx,d.nx),none,none,none,none,none] d) (λS=>
 kI64 .eql S (.int .i64 (.ofNat 2)) (λg=>
 kNil i (λU=>
 kFieldA 1 U (λV=>
 kLoad V (R_q .light [true,true,true,false,false,false,false,false,false,false,false,false,false] [none,none,none,none,none,none,none,some (a.nx,d.nx),none,none,none,none,none] d) (λW=>
 after (λX m=>dPut (λY f=>
 kNil Y (λZ=>
 kFieldA 0 Z (λaa=>
 kLoad aa (R_q .light [true,true,true,true,true,true,true,true,false,false,false,false,false,false,false,false,false,false] [none,none,some (d.nx,f.nx),none,none,none,none,none,none,none,none,none,some (a.nx,d.nx),none,none,none,none,none] f) (λab=>
 kI64 .eql ab (.int .i64 (.ofNat 2)) (λb=>
 jn (λ(b6 b7 b8 b9 ca:Value)(ac:Hs)=>
 clrK h (.int .i64 (.ofNat 0)) ac) λad=>
 kI64 .eql j (.int .i64 (.ofNat 2)) (λt=>
 jn (λ(ae af ag ah:Value)(ai:Hs)=>
 ad t ae af ag ah ai) λaj=>
 cnd t
 (clrK h (.int .i64 (.ofNat 12)) f)
 (gdT b f (λak=>ak g f) (λal u=>
 gdT b u (λam=>kNot al (λan=>am an u)) (λao ap=>
 after (λv n=>
 jn (λ(aq ar au:Value)(av:Hs)=>
 aj v aq ar au av) λaw=>
 cnd v
 (clrK h (.int .i64 (.ofNat 5)) n)
 (gdT g n (λax=>ax b n) (λay w=>
 gdT g w (λaz=>kNot ay (λa0=>az a0 w)) (λa1 a2=>
 after (λx o=>
 jn (λ(a3 a4:Value)(a5:Hs)=>
 aw x a3 a4 a5) λa6=>
 cnd x
 (clrK h (.int .i64 (.ofNat 4)) o)
 (gdT b o (λa7=>a7 i o) (λa8 y=>
 gdT b y (λa9=>kNil a8 (λba=>a9 ba y)) (λbb z=>
 gdT b z (λbc=>kFieldA 1 bb (λbd=>bc bd z)) (λbe p=>
 gdT b p (λbf=>kLoad be p (λbg=>bf bg p)) (λbh A=>
 gdT b A (λbi=>bi j A) (λbj q=>
 gdT b q (λbk=>after (bk) (ret1 q (lk1 true q (.pointer none) false bj bh))) (λbl B=>
 gdT b B (λbm=>kNil bl (λbn=>bm bn B)) (λbo C=>
 gdT b C (λbp=>kFieldA 2 bo (λbq=>bp bq C)) (λbr r=>
 gdT b r (λbs=>kLoad br r (λbt=>bs bt r)) (λbu s=>
 gdT b s (λbv=>after (bv) (ret1 s (maplen1 s bu))) (λbw D=>
 gdT b D (λbx=>kI64 .gtr bw (.int .i64 (.ofNat 0)) (λbz=>bx bz D)) (λb0 b1=>
 after (λE F=>
 jn (λ(b2:Value)(b3:Hs)=>
 a6 E b2 b3) λb4=>
 cnd E
 (clrK h (.int .i64 (.ofNat 6)) F)
 (b4 (.int .i64 (.ofNat 0)) F)) (pickB (.c b0) (.c (.bool false)) enE b1 b)))))))))))))) (pickB (.c a1) (.c (.bool false)) enE a2 g))))) (pickB (.c ao) (.c (.bool false)) enE ap b)))))))))) X (F_u d m .light) (andB (dFit d m .light) (Nat.ble 0 m.lo))) (ret1 (R_q .light [true,true,true,true,true,false,false,false,false,false,false,false,false,false,false] [none,none,none,none,none,none,none,none,none,some (a.nx,d.nx),none,none,none,none,none] d) (lk1 true (R_q .light [true,true,true,true,true,false,false,false,false,false,false,false,false,false,false] [none,none,none,none,none,none,none,none,none,some (a.nx,d.nx),none,none,none,none,none] d) (.pointer none) false j W)))))))))) M (F_u a l .light) (andB (dFit a l .light) (Nat.ble 0 l.lo))) (ret1 (Hs.mk a.hp a.nx a.nx) (lk1 true (Hs.mk a.hp a.nx a.nx) (.pointer none) false H L)))))
theorem q43:QT 43 r43:=λR N args h=>by kernel_rfl
noncomputable def r45(R:RnK)(N:Nat)(args:List Value)(h:Hs):An:=unC args λb u=>enK h λa=>
 kNil b (λd=>
 kFieldA 0 d (λf=>
 kLoad f a (λg=>
 kI64 .eql g (.int .i64 (.ofNat 2)) (λi=>
 jn (λ(v:Value)(c:Hs)=>
 kNil b (λj=>
 kFieldA 1 j (λl=>
 kLoad l c (λm=>
 L_o m (λn=>
 clrK h n c))))) λo=>
 cnd i
 (kNil b (λp=>
 kFieldA 2 p (λq=>
 kLoad q a (λr=>
 after (λs t=>
 clrK h s t) (ret1 a (maplen1 a r))))))
 (o (.int .i64 (.ofNat 0)) a)))))
theorem q45:QT 45 r45:=λR N args h=>by kernel_rfl
noncomputable def r46(R:RnK)(N:Nat)(args:List Value)(h:Hs):An:=unC args λF G=>unC G λu H=>unC H λI bs=>enK h λJ=>
 after (λd K=>
 after (λj m=>
 kNil F (λL=>
 kFieldA 1 L (λM=>
 kLoad M m (λO=>
 after (λl g=>
 kFieldA 5 d (λP=>
 kLoad P g (λQ=>
 L_o Q (λS=>
 kI64 .gtr S (.int .i64 (.ofNat 0)) (λU=>
 jn (λ(bt:Value)(v:Hs)=>
 kNil l (λV=>
 kFieldA 1 V (λW=>
 kLoad W v (λX=>
 L_o X (λY=>
 after (λZ aa=>
 after (λbu w=>
 D_4 h (G_p w (resV enE w [.cell (.c j) 7 true]))) (store1 7 aa (A_4 Z) (addrOf j))) (I_p [(.int .i64 (.ofNat 0)),(.int .i64 (.ofNat 0)),(.int .i64 (.ofNat 0)),(.int .i64 (.ofNat 0)),(.int .i64 (.ofNat 0)),(.slice none 0 0),(.slice none 0 0)] [(1,1,.c u),(4,1,.c Y)] enE v)))))) λx=>
 cnd U
 (kFieldA 3 d (λab=>
 kLoad ab g (λac=>
 kI64 .gtr ac (.int .i64 (.ofNat 4096)) (λf=>
 gdF f g (λad=>kFieldA 5 d (λae=>ad ae g)) (λaf n=>
 gdF f n (λag=>kLoad af n (λah=>ag ah n)) (λai y=>
 gdF f y (λaj=>L_o ai (λak=>aj ak y)) (λal z=>
 gdF f z (λam=>kFieldA 3 d (λan=>am an z)) (λao o=>
 gdF f o (λap=>kLoad ao o (λaq=>ap aq o)) (λar A=>
 gdF f A (λau=>kI64 .sub (.int .i64 (.ofNat 4096)) ar (λav=>au av A)) (λaw B=>
 gdF f B (λax=>kI64 .gtr al aw (λay=>ax ay B)) (λaz a0=>
 after (λC D=>
 jn (λ(a:Hs)=>
 kNil l (λa1=>
 kFieldA 1 a1 (λa2=>
 kLoad a2 (Hs.mk a.hp a.nx a.nx) (λa3=>
 L_o a3 (λa4=>
 kFieldA 3 d (λa5=>
 kLoad a5 (Hs.mk a.hp a.nx a.nx) (λa6=>
 kFieldA 5 d (λa7=>
 kLoad a7 (Hs.mk a.hp a.nx a.nx) (λa8=>
 L_o a8 (λa9=>
 kI64 .add a6 a9 (λba=>
 after (λbb p=>dPut (λbc q=>
 E_d R 47 [l,bc] q (λbd r=>dPut (λbv b=>
 kNil l (λbe=>
 kFieldA 1 be (λbf=>
 kLoad bf (Hs.mk b.hp b.nx b.nx) (λbg=>
 kFieldA 3 d (λbh=>
 kLoad bh (Hs.mk b.hp b.nx b.nx) (λbi=>
 after (λbj s=>dPut (λbk i=>
 kFieldA 5 d (λbl=>
 kLoad bl (R_q .light [true,false,false,false,false,false,false,false] [none,some (b.nx,i.nx),none,none,none,none,none,none] i) (λbm=>
 after (λbn t=>dPut (λbw bo=>
 x C bo) bn (F_u i t .bar) (andB (dFit i t .bar) (Nat.ble 0 t.lo))) (copy0 1 i bk bm)))) bj (F_u b s .light) (andB (dFit b s .light) (Nat.ble 0 s.lo))) (L_2 1 (.c bg) (some (.c bi)) none none enE (Hs.mk b.hp b.nx b.nx)))))))) bd (F_u q r .bar) (andB (dFit q r .bar) (Nat.ble 0 r.lo)))) bb (F_u a p .blind) (andB (dFit a p .blind) (Nat.ble 0 p.lo))) (O_l true [.c a4,.c ba] enE (Hs.mk .e a.nx a.nx))))))))))))) λbp=>
 cnd C
 (E_d R 17 [(.int .i64 (.ofNat 9))] D (λbq br=>
 after (λbx E=>
 D_4 h (G_p E (resV enE E [.cell (.c j) 7 true]))) (store1 7 br (A_4 bq) (addrOf j))))
 (bp D)) (pickB (.c (.bool true)) (.c az) enE a0 f))))))))))))
 (x dunno g)))))) (ret1 m (lk1 true m (.pointer none) false u O)))))) (L_0 34 [(.int .i64 (.ofNat 0)),(.int .i64 (.ofNat 0)),(.int .i64 (.ofNat 0)),(.int .i64 (.ofNat 0)),(.int .i64 (.ofNat 0)),(.slice none 0 0),(.slice none 0 0)] enE K)) (oBox 29 (.c I) enE J)
theorem q46:QT 46 r46:=λR N args h=>by kernel_rfl
noncomputable def r47(R:RnK)(N:Nat)(args:List Value)(h:Hs):An:=unC args λa f=>unC f λb q=>enK h λg=>
 after (λc d=>
 kNil a (λi=>
 kFieldA 1 i (λj=>
 kLoad j d (λl=>
 after (λr m=>
 kNil a (λn=>
 kFieldA 1 n (λo=>
 H_l o c m (λs p=>
 clrK h (.tuple #[]) p)))) (copy0 1 d c l))))) (mkslice1 5 1 1 [(.int .u8 (.ofNat 0))] g (J_4 b) (J_4 b))
theorem q47:QT 47 r47:=λR N args h=>by kernel_rfl
noncomputable def r54(R:RnK)(N:Nat)(args:List Value)(h:Hs):An:=unC args λl m=>unC m λn o=>unC o λa p=>unC p λq D=>enK h λr=>
 E_d R 55 [a] r (λb d=>
 kExtr b 0 (λs=>
 kExtr b 1 (λf=>
 kI64 .neq f (.int .i64 (.ofNat 0)) (λt=>
 jn (λ(E F:Value)(u:Hs)=>
 after (λv g=>
 kU8 .eql v (.int .u8 (.ofNat 47)) (λw=>
 jn (λ(x:Value)(y:Hs)=>
 E_d R 57 [l,x,s,q] y (λi z=>
 kExtr i 0 (λA=>
 kExtr i 1 (λB=>
 clrK h (.tuple #[A,B]) z)))) λj=>
 cnd w
 (j (.int .i64 (.ofNat 1)) g)
 (j n g))) (e_d (.c a) (.c (.int .i64 (.ofNat 0))) enE u)) λC=>
 cnd t
 (clrK h (.tuple #[(.int .i64 (.ofNat 0)),f]) d)
 (C (.int .i64 (.ofNat 0)) (.int .i64 (.ofNat 0)) d)))))
theorem q54:QT 54 r54:=λR N args h=>by kernel_rfl
noncomputable def r55(R:RnK)(N:Nat)(args:List Value)(h:Hs):An:=unC args λf bi=>enK h λg=>
 jn (λ(bj bk C D:Value)(E:Hs)=>
 E_d R 63 [f,(.string ⟨#[47]⟩)] E (λp F=>
 L_o p (λG=>
 jn (λ(bl bm bn bo bp H bq br:Value)(I:Hs)=>
 clrK h (.tuple #[H,(.int .i64 (.ofNat 0))]) I) λJ=>
 lpT (T:=Value→Value→Value→Value→Value→Value→Value→Value→Hs→An) (λ_ _ _ _ _ _ _ _ _=>none) N (λK=>
 λ(b bs L M q i j l:Value)(r:Hs)=>
 kI64 .lss b G (λm=>
 jn (λ(n:Hs)=>
 jn (λ(O P Q S U V:Value)(W:Hs)=>
 kI64 .add b (.int .i64 (.ofNat 1)) (λX=>
 K X m O P Q S U V W)) λY=>
 L_x 1 p b (λZ=>
 kLoad Z n (λa=>
 jn (λ(aa ab ac ad ae:Value)(af:Hs)=>
 Y a aa ab ac ad ae af) λag=>
 obK (λs=>
 jn (λ(t:Value)(o:Hs)=>
 jn (λ(ah ai aj ak:Value)(al:Hs)=>
 ag t ah ai aj ak al) λu=>
 cnd t
 (u q i j l o)
 (obK (λd=>
 gdT d o (λam=>am a o) (λan v=>
 gdT d v (λao=>E_d R 64 [an] v (ao)) (λap w=>
 gdT d w (λaq=>kNot ap (λar=>aq ar w)) (λau av=>
 after (λx y=>
 jn (λ(aw ax ay:Value)(az:Hs)=>
 u x aw ax ay az) λa0=>
 cnd x
 (clrK h (.tuple #[(.slice none 0 0),(.int .i64 (.ofNat 8))]) y)
 (after (λa1 a2=>
 after (λa3 a4=>
 a0 a3 j l a4) (app0 9 1 16 a2 i a1)) (M_d 9 1 1 [(.string ⟨#[]⟩)] [(0,1,.c a)] enE y))) (pickB (.c au) (.c (.bool false)) enE av d))))) (s2 .neq a (.string ⟨#[46,46]⟩)))) λz=>
 cnd s
 (z s n)
 (obK (λa5=>
 z a5 n) (s2 .eql a (.string ⟨#[46]⟩)))) (s2 .eql a (.string ⟨#[]⟩))))) λa6=>
 cnd m
 (a6 r)
 (J b m L M q i j l r))) (.int .i64 (.ofNat 0)) dunno dunno dunno dunno (.slice none 0 0) C D F))) λa7=>
 obK (λA=>
 jn (λ(a8 a9 ba:Value)(bb:Hs)=>
 a7 A a8 a9 ba bb) λbc=>
 cnd A
 (clrK h (.tuple #[(.slice none 0 0),(.int .i64 (.ofNat 1))]) g)
 (Q_v f (λbd=>
 kI64 .gtr bd (.int .i64 (.ofNat 400)) (λB=>
 jn (λ(be bf:Value)(bg:Hs)=>
 bc B be bf bg) λbh=>
 cnd B
 (clrK h (.tuple #[(.slice none 0 0),(.int .i64 (.ofNat 8))]) g)
 (bh (.slice none 0 0) (.int .i64 (.ofNat 0)) g))))) (s2 .eql f (.string ⟨#[]⟩))
theorem q55:QT 55 r55:=λR N args h=>by kernel_rfl
noncomputable def r56(R:RnK)(N:Nat)(args:List Value)(h:Hs):An:=unC args λa b=>unC b λc i=>enK h λd=>
 E_d R 65 [a,c] d (λf g=>
 clrK h f g)
theorem q56:QT 56 r56:=λR N args h=>by kernel_rfl
noncomputable def r57(R:RnK)(N:Nat)(args:List Value)(h:Hs):An:=unC args λa X=>unC X λY Z=>unC Z λi aa=>unC aa λab cu=>enK h λac=>
 L_o i (λad=>
 jn (λ(cv cw ae cx cy cz c0 c1 c2 c3 c4 c5 c6 c7:Value)(af:Hs)=>
 clrK h (.tuple #[ae,(.int .i64 (.ofNat 0))]) af) λag=>
 lpT (T:=Value→Value→Value→Value→Value→Value→Value→Value→Value→Value→Value→Value→Value→Value→Hs→An) (λ_ _ _ _ _ _ _ _ _ _ _ _ _ _ _=>none) N (λah=>
 λ(b c8 j ai aj ak al am an ao t u v w:Value)(x:Hs)=>
 kI64 .lss b ad (λl=>
 jn (λ(y:Hs)=>
 jn (λ(ap aq ar au av aw ax ay az a0 a1 a2:Value)(a3:Hs)=>
 kI64 .add b (.int .i64 (.ofNat 1)) (λa4=>
 ah a4 l ap aq ar au av aw ax ay az a0 a1 a2 a3)) λa5=>
 L_x 1 i b (λa6=>
 kLoad a6 y (λz=>
 E_d R 66 [a,j,z] y (λA B=>
 kExtr A 0 (λC=>
 kExtr A 1 (λm=>
 kI64 .neq m (.int .i64 (.ofNat 0)) (λD=>
 jn (λ(E F:Value)(f:Hs)=>
 kNil a (λa7=>
 kFieldA 0 a7 (λa8=>
 kLoad a8 f (λa9=>
 kNil a9 (λba=>
 kFieldA 1 ba (λbb=>
 kLoad bb f (λbc=>
 after (λn o=>
 kNil n (λbd=>
 kFieldA 0 bd (λbe=>
 kLoad be o (λbf=>
 kI64 .eql bf (.int .i64 (.ofNat 3)) (λg=>
 gdT g o (λbg=>bg ab o) (λbh G=>
 gdT g G (λbi=>bi bh G) (λd H=>
 gdF d H (λbj=>bj b H) (λbk I=>
 gdF d I (λbl=>bl i I) (λbm J=>
 gdF d J (λbn=>L_o bm (λbo=>bn bo J)) (λbp K=>
 gdF d K (λbq=>kI64 .sub bp (.int .i64 (.ofNat 1)) (λbr=>bq br K)) (λbs L=>
 gdF d L (λbt=>kI64 .lss bk bs (λbu=>bt bu L)) (λbv M=>
 gdT g M (λbw=>after (bw) (pickB (.c (.bool true)) (.c bv) enE M d)) (λbx bz=>
 after (λO p=>
 jn (λ(b0 P b1 b2 b3 b4:Value)(b5:Hs)=>
 a5 P z b0 D P n b O b1 b2 b3 b4 b5) λQ=>
 cnd O
 (kNil a (λb6=>
 kFieldA 1 b6 (λb7=>
 kLoad b7 p (λb8=>
 kI64 .add b8 (.int .i64 (.ofNat 1)) (λb9=>
 kNil a (λca=>
 kFieldA 1 ca (λcb=>
 H_l cb b9 p (λc9 q=>
 kNil a (λcc=>
 kFieldA 1 cc (λcd=>
 kLoad cd q (λce=>
 kI64 .gtr ce (.int .i64 (.ofNat 8)) (λS=>
 jn (λ(cf cg:Value)(r:Hs)=>
 kNil n (λch=>
 kFieldA 1 ch (λci=>
 kLoad ci r (λcj=>
 after (λck cl=>
 E_d R 54 [a,j,ck,(.bool true)] cl (λU V=>
 kExtr U 0 (λcm=>
 kExtr U 1 (λs=>
 kI64 .neq s (.int .i64 (.ofNat 0)) (λW=>
 jn (λ(cn co:Value)(cp:Hs)=>
 Q s cm S W cn co cp) λcq=>
 cnd W
 (clrK h (.tuple #[(.int .i64 (.ofNat 0)),s]) V)
 (cq cf cg V)))))) (ret1 r (S_h r cj)))))) λcr=>
 cnd S
 (clrK h (.tuple #[(.int .i64 (.ofNat 0)),(.int .i64 (.ofNat 11))]) q)
 (cr E F q)))))))))))))
 (Q m C t u E F p)) (pickB (.c bx) (.c (.bool false)) enE bz g)))))))))))))) (ret1 f (lk1 true f (.pointer none) false C bc))))))))) λcs=>
 cnd D
 (clrK h (.tuple #[(.int .i64 (.ofNat 0)),m]) B)
 (cs v w B)))))))) λct=>
 cnd l
 (ct x)
 (ag b l j ai aj ak al am an ao t u v w x))) (.int .i64 (.ofNat 0)) dunno Y dunno dunno dunno dunno dunno dunno dunno dunno dunno (.int .i64 (.ofNat 0)) (.int .i64 (.ofNat 0)) ac)
theorem q57:QT 57 r57:=λR N args h=>by kernel_rfl
noncomputable def r63(R:RnK)(N:Nat)(args:List Value)(h:Hs):An:=unC args λa b=>unC b λc i=>enK h λd=>
 E_d R 87 [a,c,(.int .i64 (.ofNat 0)),(.int .i64 (.negSucc 0))] d (λf g=>
 clrK h f g)
theorem q63:QT 63 r63:=λR N args h=>by kernel_rfl
noncomputable def r64(R:RnK)(N:Nat)(args:List Value)(h:Hs):An:=unC args λa an=>enK h λj=>
 obK (λb=>
 gdT b j (λx=>x a j) (λy l=>
 gdT b l (λz=>Q_v y (λA=>z A l)) (λB m=>
 gdT b m (λC=>kI64 .leq B (.int .i64 (.ofNat 40)) (λD=>C D m)) (λE F=>
 after (λg n=>
 gdT g n (λG=>G a n) (λH o=>
 gdT g o (λI=>obK (λJ=>I J o) (s2 .neq H (.string ⟨#[46]⟩))) (λK L=>
 after (λi p=>
 gdT i p (λM=>M a p) (λO q=>
 gdT i q (λP=>obK (λQ=>P Q q) (s2 .neq O (.string ⟨#[46,46]⟩))) (λS U=>
 after (λd r=>
 gdT d r (λV=>V a r) (λW s=>
 gdT d s (λX=>E_d R 88 [W,(.string ⟨#[47]⟩)] s (X)) (λY t=>
 gdT d t (λZ=>kNot Y (λaa=>Z aa t)) (λab ac=>
 after (λf u=>
 gdT f u (λad=>ad a u) (λae v=>
 gdT f v (λaf=>E_d R 88 [ae,(.string ⟨#[0]⟩)] v (af)) (λag w=>
 gdT f w (λah=>kNot ag (λai=>ah ai w)) (λaj ak=>
 after (λal am=>
 clrK h al am) (pickB (.c aj) (.c (.bool false)) enE ak f))))) (pickB (.c ab) (.c (.bool false)) enE ac d))))) (pickB (.c S) (.c (.bool false)) enE U i)))) (pickB (.c K) (.c (.bool false)) enE L g)))) (pickB (.c E) (.c (.bool false)) enE F b))))) (s2 .neq a (.string ⟨#[]⟩))
theorem q64:QT 64 r64:=λR N args h=>by kernel_rfl
noncomputable def r65(R:RnK)(N:Nat)(args:List Value)(h:Hs):An:=unC args λb q=>unC q λd V=>enK h λf=>
 Q_v b (λr=>
 Q_v d (λs=>
 kI64 .geq r s (λa=>
 gdT a f (λt=>t b f) (λu g=>
 gdT a g (λv=>v b g) (λw i=>
 gdT a i (λx=>Q_v w (λy=>x y i)) (λz j=>
 gdT a j (λA=>A d j) (λB l=>
 gdT a l (λC=>Q_v B (λD=>C D l)) (λE m=>
 gdT a m (λF=>kI64 .sub z E (λG=>F G m)) (λH n=>
 gdT a n (λI=>after (I) (Q_t (.c u) (some (.c H)) none enE n)) (λJ o=>
 gdT a o (λK=>K d o) (λL p=>
 gdT a p (λM=>obK (λO=>M O p) (s2 .eql J L)) (λP Q=>
 after (λS U=>
 clrK h S U) (pickB (.c P) (.c (.bool false)) enE Q a)))))))))))))
theorem q65:QT 65 r65:=λR N args h=>by kernel_rfl
noncomputable def r66(R:RnK)(N:Nat)(args:List Value)(h:Hs):An:=unC args λc o=>unC o λd p=>unC p λf Z=>enK h λb=>
 kNil c (λq=>
 kFieldA 0 q (λr=>
 kLoad r b (λs=>
 kNil s (λt=>
 kFieldA 1 t (λu=>
 kLoad u b (λv=>
 after (λg a=>
 jn (λ(aa ab w x:Value)(i:Hs)=>
 kNil c (λy=>
 kFieldA 0 y (λz=>
 kLoad z i (λA=>
 E_d R 42 [A,d,f] i (λj l=>
 kExtr j 0 (λB=>
 kExtr j 1 (λC=>
 kNot C (λD=>
 jn (λ(ac ad:Value)(E:Hs)=>
 clrK h (.tuple #[B,(.int .i64 (.ofNat 0))]) E) λF=>
 cnd D
 (clrK h (.tuple #[(.int .i64 (.ofNat 0)),(.int .i64 (.ofNat 2))]) l)
 (F w x l))))))))) λG=>
 kNil g (λH=>
 kFieldA 0 H (λI=>
 kLoad I a (λJ=>
 kI64 .neq J (.int .i64 (.ofNat 2)) (λm=>
 jn (λ(K L M:Value)(O:Hs)=>
 G m K L M O) λP=>
 cnd m
 (clrK h (.tuple #[(.int .i64 (.ofNat 0)),(.int .i64 (.ofNat 4))]) a)
 (obK (λn=>
 jn (λ(Q S:Value)(U:Hs)=>
 P n Q S U) λV=>
 cnd n
 (kNil g (λW=>
 kFieldA 3 W (λX=>
 kLoad X a (λY=>
 clrK h (.tuple #[Y,(.int .i64 (.ofNat 0))]) a))))
 (V (.int .i64 (.ofNat 0)) (.int .i64 (.ofNat 0)) a)) (s2 .eql f (.string ⟨#[46,46]⟩)))))))) (ret1 b (lk1 true b (.pointer none) false d v))))))))
theorem q66:QT 66 r66:=λR N args h=>by kernel_rfl
noncomputable def r87(R:RnK)(N:Nat)(args:List Value)(h:Hs):An:=unC args λf w=>unC w λg x=>unC x λy z=>unC z λi a1=>enK h λo=>
 kI64 .eql i (.int .i64 (.ofNat 0)) (λA=>
 jn (λ(B:Value)(p:Hs)=>
 obK (λC=>
 jn (λ(a2:Value)(q:Hs)=>
 kI64 .lss i (.int .i64 (.ofNat 0)) (λD=>
 jn (λ(E:Value)(F:Hs)=>
 Q_v f (λG=>
 kI64 .add G (.int .i64 (.ofNat 1)) (λH=>
 after (λl I=>
 after (λm J=>
 kI64 .sub l (.int .i64 (.ofNat 1)) (λK=>
 jn (λ(L r a3 a4 a5:Value)(M:Hs)=>
 L_x 1 m r (λO=>
 H_l O L M (λa6 P=>
 kI64 .add r (.int .i64 (.ofNat 1)) (λQ=>
 after (λS U=>
 clrK h S U) (L_2 1 (.c m) none (some (.c Q)) none enE P))))) λs=>
 lpT (T:=Value→Value→Value→Value→Value→Hs→An) (λ_ _ _ _ _ _=>none) N (λV=>
 λ(a b a7 W X:Value)(t:Hs)=>
 kI64 .lss b K (λj=>
 jn (λ(Y:Hs)=>
 jn (λ(Z aa ab ac:Value)(ad:Hs)=>
 V Z aa j ab ac ad) λae=>
 E_d R 101 [a,g] Y (λd u=>
 kI64 .lss d (.int .i64 (.ofNat 0)) (λn=>
 jn (λ(af:Hs)=>
 kI64 .add d y (λag=>
 after (λah ai=>
 L_x 1 m b (λaj=>
 H_l aj ah ai (λa8 ak=>
 Q_v g (λal=>
 kI64 .add d al (λam=>
 after (λan ao=>
 kI64 .add b (.int .i64 (.ofNat 1)) (λap=>
 ae an ap d n ao)) (Q_t (.c a) (some (.c am)) none enE ak)))))) (Q_t (.c a) none (some (.c ag)) enE af))) λaq=>
 cnd n
 (s a b j d n u)
 (aq u)))) λar=>
 cnd j
 (ar t)
 (s a b j W X t))) f (.int .i64 (.ofNat 0)) dunno dunno dunno J)) (mkslice1 9 1 16 [(.string ⟨#[]⟩)] I (J_4 l) (J_4 l))) (O_l false [.c E,.c H] enE F)))) λv=>
 cnd D
 (E_d R 100 [f,g] q (λau av=>
 kI64 .add au (.int .i64 (.ofNat 1)) (λaw=>
 v aw av)))
 (v i q))) λax=>
 cnd C
 (E_d R 99 [f,i] p (λay az=>
 clrK h ay az))
 (ax B p)) (s2 .eql g (.string ⟨#[]⟩))) λa0=>
 cnd A
 (clrK h (.slice none 0 0) o)
 (a0 (.slice none 0 0) o))
theorem q87:QT 87 r87:=λR N args h=>by kernel_rfl
noncomputable def r88(R:RnK)(N:Nat)(args:List Value)(h:Hs):An:=unC args λa b=>unC b λc j=>enK h λd=>
 E_d R 101 [a,c] d (λf g=>
 kI64 .geq f (.int .i64 (.ofNat 0)) (λi=>
 clrK h i g))
theorem q88:QT 88 r88:=λR N args h=>by kernel_rfl
noncomputable def r100(R:RnK)(N:Nat)(args:List Value)(h:Hs):An:=unC args λb n=>unC n λa ab=>enK h λf=>
 Q_v a (λo=>
 kI64 .eql o (.int .i64 (.ofNat 0)) (λp=>
 jn (λ(q:Value)(g:Hs)=>
 Q_v a (λr=>
 kI64 .eql r (.int .i64 (.ofNat 1)) (λs=>
 jn (λ(t:Value)(u:Hs)=>
 jn (λ(ac ad ae af v:Value)(w:Hs)=>
 clrK h v w) λag=>
 lpT (T:=Value→Value→Value→Value→Value→Hs→An) (λ_ _ _ _ _ _=>none) N (λx=>
 λ(i ah ai j y:Value)(z:Hs)=>
 jn (λ(A B C D E:Value)(F:Hs)=>
 x A B C D E F) λG=>
 E_d R 101 [i,a] z (λd l=>
 kI64 .eql d (.int .i64 (.negSucc 0)) (λm=>
 jn (λ(H:Value)(I:Hs)=>
 kI64 .add j (.int .i64 (.ofNat 1)) (λJ=>
 Q_v a (λK=>
 kI64 .add d K (λL=>
 after (λM O=>
 G M d m J H O) (Q_t (.c i) (some (.c L)) none enE I))))) λP=>
 cnd m
 (clrK h j l)
 (P y l)))) b dunno dunno (.int .i64 (.ofNat 0)) t u) λQ=>
 cnd s
 (after (λS U=>
 after (λV W=>
 clrK h V W) (ret1 U (AB4 b S))) (e_d (.c a) (.c (.int .i64 (.ofNat 0))) enE g))
 (Q q g)))) λX=>
 cnd p
 (E_d R 104 [b] f (λY Z=>
 kI64 .add Y (.int .i64 (.ofNat 1)) (λaa=>
 clrK h aa Z)))
 (X (.int .i64 (.ofNat 0)) f)))
theorem q100:QT 100 r100:=λR N args h=>by kernel_rfl
noncomputable def r101(R:RnK)(N:Nat)(args:List Value)(h:Hs):An:=unC args λa b=>unC b λc i=>enK h λd=>
 E_d R 107 [a,c] d (λf g=>
 clrK h f g)
theorem q101:QT 101 r101:=λR N args h=>by kernel_rfl
noncomputable def r107(R:RnK)(N:Nat)(args:List Value)(h:Hs):An:=unC args λb P=>unC P λd cu=>enK h λp=>
 Q_v d (λg=>
 jn (λ(cv cw cx cy Q:Value)(S:Hs)=>
 after (λq U=>
 after (λV W=>
 Q_v b (λX=>
 kI64 .sub X g (λY=>
 kI64 .add Y (.int .i64 (.ofNat 1)) (λr=>
 jn (λ(cz c0 c1 c2 c3 c4 c5 c6 c7 c8 c9 da db dc:Value)(Z:Hs)=>
 clrK h (.int .i64 (.negSucc 0)) Z) λaa=>
 lpT (T:=Value→Value→Value→Value→Value→Value→Value→Value→Value→Value→Value→Value→Value→Value→Hs→An) (λ_ _ _ _ _ _ _ _ _ _ _ _ _ _ _=>none) N (λab=>
 λ(f dd ac s t ad u ae af ag ah ai aj l:Value)(v:Hs)=>
 kI64 .lss f r (λm=>
 jn (λ(ak:Hs)=>
 jn (λ(al am an ao ap aq ar au av aw ax ay az:Value)(a0:Hs)=>
 ab al m am an ao ap aq ar au av aw ax ay az a0) λde=>
 after (λa1 w=>
 kU8 .neq a1 q (λa2=>
 jn (λ(i df dg a3:Value)(a4:Hs)=>
 kI64 .add i (.int .i64 (.ofNat 1)) (λa5=>
 after (λa6 x=>
 kU8 .eql a6 V (λa=>
 gdT a x (λa7=>a7 b x) (λa8 y=>
 gdT a y (λa9=>a9 i y) (λba z=>
 gdT a z (λbb=>bb i z) (λbc A=>
 gdT a A (λbd=>bd g A) (λbe B=>
 gdT a B (λbf=>kI64 .add bc be (λbg=>bf bg B)) (λbh C=>
 gdT a C (λbi=>after (bi) (Q_t (.c a8) (some (.c ba)) (some (.c bh)) enE C)) (λbj D=>
 gdT a D (λbk=>bk d D) (λbl E=>
 gdT a E (λbm=>obK (λbn=>bm bn E) (s2 .eql bj bl)) (λbo bp=>
 after (λbq F=>
 jn (λ(dh:Value)(di:Hs)=>
 kI64 .add i (.int .i64 (.ofNat 1)) (λdj=>
 kI64 .add u (.int .i64 (.ofNat 1)) (λdk=>
 none))) λbr=>
 cnd bq
 (clrK h i F)
 (br a3 F)) (pickB (.c bo) (.c (.bool false)) enE bp a))))))))))) (e_d (.c b) (.c a5) enE a4))) λG=>
 cnd a2
 (kI64 .add f (.int .i64 (.ofNat 1)) (λbs=>
 after (λbt bu=>
 E_d R 109 [bt,q] bu (λn H=>
 kI64 .lss n (.int .i64 (.ofNat 0)) (λI=>
 jn (λ(bv:Value)(bw:Hs)=>
 kI64 .add n (.int .i64 (.ofNat 1)) (λbx=>
 kI64 .add f bx (λbz=>
 G bz n I bv bw))) λb0=>
 cnd I
 (clrK h (.int .i64 (.negSucc 0)) H)
 (b0 l H)))) (Q_t (.c b) (some (.c bs)) (some (.c r)) enE w)))
 (G f s t l w))) (e_d (.c b) (.c f) enE ak)) λb1=>
 cnd m
 (b1 v)
 (aa f m ac s t ad u ae af ag ah ai aj l v))) (.int .i64 (.ofNat 0)) dunno dunno dunno dunno dunno (.int .i64 (.ofNat 0)) dunno dunno dunno dunno dunno dunno Q W)))) (e_d (.c d) (.c (.int .i64 (.ofNat 1))) enE U)) (e_d (.c d) (.c (.int .i64 (.ofNat 0))) enE S)) λb2=>
 kI64 .eql g (.int .i64 (.ofNat 0)) (λj=>
 gdF j p (λb3=>b3 d p) (λb4 J=>
 gdF j J (λb5=>b5 b J) (λb6 K=>
 gdF j K (λb7=>obK (λb8=>b7 b8 K) (s2 .eql b4 b6)) (λb9 ca=>
 after (λL o=>
 jn (λ(cb cc cd ce:Value)(cf:Hs)=>
 b2 L cb cc cd ce cf) λcg=>
 cnd L
 (clrK h (.int .i64 (.ofNat 0)) o)
 (kI64 .eql g (.int .i64 (.ofNat 1)) (λM=>
 jn (λ(ch ci cj:Value)(ck:Hs)=>
 cg M ch ci cj ck) λcl=>
 cnd M
 (after (λcm cn=>
 E_d R 109 [b,cm] cn (λco cp=>
 clrK h co cp)) (e_d (.c d) (.c (.int .i64 (.ofNat 0))) enE o))
 (Q_v b (λcq=>
 kI64 .geq g cq (λO=>
 jn (λ(cr cs:Value)(ct:Hs)=>
 cl O cr cs ct) λdl=>
 cnd O
 (clrK h (.int .i64 (.negSucc 0)) o)
 (none))))))) (pickB (.c (.bool true)) (.c b9) enE ca j))))))
theorem q107:QT 107 r107:=λR N args h=>by kernel_rfl
noncomputable def r109(R:RnK)(N:Nat)(args:List Value)(h:Hs):An:=unC args λa b=>unC b λc i=>enK h λd=>
 after (λf g=>
 clrK h f g) (ret1 d (v_7 a c))
theorem q109:QT 109 r109:=λR N args h=>by kernel_rfl
noncomputable def entries:List (Nat × FnK):=[(5,r5),(7,r7),(8,r8),(10,r10),(11,r11),(12,r12),(14,r14),(16,r16),(17,r17),(18,r18),(19,r19),(20,r20),(21,r21),(22,r22),(23,r23),(24,r24),(25,r25),(26,r26),(27,r27),(29,r29),(31,r31),(33,r33),(34,r34),(35,r35),(36,r36),(37,r37),(38,r38),(39,r39),(40,r40),(41,r41),(42,r42),(43,r43),(45,r45),(46,r46),(47,r47),(54,r54),(55,r55),(56,r56),(57,r57),(63,r63),(64,r64),(65,r65),(66,r66),(87,r87),(88,r88),(100,r100),(101,r101),(107,r107),(109,r109)]
theorem e_6:AllOk Tryz.prog entries:=⟨q5,q7,q8,q10,q11,q12,q14,q16,q17,q18,q19,q20,q21,q22,q23,q24,q25,q26,q27,q29,q31,q33,q34,q35,q36,q37,q38,q39,q40,q41,q42,q43,q45,q46,q47,q54,q55,q56,q57,q63,q64,q65,q66,q87,q88,q100,q101,q107,q109,trivial⟩
end Go.Proofs.YtnbnmojckhcdeaaGreatDoor.treeMoves
