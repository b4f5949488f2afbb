/- The functions that 'ImageMakes' reaches, in the fast evaluator's form, each held against the program's own text by the kernel. Written by a program. -/
import Derived.Test.YtdgcebfncbmbfaaGreatDoorGevKM
import Derived.Test.YtdgcebfncbmbfaaGreatDoorProg
import Derived.KernelRfl
namespace Go.Proofs.YtdgcebfncbmbfaaGreatDoor.imageMakes
open Go.Gev
set_option linter.unusedVariables false
noncomputable def r3 (R : RnK) (N : Nat) (args : List Value) (h : Hs) : An := unC args fun P b7 => enK h fun Q =>
 after (fun d S =>
 A_h R 4 [] S (fun U o =>
 kNot U (fun V =>
 jn (fun (W : Value) (p : Hs) =>
 A_g 4 d p (fun X =>
 A_h R 5 [X] p (fun q r =>
 A_7 q 0 (fun g =>
 A_7 q 1 (fun s =>
 A_g 4 d r (fun Y =>
 A_h R 6 [Y] r (fun Z i =>
 kNot Z (fun aa =>
 jn (fun (ab : Value) (ac : Hs) =>
 A_h R 7 [g] ac (fun t ad =>
 A_7 t 0 (fun ae =>
 A_7 t 1 (fun af =>
 after (fun u ag =>
 after (fun b8 v =>
 kI64 .neq s (.int .i64 (.ofNat 0)) (fun j =>
 gdF j v (fun ah => ah af v) (fun ai w =>
 gdF j w (fun aj => kI64 .neq ai (.int .i64 (.ofNat 0)) (fun ak => aj ak w)) (fun al am =>
 after (fun a x =>
 gdF a x (fun an => an g x) (fun ao l =>
 gdF a l (fun ap => A_g 4 d l (fun aq => ap aq l)) (fun ar y =>
 gdF a y (fun au => A_h R 10 [ar] y (au)) (fun av z =>
 gdF a z (fun aw => A_h R 9 [av] z (aw)) (fun ax A =>
 gdF a A (fun ay => A_h R 8 [ao, ax] A (ay)) (fun az B =>
 gdF a B (fun a0 => kNot az (fun a1 => a0 a1 B)) (fun a2 a3 =>
 after (fun a4 C =>
 jn (fun (b9 : Value) (D : Hs) =>
 A_g 5 u D (fun a5 =>
 A_h R 11 [a5] D (fun E F =>
 A_7 E 0 (fun G =>
 A_7 E 1 (fun a6 =>
 kI64 .eql a6 (.int .i64 (.ofNat 0)) (fun m =>
 gdT m F (fun a7 => a7 G F) (fun a8 H =>
 gdT m H (fun a9 => obK (fun ba => a9 ba H) (e2 true qP a8 (.pointer none))) (fun bb bc =>
 after (fun b I =>
 gdT b I (fun bd => bd G I) (fun be J =>
 gdT b J (fun bf => A_a 1 d (fun bg => bf bg J)) (fun bh n =>
 gdT b n (fun bi => A_d bh n (fun bj => bi bj n)) (fun bk K =>
 gdT b K (fun bl => A_h R 13 [bk] K (bl)) (fun bm L =>
 gdT b L (fun bn => A_h R 12 [be, bm] L (bn)) (fun bo bp =>
 after (fun bq br =>
 clrK h bq br) (A_y (.c bo) (.c (.bool false)) enE bp b))))))) (A_y (.c bb) (.c (.bool false)) enE bc m))))))))) fun bs =>
 cnd a4
 (clrK h (.bool false) C)
 (bs ab C)) (A_y (.c (.bool true)) (.c a2) enE a3 a)))))))) (A_y (.c (.bool true)) (.c al) enE am j))))) (store1 5 ag (A_b ae) (addrOf u))) (B_h 31 [(.int .i64 (.ofNat 0)), (.int .i64 (.ofNat 0)), (.int .i64 (.ofNat 0)), (.int .i64 (.ofNat 0)), (.slice none 0 0)] enE ad))))) fun bt =>
 cnd aa
 (kI64 .eql s (.int .i64 (.ofNat 1)) (fun f =>
 gdT f i (fun bu => bu g i) (fun bv M =>
 gdT f M (fun bw => B_v bv (fun bx => bw bx M)) (fun bz O =>
 gdT f O (fun b0 => kI64 .eql bz (.int .i64 (.ofNat 0)) (fun b1 => b0 b1 O)) (fun b2 b3 =>
 after (fun b4 b5 =>
 clrK h b4 b5) (A_y (.c b2) (.c (.bool false)) enE b3 f))))))
 (bt W i))))))))) fun b6 =>
 cnd V
 (clrK h (.bool false) o)
 (b6 (.bool false) o)))) (oBox 23 (.c P) enE Q)
theorem q3 (R : RnK) (N : Nat) (args : List Value) (h : Hs) : r3 R N args h = A_x Tryz.prog N R 3 args h := by kernel_rfl
noncomputable def r5 (R : RnK) (N : Nat) (args : List Value) (h : Hs) : An := unC args fun Y ct => enK h fun Z =>
 after (fun a u =>
 A_g 4 a u (fun aa =>
 A_h R 6 [aa] u (fun ab v =>
 kNot ab (fun ac =>
 jn (fun (cu cv : Value) (w : Hs) =>
 A_a 0 a (fun ad =>
 A_d ad w (fun ae =>
 kI64 .mul (.int .i64 (.ofNat 8)) ae (fun x =>
 after (fun af ag =>
 after (fun l ah =>
 B_f l af ah (fun cw ai =>
 after (fun i y =>
 A_g 4 a y (fun aj =>
 A_h R 17 [aj] y (fun z A =>
 A_7 z 0 (fun ak =>
 A_7 z 1 (fun B =>
 A_g 4 a A (fun al =>
 after (fun am an =>
 A_h R 18 [am] an (fun ao ap =>
 I_o R i [(.int .i64 (.ofNat 0)), ao] ap (fun cx b =>
 A_g 4 a (Hs.mk b.hp b.nx b.nx) (fun aq =>
 A_h R 19 [aq] (Hs.mk b.hp b.nx b.nx) (fun ar m => dPut (fun au f =>
 A_g 4 a (E_r .light [false, false, false] [some (b.nx, f.nx), none, none] f) (fun av =>
 after (fun aw n => dPut (fun ax o =>
 A_h R 18 [ax] o (fun ay p => dPut (fun az q =>
 F_n (fun a0 r => dPut (fun cy C =>
 A_g 4 a C (fun a1 =>
 A_h R 20 [a1, (.int .i64 (.ofNat 1))] C (fun a2 a3 =>
 after (fun a4 a5 =>
 A_h R 21 [a4] a5 (fun a6 a7 =>
 I_o R i [a2, a6] a7 (fun cz D =>
 A_g 4 a D (fun a8 =>
 A_h R 20 [a8, (.int .i64 (.ofNat 2))] D (fun a9 ba =>
 after (fun bb bc =>
 after (fun bd be =>
 after (fun bf bg =>
 A_h R 21 [bf] bg (fun bh bi =>
 I_o R i [a9, bh] bi (fun c0 E =>
 A_g 4 a E (fun bj =>
 A_h R 22 [bj] E (fun F G =>
 A_7 F 0 (fun H =>
 A_7 F 1 (fun bk =>
 A_a 0 a (fun bl =>
 A_d bl G (fun bm =>
 A_h R 23 [bm] G (fun bn bo =>
 after (fun j bp =>
 B_f j bn bp (fun c1 I =>
 A_a 0 a (fun bq =>
 A_d bq I (fun br =>
 jn (fun (c2 c3 c4 c5 : Value) (J : Hs) =>
 A_g 4 a J (fun bs =>
 A_h R 25 [bs] J (fun K L =>
 A_7 K 0 (fun bt =>
 A_7 K 1 (fun c6 =>
 A_a 0 j (fun bu =>
 A_d bu L (fun bv =>
 I_o R i [bt, bv] L (fun c7 M =>
 A_d l M (fun bw =>
 clrK h (.tuple #[bw, (.int .i64 (.ofNat 0))]) M))))))))) fun bx =>
 lpT (T := Value → Value → Value → Value → Hs → An) (fun _ _ _ _ _ => none) N (fun bz =>
 fun (d c8 b0 b1 : Value) (O : Hs) =>
 kI64 .lss d br (fun s =>
 jn (fun (P : Hs) =>
 jn (fun (b2 b3 : Value) (b4 : Hs) =>
 kI64 .add d (.int .i64 (.ofNat 1)) (fun b5 =>
 bz b5 s b2 b3 b4)) fun b6 =>
 kI64 .lss d H (fun g =>
 gdF g P (fun b7 => b7 d P) (fun b8 Q =>
 gdF g Q (fun b9 => b9 H Q) (fun ca S =>
 gdF g S (fun cb => cb bk S) (fun cc U =>
 gdF g U (fun cd => kI64 .add ca cc (fun ce => cd ce U)) (fun cf V =>
 gdF g V (fun cg => kI64 .geq b8 cf (fun ch => cg ch V)) (fun ci cj =>
 after (fun W t =>
 jn (fun (ck : Hs) =>
 b6 d W ck) fun X =>
 cnd W
 (A_g 1 j t (fun cl =>
 after (fun cm cn =>
 A_h R 24 [cl, (.bool true), cm] cn (fun co cp =>
 B_f j co cp (fun c9 cq =>
 X cq))) (B_0 3 1 1 [(.int .i64 (.ofNat 0))] [(0, 1, .c d)] enE t)))
 (X t)) (A_y (.c (.bool true)) (.c ci) enE cj g)))))))) fun cr =>
 cnd s
 (cr O)
 (bx d s b0 b1 O))) (.int .i64 (.ofNat 0)) dunno dunno dunno I)))) (B_h 62 [(.slice none 0 0)] enE bo))))))))))) (B_l [(.int .i64 (.ofNat 0)), (.int .i64 (.ofNat 0)), (.int .i64 (.ofNat 0)), (.slice none 0 0)] [(0, 1, .c (.int .i64 (.ofNat 2))), (1, 1, .c (.int .i64 (.ofNat 1))), (2, 1, .c B), (3, 1, .c bd)] enE be)) (B_0 60 2 1 [(.int .i64 (.ofNat 0)), (.int .i64 (.ofNat 0))] [(0, 2, .c bb)] enE bc)) (B_l [(.int .i64 (.ofNat 0)), (.int .i64 (.ofNat 0))] [(0, 1, .c ak), (1, 1, .c B)] enE ba)))))) (B_l [(.int .i64 (.ofNat 0)), (.int .i64 (.ofNat 0)), (.int .i64 (.ofNat 0)), (.slice none 0 0)] [(0, 1, .c (.int .i64 (.ofNat 2))), (1, 1, .c (.int .i64 (.ofNat 1)))] enE a3)))) a0 (A_w q r .bar) (andB (dFit q r .bar) (Nat.ble 0 r.lo))) (X_z (toRn R) [au, az] q i)) ay (A_w o p .bar) (andB (dFit o p .bar) (Nat.ble 0 p.lo)))) aw (A_w f n .blind) (andB (dFit f n .blind) (Nat.ble 0 n.lo))) (B_l [(.int .i64 (.ofNat 0)), (.int .i64 (.ofNat 0)), (.int .i64 (.ofNat 0)), (.int .i64 (.ofNat 0)), (.int .u64 (.ofNat 0))] [(0, 4, .c av)] enE (Hs.mk .e f.nx f.nx)))) ar (A_w b m .light) (andB (dFit b m .light) (Nat.ble 0 m.lo))))))) (B_l [(.int .i64 (.ofNat 0)), (.int .i64 (.ofNat 0)), (.int .i64 (.ofNat 0)), (.int .i64 (.ofNat 0)), (.int .u64 (.ofNat 0))] [(0, 4, .c al)] enE A))))))) (J_m (.func 16) [] [.c l] enE ai))) (B_h 25 [(.slice none 0 0)] enE ag)) (mkslice1 50 1 8 [(.int .u64 (.ofNat 0))] w (B_2 x) (B_2 x)))))) fun cs =>
 cnd ac
 (clrK h (.tuple #[(.slice none 0 0), (.int .i64 (.ofNat 1))]) v)
 (cs (.slice none 0 0) (.int .i64 (.ofNat 0)) v))))) (oBox 23 (.c Y) enE Z)
theorem q5 (R : RnK) (N : Nat) (args : List Value) (h : Hs) : r5 R N args h = A_x Tryz.prog N R 5 args h := by kernel_rfl
noncomputable def r6 (R : RnK) (N : Nat) (args : List Value) (h : Hs) : An := unC args fun y ay => enK h fun z =>
 after (fun a l =>
 A_a 0 a (fun A =>
 A_d A l (fun B =>
 A_h R 26 [B, (.int .i64 (.ofNat 64)), (.int .i64 (.ofNat 1024))] l (fun C m =>
 kNot C (fun b =>
 gdF b m (fun D => A_a 1 a (fun E => D E m)) (fun F g =>
 gdF b g (fun G => A_d F g (fun H => G H g)) (fun I n =>
 gdF b n (fun J => A_h R 26 [I, (.int .i64 (.ofNat 4)), (.int .i64 (.ofNat 64))] n (J)) (fun K o =>
 gdF b o (fun L => kNot K (fun M => L M o)) (fun O P =>
 after (fun d p =>
 gdF d p (fun Q => A_a 2 a (fun S => Q S p)) (fun U i =>
 gdF d i (fun V => A_d U i (fun W => V W i)) (fun X q =>
 gdF d q (fun Y => A_h R 26 [X, (.int .i64 (.ofNat 1)), (.int .i64 (.ofNat 8))] q (Y)) (fun Z r =>
 gdF d r (fun aa => kNot Z (fun ab => aa ab r)) (fun ac ad =>
 after (fun f s =>
 gdF f s (fun ae => A_a 3 a (fun af => ae af s)) (fun ag j =>
 gdF f j (fun ah => A_d ag j (fun ai => ah ai j)) (fun aj t =>
 gdF f t (fun ak => A_h R 26 [aj, (.int .i64 (.ofNat 16)), (.int .i64 (.ofNat 110))] t (ak)) (fun al u =>
 gdF f u (fun am => kNot al (fun an => am an u)) (fun ao ap =>
 after (fun aq v =>
 jn (fun (az : Value) (w : Hs) =>
 A_g 4 a w (fun ar =>
 A_h R 27 [ar] w (fun x au =>
 A_7 x 0 (fun a0 =>
 A_7 x 1 (fun av =>
 kI64 .geq av (.int .i64 (.ofNat 1)) (fun aw =>
 clrK h aw au)))))) fun ax =>
 cnd aq
 (clrK h (.bool false) v)
 (ax (.bool false) v)) (A_y (.c (.bool true)) (.c ao) enE ap f)))))) (A_y (.c (.bool true)) (.c ac) enE ad d)))))) (A_y (.c (.bool true)) (.c O) enE P b)))))))))) (oBox 23 (.c y) enE z)
theorem q6 (R : RnK) (N : Nat) (args : List Value) (h : Hs) : r6 R N args h = A_x Tryz.prog N R 6 args h := by kernel_rfl
noncomputable def r7 (R : RnK) (N : Nat) (args : List Value) (h : Hs) : An := unC args fun n W => enK h fun v =>
 after (fun b w =>
 A_h R 28 [n] w (fun f x =>
 A_7 f 0 (fun y =>
 A_7 f 1 (fun z =>
 A_7 f 2 (fun A =>
 after (fun o B =>
 after (fun X p =>
 kNot z (fun g =>
 gdT g p (fun C => C A p) (fun D q =>
 gdT g q (fun E => kNot D (fun F => E F q)) (fun G H =>
 after (fun I r =>
 jn (fun (Y : Value) (a : Hs) =>
 A_a 0 o (fun J =>
 A_g 4 J (Hs.mk a.hp a.nx a.nx) (fun K =>
 A_h R 29 [n] (Hs.mk a.hp a.nx a.nx) (fun L i => dPut (fun M d =>
 after (fun O j => dPut (fun P l =>
 after (fun Q m => dPut (fun Z s =>
 B_j h (C_v s (resV enE s [.cell (.c b) 5 true, .t (.c (.int .i64 (.ofNat 0)))]))) Q (A_w l m .bar) (andB (dFit l m .bar) (Nat.ble 0 m.lo))) (store1 5 l (A_b P) (addrOf b))) O (A_w d j .blind) (andB (dFit d j .blind) (Nat.ble 0 j.lo))) (B_l [(.int .i64 (.ofNat 0)), (.int .i64 (.ofNat 0)), (.int .i64 (.ofNat 0)), (.int .i64 (.ofNat 0)), (.slice none 0 0)] [(0, 4, .c K), (4, 1, .c M)] enE (Hs.mk .e d.nx d.nx))) L (A_w a i .light) (andB (dFit a i .light) (Nat.ble 0 i.lo)))))) fun S =>
 cnd I
 (after (fun U V =>
 after (fun aa u =>
 B_j h (C_v u (resV enE u [.cell (.c b) 5 true, .t (.c (.int .i64 (.ofNat 13)))]))) (store1 5 V (A_b U) (addrOf b))) (B_l [(.int .i64 (.ofNat 0)), (.int .i64 (.ofNat 0)), (.int .i64 (.ofNat 0)), (.int .i64 (.ofNat 0)), (.slice none 0 0)] [] enE r))
 (S (.int .i64 (.ofNat 0)) r)) (A_y (.c G) (.c (.bool false)) enE H g))))) (store1 5 B (A_b y) (addrOf o))) (B_h 52 [(.int .i64 (.ofNat 0)), (.int .i64 (.ofNat 0)), (.int .i64 (.ofNat 0)), (.int .i64 (.ofNat 0)), (.int .u64 (.ofNat 0))] enE x)))))) (B_h 31 [(.int .i64 (.ofNat 0)), (.int .i64 (.ofNat 0)), (.int .i64 (.ofNat 0)), (.int .i64 (.ofNat 0)), (.slice none 0 0)] enE v)
theorem q7 (R : RnK) (N : Nat) (args : List Value) (h : Hs) : r7 R N args h = A_x Tryz.prog N R 7 args h := by kernel_rfl
noncomputable def r8 (R : RnK) (N : Nat) (args : List Value) (h : Hs) : An := unC args fun c m => unC m fun f L => enK h fun g =>
 B_v c (fun n =>
 B_v f (fun o =>
 kI64 .neq n o (fun p =>
 jn (fun (q : Value) (r : Hs) =>
 jn (fun (M O P Q : Value) (s : Hs) =>
 clrK h (.bool true) s) fun t =>
 lpT (T := Value → Value → Value → Value → Hs → An) (fun _ _ _ _ _ => none) N (fun u =>
 fun (b S v i : Value) (j : Hs) =>
 B_v c (fun w =>
 kI64 .lss b w (fun d =>
 jn (fun (a : Hs) =>
 jn (fun (x y : Value) (z : Hs) =>
 kI64 .add b (.int .i64 (.ofNat 1)) (fun A =>
 u A d x y z)) fun B =>
 B_e 1 c b (fun C =>
 A_d C (Hs.mk a.hp a.nx a.nx) (fun D =>
 B_e 1 f b (fun E =>
 A_d E (Hs.mk a.hp a.nx a.nx) (fun F =>
 kU64 .neq D F (fun l =>
 jn (fun (G : Value) (H : Hs) =>
 B l G H) fun I =>
 cnd l
 (clrK h (.bool false) a)
 (I i a))))))) fun J =>
 cnd d
 (J j)
 (t b d v i j)))) (.int .i64 (.ofNat 0)) dunno dunno q r) fun K =>
 cnd p
 (clrK h (.bool false) g)
 (K (.bool false) g))))
theorem q8 (R : RnK) (N : Nat) (args : List Value) (h : Hs) : r8 R N args h = A_x Tryz.prog N R 8 args h := by kernel_rfl
noncomputable def r9 (R : RnK) (N : Nat) (args : List Value) (h : Hs) : An := unC args fun F a4 => enK h fun G =>
 after (fun b y =>
 A_g 4 b y (fun H =>
 A_h R 30 [H] y (fun I z =>
 kNot I (fun J =>
 jn (fun (a5 : Value) (d : Hs) =>
 A_g 4 b (Hs.mk d.hp d.nx d.nx) (fun K =>
 A_a 0 b (fun L =>
 A_d L (Hs.mk d.hp d.nx d.nx) (fun M =>
 kI64 .mul (.int .i64 (.ofNat 8)) M (fun A =>
 after (fun O m => dPut (fun P j =>
 after (fun Q n => dPut (fun S l =>
 after (fun U o => dPut (fun g B =>
 A_g 4 b B (fun V =>
 A_h R 32 [V, (.int .u64 (.ofNat 0))] B (fun W X =>
 A_h R 31 [g, (.int .i64 (.ofNat 0)), W] X (fun a6 a =>
 A_a 0 b (fun Y =>
 A_d Y (Hs.mk a.hp a.nx a.nx) (fun Z =>
 kI64 .sub Z (.int .i64 (.ofNat 1)) (fun aa =>
 A_g 4 b (Hs.mk a.hp a.nx a.nx) (fun ab =>
 A_h R 32 [ab, (.int .u64 (.ofNat 0))] (Hs.mk a.hp a.nx a.nx) (fun ac p => dPut (fun ad q =>
 A_h R 31 [g, aa, ad] q (fun ae r => dPut (fun a7 C =>
 A_g 4 b C (fun af =>
 A_h R 33 [af, (.int .i64 (.ofNat 1))] C (fun ag ah =>
 after (fun ai aj =>
 A_h R 34 [ai] aj (fun ak al =>
 A_h R 31 [g, ag, ak] al (fun a8 f =>
 A_g 4 b (Hs.mk f.hp f.nx f.nx) (fun am =>
 A_h R 33 [am, (.int .i64 (.ofNat 2))] (Hs.mk f.hp f.nx f.nx) (fun an s => dPut (fun ao i =>
 A_g 4 b (E_r .light [false, false, false] [some (f.nx, i.nx), none, none] i) (fun ap =>
 A_h R 35 [ap] i (fun aq t => dPut (fun ar u =>
 A_h R 34 [ar] u (fun au v => dPut (fun av w =>
 A_h R 31 [g, ao, av] w (fun aw x => dPut (fun a9 D =>
 A_g 4 b D (fun ax =>
 A_h R 37 [ax, (.slice none 0 0)] D (fun ay az =>
 A_h R 36 [g, ay] az (fun ba E =>
 kNil g (fun a0 =>
 A_a 4 a0 (fun a1 =>
 A_d a1 E (fun a2 =>
 clrK h a2 E))))))) aw (A_w w x .bar) (andB (dFit w x .bar) (Nat.ble 0 x.lo)))) au (A_w u v .bar) (andB (dFit u v .bar) (Nat.ble 0 v.lo)))) aq (A_w i t .bar) (andB (dFit i t .bar) (Nat.ble 0 t.lo))))) an (A_w f s .light) (andB (dFit f s .light) (Nat.ble 0 s.lo))))))) (B_l [(.int .i64 (.ofNat 0)), (.int .i64 (.ofNat 0)), (.int .i64 (.ofNat 0)), (.slice none 0 0)] [(0, 1, .c (.int .i64 (.ofNat 2))), (1, 1, .c (.int .i64 (.ofNat 1)))] enE ah)))) ae (A_w q r .bar) (andB (dFit q r .bar) (Nat.ble 0 r.lo)))) ac (A_w a p .light) (andB (dFit a p .light) (Nat.ble 0 p.lo))))))))))) U (A_w l o .make) (andB (dFit l o .make) (Nat.ble 0 o.lo))) (oBox 73 (.c S) enE (Hs.mk .e l.nx l.nx))) Q (A_w j n .blind) (andB (dFit j n .blind) (Nat.ble 0 n.lo))) (B_l [(.int .i64 (.ofNat 0)), (.int .i64 (.ofNat 0)), (.int .i64 (.ofNat 0)), (.int .i64 (.ofNat 0)), (.slice none 0 0)] [(0, 4, .c K), (4, 1, .c P)] enE (Hs.mk .e j.nx j.nx))) O (A_w d m .make) (andB (dFit d m .make) (Nat.ble 0 m.lo))) (mkslice1 50 1 8 [(.int .u64 (.ofNat 0))] (Hs.mk .e d.nx d.nx) (B_2 A) (B_2 A))))))) fun a3 =>
 cnd J
 (clrK h (.slice none 0 0) z)
 (a3 (.slice none 0 0) z))))) (oBox 36 (.c F) enE G)
theorem q9 (R : RnK) (N : Nat) (args : List Value) (h : Hs) : r9 R N args h = A_x Tryz.prog N R 9 args h := by kernel_rfl
noncomputable def r10 (R : RnK) (N : Nat) (args : List Value) (h : Hs) : An := unC args fun g v => enK h fun i =>
 after (fun b j =>
 after (fun d a =>
 A_a 0 b (fun l =>
 A_d l a (fun m =>
 A_a 1 b (fun n =>
 A_d n a (fun o =>
 A_a 2 b (fun p =>
 A_d p a (fun q =>
 A_a 3 b (fun r =>
 A_d r a (fun s =>
 after (fun t u =>
 after (fun w f =>
 B_j h (C_v f (resV enE f [.cell (.c d) 4 true]))) (store1 4 u (A_b t) (addrOf d))) (B_l [(.int .i64 (.ofNat 0)), (.int .i64 (.ofNat 0)), (.int .i64 (.ofNat 0)), (.int .i64 (.ofNat 0))] [(0, 1, .c m), (1, 1, .c o), (2, 1, .c q), (3, 1, .c s)] enE a)))))))))) (B_h 36 [(.int .i64 (.ofNat 0)), (.int .i64 (.ofNat 0)), (.int .i64 (.ofNat 0)), (.int .i64 (.ofNat 0))] enE j)) (oBox 23 (.c g) enE i)
theorem q10 (R : RnK) (N : Nat) (args : List Value) (h : Hs) : r10 R N args h = A_x Tryz.prog N R 10 args h := by kernel_rfl
noncomputable def r11 (R : RnK) (N : Nat) (args : List Value) (h : Hs) : An := unC args fun ae c7 => enK h fun af =>
 after (fun f ag =>
 jn (fun (c8 c9 da db dc dd de df dg dh di dj dk ah ai aj : Value) (F : Hs) =>
 A_a 0 f (fun ak =>
 A_a 1 ak (fun al =>
 A_d al F (fun am =>
 A_h R 41 [am, ah] F (fun G H =>
 A_7 G 0 (fun an =>
 A_7 G 1 (fun ao =>
 kI64 .neq ao (.int .i64 (.ofNat 0)) (fun ap =>
 jn (fun (dl dm : Value) (aq : Hs) =>
 clrK h (.tuple #[an, (.int .i64 (.ofNat 0))]) aq) fun ar =>
 cnd ap
 (clrK h (.tuple #[(.pointer none), (.int .i64 (.ofNat 13))]) H)
 (ar ai aj H))))))))) fun au =>
 lpT (T := Value → Value → Value → Value → Value → Value → Value → Value → Value → Value → Value → Value → Value → Value → Value → Value → Hs → An) (fun _ _ _ _ _ _ _ _ _ _ _ _ _ _ _ _ _ => none) N (fun av =>
 fun (b dn aw ax ay az I J o K p q L r M O : Value) (s : Hs) =>
 A_a 0 f (fun a0 =>
 A_a 1 a0 (fun a1 =>
 A_d a1 s (fun a2 =>
 kI64 .leq b a2 (fun t =>
 jn (fun (P : Hs) =>
 jn (fun (a3 a4 a5 a6 a7 a8 a9 ba bb bc bd be bf bg : Value) (bh : Hs) =>
 kI64 .add b (.int .i64 (.ofNat 1)) (fun bi =>
 av bi t a3 a4 a5 a6 a7 a8 a9 ba bb bc bd be bf bg bh)) fun Q =>
 A_g 5 f P (fun bj =>
 A_h R 38 [bj, b] P (fun S bk =>
 A_7 S 0 (fun bl =>
 A_7 S 1 (fun u =>
 after (fun g bm =>
 after (fun dp U =>
 kNot u (fun v =>
 jn (fun (V W : Value) (w : Hs) =>
 A_a 0 g (fun bn =>
 A_d bn w (fun bo =>
 kI64 .eql bo (.int .i64 (.ofNat 0)) (fun x =>
 jn (fun (a : Hs) =>
 A_a 0 g (fun bp =>
 A_d bp (Hs.mk a.hp a.nx a.nx) (fun bq =>
 A_g 5 f (Hs.mk a.hp a.nx a.nx) (fun br =>
 A_h R 39 [br, b] (Hs.mk a.hp a.nx a.nx) (fun bs y => dPut (fun bt l =>
 after (fun bu z => dPut (fun bv m =>
 after (fun bw A => dPut (fun i B =>
 after (fun bx C => dPut (fun dq X =>
 A_g 5 f X (fun bz =>
 A_h R 40 [bz, b] X (fun D b0 =>
 B_v D (fun Y =>
 jn (fun (b1 b2 b3 b4 : Value) (Z : Hs) =>
 A_g 4 i Z (fun b5 =>
 after (fun b6 b7 =>
 after (fun b8 b9 =>
 Q u v g x b1 Y b2 D b3 b4 i b8 V W b9) (app0 89 4 64 b7 r b6)) (B_0 89 4 1 [(.int .i64 (.ofNat 0)), (.int .i64 (.ofNat 0)), (.slice none 0 0), (.slice none 0 0)] [(0, 4, .c b5)] enE Z))) fun ca =>
 lpT (T := Value → Value → Value → Value → Hs → An) (fun _ _ _ _ _ => none) N (fun cb =>
 fun (n dr cc cd : Value) (aa : Hs) =>
 kI64 .lss n Y (fun E =>
 jn (fun (ab : Hs) =>
 jn (fun (ce cf : Value) (cg : Hs) =>
 kI64 .add n (.int .i64 (.ofNat 1)) (fun ch =>
 cb ch E ce cf cg)) fun ci =>
 B_e 2 D n (fun cj =>
 A_g 2 cj ab (fun ck =>
 after (fun j cl =>
 after (fun ds d =>
 A_a 0 j (fun cm =>
 A_d cm d (fun cn =>
 kI64 .neq cn (.int .i64 (.ofNat 0)) (fun ac =>
 jn (fun (co : Hs) =>
 ci j ac co) fun ad =>
 cnd ac
 (A_a 3 i (fun cp =>
 A_d cp d (fun cq =>
 A_a 1 j (fun cr =>
 A_d cr d (fun cs =>
 A_a 0 j (fun ct =>
 A_d ct d (fun cu =>
 after (fun cv cw =>
 after (fun cx cy =>
 after (fun cz c0 =>
 A_a 3 i (fun c1 =>
 B_f c1 cz c0 (fun dt c2 =>
 ad c2))) (app0 95 2 24 cy cq cx)) (B_0 95 2 1 [(.string ⟨#[]⟩), (.int .i64 (.ofNat 0))] [(0, 2, .c cv)] enE cw)) (B_l [(.string ⟨#[]⟩), (.int .i64 (.ofNat 0))] [(0, 1, .c cs), (1, 1, .c cu)] enE d))))))))
 (ad d))))) (store1 2 cl (A_b ck) (addrOf j))) (B_h 93 [(.int .i64 (.ofNat 0)), (.string ⟨#[]⟩)] enE ab)))) fun c3 =>
 cnd E
 (c3 aa)
 (ca n E cc cd aa))) (.int .i64 (.ofNat 0)) o p q b0)))) bx (A_w B C .bar) (andB (dFit B C .bar) (Nat.ble 0 C.lo))) (store1 4 B (A_b bv) (addrOf i))) bw (A_w m A .make) (andB (dFit m A .make) (Nat.ble 0 A.lo))) (B_h 89 [(.int .i64 (.ofNat 0)), (.int .i64 (.ofNat 0)), (.slice none 0 0), (.slice none 0 0)] enE (Hs.mk .e m.nx m.nx))) bu (A_w l z .blind) (andB (dFit l z .blind) (Nat.ble 0 z.lo))) (B_l [(.int .i64 (.ofNat 0)), (.int .i64 (.ofNat 0)), (.slice none 0 0), (.slice none 0 0)] [(0, 1, .c b), (1, 1, .c bq), (2, 1, .c bt)] enE (Hs.mk .e l.nx l.nx))) bs (A_w a y .light) (andB (dFit a y .light) (Nat.ble 0 y.lo))))))) fun c4 =>
 cnd x
 (Q u v g x I J o K p q L r V W w)
 (c4 w))))) fun c5 =>
 cnd v
 (clrK h (.tuple #[(.pointer none), (.int .i64 (.ofNat 13))]) U)
 (c5 M O U))) (store1 4 bm (A_b bl) (addrOf g))) (B_h 58 [(.int .i64 (.ofNat 0)), (.int .i64 (.ofNat 0)), (.int .i64 (.ofNat 0)), (.slice none 0 0)] enE bk)))))) fun c6 =>
 cnd t
 (c6 s)
 (au b t aw ax ay az I J o K p q L r M O s)))))) (.int .i64 (.ofNat 1)) dunno dunno dunno dunno dunno dunno dunno dunno dunno dunno dunno dunno (.slice none 0 0) (.pointer none) (.int .i64 (.ofNat 0)) ag) (oBox 31 (.c ae) enE af)
theorem q11 (R : RnK) (N : Nat) (args : List Value) (h : Hs) : r11 R N args h = A_x Tryz.prog N R 11 args h := by kernel_rfl
noncomputable def r16 (R : RnK) (N : Nat) (args : List Value) (h : Hs) : An := unC args fun b d => unC d fun f g => unC g fun i p => enK h fun a =>
 A_d i a (fun j =>
 kI64 .mul (.int .i64 (.ofNat 8)) b (fun l =>
 after (fun m n =>
 after (fun q o =>
 clrK h (.tuple #[]) o) (copy0 1 n m f)) (C_g 1 (.c j) (some (.c l)) none none enE a)))
theorem q16 (R : RnK) (N : Nat) (args : List Value) (h : Hs) : r16 R N args h = A_x Tryz.prog N R 16 args h := by kernel_rfl
noncomputable def r17 (R : RnK) (N : Nat) (args : List Value) (h : Hs) : An := unC args fun j y => enK h fun l =>
 after (fun b g =>
 A_g 4 b g (fun m =>
 A_h R 6 [m] g (fun n i =>
 kNot n (fun o =>
 jn (fun (z A : Value) (a : Hs) =>
 A_g 4 b (Hs.mk a.hp a.nx a.nx) (fun p =>
 A_a 1 b (fun q =>
 A_d q (Hs.mk a.hp a.nx a.nx) (fun r =>
 A_h R 20 [p, r] (Hs.mk a.hp a.nx a.nx) (fun s d => dPut (fun t f =>
 kI64 .add t (.int .i64 (.ofNat 1)) (fun u =>
 A_a 1 b (fun v =>
 A_d v (E_r .light [true, false, false, false, false, false] [none, none, some (a.nx, f.nx), none, none, none] f) (fun w =>
 clrK h (.tuple #[u, w]) f)))) s (A_w a d .light) (andB (dFit a d .light) (Nat.ble 0 d.lo))))))) fun x =>
 cnd o
 (clrK h (.tuple #[(.int .i64 (.ofNat 0)), (.int .i64 (.ofNat 0))]) i)
 (x (.int .i64 (.ofNat 0)) (.int .i64 (.ofNat 0)) i))))) (oBox 23 (.c j) enE l)
theorem q17 (R : RnK) (N : Nat) (args : List Value) (h : Hs) : r17 R N args h = A_x Tryz.prog N R 17 args h := by kernel_rfl
noncomputable def r18 (R : RnK) (N : Nat) (args : List Value) (h : Hs) : An := unC args fun p Y => enK h fun q =>
 after (fun b m =>
 A_a 0 b (fun r =>
 A_g 4 r m (fun s =>
 A_h R 6 [s] m (fun t n =>
 kNot t (fun u =>
 jn (fun (Z : Value) (d : Hs) =>
 A_a 0 b (fun v =>
 A_a 0 v (fun w =>
 A_d w d (fun x =>
 kToU x (fun y =>
 A_a 0 b (fun z =>
 A_a 1 z (fun A =>
 A_d A d (fun B =>
 kToU B (fun C =>
 A_a 0 b (fun D =>
 A_a 2 D (fun E =>
 A_d E d (fun F =>
 kToU F (fun G =>
 A_a 0 b (fun H =>
 A_a 3 H (fun I =>
 A_d I d (fun J =>
 kToU J (fun K =>
 after (fun o a =>
 A_a 4 b (fun L =>
 A_d L (Hs.mk a.hp a.nx a.nx) (fun M =>
 A_h R 51 [o] (Hs.mk a.hp a.nx a.nx) (fun O f => dPut (fun P g =>
 after (fun Q i => dPut (fun S j =>
 after (fun U l => dPut (fun V W =>
 clrK h V W) U (A_w j l .bar) (andB (dFit j l .bar) (Nat.ble 0 l.lo))) (app0 50 1 8 j o S)) Q (A_w g i .bar) (andB (dFit g i .bar) (Nat.ble 0 i.lo))) (B_0 50 1 2 [(.int .u64 (.ofNat 0))] [(0, 1, .c M), (1, 1, .c P)] enE g)) O (A_w a f .light) (andB (dFit a f .light) (Nat.ble 0 f.lo)))))) (B_0 50 1 6 [(.int .u64 (.ofNat 0))] [(0, 1, .c (.int .u64 (.ofNat 5497010944029229057))), (1, 1, .c y), (2, 1, .c C), (3, 1, .c G), (4, 1, .c K), (5, 1, .c (.int .u64 (.ofNat 0)))] enE d)))))))))))))))))) fun X =>
 cnd u
 (clrK h (.slice none 0 0) n)
 (X (.slice none 0 0) n)))))) (oBox 52 (.c p) enE q)
theorem q18 (R : RnK) (N : Nat) (args : List Value) (h : Hs) : r18 R N args h = A_x Tryz.prog N R 18 args h := by kernel_rfl
noncomputable def r19 (R : RnK) (N : Nat) (args : List Value) (h : Hs) : An := unC args fun g r => enK h fun i =>
 after (fun a b =>
 A_g 4 a b (fun j =>
 A_h R 6 [j] b (fun l d =>
 kNot l (fun m =>
 jn (fun (s : Value) (f : Hs) =>
 A_a 0 a (fun n =>
 A_d n f (fun o =>
 kI64 .sub o (.int .i64 (.ofNat 1)) (fun p =>
 clrK h p f)))) fun q =>
 cnd m
 (clrK h (.int .i64 (.ofNat 0)) d)
 (q (.int .i64 (.ofNat 0)) d))))) (oBox 23 (.c g) enE i)
theorem q19 (R : RnK) (N : Nat) (args : List Value) (h : Hs) : r19 R N args h = A_x Tryz.prog N R 19 args h := by kernel_rfl
noncomputable def r20 (R : RnK) (N : Nat) (args : List Value) (h : Hs) : An := unC args fun q r => unC r fun f V => enK h fun s =>
 after (fun b g =>
 A_g 4 b g (fun t =>
 A_h R 6 [t] g (fun u i =>
 kNot u (fun a =>
 gdF a i (fun v => v f i) (fun w j =>
 gdF a j (fun x => A_a 1 b (fun y => x y j)) (fun z d =>
 gdF a d (fun A => A_d z d (fun B => A B d)) (fun C l =>
 gdF a l (fun D => A_h R 26 [w, (.int .i64 (.ofNat 1)), C] l (D)) (fun E m =>
 gdF a m (fun F => kNot E (fun G => F G m)) (fun H I =>
 after (fun J n =>
 jn (fun (W : Value) (o : Hs) =>
 A_g 4 b o (fun K =>
 A_h R 52 [K] o (fun p L =>
 A_7 p 0 (fun M =>
 A_7 p 1 (fun O =>
 kI64 .add M O (fun P =>
 kI64 .add P f (fun Q =>
 kI64 .sub Q (.int .i64 (.ofNat 1)) (fun S =>
 clrK h S L)))))))) fun U =>
 cnd J
 (clrK h (.int .i64 (.ofNat 0)) n)
 (U (.int .i64 (.ofNat 0)) n)) (A_y (.c (.bool true)) (.c H) enE I a)))))))))) (oBox 23 (.c q) enE s)
theorem q20 (R : RnK) (N : Nat) (args : List Value) (h : Hs) : r20 R N args h = A_x Tryz.prog N R 20 args h := by kernel_rfl
noncomputable def r21 (R : RnK) (N : Nat) (args : List Value) (h : Hs) : An := unC args fun t a4 => enK h fun u =>
 after (fun b m =>
 A_g 4 b m (fun v =>
 A_h R 53 [v] m (fun w n =>
 kNot w (fun x =>
 jn (fun (y : Value) (z : Hs) =>
 after (fun a g =>
 A_a 0 b (fun A =>
 A_d A g (fun B =>
 kI64 .eql B (.int .i64 (.ofNat 0)) (fun C =>
 jn (fun (a5 : Value) (i : Hs) =>
 A_a 0 b (fun D =>
 A_d D i (fun E =>
 kToU E (fun F =>
 A_a 1 b (fun G =>
 A_d G i (fun H =>
 kToU H (fun I =>
 kShl I (.int .u64 (.ofNat 8)) (fun J =>
 kU64 .or F J (fun K =>
 B_e 1 a (.int .i64 (.ofNat 0)) (fun L =>
 B_f L K i (fun a6 o =>
 A_a 2 b (fun M =>
 A_d M o (fun O =>
 kToU O (fun P =>
 B_e 1 a (.int .i64 (.ofNat 1)) (fun Q =>
 B_f Q P o (fun a7 p =>
 A_a 3 b (fun S =>
 A_d S p (fun q =>
 B_v q (fun U =>
 jn (fun (a8 a9 ba bb : Value) (V : Hs) =>
 after (fun W X =>
 A_h R 51 [W] X (fun Y Z =>
 B_e 1 a (.int .i64 (.ofNat 7)) (fun aa =>
 B_f aa Y Z (fun bc ab =>
 clrK h a ab)))) (C_g 1 (.c a) none (some (.c (.int .i64 (.ofNat 7)))) none enE V)) fun ac =>
 lpT (T := Value → Value → Value → Value → Hs → An) (fun _ _ _ _ _ => none) N (fun ad =>
 fun (d bd ae af : Value) (r : Hs) =>
 kI64 .lss d U (fun j =>
 jn (fun (s : Hs) =>
 jn (fun (ag ah : Value) (ai : Hs) =>
 kI64 .add d (.int .i64 (.ofNat 1)) (fun aj =>
 ad aj j ag ah ai)) fun ak =>
 B_e 2 q d (fun al =>
 A_g 2 al s (fun am =>
 after (fun f an =>
 after (fun be l =>
 kI64 .add (.int .i64 (.ofNat 2)) d (fun ao =>
 A_a 0 f (fun ap =>
 A_d ap l (fun aq =>
 kToU aq (fun ar =>
 A_a 1 f (fun au =>
 A_d au l (fun av =>
 kToU av (fun aw =>
 kShl aw (.int .u64 (.ofNat 32)) (fun ax =>
 kU64 .or ar ax (fun ay =>
 B_e 1 a ao (fun az =>
 B_f az ay l (fun bf a0 =>
 ak d f a0)))))))))))) (store1 2 an (A_b am) (addrOf f))) (B_h 60 [(.int .i64 (.ofNat 0)), (.int .i64 (.ofNat 0))] enE s)))) fun a1 =>
 cnd j
 (a1 r)
 (ac d j ae af r))) (.int .i64 (.ofNat 0)) dunno dunno dunno p))))))))))))))))))) fun a2 =>
 cnd C
 (clrK h a g)
 (a2 y g))))) (mkslice1 50 1 8 [(.int .u64 (.ofNat 0))] z (B_2 (.int .i64 (.ofNat 8))) (B_2 (.int .i64 (.ofNat 8))))) fun a3 =>
 cnd x
 (clrK h (.slice none 0 0) n)
 (a3 (.slice none 0 0) n))))) (oBox 58 (.c t) enE u)
theorem q21 (R : RnK) (N : Nat) (args : List Value) (h : Hs) : r21 R N args h = A_x Tryz.prog N R 21 args h := by kernel_rfl
noncomputable def r22 (R : RnK) (N : Nat) (args : List Value) (h : Hs) : An := unC args fun i t => enK h fun j =>
 after (fun a b =>
 A_g 4 a b (fun l =>
 A_h R 6 [l] b (fun m d =>
 kNot m (fun n =>
 jn (fun (u v : Value) (f : Hs) =>
 A_g 4 a f (fun o =>
 A_h R 27 [o] f (fun g p =>
 A_7 g 0 (fun q =>
 A_7 g 1 (fun r =>
 clrK h (.tuple #[q, r]) p))))) fun s =>
 cnd n
 (clrK h (.tuple #[(.int .i64 (.ofNat 0)), (.int .i64 (.ofNat 0))]) d)
 (s (.int .i64 (.ofNat 0)) (.int .i64 (.ofNat 0)) d))))) (oBox 23 (.c i) enE j)
theorem q22 (R : RnK) (N : Nat) (args : List Value) (h : Hs) : r22 R N args h = A_x Tryz.prog N R 22 args h := by kernel_rfl
noncomputable def r23 (R : RnK) (N : Nat) (args : List Value) (h : Hs) : An := unC args fun f u => enK h fun g =>
 after (fun a i =>
 after (fun j l =>
 after (fun m n =>
 kI64 .add m (.int .i64 (.ofNat 64)) (fun o =>
 kI64 .sub o (.int .i64 (.ofNat 1)) (fun p =>
 kI64 .quo p (.int .i64 (.ofNat 64)) (fun b =>
 after (fun q r =>
 after (fun s t =>
 B_f a s t (fun v d =>
 B_j h (C_v d (resV enE d [.cell (.c a) 1 true])))) (B_l [(.slice none 0 0)] [(0, 1, .c q)] enE r)) (mkslice1 50 1 8 [(.int .u64 (.ofNat 0))] n (B_2 b) (B_2 b)))))) (E_6 false [.c j, .c (.int .i64 (.ofNat 65536))] enE l)) (E_6 true [.c f, .c (.int .i64 (.ofNat 0))] enE i)) (B_h 62 [(.slice none 0 0)] enE g)
theorem q23 (R : RnK) (N : Nat) (args : List Value) (h : Hs) : r23 R N args h = A_x Tryz.prog N R 23 args h := by kernel_rfl
noncomputable def r24 (R : RnK) (N : Nat) (args : List Value) (h : Hs) : An := unC args fun E F => unC F fun o G => unC G fun p a4 => enK h fun H =>
 after (fun q I =>
 after (fun r s =>
 A_a 0 q (fun J =>
 A_d J s (fun K =>
 A_h R 29 [K] s (fun L M =>
 after (fun O P =>
 after (fun f Q =>
 B_f f O Q (fun a5 S =>
 B_v p (fun U =>
 jn (fun (a6 a7 a8 a9 ba : Value) (t : Hs) =>
 A_g 1 f t (fun V =>
 B_f r V t (fun bb u =>
 B_j h (C_v u (resV enE u [.cell (.c r) 1 true]))))) fun W =>
 lpT (T := Value → Value → Value → Value → Value → Hs → An) (fun _ _ _ _ _ _ => none) N (fun X =>
 fun (g bc Y Z v : Value) (w : Hs) =>
 kI64 .lss g U (fun i =>
 jn (fun (j : Hs) =>
 jn (fun (aa ab ac : Value) (ad : Hs) =>
 kI64 .add g (.int .i64 (.ofNat 1)) (fun ae =>
 X ae i aa ab ac ad)) fun x =>
 B_e 1 p g (fun af =>
 A_d af j (fun a =>
 A_g 1 q j (fun ag =>
 A_h R 54 [ag, a] j (fun ah y =>
 kNot ah (fun l =>
 jn (fun (d : Hs) =>
 A_a 0 f (fun ai =>
 A_d ai d (fun z =>
 kI64 .quo a (.int .i64 (.ofNat 64)) (fun A =>
 B_e 1 z A (fun aj =>
 A_d aj d (fun ak =>
 kI64 .rem a (.int .i64 (.ofNat 64)) (fun al =>
 kShl (.int .u64 (.ofNat 1)) al (fun am =>
 kU64 .andNot ak am (fun an =>
 B_e 1 z A (fun ao =>
 B_f ao an d (fun ap m => dPut (fun bd b =>
 jn (fun (aq : Hs) =>
 x a l o aq) fun B =>
 cnd o
 (A_a 0 f (fun ar =>
 A_d ar b (fun C =>
 kI64 .quo a (.int .i64 (.ofNat 64)) (fun D =>
 B_e 1 C D (fun au =>
 A_d au b (fun av =>
 kI64 .rem a (.int .i64 (.ofNat 64)) (fun aw =>
 kShl (.int .u64 (.ofNat 1)) aw (fun ax =>
 kU64 .or av ax (fun ay =>
 B_e 1 C D (fun az =>
 B_f az ay b (fun a0 n => dPut (fun be a1 =>
 B a1) a0 (A_w b n .bar) (andB (dFit b n .bar) (Nat.ble 0 n.lo)))))))))))))
 (B b)) ap (A_w d m .bar) (andB (dFit d m .bar) (Nat.ble 0 m.lo))))))))))))) fun a2 =>
 cnd l
 (x a l v y)
 (a2 y))))))) fun a3 =>
 cnd i
 (a3 w)
 (W g i Y Z v w))) (.int .i64 (.ofNat 0)) dunno dunno dunno dunno S))) (B_h 62 [(.slice none 0 0)] enE P)) (B_l [(.slice none 0 0)] [(0, 1, .c L)] enE M))))) (B_h 62 [(.slice none 0 0)] enE I)) (oBox 62 (.c E) enE H)
theorem q24 (R : RnK) (N : Nat) (args : List Value) (h : Hs) : r24 R N args h = A_x Tryz.prog N R 24 args h := by kernel_rfl
noncomputable def r25 (R : RnK) (N : Nat) (args : List Value) (h : Hs) : An := unC args fun i t => enK h fun j =>
 after (fun a b =>
 A_g 4 a b (fun l =>
 A_h R 6 [l] b (fun m d =>
 kNot m (fun n =>
 jn (fun (u v : Value) (f : Hs) =>
 A_g 4 a f (fun o =>
 A_h R 52 [o] f (fun g p =>
 A_7 g 0 (fun q =>
 A_7 g 1 (fun r =>
 clrK h (.tuple #[q, r]) p))))) fun s =>
 cnd n
 (clrK h (.tuple #[(.int .i64 (.ofNat 0)), (.int .i64 (.ofNat 0))]) d)
 (s (.int .i64 (.ofNat 0)) (.int .i64 (.ofNat 0)) d))))) (oBox 23 (.c i) enE j)
theorem q25 (R : RnK) (N : Nat) (args : List Value) (h : Hs) : r25 R N args h = A_x Tryz.prog N R 25 args h := by kernel_rfl
noncomputable def r26 (R : RnK) (N : Nat) (args : List Value) (h : Hs) : An := unC args fun b i => unC i fun j l => unC l fun m x => enK h fun d =>
 kI64 .geq b j (fun a =>
 gdT a d (fun n => n b d) (fun o f =>
 gdT a f (fun p => p m f) (fun q g =>
 gdT a g (fun r => kI64 .leq o q (fun s => r s g)) (fun t u =>
 after (fun v w =>
 clrK h v w) (A_y (.c t) (.c (.bool false)) enE u a)))))
theorem q26 (R : RnK) (N : Nat) (args : List Value) (h : Hs) : r26 R N args h = A_x Tryz.prog N R 26 args h := by kernel_rfl
noncomputable def r27 (R : RnK) (N : Nat) (args : List Value) (h : Hs) : An := unC args fun i w => enK h fun j =>
 after (fun a d =>
 A_g 4 a d (fun l =>
 A_h R 52 [l] d (fun f b =>
 A_7 f 0 (fun m =>
 A_7 f 1 (fun n =>
 kI64 .add m n (fun o =>
 A_a 1 a (fun p =>
 A_d p b (fun q =>
 kI64 .mul (.int .i64 (.ofNat 2)) q (fun r =>
 kI64 .add o r (fun g =>
 A_a 0 a (fun s =>
 A_d s b (fun t =>
 kI64 .sub t (.int .i64 (.ofNat 1)) (fun u =>
 kI64 .sub u g (fun v =>
 clrK h (.tuple #[g, v]) b)))))))))))))) (oBox 23 (.c i) enE j)
theorem q27 (R : RnK) (N : Nat) (args : List Value) (h : Hs) : r27 R N args h = A_x Tryz.prog N R 27 args h := by kernel_rfl
noncomputable def r28 (R : RnK) (N : Nat) (args : List Value) (h : Hs) : An := unC args fun i b3 => enK h fun G =>
 after (fun d v =>
 B_v i (fun H =>
 kI64 .quo H (.int .i64 (.ofNat 8)) (fun n =>
 B_v i (fun I =>
 kI64 .rem I (.int .i64 (.ofNat 8)) (fun J =>
 kI64 .neq J (.int .i64 (.ofNat 0)) (fun o =>
 gdF o v (fun K => K n v) (fun L w =>
 gdF o w (fun M => kI64 .lss L (.int .i64 (.ofNat 64)) (fun O => M O w)) (fun P Q =>
 after (fun p x =>
 gdF p x (fun S => S n x) (fun U y =>
 gdF p y (fun V => kI64 .gtr U (.int .i64 (.ofNat 1024)) (fun W => V W y)) (fun X Y =>
 after (fun Z z =>
 jn (fun (b4 b5 : Value) (aa : Hs) =>
 after (fun ab ac =>
 A_h R 55 [ab] ac (fun A ad =>
 A_7 A 0 (fun ae =>
 A_7 A 1 (fun f =>
 after (fun q af =>
 after (fun b6 ag =>
 B_v i (fun ah =>
 kI64 .sub ah (.int .i64 (.ofNat 8)) (fun ai =>
 after (fun aj ak =>
 A_h R 55 [aj] ak (fun B al =>
 A_7 B 0 (fun am =>
 A_7 B 1 (fun g =>
 after (fun r an =>
 after (fun b7 a =>
 gdT f a (fun ao => A_a 0 q (fun ap => ao ap a)) (fun aq _ =>
 gdT f a (fun ar => A_a 0 aq (fun au => ar au a)) (fun av _ =>
 gdT f a (fun aw => A_d av (Hs.mk a.hp a.nx a.nx) (fun ax => aw ax a)) (fun ay _ =>
 gdT f a (fun az => az n a) (fun a0 _ =>
 gdT f a (fun a1 => kI64 .eql ay a0 (fun a2 => a1 a2 a)) (fun a3 _ =>
 after (fun a4 s => dPut (fun j b =>
 gdT g b (fun a5 => A_a 0 r (fun a6 => a5 a6 b)) (fun a7 _ =>
 gdT g b (fun a8 => A_a 0 a7 (fun a9 => a8 a9 b)) (fun ba _ =>
 gdT g b (fun bb => A_d ba (E_r .light [true, true, true, true, false, false, false, false, false, false, true, true] [none, none, none, none, some (a.nx, b.nx), none, none, none, none, none, none, none] b) (fun bc => bb bc b)) (fun bd _ =>
 gdT g b (fun be => be n b) (fun bf _ =>
 gdT g b (fun bg => kI64 .eql bd bf (fun bh => bg bh b)) (fun bi _ =>
 after (fun bj u => dPut (fun l m =>
 jn (fun (b8 b9 ca cb : Value) (bk : Hs) =>
 after (fun bl bm =>
 after (fun cc C =>
 B_j h (C_v C (resV enE C [.cell (.c d) 5 true, .t (.c (.bool false)), .t (.c (.bool false))]))) (store1 5 bm (A_b bl) (addrOf d))) (B_l [(.int .i64 (.ofNat 0)), (.int .i64 (.ofNat 0)), (.int .i64 (.ofNat 0)), (.int .i64 (.ofNat 0)), (.int .u64 (.ofNat 0))] [] enE bk)) fun bn =>
 jn (fun (bo bp bq : Value) (br : Hs) =>
 bn bo bp j bq br) fun bs =>
 cnd j
 (A_g 5 q m (fun bt =>
 after (fun cd D =>
 B_j h (C_v D (resV enE D [.cell (.c d) 5 true, .t (.c j), .t (.c l)]))) (store1 5 m (A_b bt) (addrOf d))))
 (jn (fun (bu bv : Value) (bw : Hs) =>
 bs bu bv l bw) fun bx =>
 cnd l
 (A_g 5 r m (fun bz =>
 after (fun ce E =>
 B_j h (C_v E (resV enE E [.cell (.c d) 5 true, .t (.c j), .t (.c l)]))) (store1 5 m (A_b bz) (addrOf d))))
 (bx j l m))) bj (A_w b u .blind) (andB (dFit b u .blind) (Nat.ble 0 u.lo))) (A_y (.c bi) (.c (.bool false)) enE (Hs.mk .e b.nx b.nx) g))))))) a4 (A_w a s .blind) (andB (dFit a s .blind) (Nat.ble 0 s.lo))) (A_y (.c a3) (.c (.bool false)) enE (Hs.mk .e a.nx a.nx) f))))))) (store1 5 an (A_b am) (addrOf r))) (B_h 52 [(.int .i64 (.ofNat 0)), (.int .i64 (.ofNat 0)), (.int .i64 (.ofNat 0)), (.int .i64 (.ofNat 0)), (.int .u64 (.ofNat 0))] enE al))))) (C_g 1 (.c i) (some (.c ai)) none none enE ag)))) (store1 5 af (A_b ae) (addrOf q))) (B_h 52 [(.int .i64 (.ofNat 0)), (.int .i64 (.ofNat 0)), (.int .i64 (.ofNat 0)), (.int .i64 (.ofNat 0)), (.int .u64 (.ofNat 0))] enE ad))))) (C_g 1 (.c i) none (some (.c (.int .i64 (.ofNat 8)))) none enE aa)) fun b0 =>
 cnd Z
 (after (fun b1 b2 =>
 after (fun cf F =>
 B_j h (C_v F (resV enE F [.cell (.c d) 5 true, .t (.c (.bool false)), .t (.c (.bool false))]))) (store1 5 b2 (A_b b1) (addrOf d))) (B_l [(.int .i64 (.ofNat 0)), (.int .i64 (.ofNat 0)), (.int .i64 (.ofNat 0)), (.int .i64 (.ofNat 0)), (.int .u64 (.ofNat 0))] [] enE z))
 (b0 (.bool false) (.bool false) z)) (A_y (.c (.bool true)) (.c X) enE Y p)))) (A_y (.c (.bool true)) (.c P) enE Q o))))))))) (B_h 52 [(.int .i64 (.ofNat 0)), (.int .i64 (.ofNat 0)), (.int .i64 (.ofNat 0)), (.int .i64 (.ofNat 0)), (.int .u64 (.ofNat 0))] enE G)
theorem q28 (R : RnK) (N : Nat) (args : List Value) (h : Hs) : r28 R N args h = A_x Tryz.prog N R 28 args h := by kernel_rfl
noncomputable def r29 (R : RnK) (N : Nat) (args : List Value) (h : Hs) : An := unC args fun a m => enK h fun b =>
 obK (fun c =>
 jn (fun (n : Value) (d : Hs) =>
 after (fun f g =>
 after (fun i j =>
 clrK h i j) (app0 50 1 8 g f a)) (B_0 50 1 0 [(.int .u64 (.ofNat 0))] [] enE d)) fun l =>
 cnd c
 (clrK h (.slice none 0 0) b)
 (l (.slice none 0 0) b)) (e2 false qS a (.slice none 0 0))
theorem q29 (R : RnK) (N : Nat) (args : List Value) (h : Hs) : r29 R N args h = A_x Tryz.prog N R 29 args h := by kernel_rfl
noncomputable def r30 (R : RnK) (N : Nat) (args : List Value) (h : Hs) : An := unC args fun L cm => enK h fun M =>
 after (fun b o =>
 A_a 0 b (fun O =>
 A_d O o (fun P =>
 kI64 .lss P (.int .i64 (.ofNat 64)) (fun f =>
 gdF f o (fun Q => A_a 0 b (fun S => Q S o)) (fun U p =>
 gdF f p (fun V => A_d U p (fun W => V W p)) (fun X x =>
 gdF f x (fun Y => kI64 .gtr X (.int .i64 (.ofNat 1024)) (fun Z => Y Z x)) (fun aa ab =>
 after (fun g y =>
 gdF g y (fun ac => A_a 1 b (fun ad => ac ad y)) (fun ae q =>
 gdF g q (fun af => A_d ae q (fun ag => af ag q)) (fun ah z =>
 gdF g z (fun ai => kI64 .lss ah (.int .i64 (.ofNat 4)) (fun aj => ai aj z)) (fun ak al =>
 after (fun i A =>
 gdF i A (fun am => A_a 1 b (fun an => am an A)) (fun ao r =>
 gdF i r (fun ap => A_d ao r (fun aq => ap aq r)) (fun ar B =>
 gdF i B (fun au => kI64 .gtr ar (.int .i64 (.ofNat 64)) (fun av => au av B)) (fun aw ax =>
 after (fun j C =>
 gdF j C (fun ay => A_a 2 b (fun az => ay az C)) (fun a0 s =>
 gdF j s (fun a1 => A_d a0 s (fun a2 => a1 a2 s)) (fun a3 D =>
 gdF j D (fun a4 => kI64 .lss a3 (.int .i64 (.ofNat 1)) (fun a5 => a4 a5 D)) (fun a6 a7 =>
 after (fun l E =>
 gdF l E (fun a8 => A_a 2 b (fun a9 => a8 a9 E)) (fun ba t =>
 gdF l t (fun bb => A_d ba t (fun bc => bb bc t)) (fun bd F =>
 gdF l F (fun be => kI64 .gtr bd (.int .i64 (.ofNat 8)) (fun bf => be bf F)) (fun bg bh =>
 after (fun m G =>
 gdF m G (fun bi => A_a 3 b (fun bj => bi bj G)) (fun bk u =>
 gdF m u (fun bl => A_d bk u (fun bm => bl bm u)) (fun bn H =>
 gdF m H (fun bo => kI64 .lss bn (.int .i64 (.ofNat 16)) (fun bp => bo bp H)) (fun bq br =>
 after (fun n I =>
 gdF n I (fun bs => A_a 3 b (fun bt => bs bt I)) (fun bu v =>
 gdF n v (fun bv => A_d bu v (fun bw => bv bw v)) (fun bx J =>
 gdF n J (fun bz => kI64 .gtr bx (.int .i64 (.ofNat 110)) (fun b0 => bz b0 J)) (fun b1 b2 =>
 after (fun b3 K =>
 jn (fun (cn : Value) (a : Hs) =>
 A_a 2 b (fun b4 =>
 A_d b4 (Hs.mk a.hp a.nx a.nx) (fun b5 =>
 A_a 3 b (fun b6 =>
 A_d b6 (Hs.mk a.hp a.nx a.nx) (fun b7 =>
 kI64 .mul b5 b7 (fun b8 =>
 kI64 .add (.int .i64 (.ofNat 2)) b8 (fun b9 =>
 A_g 4 b (Hs.mk a.hp a.nx a.nx) (fun ca =>
 A_h R 56 [ca] (Hs.mk a.hp a.nx a.nx) (fun cb w => dPut (fun cc d =>
 kI64 .add b9 cc (fun cd =>
 A_a 1 b (fun ce =>
 A_d ce (E_r .light [true, false, false, false, false, false, false, false, false, false] [none, none, some (a.nx, d.nx), none, none, none, none, none, none, none] d) (fun cf =>
 kI64 .mul (.int .i64 (.ofNat 2)) cf (fun cg =>
 kI64 .add cd cg (fun ch =>
 A_a 0 b (fun ci =>
 A_d ci (E_r .light [true, false, false, false, false, false, false, false, false, false, false, false, false, false] [none, none, none, none, none, none, some (a.nx, d.nx), none, none, none, none, none, none, none] d) (fun cj =>
 kI64 .lss ch cj (fun ck =>
 clrK h ck d))))))))) cb (A_w a w .light) (andB (dFit a w .light) (Nat.ble 0 w.lo))))))))))) fun cl =>
 cnd b3
 (clrK h (.bool false) K)
 (cl (.bool false) K)) (A_y (.c (.bool true)) (.c b1) enE b2 n))))) (A_y (.c (.bool true)) (.c bq) enE br m))))) (A_y (.c (.bool true)) (.c bg) enE bh l))))) (A_y (.c (.bool true)) (.c a6) enE a7 j))))) (A_y (.c (.bool true)) (.c aw) enE ax i))))) (A_y (.c (.bool true)) (.c ak) enE al g))))) (A_y (.c (.bool true)) (.c aa) enE ab f)))))))) (oBox 36 (.c L) enE M)
theorem q30 (R : RnK) (N : Nat) (args : List Value) (h : Hs) : r30 R N args h = A_x Tryz.prog N R 30 args h := by kernel_rfl
noncomputable def r31 (R : RnK) (N : Nat) (args : List Value) (h : Hs) : An := unC args fun c j => unC j fun l m => unC m fun n K => enK h fun o =>
 after (fun p d =>
 kNil c (fun q =>
 A_a 4 q (fun r =>
 A_d r d (fun s =>
 after (fun f t =>
 jn (fun (L M : Value) (u : Hs) =>
 kNil c (fun v =>
 A_a 4 v (fun w =>
 B_f w f u (fun O x =>
 clrK h (.tuple #[]) x)))) fun y =>
 lpT (T := Value → Value → Hs → An) (fun _ _ _ => none) N (fun z =>
 fun (a P : Value) (g : Hs) =>
 kI64 .lss a (.int .i64 (.ofNat 8)) (fun b =>
 jn (fun (i : Hs) =>
 jn (fun (A : Hs) =>
 kI64 .add a (.int .i64 (.ofNat 1)) (fun B =>
 z B b A)) fun C =>
 kI64 .mul (.int .i64 (.ofNat 8)) l (fun D =>
 kI64 .add D a (fun E =>
 B_e 1 n a (fun F =>
 A_d F i (fun G =>
 B_e 1 f E (fun H =>
 B_f H G i (fun Q I =>
 C I))))))) fun J =>
 cnd b
 (J g)
 (y a b g))) (.int .i64 (.ofNat 0)) dunno t) (app0 50 1 8 d p s))))) (B_0 50 1 0 [(.int .u64 (.ofNat 0))] [] enE o)
theorem q31 (R : RnK) (N : Nat) (args : List Value) (h : Hs) : r31 R N args h = A_x Tryz.prog N R 31 args h := by kernel_rfl
noncomputable def r32 (R : RnK) (N : Nat) (args : List Value) (h : Hs) : An := unC args fun m n => unC n fun o S => enK h fun p =>
 after (fun d i =>
 A_g 4 d i (fun q =>
 A_h R 30 [q] i (fun r j =>
 kNot r (fun s =>
 jn (fun (U : Value) (b : Hs) =>
 A_h R 57 [] (Hs.mk b.hp b.nx b.nx) (fun t f => dPut (fun u a =>
 A_a 0 d (fun v =>
 A_d v (E_r .light [true, false] [none, some (b.nx, a.nx)] a) (fun w =>
 kToU w (fun x =>
 A_a 1 d (fun y =>
 A_d y (E_r .light [true, false, false, false, false] [none, none, none, none, some (b.nx, a.nx)] a) (fun z =>
 kToU z (fun A =>
 A_a 2 d (fun B =>
 A_d B (E_r .light [true, false, false, false, false, false, false, false] [none, none, none, none, none, none, none, some (b.nx, a.nx)] a) (fun C =>
 kToU C (fun D =>
 A_a 3 d (fun E =>
 A_d E (E_r .light [true, false, false, false, false, false, false, false, false, false, false] [none, none, none, none, none, none, none, none, none, none, some (b.nx, a.nx)] a) (fun F =>
 kToU F (fun G =>
 after (fun H g => dPut (fun l I =>
 A_h R 58 [l] I (fun J K =>
 after (fun L M =>
 after (fun O P =>
 clrK h O P) (app0 50 1 8 M l L)) (B_0 50 1 2 [(.int .u64 (.ofNat 0))] [(0, 1, .c o), (1, 1, .c J)] enE K))) H (A_w a g .bar) (andB (dFit a g .bar) (Nat.ble 0 g.lo))) (B_0 50 1 6 [(.int .u64 (.ofNat 0))] [(0, 1, .c u), (1, 1, .c x), (2, 1, .c A), (3, 1, .c D), (4, 1, .c G), (5, 1, .c (.int .u64 (.ofNat 0)))] enE a)))))))))))))) t (A_w b f .light) (andB (dFit b f .light) (Nat.ble 0 f.lo)))) fun Q =>
 cnd s
 (clrK h (.slice none 0 0) j)
 (Q (.slice none 0 0) j))))) (oBox 36 (.c m) enE p)
theorem q32 (R : RnK) (N : Nat) (args : List Value) (h : Hs) : r32 R N args h = A_x Tryz.prog N R 32 args h := by kernel_rfl
noncomputable def r33 (R : RnK) (N : Nat) (args : List Value) (h : Hs) : An := unC args fun s t => unC t fun b ab => enK h fun u =>
 after (fun d i =>
 A_g 4 d i (fun v =>
 A_h R 30 [v] i (fun w j =>
 kNot w (fun f =>
 gdF f j (fun x => x b j) (fun y l =>
 gdF f l (fun z => kI64 .lss y (.int .i64 (.ofNat 1)) (fun A => z A l)) (fun B C =>
 after (fun a m =>
 gdF a m (fun D => D b m) (fun E n =>
 gdF a n (fun F => A_a 1 d (fun G => F G n)) (fun H g =>
 gdF a g (fun I => A_d H g (fun J => I J g)) (fun K o =>
 gdF a o (fun L => kI64 .gtr E K (fun M => L M o)) (fun O P =>
 after (fun Q p =>
 jn (fun (ac : Value) (q : Hs) =>
 A_g 4 d q (fun S =>
 A_h R 59 [S] q (fun r U =>
 A_7 r 0 (fun V =>
 A_7 r 1 (fun W =>
 kI64 .add V W (fun X =>
 kI64 .add X b (fun Y =>
 kI64 .sub Y (.int .i64 (.ofNat 1)) (fun Z =>
 clrK h Z U)))))))) fun aa =>
 cnd Q
 (clrK h (.int .i64 (.ofNat 0)) p)
 (aa (.int .i64 (.ofNat 0)) p)) (A_y (.c (.bool true)) (.c O) enE P a)))))) (A_y (.c (.bool true)) (.c B) enE C f))))))) (oBox 36 (.c s) enE u)
theorem q33 (R : RnK) (N : Nat) (args : List Value) (h : Hs) : r33 R N args h = A_x Tryz.prog N R 33 args h := by kernel_rfl
noncomputable def r34 (R : RnK) (N : Nat) (args : List Value) (h : Hs) : An := unC args fun aq fx => enK h fun ar =>
 after (fun a t =>
 A_a 0 a (fun au =>
 A_d au t (fun av =>
 kI64 .lss av (.int .i64 (.ofNat 0)) (fun i =>
 gdF i t (fun aw => A_a 0 a (fun ax => aw ax t)) (fun ay u =>
 gdF i u (fun az => A_d ay u (fun a0 => az a0 u)) (fun a1 M =>
 gdF i M (fun a2 => kI64 .gtr a1 (.int .i64 (.ofNat 3)) (fun a3 => a2 a3 M)) (fun a4 a5 =>
 after (fun j O =>
 gdF j O (fun a6 => A_a 1 a (fun a7 => a6 a7 O)) (fun a8 v =>
 gdF j v (fun a9 => A_d a8 v (fun ba => a9 ba v)) (fun bb P =>
 gdF j P (fun bc => kI64 .lss bb (.int .i64 (.ofNat 0)) (fun bd => bc bd P)) (fun be bf =>
 after (fun l Q =>
 gdF l Q (fun bg => A_a 1 a (fun bh => bg bh Q)) (fun bi w =>
 gdF l w (fun bj => A_d bi w (fun bk => bj bk w)) (fun bl S =>
 gdF l S (fun bm => kI64 .geq bl (.int .i64 (.ofNat 16777216)) (fun bn => bm bn S)) (fun bo bp =>
 after (fun m U =>
 gdF m U (fun bq => A_a 2 a (fun br => bq br U)) (fun bs x =>
 gdF m x (fun bt => A_d bs x (fun bu => bt bu x)) (fun bv V =>
 gdF m V (fun bw => kI64 .lss bv (.int .i64 (.ofNat 0)) (fun bx => bw bx V)) (fun bz b0 =>
 after (fun n W =>
 gdF n W (fun b1 => A_a 2 a (fun b2 => b1 b2 W)) (fun b3 y =>
 gdF n y (fun b4 => A_d b3 y (fun b5 => b4 b5 y)) (fun b6 X =>
 gdF n X (fun b7 => kI64 .gtr b6 (.int .i64 (.ofNat 1099511627776)) (fun b8 => b7 b8 X)) (fun b9 ca =>
 after (fun f Y =>
 gdF f Y (fun cb => A_a 3 a (fun cc => cb cc Y)) (fun cd z =>
 gdF f z (fun ce => A_d cd z (fun cf => ce cf z)) (fun cg Z =>
 gdF f Z (fun ch => B_v cg (fun ci => ch ci Z)) (fun cj aa =>
 gdF f aa (fun ck => kI64 .gtr cj (.int .i64 (.ofNat 4)) (fun cl => ck cl aa)) (fun cm cn =>
 after (fun d ab =>
 gdF d ab (fun co => A_a 0 a (fun cp => co cp ab)) (fun cq A =>
 gdF d A (fun cr => A_d cq A (fun cs => cr cs A)) (fun ct ac =>
 gdF d ac (fun cu => kI64 .eql ct (.int .i64 (.ofNat 0)) (fun cv => cu cv ac)) (fun cw ad =>
 gdF d ad (fun cx => cx cw ad) (fun o B =>
 gdT o B (fun cy => A_g 4 a B (fun cz => cy cz B)) (fun c0 ae =>
 gdT o ae (fun c1 => A_h R 60 [c0] ae (c1)) (fun c2 af =>
 gdT o af (fun c3 => kNot c2 (fun c4 => c3 c4 af)) (fun c5 ag =>
 gdF d ag (fun c6 => after (c6) (A_y (.c c5) (.c (.bool false)) enE ag o)) (fun c7 c8 =>
 after (fun c9 ah =>
 jn (fun (da : Value) (C : Hs) =>
 A_a 0 a (fun db =>
 A_d db C (fun dc =>
 kI64 .eql dc (.int .i64 (.ofNat 0)) (fun dd =>
 jn (fun (de : Value) (p : Hs) =>
 A_a 0 a (fun df =>
 A_d df p (fun dg =>
 kToU dg (fun dh =>
 A_a 1 a (fun di =>
 A_d di p (fun dj =>
 kToU dj (fun dk =>
 kShl dk (.int .u64 (.ofNat 8)) (fun dl =>
 kU64 .or dh dl (fun dm =>
 A_a 2 a (fun dn =>
 A_d dn p (fun dp =>
 kToU dp (fun dq =>
 after (fun D dr =>
 jn (fun (fy fz f0 f1 f2 : Value) (ds : Hs) =>
 A_h R 58 [D] ds (fun dt du =>
 after (fun dv dw =>
 after (fun dx dy =>
 clrK h dx dy) (app0 50 1 8 dw D dv)) (B_0 50 1 1 [(.int .u64 (.ofNat 0))] [(0, 1, .c dt)] enE du))) fun dz =>
 lpT (T := Value → Value → Value → Value → Value → Hs → An) (fun _ _ _ _ _ _ => none) N (fun d0 =>
 fun (g f3 d1 d2 ai : Value) (E : Hs) =>
 A_a 3 a (fun d3 =>
 A_d d3 E (fun d4 =>
 B_v d4 (fun d5 =>
 kI64 .lss g d5 (fun F =>
 jn (fun (G : Hs) =>
 jn (fun (d6 d7 d8 : Value) (d9 : Hs) =>
 kI64 .add g (.int .i64 (.ofNat 1)) (fun ea =>
 d0 ea F d6 d7 d8 d9)) fun eb =>
 A_a 3 a (fun ec =>
 A_d ec G (fun ed =>
 B_e 2 ed g (fun ee =>
 A_g 2 ee G (fun ef =>
 after (fun b eg =>
 after (fun f4 H =>
 A_a 0 b (fun eh =>
 A_d eh H (fun ei =>
 kI64 .lss ei (.int .i64 (.ofNat 0)) (fun q =>
 gdF q H (fun ej => A_a 0 b (fun ek => ej ek H)) (fun el I =>
 gdF q I (fun em => A_d el I (fun en => em en I)) (fun eo aj =>
 gdF q aj (fun ep => kI64 .gtr eo (.int .i64 (.ofNat 2147483648)) (fun eq => ep eq aj)) (fun er es =>
 after (fun r ak =>
 gdF r ak (fun et => A_a 1 b (fun eu => et eu ak)) (fun ew J =>
 gdF r J (fun ex => A_d ew J (fun ey => ex ey J)) (fun ez al =>
 gdF r al (fun e0 => kI64 .lss ez (.int .i64 (.ofNat 1)) (fun e1 => e0 e1 al)) (fun e3 e4 =>
 after (fun s am =>
 gdF s am (fun e5 => A_a 1 b (fun e6 => e5 e6 am)) (fun e7 K =>
 gdF s K (fun e8 => A_d e7 K (fun e9 => e8 e9 K)) (fun fa an =>
 gdF s an (fun fb => kI64 .gtr fa (.int .i64 (.ofNat 2147483648)) (fun fc => fb fc an)) (fun fd fe =>
 after (fun ao ap =>
 jn (fun (ff : Value) (L : Hs) =>
 kI64 .add (.int .i64 (.ofNat 2)) g (fun fg =>
 A_a 0 b (fun fh =>
 A_d fh L (fun fi =>
 kToU fi (fun fj =>
 A_a 1 b (fun fk =>
 A_d fk L (fun fl =>
 kToU fl (fun fm =>
 kShl fm (.int .u64 (.ofNat 32)) (fun fn =>
 kU64 .or fj fn (fun fo =>
 B_e 1 D fg (fun fp =>
 B_f fp fo L (fun f5 fq =>
 eb b ao ff fq)))))))))))) fun fr =>
 cnd ao
 (clrK h (.slice none 0 0) ap)
 (fr ai ap)) (A_y (.c (.bool true)) (.c fd) enE fe s))))) (A_y (.c (.bool true)) (.c e3) enE e4 r))))) (A_y (.c (.bool true)) (.c er) enE es q)))))))) (store1 2 eg (A_b ef) (addrOf b))) (B_h 130 [(.int .i64 (.ofNat 0)), (.int .i64 (.ofNat 0))] enE G)))))) fun fs =>
 cnd F
 (fs E)
 (dz g F d1 d2 ai E)))))) (.int .i64 (.ofNat 0)) dunno dunno dunno de dr) (B_0 50 1 7 [(.int .u64 (.ofNat 0))] [(0, 1, .c dm), (1, 1, .c dq), (2, 1, .c (.int .u64 (.ofNat 0))), (3, 1, .c (.int .u64 (.ofNat 0))), (4, 1, .c (.int .u64 (.ofNat 0))), (5, 1, .c (.int .u64 (.ofNat 0))), (6, 1, .c (.int .u64 (.ofNat 0)))] enE p))))))))))))) fun ft =>
 cnd dd
 (after (fun fu fv =>
 clrK h fu fv) (mkslice1 50 1 8 [(.int .u64 (.ofNat 0))] C (B_2 (.int .i64 (.ofNat 8))) (B_2 (.int .i64 (.ofNat 8)))))
 (ft da C))))) fun fw =>
 cnd c9
 (clrK h (.slice none 0 0) ah)
 (fw (.slice none 0 0) ah)) (A_y (.c (.bool true)) (.c c7) enE c8 d)))))))))) (A_y (.c (.bool true)) (.c cm) enE cn f)))))) (A_y (.c (.bool true)) (.c b9) enE ca n))))) (A_y (.c (.bool true)) (.c bz) enE b0 m))))) (A_y (.c (.bool true)) (.c bo) enE bp l))))) (A_y (.c (.bool true)) (.c be) enE bf j))))) (A_y (.c (.bool true)) (.c a4) enE a5 i)))))))) (oBox 79 (.c aq) enE ar)
theorem q34 (R : RnK) (N : Nat) (args : List Value) (h : Hs) : r34 R N args h = A_x Tryz.prog N R 34 args h := by kernel_rfl
noncomputable def r35 (R : RnK) (N : Nat) (args : List Value) (h : Hs) : An := unC args fun i w => enK h fun j =>
 after (fun l m =>
 after (fun a b =>
 A_g 4 l b (fun n =>
 A_h R 61 [n] b (fun d o =>
 A_7 d 0 (fun p =>
 A_7 d 1 (fun f =>
 after (fun q r =>
 after (fun s t =>
 after (fun u v =>
 after (fun x g =>
 B_j h (C_v g (resV enE g [.cell (.c a) 4 true]))) (store1 4 v (A_b u) (addrOf a))) (B_l [(.int .i64 (.ofNat 0)), (.int .i64 (.ofNat 0)), (.int .i64 (.ofNat 0)), (.slice none 0 0)] [(0, 1, .c (.int .i64 (.ofNat 2))), (1, 1, .c (.int .i64 (.ofNat 1))), (2, 1, .c f), (3, 1, .c s)] enE t)) (B_0 130 2 1 [(.int .i64 (.ofNat 0)), (.int .i64 (.ofNat 0))] [(0, 2, .c q)] enE r)) (B_l [(.int .i64 (.ofNat 0)), (.int .i64 (.ofNat 0))] [(0, 1, .c p), (1, 1, .c f)] enE o)))))) (B_h 79 [(.int .i64 (.ofNat 0)), (.int .i64 (.ofNat 0)), (.int .i64 (.ofNat 0)), (.slice none 0 0)] enE m)) (oBox 36 (.c i) enE j)
theorem q35 (R : RnK) (N : Nat) (args : List Value) (h : Hs) : r35 R N args h = A_x Tryz.prog N R 35 args h := by kernel_rfl
noncomputable def r36 (R : RnK) (N : Nat) (args : List Value) (h : Hs) : An := unC args fun d j => unC j fun l H => enK h fun f =>
 kNil d (fun m =>
 A_a 0 m (fun n =>
 A_g 4 n f (fun o =>
 A_h R 59 [o] f (fun g p =>
 A_7 g 0 (fun q =>
 A_7 g 1 (fun r =>
 jn (fun (I J : Value) (s : Hs) =>
 clrK h (.tuple #[]) s) fun t =>
 lpT (T := Value → Value → Hs → An) (fun _ _ _ => none) N (fun u =>
 fun (a K : Value) (i : Hs) =>
 kI64 .lss a r (fun b =>
 jn (fun (v : Hs) =>
 jn (fun (w : Hs) =>
 kI64 .add a (.int .i64 (.ofNat 1)) (fun x =>
 u x b w)) fun y =>
 kI64 .add q a (fun z =>
 kI64 .mul (.int .i64 (.ofNat 8)) a (fun A =>
 kI64 .mul (.int .i64 (.ofNat 8)) a (fun B =>
 kI64 .add B (.int .i64 (.ofNat 8)) (fun C =>
 after (fun D E =>
 A_h R 31 [d, z, D] E (fun L F =>
 y F)) (C_g 1 (.c l) (some (.c A)) (some (.c C)) none enE v)))))) fun G =>
 cnd b
 (G i)
 (t a b i))) (.int .i64 (.ofNat 0)) dunno p))))))
theorem q36 (R : RnK) (N : Nat) (args : List Value) (h : Hs) : r36 R N args h = A_x Tryz.prog N R 36 args h := by kernel_rfl
noncomputable def r37 (R : RnK) (N : Nat) (args : List Value) (h : Hs) : An := unC args fun J K => unC K fun g b7 => enK h fun L =>
 after (fun i q =>
 A_g 4 i q (fun M =>
 A_h R 59 [M] q (fun r O =>
 A_7 r 0 (fun b8 =>
 A_7 r 1 (fun P =>
 kI64 .mul (.int .i64 (.ofNat 8)) P (fun s =>
 after (fun Q t =>
 A_g 4 i t (fun S =>
 A_h R 62 [S] t (fun u U =>
 A_7 u 0 (fun v =>
 A_7 u 1 (fun V =>
 jn (fun (b9 ca cb W : Value) (X : Hs) =>
 jn (fun (Y cc cd ce cf : Value) (Z : Hs) =>
 A_h R 63 [Q, (.bool true), Y] Z (fun aa ab =>
 clrK h aa ab)) fun ac =>
 lpT (T := Value → Value → Value → Value → Value → Hs → An) (fun _ _ _ _ _ _ => none) N (fun ad =>
 fun (w d cg ae x : Value) (y : Hs) =>
 B_v g (fun af =>
 kI64 .lss d af (fun j =>
 jn (fun (ag : Hs) =>
 jn (fun (ah ai aj : Value) (ak : Hs) =>
 kI64 .add d (.int .i64 (.ofNat 1)) (fun al =>
 ad ah al j ai aj ak)) fun am =>
 jn (fun (an ao ap : Value) (aq : Hs) =>
 am an ao ap aq) fun ar =>
 lpT (T := Value → Value → Value → Hs → An) (fun _ _ _ _ => none) N (fun au =>
 fun (z f ch : Value) (l : Hs) =>
 B_e 2 g d (fun av =>
 A_a 1 av (fun aw =>
 A_d aw l (fun ax =>
 kI64 .lss f ax (fun m =>
 jn (fun (A : Hs) =>
 jn (fun (ay : Value) (az : Hs) =>
 kI64 .add f (.int .i64 (.ofNat 1)) (fun a0 =>
 au ay a0 m az)) fun a1 =>
 B_e 2 g d (fun a2 =>
 A_a 0 a2 (fun a3 =>
 A_d a3 A (fun a4 =>
 kI64 .add a4 f (fun a5 =>
 after (fun a6 a7 =>
 after (fun a8 a9 =>
 a1 a8 a9) (app0 3 1 8 a7 z a6)) (B_0 3 1 1 [(.int .i64 (.ofNat 0))] [(0, 1, .c a5)] enE A)))))) fun ba =>
 cnd m
 (ba l)
 (ar z f m l)))))) w (.int .i64 (.ofNat 0)) x ag) fun bb =>
 cnd j
 (bb y)
 (ac w d j ae x y)))) W (.int .i64 (.ofNat 0)) dunno dunno dunno X) fun bc =>
 lpT (T := Value → Value → Value → Value → Hs → An) (fun _ _ _ _ _ => none) N (fun bd =>
 fun (a ci be n : Value) (o : Hs) =>
 A_a 0 i (fun bf =>
 A_d bf o (fun bg =>
 kI64 .lss a bg (fun p =>
 jn (fun (B : Hs) =>
 jn (fun (bh bi : Value) (bj : Hs) =>
 kI64 .add a (.int .i64 (.ofNat 1)) (fun bk =>
 bd bk p bh bi bj)) fun bl =>
 kI64 .lss a v (fun b =>
 gdF b B (fun bm => bm a B) (fun bn C =>
 gdF b C (fun bo => bo v C) (fun bp D =>
 gdF b D (fun bq => bq V D) (fun br E =>
 gdF b E (fun bs => kI64 .add bp br (fun bt => bs bt E)) (fun bu F =>
 gdF b F (fun bv => kI64 .geq bn bu (fun bw => bv bw F)) (fun bx bz =>
 after (fun G H =>
 jn (fun (b0 : Value) (b1 : Hs) =>
 bl G b0 b1) fun I =>
 cnd G
 (after (fun b2 b3 =>
 after (fun b4 b5 =>
 I b4 b5) (app0 3 1 8 b3 n b2)) (B_0 3 1 1 [(.int .i64 (.ofNat 0))] [(0, 1, .c a)] enE H))
 (I n H)) (A_y (.c (.bool true)) (.c bx) enE bz b)))))))) fun b6 =>
 cnd p
 (b6 o)
 (bc a p be n o))))) (.int .i64 (.ofNat 0)) dunno dunno (.slice none 0 0) U))))) (mkslice1 50 1 8 [(.int .u64 (.ofNat 0))] O (B_2 s) (B_2 s)))))))) (oBox 36 (.c J) enE L)
theorem q37 (R : RnK) (N : Nat) (args : List Value) (h : Hs) : r37 R N args h = A_x Tryz.prog N R 37 args h := by kernel_rfl
noncomputable def r38 (R : RnK) (N : Nat) (args : List Value) (h : Hs) : An := unC args fun y z => unC z fun A ao => enK h fun B =>
 after (fun d C =>
 after (fun a j =>
 A_a 0 d (fun D =>
 A_g 4 D j (fun E =>
 A_h R 20 [E, A] j (fun l m =>
 kI64 .eql l (.int .i64 (.ofNat 0)) (fun F =>
 jn (fun (G : Value) (n : Hs) =>
 A_g 5 d n (fun H =>
 A_h R 65 [H, l] n (fun I J =>
 A_h R 64 [I] J (fun o K =>
 A_7 o 0 (fun L =>
 A_7 o 1 (fun M =>
 after (fun f O =>
 after (fun ap p =>
 kNot M (fun b =>
 gdF b p (fun P => A_a 0 d (fun Q => P Q p)) (fun S g =>
 gdF b g (fun U => A_g 4 S g (fun V => U V g)) (fun W i =>
 gdF b i (fun X => A_g 4 f i (fun Y => X Y i)) (fun Z q =>
 gdF b q (fun aa => A_h R 66 [W, Z] q (aa)) (fun ab r =>
 gdF b r (fun ac => kNot ab (fun ad => ac ad r)) (fun ae af =>
 after (fun ag s =>
 jn (fun (aq : Value) (u : Hs) =>
 A_g 4 f u (fun ah =>
 after (fun ar v =>
 B_j h (C_v v (resV enE v [.cell (.c a) 4 true, .t (.c (.bool true))]))) (store1 4 u (A_b ah) (addrOf a)))) fun ai =>
 cnd ag
 (after (fun aj ak =>
 after (fun au w =>
 B_j h (C_v w (resV enE w [.cell (.c a) 4 true, .t (.c (.bool false))]))) (store1 4 ak (A_b aj) (addrOf a))) (B_l [(.int .i64 (.ofNat 0)), (.int .i64 (.ofNat 0)), (.int .i64 (.ofNat 0)), (.slice none 0 0)] [] enE s))
 (ai G s)) (A_y (.c (.bool true)) (.c ae) enE af b)))))))) (store1 4 O (A_b L) (addrOf f))) (B_h 58 [(.int .i64 (.ofNat 0)), (.int .i64 (.ofNat 0)), (.int .i64 (.ofNat 0)), (.slice none 0 0)] enE K))))))) fun al =>
 cnd F
 (after (fun am an =>
 after (fun av x =>
 B_j h (C_v x (resV enE x [.cell (.c a) 4 true, .t (.c (.bool false))]))) (store1 4 an (A_b am) (addrOf a))) (B_l [(.int .i64 (.ofNat 0)), (.int .i64 (.ofNat 0)), (.int .i64 (.ofNat 0)), (.slice none 0 0)] [] enE m))
 (al (.bool false) m)))))) (B_h 58 [(.int .i64 (.ofNat 0)), (.int .i64 (.ofNat 0)), (.int .i64 (.ofNat 0)), (.slice none 0 0)] enE C)) (oBox 31 (.c y) enE B)
theorem q38 (R : RnK) (N : Nat) (args : List Value) (h : Hs) : r38 R N args h = A_x Tryz.prog N R 38 args h := by kernel_rfl
noncomputable def r39 (R : RnK) (N : Nat) (args : List Value) (h : Hs) : An := unC args fun am an => unC an fun ao er => enK h fun ap =>
 after (fun v w =>
 A_g 5 v w (fun aq =>
 A_h R 38 [aq, ao] w (fun x ar =>
 A_7 x 0 (fun au =>
 A_7 x 1 (fun av =>
 after (fun b aw =>
 after (fun es y =>
 kNot av (fun a =>
 gdF a y (fun ax => A_a 0 b (fun ay => ax ay y)) (fun az l =>
 gdF a l (fun a0 => A_d az l (fun a1 => a0 a1 l)) (fun a2 z =>
 gdF a z (fun a3 => kI64 .neq a2 (.int .i64 (.ofNat 1)) (fun a4 => a3 a4 z)) (fun a5 A =>
 gdF a A (fun a6 => a6 a5 A) (fun f B =>
 gdT f B (fun a7 => A_a 0 b (fun a8 => a7 a8 B)) (fun a9 m =>
 gdT f m (fun ba => A_d a9 m (fun bb => ba bb m)) (fun bc C =>
 gdT f C (fun bd => kI64 .neq bc (.int .i64 (.ofNat 3)) (fun be => bd be C)) (fun bf D =>
 gdF a D (fun bg => after (bg) (A_y (.c bf) (.c (.bool false)) enE D f)) (fun bh bi =>
 after (fun bj E =>
 jn (fun (et : Value) (F : Hs) =>
 A_a 3 b (fun bk =>
 A_d bk F (fun G =>
 B_v G (fun bl =>
 jn (fun (eu ew ex ey ez e0 e1 e3 e4 e5 e6 e7 e8 bm e9 : Value) (H : Hs) =>
 A_a 2 b (fun bn =>
 A_d bn H (fun bo =>
 after (fun bp bq =>
 A_h R 67 [bp] bq (fun br bs =>
 clrK h br bs)) (C_g 1 (.c bm) none (some (.c bo)) none enE H)))) fun bt =>
 lpT (T := Value → Value → Value → Value → Value → Value → Value → Value → Value → Value → Value → Value → Value → Value → Value → Hs → An) (fun _ _ _ _ _ _ _ _ _ _ _ _ _ _ _ _ => none) N (fun bu =>
 fun (g fa bv bw bx I J K L M O P Q S U : Value) (V : Hs) =>
 kI64 .lss g bl (fun n =>
 jn (fun (W : Hs) =>
 jn (fun (bz b0 b1 b2 b3 b4 b5 b6 b7 b8 b9 ca cb : Value) (cc : Hs) =>
 kI64 .add g (.int .i64 (.ofNat 1)) (fun cd =>
 bu cd n bz b0 b1 b2 b3 b4 b5 b6 b7 b8 b9 ca cb cc)) fun ce =>
 B_e 2 G g (fun cf =>
 A_g 2 cf W (fun cg =>
 after (fun i ch =>
 after (fun fb X =>
 A_a 1 i (fun ci =>
 A_d ci X (fun Y =>
 jn (fun (cj ck cl cm cn co cp cq cr cs ct : Value) (cu : Hs) =>
 ce i cj Y ck cl cm cn co cp cq cr cs ct cu) fun cv =>
 lpT (T := Value → Value → Value → Value → Value → Value → Value → Value → Value → Value → Value → Hs → An) (fun _ _ _ _ _ _ _ _ _ _ _ _ => none) N (fun cw =>
 fun (d fc cx cy cz Z c0 aa ab ac ad : Value) (ae : Hs) =>
 kI64 .lss d Y (fun o =>
 jn (fun (p : Hs) =>
 jn (fun (c1 c2 c3 c4 c5 c6 c7 c8 c9 : Value) (da : Hs) =>
 kI64 .add d (.int .i64 (.ofNat 1)) (fun db =>
 cw db o c1 c2 c3 c4 c5 c6 c7 c8 c9 da)) fun dc =>
 A_g 5 v p (fun dd =>
 A_a 0 i (fun de =>
 A_d de p (fun df =>
 kI64 .add df d (fun dg =>
 A_h R 65 [dd, dg] p (fun q dh =>
 B_v q (fun af =>
 jn (fun (di dj dk dl dm dn : Value) (dp : Hs) =>
 dc d di af dj q dk dl dm dn dp) fun dq =>
 lpT (T := Value → Value → Value → Value → Value → Value → Hs → An) (fun _ _ _ _ _ _ _ => none) N (fun dr =>
 fun (j fd ds ag ah dt : Value) (ai : Hs) =>
 kI64 .lss j af (fun r =>
 jn (fun (aj : Hs) =>
 jn (fun (du dv dw dx : Value) (dy : Hs) =>
 kI64 .add j (.int .i64 (.ofNat 1)) (fun dz =>
 dr dz r du dv dw dx dy)) fun d0 =>
 B_e 1 q j (fun d1 =>
 A_d d1 aj (fun d2 =>
 jn (fun (d3 d4 d5 d6 : Value) (d7 : Hs) =>
 d0 d3 d4 d5 d6 d7) fun d8 =>
 lpT (T := Value → Value → Value → Value → Hs → An) (fun _ _ _ _ _ => none) N (fun d9 =>
 fun (s fe ak t : Value) (al : Hs) =>
 kI64 .lss s (.int .i64 (.ofNat 8)) (fun u =>
 jn (fun (ea : Hs) =>
 jn (fun (eb ec : Value) (ed : Hs) =>
 kI64 .add s (.int .i64 (.ofNat 1)) (fun ee =>
 d9 ee u eb ec ed)) fun ef =>
 kTo8 t (fun eg =>
 after (fun eh ei =>
 after (fun ej ek =>
 kShr t (.int .u64 (.ofNat 8)) (fun el =>
 ef ej el ek)) (app0 5 1 1 ei ak eh)) (B_0 5 1 1 [(.int .u8 (.ofNat 0))] [(0, 1, .c eg)] enE ea))) fun em =>
 cnd u
 (em al)
 (d8 s u ak t al))) (.int .i64 (.ofNat 0)) ag ah d2 aj))) fun en =>
 cnd r
 (en ai)
 (dq j r ds ag ah dt ai))) (.int .i64 (.ofNat 0)) Z aa ab ac ad dh))))))) fun eo =>
 cnd o
 (eo ae)
 (cv d o cx cy cz Z c0 aa ab ac ad ae))) (.int .i64 (.ofNat 0)) I J K L M O P Q S U X))) (store1 2 ch (A_b cg) (addrOf i))) (B_h 60 [(.int .i64 (.ofNat 0)), (.int .i64 (.ofNat 0))] enE W)))) fun ep =>
 cnd n
 (ep V)
 (bt g n bv bw bx I J K L M O P Q S U V))) (.int .i64 (.ofNat 0)) dunno dunno dunno dunno dunno dunno dunno dunno dunno dunno dunno dunno (.slice none 0 0) dunno F)))) fun eq =>
 cnd bj
 (clrK h (.slice none 0 0) E)
 (eq (.slice none 0 0) E)) (A_y (.c (.bool true)) (.c bh) enE bi a))))))))))) (store1 4 aw (A_b au) (addrOf b))) (B_h 58 [(.int .i64 (.ofNat 0)), (.int .i64 (.ofNat 0)), (.int .i64 (.ofNat 0)), (.slice none 0 0)] enE ar)))))) (oBox 31 (.c am) enE ap)
theorem q39 (R : RnK) (N : Nat) (args : List Value) (h : Hs) : r39 R N args h = A_x Tryz.prog N R 39 args h := by kernel_rfl
noncomputable def r40 (R : RnK) (N : Nat) (args : List Value) (h : Hs) : An := unC args fun z A => unC A fun B a3 => enK h fun C =>
 after (fun j l =>
 A_g 5 j l (fun D =>
 A_h R 38 [D, B] l (fun m E =>
 A_7 m 0 (fun F =>
 A_7 m 1 (fun G =>
 after (fun b H =>
 after (fun a4 n =>
 kNot G (fun d =>
 gdF d n (fun I => A_a 0 b (fun J => I J n)) (fun K f =>
 gdF d f (fun L => A_d K f (fun M => L M f)) (fun O o =>
 gdF d o (fun P => kI64 .neq O (.int .i64 (.ofNat 2)) (fun Q => P Q o)) (fun S U =>
 after (fun V p =>
 jn (fun (a5 : Value) (q : Hs) =>
 A_a 2 b (fun W =>
 A_d W q (fun X =>
 jn (fun (a6 a7 a8 a9 Y ba : Value) (Z : Hs) =>
 clrK h Y Z) fun aa =>
 lpT (T := Value → Value → Value → Value → Value → Value → Hs → An) (fun _ _ _ _ _ _ _ => none) N (fun ab =>
 fun (a bb ac ad r ae : Value) (s : Hs) =>
 kI64 .lss a X (fun g =>
 jn (fun (t : Hs) =>
 jn (fun (af ag ah ai : Value) (aj : Hs) =>
 kI64 .add a (.int .i64 (.ofNat 1)) (fun ak =>
 ab ak g af ag ah ai aj)) fun al =>
 A_a 3 b (fun am =>
 A_d am t (fun an =>
 A_h R 68 [an, a] t (fun u v =>
 A_7 u 0 (fun w =>
 A_7 u 1 (fun bc =>
 A_g 5 j v (fun ao =>
 A_h R 65 [ao, w] v (fun ap aq =>
 A_h R 69 [ap] aq (fun x ar =>
 A_7 x 0 (fun au =>
 A_7 x 1 (fun bd =>
 after (fun i av =>
 after (fun be y =>
 A_g 2 i y (fun aw =>
 after (fun ax ay =>
 after (fun az a0 =>
 al a w az i a0) (app0 93 2 24 ay r ax)) (B_0 93 2 1 [(.int .i64 (.ofNat 0)), (.string ⟨#[]⟩)] [(0, 2, .c aw)] enE y))) (store1 2 av (A_b au) (addrOf i))) (B_h 93 [(.int .i64 (.ofNat 0)), (.string ⟨#[]⟩)] enE ar)))))))))))) fun a1 =>
 cnd g
 (a1 s)
 (aa a g ac ad r ae s))) (.int .i64 (.ofNat 0)) dunno dunno dunno (.slice none 0 0) dunno q))) fun a2 =>
 cnd V
 (clrK h (.slice none 0 0) p)
 (a2 (.slice none 0 0) p)) (A_y (.c (.bool true)) (.c S) enE U d)))))) (store1 4 H (A_b F) (addrOf b))) (B_h 58 [(.int .i64 (.ofNat 0)), (.int .i64 (.ofNat 0)), (.int .i64 (.ofNat 0)), (.slice none 0 0)] enE E)))))) (oBox 31 (.c z) enE C)
theorem q40 (R : RnK) (N : Nat) (args : List Value) (h : Hs) : r40 R N args h = A_x Tryz.prog N R 40 args h := by kernel_rfl
noncomputable def r51 (R : RnK) (N : Nat) (args : List Value) (h : Hs) : An := unC args fun a f => enK h fun b =>
 A_h R 79 [(.int .u64 (.ofNat 7811896474847682849)), a] b (fun c d =>
 clrK h c d)
theorem q51 (R : RnK) (N : Nat) (args : List Value) (h : Hs) : r51 R N args h = A_x Tryz.prog N R 51 args h := by kernel_rfl
noncomputable def r52 (R : RnK) (N : Nat) (args : List Value) (h : Hs) : An := unC args fun d t => enK h fun f =>
 after (fun b a =>
 A_a 2 b (fun g =>
 A_d g (Hs.mk a.hp a.nx a.nx) (fun i =>
 A_a 3 b (fun j =>
 A_d j (Hs.mk a.hp a.nx a.nx) (fun l =>
 kI64 .mul i l (fun m =>
 kI64 .add (.int .i64 (.ofNat 1)) m (fun n =>
 A_a 0 b (fun o =>
 A_d o (Hs.mk a.hp a.nx a.nx) (fun p =>
 kI64 .add p (.int .i64 (.ofNat 512)) (fun q =>
 kI64 .sub q (.int .i64 (.ofNat 1)) (fun r =>
 kI64 .quo r (.int .i64 (.ofNat 512)) (fun s =>
 clrK h (.tuple #[n, s]) a)))))))))))) (oBox 23 (.c d) enE f)
theorem q52 (R : RnK) (N : Nat) (args : List Value) (h : Hs) : r52 R N args h = A_x Tryz.prog N R 52 args h := by kernel_rfl
noncomputable def r53 (R : RnK) (N : Nat) (args : List Value) (h : Hs) : An := unC args fun y a8 => enK h fun z =>
 after (fun a g =>
 A_a 0 a (fun A =>
 A_d A g (fun B =>
 kI64 .eql B (.int .i64 (.ofNat 0)) (fun C =>
 jn (fun (D : Value) (m : Hs) =>
 A_a 0 a (fun E =>
 A_d E m (fun F =>
 A_h R 81 [F, (.int .i64 (.ofNat 1)), (.int .i64 (.ofNat 3))] m (fun G n =>
 kNot G (fun b =>
 gdF b n (fun H => A_a 1 a (fun I => H I n)) (fun J i =>
 gdF b i (fun K => A_d J i (fun L => K L i)) (fun M o =>
 gdF b o (fun O => A_h R 81 [M, (.int .i64 (.ofNat 0)), (.int .i64 (.ofNat 16777215))] o (O)) (fun P p =>
 gdF b p (fun Q => kNot P (fun S => Q S p)) (fun U V =>
 after (fun d q =>
 gdF d q (fun W => A_a 2 a (fun X => W X q)) (fun Y j =>
 gdF d j (fun Z => A_d Y j (fun aa => Z aa j)) (fun ab r =>
 gdF d r (fun ac => A_h R 81 [ab, (.int .i64 (.ofNat 0)), (.int .i64 (.ofNat 1099511627776))] r (ac)) (fun ad s =>
 gdF d s (fun ae => kNot ad (fun af => ae af s)) (fun ag ah =>
 after (fun f t =>
 gdF f t (fun ai => A_a 3 a (fun aj => ai aj t)) (fun ak l =>
 gdF f l (fun al => A_d ak l (fun am => al am l)) (fun an u =>
 gdF f u (fun ao => B_v an (fun ap => ao ap u)) (fun aq v =>
 gdF f v (fun ar => kI64 .gtr aq (.int .i64 (.ofNat 4)) (fun au => ar au v)) (fun av aw =>
 after (fun ax w =>
 jn (fun (a9 : Value) (x : Hs) =>
 A_a 3 a (fun ay =>
 A_d ay x (fun az =>
 A_h R 82 [az, (.func (.func 83) #[] #[])] x (fun a0 a1 =>
 kNot a0 (fun a2 =>
 clrK h a2 a1))))) fun a3 =>
 cnd ax
 (clrK h (.bool false) w)
 (a3 D w)) (A_y (.c (.bool true)) (.c av) enE aw f)))))) (A_y (.c (.bool true)) (.c ag) enE ah d)))))) (A_y (.c (.bool true)) (.c U) enE V b)))))))))) fun a4 =>
 cnd C
 (A_g 4 a g (fun a5 =>
 A_h R 80 [a5] g (fun a6 a7 =>
 clrK h a6 a7)))
 (a4 (.bool false) g))))) (oBox 58 (.c y) enE z)
theorem q53 (R : RnK) (N : Nat) (args : List Value) (h : Hs) : r53 R N args h = A_x Tryz.prog N R 53 args h := by kernel_rfl
noncomputable def r54 (R : RnK) (N : Nat) (args : List Value) (h : Hs) : An := unC args fun m n => unC n fun d K => enK h fun o =>
 after (fun p f =>
 kI64 .geq d (.int .i64 (.ofNat 0)) (fun a =>
 gdT a f (fun q => q d f) (fun r g =>
 gdT a g (fun s => kI64 .quo r (.int .i64 (.ofNat 64)) (fun t => s t g)) (fun u i =>
 gdT a i (fun v => A_a 0 p (fun w => v w i)) (fun x b =>
 gdT a b (fun y => A_d x b (fun z => y z b)) (fun A j =>
 gdT a j (fun B => B_v A (fun C => B C j)) (fun D l =>
 gdT a l (fun E => kI64 .lss u D (fun F => E F l)) (fun G H =>
 after (fun I J =>
 clrK h I J) (A_y (.c G) (.c (.bool false)) enE H a))))))))) (oBox 62 (.c m) enE o)
theorem q54 (R : RnK) (N : Nat) (args : List Value) (h : Hs) : r54 R N args h = A_x Tryz.prog N R 54 args h := by kernel_rfl
noncomputable def r55 (R : RnK) (N : Nat) (args : List Value) (h : Hs) : An := unC args fun d bo => enK h fun L =>
 after (fun f x =>
 B_v d (fun M =>
 kI64 .neq M (.int .i64 (.ofNat 8)) (fun O =>
 jn (fun (P : Value) (Q : Hs) =>
 after (fun y S =>
 B_v y (fun U =>
 jn (fun (bp bq br bs V : Value) (a : Hs) =>
 B_e 1 d (.int .i64 (.ofNat 1)) (fun W =>
 A_d W (Hs.mk a.hp a.nx a.nx) (fun X =>
 J_k X (fun Y =>
 B_e 1 d (.int .i64 (.ofNat 2)) (fun Z =>
 A_d Z (Hs.mk a.hp a.nx a.nx) (fun aa =>
 J_k aa (fun ab =>
 B_e 1 d (.int .i64 (.ofNat 3)) (fun ac =>
 A_d ac (Hs.mk a.hp a.nx a.nx) (fun ad =>
 J_k ad (fun ae =>
 B_e 1 d (.int .i64 (.ofNat 4)) (fun af =>
 A_d af (Hs.mk a.hp a.nx a.nx) (fun ag =>
 J_k ag (fun ah =>
 after (fun ai l => dPut (fun aj g =>
 after (fun ak m => dPut (fun z n =>
 after (fun al o => dPut (fun bt b =>
 A_g 4 z (Hs.mk b.hp b.nx b.nx) (fun am =>
 B_e 1 d (.int .i64 (.ofNat 6)) (fun an =>
 A_d an (Hs.mk b.hp b.nx b.nx) (fun ao =>
 after (fun ap p => dPut (fun aq i =>
 after (fun ar q => dPut (fun r s =>
 after (fun au u => dPut (fun bu A =>
 A_g 5 r A (fun av =>
 A_h R 18 [av] A (fun aw ax =>
 A_h R 84 [aw, d] ax (fun ay B =>
 kNot ay (fun az =>
 jn (fun (bv : Value) (C : Hs) =>
 A_g 5 r C (fun a0 =>
 after (fun bw D =>
 B_j h (C_v D (resV enE D [.cell (.c f) 5 true, .t (.c (.bool true))]))) (store1 5 C (A_b a0) (addrOf f)))) fun a1 =>
 cnd az
 (after (fun a2 a3 =>
 after (fun bx E =>
 B_j h (C_v E (resV enE E [.cell (.c f) 5 true, .t (.c (.bool false))]))) (store1 5 a3 (A_b a2) (addrOf f))) (B_l [(.int .i64 (.ofNat 0)), (.int .i64 (.ofNat 0)), (.int .i64 (.ofNat 0)), (.int .i64 (.ofNat 0)), (.int .u64 (.ofNat 0))] [] enE B))
 (a1 V B)))))) au (A_w s u .bar) (andB (dFit s u .bar) (Nat.ble 0 u.lo))) (store1 5 s (A_b aq) (addrOf r))) ar (A_w i q .make) (andB (dFit i q .make) (Nat.ble 0 q.lo))) (B_h 52 [(.int .i64 (.ofNat 0)), (.int .i64 (.ofNat 0)), (.int .i64 (.ofNat 0)), (.int .i64 (.ofNat 0)), (.int .u64 (.ofNat 0))] enE (Hs.mk .e i.nx i.nx))) ap (A_w b p .blind) (andB (dFit b p .blind) (Nat.ble 0 p.lo))) (B_l [(.int .i64 (.ofNat 0)), (.int .i64 (.ofNat 0)), (.int .i64 (.ofNat 0)), (.int .i64 (.ofNat 0)), (.int .u64 (.ofNat 0))] [(0, 4, .c am), (4, 1, .c ao)] enE (Hs.mk .e b.nx b.nx)))))) al (A_w n o .bar) (andB (dFit n o .bar) (Nat.ble 0 o.lo))) (store1 4 n (A_b aj) (addrOf z))) ak (A_w g m .make) (andB (dFit g m .make) (Nat.ble 0 m.lo))) (B_h 23 [(.int .i64 (.ofNat 0)), (.int .i64 (.ofNat 0)), (.int .i64 (.ofNat 0)), (.int .i64 (.ofNat 0))] enE (Hs.mk .e g.nx g.nx))) ai (A_w a l .blind) (andB (dFit a l .blind) (Nat.ble 0 l.lo))) (B_l [(.int .i64 (.ofNat 0)), (.int .i64 (.ofNat 0)), (.int .i64 (.ofNat 0)), (.int .i64 (.ofNat 0))] [(0, 1, .c Y), (1, 1, .c ab), (2, 1, .c ae), (3, 1, .c ah)] enE (Hs.mk .e a.nx a.nx))))))))))))))) fun a4 =>
 lpT (T := Value → Value → Value → Value → Value → Hs → An) (fun _ _ _ _ _ _ => none) N (fun a5 =>
 fun (j bz a6 a7 F : Value) (G : Hs) =>
 kI64 .lss j U (fun v =>
 jn (fun (w : Hs) =>
 jn (fun (a8 a9 ba : Value) (bb : Hs) =>
 kI64 .add j (.int .i64 (.ofNat 1)) (fun bc =>
 a5 bc v a8 a9 ba bb)) fun bd =>
 B_e 1 y j (fun be =>
 A_d be w (fun H =>
 kU64 .gtr H (.int .u64 (.ofNat 1024)) (fun I =>
 jn (fun (bf : Value) (bg : Hs) =>
 bd H I bf bg) fun bh =>
 cnd I
 (after (fun bi bj =>
 after (fun b0 J =>
 B_j h (C_v J (resV enE J [.cell (.c f) 5 true, .t (.c (.bool false))]))) (store1 5 bj (A_b bi) (addrOf f))) (B_l [(.int .i64 (.ofNat 0)), (.int .i64 (.ofNat 0)), (.int .i64 (.ofNat 0)), (.int .i64 (.ofNat 0)), (.int .u64 (.ofNat 0))] [] enE w))
 (bh F w))))) fun bk =>
 cnd v
 (bk G)
 (a4 j v a6 a7 F G))) (.int .i64 (.ofNat 0)) dunno dunno dunno P S)) (C_g 1 (.c d) (some (.c (.int .i64 (.ofNat 1)))) (some (.c (.int .i64 (.ofNat 6)))) none enE Q)) fun bl =>
 cnd O
 (after (fun bm bn =>
 after (fun b1 K =>
 B_j h (C_v K (resV enE K [.cell (.c f) 5 true, .t (.c (.bool false))]))) (store1 5 bn (A_b bm) (addrOf f))) (B_l [(.int .i64 (.ofNat 0)), (.int .i64 (.ofNat 0)), (.int .i64 (.ofNat 0)), (.int .i64 (.ofNat 0)), (.int .u64 (.ofNat 0))] [] enE x))
 (bl (.bool false) x)))) (B_h 52 [(.int .i64 (.ofNat 0)), (.int .i64 (.ofNat 0)), (.int .i64 (.ofNat 0)), (.int .i64 (.ofNat 0)), (.int .u64 (.ofNat 0))] enE L)
theorem q55 (R : RnK) (N : Nat) (args : List Value) (h : Hs) : r55 R N args h = A_x Tryz.prog N R 55 args h := by kernel_rfl
noncomputable def r56 (R : RnK) (N : Nat) (args : List Value) (h : Hs) : An := unC args fun b m => enK h fun d =>
 after (fun f a =>
 A_a 0 f (fun g =>
 A_d g a (fun i =>
 kI64 .add i (.int .i64 (.ofNat 511)) (fun j =>
 kI64 .quo j (.int .i64 (.ofNat 512)) (fun l =>
 clrK h l a))))) (oBox 36 (.c b) enE d)
theorem q56 (R : RnK) (N : Nat) (args : List Value) (h : Hs) : r56 R N args h = A_x Tryz.prog N R 56 args h := by kernel_rfl
noncomputable def r57 (R : RnK) (N : Nat) (args : List Value) (h : Hs) : An := enK h fun a =>
 clrK h (.int .u64 (.ofNat 5497010944029229057)) a
theorem q57 (R : RnK) (N : Nat) (args : List Value) (h : Hs) : r57 R N args h = A_x Tryz.prog N R 57 args h := by kernel_rfl
noncomputable def r58 (R : RnK) (N : Nat) (args : List Value) (h : Hs) : An := unC args fun a f => enK h fun b =>
 A_h R 85 [(.int .u64 (.ofNat 7811896474847682849)), a] b (fun c d =>
 clrK h c d)
theorem q58 (R : RnK) (N : Nat) (args : List Value) (h : Hs) : r58 R N args h = A_x Tryz.prog N R 58 args h := by kernel_rfl
noncomputable def r59 (R : RnK) (N : Nat) (args : List Value) (h : Hs) : An := unC args fun i z => enK h fun j =>
 after (fun b f =>
 A_g 4 b f (fun l =>
 A_h R 30 [l] f (fun m g =>
 kNot m (fun n =>
 jn (fun (A B : Value) (a : Hs) =>
 A_a 2 b (fun o =>
 A_d o (Hs.mk a.hp a.nx a.nx) (fun p =>
 A_a 3 b (fun q =>
 A_d q (Hs.mk a.hp a.nx a.nx) (fun r =>
 kI64 .mul p r (fun s =>
 kI64 .add (.int .i64 (.ofNat 1)) s (fun t =>
 A_g 4 b (Hs.mk a.hp a.nx a.nx) (fun u =>
 A_h R 56 [u] (Hs.mk a.hp a.nx a.nx) (fun v d => dPut (fun w x =>
 clrK h (.tuple #[t, w]) x) v (A_w a d .light) (andB (dFit a d .light) (Nat.ble 0 d.lo))))))))))) fun y =>
 cnd n
 (clrK h (.tuple #[(.int .i64 (.ofNat 0)), (.int .i64 (.ofNat 0))]) g)
 (y (.int .i64 (.ofNat 0)) (.int .i64 (.ofNat 0)) g))))) (oBox 36 (.c i) enE j)
theorem q59 (R : RnK) (N : Nat) (args : List Value) (h : Hs) : r59 R N args h = A_x Tryz.prog N R 59 args h := by kernel_rfl
noncomputable def r61 (R : RnK) (N : Nat) (args : List Value) (h : Hs) : An := unC args fun j y => enK h fun l =>
 after (fun b g =>
 A_g 4 b g (fun m =>
 A_h R 30 [m] g (fun n i =>
 kNot n (fun o =>
 jn (fun (z A : Value) (a : Hs) =>
 A_g 4 b (Hs.mk a.hp a.nx a.nx) (fun p =>
 A_a 1 b (fun q =>
 A_d q (Hs.mk a.hp a.nx a.nx) (fun r =>
 A_h R 33 [p, r] (Hs.mk a.hp a.nx a.nx) (fun s d => dPut (fun t f =>
 kI64 .add t (.int .i64 (.ofNat 1)) (fun u =>
 A_a 1 b (fun v =>
 A_d v (E_r .light [true, false, false, false, false, false] [none, none, some (a.nx, f.nx), none, none, none] f) (fun w =>
 clrK h (.tuple #[u, w]) f)))) s (A_w a d .light) (andB (dFit a d .light) (Nat.ble 0 d.lo))))))) fun x =>
 cnd o
 (clrK h (.tuple #[(.int .i64 (.ofNat 0)), (.int .i64 (.ofNat 0))]) i)
 (x (.int .i64 (.ofNat 0)) (.int .i64 (.ofNat 0)) i))))) (oBox 36 (.c j) enE l)
theorem q61 (R : RnK) (N : Nat) (args : List Value) (h : Hs) : r61 R N args h = A_x Tryz.prog N R 61 args h := by kernel_rfl
noncomputable def r62 (R : RnK) (N : Nat) (args : List Value) (h : Hs) : An := unC args fun m z => enK h fun n =>
 after (fun a b =>
 A_g 4 a b (fun o =>
 A_h R 30 [o] b (fun p d =>
 kNot p (fun q =>
 jn (fun (A B : Value) (f : Hs) =>
 A_g 4 a f (fun r =>
 A_h R 61 [r] f (fun g i =>
 A_7 g 0 (fun j =>
 A_7 g 1 (fun l =>
 kI64 .add j l (fun s =>
 A_a 0 a (fun t =>
 A_d t i (fun u =>
 kI64 .sub u (.int .i64 (.ofNat 1)) (fun v =>
 kI64 .sub v j (fun w =>
 kI64 .sub w l (fun x =>
 clrK h (.tuple #[s, x]) i))))))))))) fun y =>
 cnd q
 (clrK h (.tuple #[(.int .i64 (.ofNat 0)), (.int .i64 (.ofNat 0))]) d)
 (y (.int .i64 (.ofNat 0)) (.int .i64 (.ofNat 0)) d))))) (oBox 36 (.c m) enE n)
theorem q62 (R : RnK) (N : Nat) (args : List Value) (h : Hs) : r62 R N args h = A_x Tryz.prog N R 62 args h := by kernel_rfl
noncomputable def r63 (R : RnK) (N : Nat) (args : List Value) (h : Hs) : An := unC args fun m y => unC y fun n z => unC z fun o a6 => enK h fun A =>
 after (fun B C =>
 after (fun d D =>
 jn (fun (a7 a8 a9 ba bb : Value) (E : Hs) =>
 clrK h d E) fun F =>
 lpT (T := Value → Value → Value → Value → Value → Hs → An) (fun _ _ _ _ _ _ => none) N (fun G =>
 fun (f bc H I p : Value) (q : Hs) =>
 B_v o (fun J =>
 kI64 .lss f J (fun i =>
 jn (fun (j : Hs) =>
 jn (fun (K L M : Value) (O : Hs) =>
 kI64 .add f (.int .i64 (.ofNat 1)) (fun P =>
 G P i K L M O)) fun r =>
 B_e 1 o f (fun Q =>
 A_d Q j (fun a =>
 kI64 .lss a (.int .i64 (.ofNat 0)) (fun b =>
 gdF b j (fun S => S a j) (fun U s =>
 gdF b s (fun V => V m s) (fun W t =>
 gdF b t (fun X => B_v W (fun Y => X Y t)) (fun Z u =>
 gdF b u (fun aa => kI64 .mul (.int .i64 (.ofNat 64)) Z (fun ab => aa ab u)) (fun ac v =>
 gdF b v (fun ad => kI64 .geq U ac (fun ae => ad ae v)) (fun af ag =>
 after (fun l w =>
 jn (fun (g : Hs) =>
 jn (fun (ah : Hs) =>
 r a l n ah) fun x =>
 cnd n
 (kI64 .quo a (.int .i64 (.ofNat 64)) (fun ai =>
 kI64 .quo a (.int .i64 (.ofNat 64)) (fun aj =>
 B_e 1 d aj (fun ak =>
 A_d ak g (fun al =>
 kI64 .rem a (.int .i64 (.ofNat 64)) (fun am =>
 kToU am (fun an =>
 kShl (.int .u64 (.ofNat 1)) an (fun ao =>
 kU64 .or al ao (fun ap =>
 B_e 1 d ai (fun aq =>
 B_f aq ap g (fun bd ar =>
 x ar)))))))))))
 (kI64 .quo a (.int .i64 (.ofNat 64)) (fun au =>
 kI64 .quo a (.int .i64 (.ofNat 64)) (fun av =>
 B_e 1 d av (fun aw =>
 A_d aw g (fun ax =>
 kI64 .rem a (.int .i64 (.ofNat 64)) (fun ay =>
 kToU ay (fun az =>
 kShl (.int .u64 (.ofNat 1)) az (fun a0 =>
 kU64 .andNot ax a0 (fun a1 =>
 B_e 1 d au (fun a2 =>
 B_f a2 a1 g (fun be a3 =>
 x a3)))))))))))) fun a4 =>
 cnd l
 (r a l p w)
 (a4 w)) (A_y (.c (.bool true)) (.c af) enE ag b)))))))))) fun a5 =>
 cnd i
 (a5 q)
 (F f i H I p q)))) (.int .i64 (.ofNat 0)) dunno dunno dunno dunno D) (app0 50 1 8 C B m)) (B_0 50 1 0 [(.int .u64 (.ofNat 0))] [] enE A)
theorem q63 (R : RnK) (N : Nat) (args : List Value) (h : Hs) : r63 R N args h = A_x Tryz.prog N R 63 args h := by kernel_rfl
noncomputable def r64 (R : RnK) (N : Nat) (args : List Value) (h : Hs) : An := unC args fun b cj => enK h fun Q =>
 after (fun d x =>
 B_v b (fun S =>
 kI64 .neq S (.int .i64 (.ofNat 8)) (fun f =>
 gdF f x (fun U => U b x) (fun V y =>
 gdF f y (fun W => B_e 1 V (.int .i64 (.ofNat 0)) (fun X => W X y)) (fun Y o =>
 gdF f o (fun Z => A_d Y o (fun aa => Z aa o)) (fun ab z =>
 gdF f z (fun ac => kShr ab (.int .u64 (.ofNat 32)) (fun ad => ac ad z)) (fun ae A =>
 gdF f A (fun af => kU64 .neq ae (.int .u64 (.ofNat 0)) (fun ag => af ag A)) (fun ah ai =>
 after (fun g B =>
 gdF g B (fun aj => aj b B) (fun ak C =>
 gdF g C (fun al => B_e 1 ak (.int .i64 (.ofNat 1)) (fun am => al am C)) (fun an p =>
 gdF g p (fun ao => A_d an p (fun ap => ao ap p)) (fun aq D =>
 gdF g D (fun ar => kU64 .gtr aq (.int .u64 (.ofNat 1099511627776)) (fun au => ar au D)) (fun av aw =>
 after (fun ax E =>
 jn (fun (ay : Value) (a : Hs) =>
 B_e 1 b (.int .i64 (.ofNat 0)) (fun az =>
 A_d az (Hs.mk a.hp a.nx a.nx) (fun a0 =>
 kU64 .and a0 (.int .u64 (.ofNat 255)) (fun a1 =>
 J_k a1 (fun a2 =>
 B_e 1 b (.int .i64 (.ofNat 0)) (fun a3 =>
 A_d a3 (Hs.mk a.hp a.nx a.nx) (fun a4 =>
 kShr a4 (.int .u64 (.ofNat 8)) (fun a5 =>
 J_k a5 (fun a6 =>
 B_e 1 b (.int .i64 (.ofNat 1)) (fun a7 =>
 A_d a7 (Hs.mk a.hp a.nx a.nx) (fun a8 =>
 J_k a8 (fun a9 =>
 after (fun ba q => dPut (fun bb m =>
 after (fun bc r => dPut (fun i s =>
 after (fun bd u => dPut (fun ck be =>
 after (fun F bf =>
 B_v F (fun bg =>
 jn (fun (cl cm cn co : Value) (G : Hs) =>
 A_g 4 i G (fun bh =>
 A_h R 21 [bh] G (fun bi bj =>
 A_h R 84 [bi, b] bj (fun bk H =>
 kNot bk (fun bl =>
 jn (fun (cp : Value) (I : Hs) =>
 A_g 4 i I (fun bm =>
 after (fun cq J =>
 B_j h (C_v J (resV enE J [.cell (.c d) 4 true, .t (.c (.bool true))]))) (store1 4 I (A_b bm) (addrOf d)))) fun bn =>
 cnd bl
 (after (fun bo bp =>
 after (fun cr K =>
 B_j h (C_v K (resV enE K [.cell (.c d) 4 true, .t (.c (.bool false))]))) (store1 4 bp (A_b bo) (addrOf d))) (B_l [(.int .i64 (.ofNat 0)), (.int .i64 (.ofNat 0)), (.int .i64 (.ofNat 0)), (.slice none 0 0)] [] enE H))
 (bn ay H)))))) fun L =>
 lpT (T := Value → Value → Value → Value → Hs → An) (fun _ _ _ _ _ => none) N (fun bq =>
 fun (j cs br bs : Value) (M : Hs) =>
 kI64 .lss j bg (fun n =>
 jn (fun (v : Hs) =>
 jn (fun (bt bu : Value) (bv : Hs) =>
 kI64 .add j (.int .i64 (.ofNat 1)) (fun bw =>
 bq bw n bt bu bv)) fun bx =>
 B_e 1 F j (fun bz =>
 A_d bz v (fun l =>
 kU64 .eql l (.int .u64 (.ofNat 0)) (fun w =>
 jn (fun (O : Hs) =>
 A_a 3 i (fun b0 =>
 A_d b0 O (fun b1 =>
 kU64 .and l (.int .u64 (.ofNat 4294967295)) (fun b2 =>
 J_k b2 (fun b3 =>
 kShr l (.int .u64 (.ofNat 32)) (fun b4 =>
 J_k b4 (fun b5 =>
 after (fun b6 b7 =>
 after (fun b8 b9 =>
 after (fun ca cb =>
 A_a 3 i (fun cc =>
 B_f cc ca cb (fun ct cd =>
 bx l w cd))) (app0 60 2 16 b9 b1 b8)) (B_0 60 2 1 [(.int .i64 (.ofNat 0)), (.int .i64 (.ofNat 0))] [(0, 2, .c b6)] enE b7)) (B_l [(.int .i64 (.ofNat 0)), (.int .i64 (.ofNat 0))] [(0, 1, .c b3), (1, 1, .c b5)] enE O)))))))) fun ce =>
 cnd w
 (L j n l w v)
 (ce v))))) fun cf =>
 cnd n
 (cf M)
 (L j n br bs M))) (.int .i64 (.ofNat 0)) dunno dunno dunno bf)) (C_g 1 (.c b) (some (.c (.int .i64 (.ofNat 2)))) (some (.c (.int .i64 (.ofNat 6)))) none enE be)) bd (A_w s u .bar) (andB (dFit s u .bar) (Nat.ble 0 u.lo))) (store1 4 s (A_b bb) (addrOf i))) bc (A_w m r .make) (andB (dFit m r .make) (Nat.ble 0 r.lo))) (B_h 58 [(.int .i64 (.ofNat 0)), (.int .i64 (.ofNat 0)), (.int .i64 (.ofNat 0)), (.slice none 0 0)] enE (Hs.mk .e m.nx m.nx))) ba (A_w a q .blind) (andB (dFit a q .blind) (Nat.ble 0 q.lo))) (B_l [(.int .i64 (.ofNat 0)), (.int .i64 (.ofNat 0)), (.int .i64 (.ofNat 0)), (.slice none 0 0)] [(0, 1, .c a2), (1, 1, .c a6), (2, 1, .c a9)] enE (Hs.mk .e a.nx a.nx)))))))))))))) fun cg =>
 cnd ax
 (after (fun ch ci =>
 after (fun cu P =>
 B_j h (C_v P (resV enE P [.cell (.c d) 4 true, .t (.c (.bool false))]))) (store1 4 ci (A_b ch) (addrOf d))) (B_l [(.int .i64 (.ofNat 0)), (.int .i64 (.ofNat 0)), (.int .i64 (.ofNat 0)), (.slice none 0 0)] [] enE E))
 (cg (.bool false) E)) (A_y (.c (.bool true)) (.c av) enE aw g)))))) (A_y (.c (.bool true)) (.c ah) enE ai f))))))))) (B_h 58 [(.int .i64 (.ofNat 0)), (.int .i64 (.ofNat 0)), (.int .i64 (.ofNat 0)), (.slice none 0 0)] enE Q)
theorem q64 (R : RnK) (N : Nat) (args : List Value) (h : Hs) : r64 R N args h = A_x Tryz.prog N R 64 args h := by kernel_rfl
noncomputable def r65 (R : RnK) (N : Nat) (args : List Value) (h : Hs) : An := unC args fun p q => unC q fun b Y => enK h fun r =>
 after (fun f g =>
 kI64 .lss b (.int .i64 (.ofNat 0)) (fun a =>
 gdF a g (fun s => s b g) (fun t i =>
 gdF a i (fun u => A_a 4 f (fun v => u v i)) (fun w d =>
 gdF a d (fun x => A_d w d (fun y => x y d)) (fun z j =>
 gdF a j (fun A => B_v z (fun B => A B j)) (fun C l =>
 gdF a l (fun D => kI64 .quo C (.int .i64 (.ofNat 8)) (fun E => D E l)) (fun F m =>
 gdF a m (fun G => kI64 .geq t F (fun H => G H m)) (fun I J =>
 after (fun K n =>
 jn (fun (Z : Value) (o : Hs) =>
 A_a 4 f (fun L =>
 A_d L o (fun M =>
 kI64 .mul (.int .i64 (.ofNat 8)) b (fun O =>
 kI64 .add b (.int .i64 (.ofNat 1)) (fun P =>
 kI64 .mul (.int .i64 (.ofNat 8)) P (fun Q =>
 after (fun S U =>
 A_h R 29 [S] U (fun V W =>
 clrK h V W)) (C_g 1 (.c M) (some (.c O)) (some (.c Q)) none enE o))))))) fun X =>
 cnd K
 (clrK h (.slice none 0 0) n)
 (X (.slice none 0 0) n)) (A_y (.c (.bool true)) (.c I) enE J a))))))))) (oBox 31 (.c p) enE r)
theorem q65 (R : RnK) (N : Nat) (args : List Value) (h : Hs) : r65 R N args h = A_x Tryz.prog N R 65 args h := by kernel_rfl
noncomputable def r66 (R : RnK) (N : Nat) (args : List Value) (h : Hs) : An := unC args fun H I => unC I fun J b3 => enK h fun K =>
 after (fun p L =>
 after (fun f y =>
 A_g 4 p y (fun M =>
 A_h R 6 [M] y (fun O z =>
 kNot O (fun P =>
 jn (fun (Q : Value) (n : Hs) =>
 A_a 0 f (fun S =>
 A_d S n (fun U =>
 kI64 .eql U (.int .i64 (.ofNat 0)) (fun V =>
 jn (fun (W : Value) (A : Hs) =>
 A_a 0 f (fun X =>
 A_d X A (fun Y =>
 A_h R 81 [Y, (.int .i64 (.ofNat 1)), (.int .i64 (.ofNat 3))] A (fun Z B =>
 kNot Z (fun l =>
 gdF l B (fun aa => A_a 1 f (fun ab => aa ab B)) (fun ac q =>
 gdF l q (fun ad => A_d ac q (fun ae => ad ae q)) (fun af C =>
 gdF l C (fun ag => A_h R 81 [af, (.int .i64 (.ofNat 1)), (.int .i64 (.ofNat 200))] C (ag)) (fun ah D =>
 gdF l D (fun ai => kNot ah (fun aj => ai aj D)) (fun ak al =>
 after (fun m r =>
 gdF m r (fun am => A_g 4 p r (fun an => am an r)) (fun ao s =>
 gdF m s (fun ap => A_g 4 f s (fun aq => ap aq s)) (fun ar E =>
 gdF m E (fun au => A_h R 86 [ao, ar] E (au)) (fun av F =>
 gdF m F (fun aw => kNot av (fun ax => aw ax F)) (fun ay az =>
 after (fun a0 G =>
 jn (fun (b4 : Value) (a : Hs) =>
 A_a 3 f (fun a1 =>
 A_d a1 a (fun a2 =>
 B_v a2 (fun a3 =>
 kI64 .leq a3 (.int .i64 (.ofNat 4)) (fun o =>
 gdT o a (fun a4 => A_g 4 p (Hs.mk a.hp a.nx a.nx) (fun a5 => a4 a5 a)) (fun a6 _ =>
 gdT o a (fun a7 => A_g 4 f (Hs.mk a.hp a.nx a.nx) (fun a8 => a7 a8 a)) (fun a9 _ =>
 gdT o a (fun ba => A_h R 87 [a6, a9] a (fun bb t => dPut ba bb (A_w a t .bar) (andB (dFit a t .bar) (Nat.ble 0 t.lo)))) (fun bc d =>
 after (fun bd u => dPut (fun i b =>
 gdT i b (fun be => A_g 4 f (E_r .light [true, true, true, true, true, true, true, true, true, true] [none, some (d.nx, b.nx), some (a.nx, d.nx), none, none, none, none, none, none, none] b) (fun bf => be bf b)) (fun bg _ =>
 gdT i b (fun bh => A_h R 88 [bg] (E_r .light [true, true, true, true, true, true, true, true, true, true, true] [none, none, some (d.nx, b.nx), some (a.nx, d.nx), none, none, none, none, none, none, none] b) (fun bi v => dPut bh bi (A_w b v .light) (andB (dFit b v .light) (Nat.ble 0 v.lo)))) (fun bj g =>
 gdT i g (fun bk => A_g 4 f (E_r .light [false, false, true, true, true, true, true, true, true, true, true, true] [some (b.nx, g.nx), none, none, some (d.nx, b.nx), some (a.nx, d.nx), none, none, none, none, none, none, none] g) (fun bl => bk bl g)) (fun bm _ =>
 gdT i g (fun bn => A_h R 89 [bm] g (fun bo w => dPut bn bo (A_w g w .bar) (andB (dFit g w .bar) (Nat.ble 0 w.lo)))) (fun bp j =>
 gdT i j (fun bq => kI64 .eql bj bp (fun br => bq br j)) (fun bs _ =>
 after (fun bt x => dPut (fun bu bv =>
 clrK h bu bv) bt (A_w j x .blind) (andB (dFit j x .blind) (Nat.ble 0 x.lo))) (A_y (.c bs) (.c (.bool false)) enE (Hs.mk .e j.nx j.nx) i))))))) bd (A_w d u .blind) (andB (dFit d u .blind) (Nat.ble 0 u.lo))) (A_y (.c bc) (.c (.bool false)) enE (Hs.mk .e d.nx d.nx) o))))))))) fun bw =>
 cnd a0
 (clrK h (.bool false) G)
 (bw W G)) (A_y (.c (.bool true)) (.c ay) enE az m)))))) (A_y (.c (.bool true)) (.c ak) enE al l)))))))))) fun bx =>
 cnd V
 (A_g 4 f n (fun bz =>
 A_h R 80 [bz] n (fun b0 b1 =>
 clrK h b0 b1)))
 (bx Q n))))) fun b2 =>
 cnd P
 (clrK h (.bool false) z)
 (b2 (.bool false) z))))) (oBox 58 (.c J) enE L)) (oBox 23 (.c H) enE K)
theorem q66 (R : RnK) (N : Nat) (args : List Value) (h : Hs) : r66 R N args h = A_x Tryz.prog N R 66 args h := by kernel_rfl
noncomputable def r68 (R : RnK) (N : Nat) (args : List Value) (h : Hs) : An := unC args fun r s => unC s fun g af => enK h fun i =>
 kI64 .lss g (.int .i64 (.ofNat 0)) (fun t =>
 jn (fun (u v : Value) (w : Hs) =>
 A_h R 90 [r] w (fun j x =>
 B_v j (fun y =>
 jn (fun (ag ah ai aj ak al am : Value) (z : Hs) =>
 clrK h (.tuple #[(.int .i64 (.ofNat 0)), (.bool false)]) z) fun A =>
 lpT (T := Value → Value → Value → Value → Value → Value → Value → Hs → An) (fun _ _ _ _ _ _ _ _ => none) N (fun B =>
 fun (b c an C D l m : Value) (n : Hs) =>
 kI64 .lss c y (fun f =>
 jn (fun (o : Hs) =>
 jn (fun (E F G H I : Value) (J : Hs) =>
 kI64 .add c (.int .i64 (.ofNat 1)) (fun K =>
 B E K f F G H I J)) fun L =>
 B_e 2 j c (fun M =>
 A_g 2 M o (fun O =>
 after (fun a P =>
 after (fun ao d =>
 A_a 1 a (fun Q =>
 A_d Q d (fun S =>
 kI64 .lss b S (fun p =>
 jn (fun (U V : Value) (q : Hs) =>
 A_a 1 a (fun W =>
 A_d W q (fun X =>
 kI64 .sub b X (fun Y =>
 L Y a p U V q)))) fun Z =>
 cnd p
 (A_a 0 a (fun aa =>
 A_d aa d (fun ab =>
 kI64 .add ab b (fun ac =>
 clrK h (.tuple #[ac, (.bool true)]) d))))
 (Z l m d))))) (store1 2 P (A_b O) (addrOf a))) (B_h 60 [(.int .i64 (.ofNat 0)), (.int .i64 (.ofNat 0))] enE o)))) fun ad =>
 cnd f
 (ad n)
 (A b c f C D l m n))) g (.int .i64 (.ofNat 0)) dunno dunno dunno u v x))) fun ae =>
 cnd t
 (clrK h (.tuple #[(.int .i64 (.ofNat 0)), (.bool false)]) i)
 (ae (.int .i64 (.ofNat 0)) (.bool false) i))
theorem q68 (R : RnK) (N : Nat) (args : List Value) (h : Hs) : r68 R N args h = A_x Tryz.prog N R 68 args h := by kernel_rfl
noncomputable def r79 (R : RnK) (N : Nat) (args : List Value) (h : Hs) : An := unC args fun j l => unC l fun c D => enK h fun m =>
 B_v c (fun n =>
 jn (fun (E F o G : Value) (p : Hs) =>
 clrK h o p) fun q =>
 lpT (T := Value → Value → Value → Value → Hs → An) (fun _ _ _ _ _ => none) N (fun r =>
 fun (a H d s : Value) (f : Hs) =>
 kI64 .lss a n (fun b =>
 jn (fun (g : Hs) =>
 jn (fun (t u : Value) (v : Hs) =>
 kI64 .add a (.int .i64 (.ofNat 1)) (fun w =>
 r w b t u v)) fun x =>
 B_e 1 c a (fun y =>
 A_d y g (fun i =>
 A_h R 103 [d, (.int .i64 (.ofNat 9))] g (fun z A =>
 kU64 .xor z i (fun B =>
 x B i A))))) fun C =>
 cnd b
 (C f)
 (q a b d s f))) (.int .i64 (.ofNat 0)) dunno j dunno m)
theorem q79 (R : RnK) (N : Nat) (args : List Value) (h : Hs) : r79 R N args h = A_x Tryz.prog N R 79 args h := by kernel_rfl
noncomputable def r80 (R : RnK) (N : Nat) (args : List Value) (h : Hs) : An := unC args fun s ai => enK h fun t =>
 after (fun b g =>
 A_a 0 b (fun u =>
 A_d u g (fun v =>
 kI64 .eql v (.int .i64 (.ofNat 0)) (fun d =>
 gdT d g (fun w => A_a 1 b (fun x => w x g)) (fun y i =>
 gdT d i (fun z => A_d y i (fun A => z A i)) (fun B m =>
 gdT d m (fun C => kI64 .eql B (.int .i64 (.ofNat 0)) (fun D => C D m)) (fun E F =>
 after (fun f n =>
 gdT f n (fun G => A_a 2 b (fun H => G H n)) (fun I j =>
 gdT f j (fun J => A_d I j (fun K => J K j)) (fun L o =>
 gdT f o (fun M => kI64 .eql L (.int .i64 (.ofNat 0)) (fun O => M O o)) (fun P Q =>
 after (fun a p =>
 gdT a p (fun S => A_a 3 b (fun U => S U p)) (fun V l =>
 gdT a l (fun W => A_d V l (fun X => W X l)) (fun Y q =>
 gdT a q (fun Z => B_v Y (fun aa => Z aa q)) (fun ab r =>
 gdT a r (fun ac => kI64 .eql ab (.int .i64 (.ofNat 0)) (fun ad => ac ad r)) (fun ae af =>
 after (fun ag ah =>
 clrK h ag ah) (A_y (.c ae) (.c (.bool false)) enE af a)))))) (A_y (.c P) (.c (.bool false)) enE Q f))))) (A_y (.c E) (.c (.bool false)) enE F d)))))))) (oBox 58 (.c s) enE t)
theorem q80 (R : RnK) (N : Nat) (args : List Value) (h : Hs) : r80 R N args h = A_x Tryz.prog N R 80 args h := by kernel_rfl
noncomputable def r81 (R : RnK) (N : Nat) (args : List Value) (h : Hs) : An := unC args fun b i => unC i fun j l => unC l fun m x => enK h fun d =>
 kI64 .geq b j (fun a =>
 gdT a d (fun n => n b d) (fun o f =>
 gdT a f (fun p => p m f) (fun q g =>
 gdT a g (fun r => kI64 .leq o q (fun s => r s g)) (fun t u =>
 after (fun v w =>
 clrK h v w) (A_y (.c t) (.c (.bool false)) enE u a)))))
theorem q81 (R : RnK) (N : Nat) (args : List Value) (h : Hs) : r81 R N args h = A_x Tryz.prog N R 81 args h := by kernel_rfl
noncomputable def r82 (R : RnK) (N : Nat) (args : List Value) (h : Hs) : An := unC args fun a b => unC b fun c j => enK h fun d =>
 A_h R 104 [a, c] d (fun f g =>
 kI64 .geq f (.int .i64 (.ofNat 0)) (fun i =>
 clrK h i g))
theorem q82 (R : RnK) (N : Nat) (args : List Value) (h : Hs) : r82 R N args h = A_x Tryz.prog N R 82 args h := by kernel_rfl
noncomputable def r83 (R : RnK) (N : Nat) (args : List Value) (h : Hs) : An := unC args fun l E => enK h fun m =>
 after (fun d f =>
 A_a 0 d (fun n =>
 A_d n f (fun o =>
 A_h R 81 [o, (.int .i64 (.ofNat 0)), (.int .i64 (.ofNat 2147483648))] f (fun p g =>
 kNot p (fun a =>
 gdF a g (fun q => A_a 1 d (fun r => q r g)) (fun s b =>
 gdF a b (fun t => A_d s b (fun u => t u b)) (fun v i =>
 gdF a i (fun w => A_h R 81 [v, (.int .i64 (.ofNat 1)), (.int .i64 (.ofNat 2147483648))] i (w)) (fun x j =>
 gdF a j (fun y => kNot x (fun z => y z j)) (fun A B =>
 after (fun C D =>
 clrK h C D) (A_y (.c (.bool true)) (.c A) enE B a)))))))))) (oBox 60 (.c l) enE m)
theorem q83 (R : RnK) (N : Nat) (args : List Value) (h : Hs) : r83 R N args h = A_x Tryz.prog N R 83 args h := by kernel_rfl
noncomputable def r84 (R : RnK) (N : Nat) (args : List Value) (h : Hs) : An := unC args fun c m => unC m fun f O => enK h fun g =>
 B_v c (fun n =>
 B_v f (fun o =>
 kI64 .neq n o (fun p =>
 jn (fun (q : Value) (r : Hs) =>
 B_v c (fun s =>
 jn (fun (P Q S U V : Value) (t : Hs) =>
 clrK h (.bool true) t) fun u =>
 lpT (T := Value → Value → Value → Value → Value → Hs → An) (fun _ _ _ _ _ _ => none) N (fun v =>
 fun (b W w x i : Value) (j : Hs) =>
 kI64 .lss b s (fun d =>
 jn (fun (a : Hs) =>
 jn (fun (y z A : Value) (B : Hs) =>
 kI64 .add b (.int .i64 (.ofNat 1)) (fun C =>
 v C d y z A B)) fun D =>
 B_e 1 c b (fun E =>
 A_d E (Hs.mk a.hp a.nx a.nx) (fun F =>
 B_e 1 f b (fun G =>
 A_d G (Hs.mk a.hp a.nx a.nx) (fun H =>
 kU64 .neq F H (fun l =>
 jn (fun (I : Value) (J : Hs) =>
 D b l I J) fun K =>
 cnd l
 (clrK h (.bool false) a)
 (K i a))))))) fun L =>
 cnd d
 (L j)
 (u b d w x i j))) (.int .i64 (.ofNat 0)) dunno dunno dunno q r)) fun M =>
 cnd p
 (clrK h (.bool false) g)
 (M (.bool false) g))))
theorem q84 (R : RnK) (N : Nat) (args : List Value) (h : Hs) : r84 R N args h = A_x Tryz.prog N R 84 args h := by kernel_rfl
noncomputable def r85 (R : RnK) (N : Nat) (args : List Value) (h : Hs) : An := unC args fun l m => unC m fun g D => enK h fun n =>
 jn (fun (E F o : Value) (p : Hs) =>
 clrK h o p) fun q =>
 lpT (T := Value → Value → Value → Hs → An) (fun _ _ _ _ => none) N (fun r =>
 fun (b G i : Value) (j : Hs) =>
 B_v g (fun s =>
 kI64 .lss b s (fun c =>
 jn (fun (a : Hs) =>
 jn (fun (t : Value) (u : Hs) =>
 kI64 .add b (.int .i64 (.ofNat 1)) (fun v =>
 r v c t u)) fun w =>
 A_h R 105 [i, (.int .i64 (.ofNat 9))] (Hs.mk a.hp a.nx a.nx) (fun x d => dPut (fun y f =>
 B_e 1 g b (fun z =>
 A_d z (E_r .light [true, true, true, false, false] [none, none, none, some (a.nx, f.nx), none] f) (fun A =>
 kU64 .xor y A (fun B =>
 w B f)))) x (A_w a d .light) (andB (dFit a d .light) (Nat.ble 0 d.lo)))) fun C =>
 cnd c
 (C j)
 (q b c i j)))) (.int .i64 (.ofNat 0)) dunno l n
theorem q85 (R : RnK) (N : Nat) (args : List Value) (h : Hs) : r85 R N args h = A_x Tryz.prog N R 85 args h := by kernel_rfl
noncomputable def r86 (R : RnK) (N : Nat) (args : List Value) (h : Hs) : An := unC args fun j l => unC l fun m Q => enK h fun n =>
 after (fun o p =>
 after (fun b a =>
 A_a 0 b (fun q =>
 A_d q a (fun d =>
 jn (fun (S U V : Value) (f : Hs) =>
 A_a 2 b (fun r =>
 A_d r f (fun s =>
 A_h R 81 [s, (.int .i64 (.ofNat 1)), (.int .i64 (.ofNat 400))] f (fun t u =>
 clrK h t u)))) fun v =>
 kI64 .eql d (.int .i64 (.ofNat 1)) (fun g =>
 jn (fun (w x : Value) (y : Hs) =>
 v g w x y) fun z =>
 cnd g
 (A_a 2 b (fun A =>
 A_d A a (fun B =>
 A_h R 81 [B, (.int .i64 (.ofNat 0)), (.int .i64 (.ofNat 4096))] a (fun C D =>
 clrK h C D))))
 (kI64 .eql d (.int .i64 (.ofNat 2)) (fun i =>
 jn (fun (E : Value) (F : Hs) =>
 z i E F) fun G =>
 cnd i
 (A_a 2 b (fun H =>
 A_d H a (fun I =>
 A_a 0 o (fun J =>
 A_d J a (fun K =>
 after (fun L M =>
 A_h R 81 [I, (.int .i64 (.ofNat 0)), L] M (fun O P =>
 clrK h O P)) (E_6 false [.c K, .c (.int .i64 (.ofNat 4096))] enE a))))))
 (G (.bool false) a))))))) (oBox 58 (.c m) enE p)) (oBox 23 (.c j) enE n)
theorem q86 (R : RnK) (N : Nat) (args : List Value) (h : Hs) : r86 R N args h = A_x Tryz.prog N R 86 args h := by kernel_rfl
noncomputable def r87 (R : RnK) (N : Nat) (args : List Value) (h : Hs) : An := unC args fun a3 a4 => unC a4 fun a5 f3 => enK h fun a6 =>
 after (fun D a7 =>
 after (fun n E =>
 A_g 4 D E (fun a8 =>
 A_h R 17 [a8] E (fun F p =>
 A_7 F 0 (fun a9 =>
 A_7 F 1 (fun ba =>
 A_a 0 n (fun bb =>
 A_d bb p (fun bc =>
 kI64 .eql bc (.int .i64 (.ofNat 2)) (fun f =>
 gdT f p (fun bd => A_a 3 n (fun be => bd be p)) (fun bf q =>
 gdT f q (fun bg => A_d bf q (fun bh => bg bh q)) (fun bi G =>
 gdT f G (fun bj => bj a9 G) (fun bk H =>
 gdT f H (fun bl => bl ba H) (fun bm I =>
 gdT f I (fun bn => after (bn) (B_l [(.int .i64 (.ofNat 0)), (.int .i64 (.ofNat 0))] [(0, 1, .c bk), (1, 1, .c bm)] enE I)) (fun bo J =>
 gdT f J (fun bp => after (bp) (B_0 60 2 1 [(.int .i64 (.ofNat 0)), (.int .i64 (.ofNat 0))] [(0, 2, .c bo)] enE J)) (fun bq K =>
 gdT f K (fun br => A_h R 106 [bi, bq] K (br)) (fun bs bt =>
 after (fun bu L =>
 jn (fun (bv : Value) (M : Hs) =>
 A_g 4 D M (fun bw =>
 A_h R 22 [bw] M (fun O P =>
 A_7 O 0 (fun r =>
 A_7 O 1 (fun Q =>
 A_a 3 n (fun bx =>
 A_d bx P (fun S =>
 B_v S (fun bz =>
 jn (fun (f4 f5 f6 f7 f8 f9 ga gb gc gd ge gf : Value) (b0 : Hs) =>
 clrK h (.bool true) b0) fun b1 =>
 lpT (T := Value → Value → Value → Value → Value → Value → Value → Value → Value → Value → Value → Value → Hs → An) (fun _ _ _ _ _ _ _ _ _ _ _ _ _ => none) N (fun b2 =>
 fun (i gg b3 b4 b5 b6 b7 U b8 V W X : Value) (Y : Hs) =>
 kI64 .lss i bz (fun s =>
 jn (fun (Z : Hs) =>
 jn (fun (b9 ca cb cc cd ce cf cg ch ci : Value) (cj : Hs) =>
 kI64 .add i (.int .i64 (.ofNat 1)) (fun ck =>
 b2 ck s b9 ca cb cc cd ce cf cg ch ci cj)) fun cl =>
 B_e 2 S i (fun cm =>
 A_g 2 cm Z (fun cn =>
 after (fun a co =>
 after (fun gh t =>
 A_a 1 a (fun cp =>
 A_d cp t (fun cq =>
 kI64 .lss cq (.int .i64 (.ofNat 1)) (fun j =>
 gdF j t (fun cr => A_a 0 a (fun cs => cr cs t)) (fun ct u =>
 gdF j u (fun cu => A_d ct u (fun cv => cu cv u)) (fun cw aa =>
 gdF j aa (fun cx => cx r aa) (fun cy ab =>
 gdF j ab (fun cz => kI64 .lss cw cy (fun c0 => cz c0 ab)) (fun c1 c2 =>
 after (fun g ac =>
 gdF g ac (fun c3 => A_a 0 a (fun c4 => c3 c4 ac)) (fun c5 v =>
 gdF g v (fun c6 => A_d c5 v (fun c7 => c6 c7 v)) (fun c8 ad =>
 gdF g ad (fun c9 => c9 r ad) (fun da ae =>
 gdF g ae (fun db => kI64 .sub c8 da (fun dc => db dc ae)) (fun dd af =>
 gdF g af (fun de => de Q af) (fun df ag =>
 gdF g ag (fun dg => kI64 .geq dd df (fun dh => dg dh ag)) (fun di dj =>
 after (fun b ah =>
 gdF b ah (fun dk => A_a 1 a (fun dl => dk dl ah)) (fun dm w =>
 gdF b w (fun dn => A_d dm w (fun dp => dn dp w)) (fun dq ai =>
 gdF b ai (fun dr => dr Q ai) (fun ds aj =>
 gdF b aj (fun dt => A_a 0 a (fun du => dt du aj)) (fun dv x =>
 gdF b x (fun dw => A_d dv x (fun dx => dw dx x)) (fun dy ak =>
 gdF b ak (fun dz => dz r ak) (fun d0 al =>
 gdF b al (fun d1 => kI64 .sub dy d0 (fun d2 => d1 d2 al)) (fun d3 am =>
 gdF b am (fun d4 => kI64 .sub ds d3 (fun d5 => d4 d5 am)) (fun d6 an =>
 gdF b an (fun d7 => kI64 .gtr dq d6 (fun d8 => d7 d8 an)) (fun d9 ea =>
 after (fun ao ap =>
 jn (fun (eb : Value) (aq : Hs) =>
 A_a 3 n (fun ec =>
 A_d ec aq (fun ed =>
 after (fun y ee =>
 B_v y (fun ar =>
 jn (fun (ef eg eh ei ej : Value) (ek : Hs) =>
 cl a ao i ef ar eg y eh ei ej ek) fun el =>
 lpT (T := Value → Value → Value → Value → Value → Hs → An) (fun _ _ _ _ _ _ => none) N (fun em =>
 fun (o gi en eo au : Value) (av : Hs) =>
 kI64 .lss o ar (fun z =>
 jn (fun (aw : Hs) =>
 jn (fun (ep eq er : Value) (es : Hs) =>
 kI64 .add o (.int .i64 (.ofNat 1)) (fun et =>
 em et z ep eq er es)) fun eu =>
 B_e 2 y o (fun ew =>
 A_g 2 ew aw (fun ex =>
 after (fun l ey =>
 after (fun gj m =>
 A_a 0 a (fun ez =>
 A_d ez m (fun e0 =>
 A_a 0 l (fun e1 =>
 A_d e1 m (fun e3 =>
 A_a 1 l (fun e4 =>
 A_d e4 m (fun e5 =>
 kI64 .add e3 e5 (fun e6 =>
 kI64 .lss e0 e6 (fun d =>
 gdT d m (fun e7 => A_a 0 l (fun e8 => e7 e8 m)) (fun e9 A =>
 gdT d A (fun fa => A_d e9 A (fun fb => fa fb A)) (fun fc ax =>
 gdT d ax (fun fd => A_a 0 a (fun fe => fd fe ax)) (fun ff B =>
 gdT d B (fun fg => A_d ff B (fun fh => fg fh B)) (fun fi ay =>
 gdT d ay (fun fj => A_a 1 a (fun fk => fj fk ay)) (fun fl C =>
 gdT d C (fun fm => A_d fl C (fun fn => fm fn C)) (fun fo az =>
 gdT d az (fun fp => kI64 .add fi fo (fun fq => fp fq az)) (fun fr a0 =>
 gdT d a0 (fun fs => kI64 .lss fc fr (fun ft => fs ft a0)) (fun fu fv =>
 after (fun a1 a2 =>
 jn (fun (fw : Value) (fx : Hs) =>
 eu l a1 fw fx) fun fy =>
 cnd a1
 (clrK h (.bool false) a2)
 (fy au a2)) (A_y (.c fu) (.c (.bool false)) enE fv d)))))))))))))))))) (store1 2 ey (A_b ex) (addrOf l))) (B_h 60 [(.int .i64 (.ofNat 0)), (.int .i64 (.ofNat 0))] enE aw)))) fun fz =>
 cnd z
 (fz av)
 (el o z en eo au av))) (.int .i64 (.ofNat 0)) U V W eb ee)) (C_g 2 (.c ed) none (some (.c i)) none enE aq)))) fun f0 =>
 cnd ao
 (clrK h (.bool false) ap)
 (f0 X ap)) (A_y (.c (.bool true)) (.c d9) enE ea b))))))))))) (A_y (.c (.bool true)) (.c di) enE dj g)))))))) (A_y (.c (.bool true)) (.c c1) enE c2 j))))))))) (store1 2 co (A_b cn) (addrOf a))) (B_h 60 [(.int .i64 (.ofNat 0)), (.int .i64 (.ofNat 0))] enE Z)))) fun f1 =>
 cnd s
 (f1 Y)
 (b1 i s b3 b4 b5 b6 b7 U b8 V W X Y))) (.int .i64 (.ofNat 0)) dunno dunno dunno dunno dunno dunno dunno dunno dunno dunno bv P)))))))) fun f2 =>
 cnd bu
 (clrK h (.bool true) L)
 (f2 (.bool false) L)) (A_y (.c bs) (.c (.bool false)) enE bt f)))))))))))))))) (oBox 58 (.c a5) enE a7)) (oBox 23 (.c a3) enE a6)
theorem q87 (R : RnK) (N : Nat) (args : List Value) (h : Hs) : r87 R N args h = A_x Tryz.prog N R 87 args h := by kernel_rfl
noncomputable def r88 (R : RnK) (N : Nat) (args : List Value) (h : Hs) : An := unC args fun n J => enK h fun o =>
 after (fun p f =>
 A_a 3 p (fun q =>
 A_d q f (fun g =>
 B_v g (fun r =>
 jn (fun (K L s M : Value) (t : Hs) =>
 clrK h s t) fun u =>
 lpT (T := Value → Value → Value → Value → Hs → An) (fun _ _ _ _ _ => none) N (fun v =>
 fun (a O i w : Value) (j : Hs) =>
 kI64 .lss a r (fun b =>
 jn (fun (l : Hs) =>
 jn (fun (x y : Value) (z : Hs) =>
 kI64 .add a (.int .i64 (.ofNat 1)) (fun A =>
 v A b x y z)) fun B =>
 B_e 2 g a (fun C =>
 A_g 2 C l (fun D =>
 after (fun d E =>
 after (fun P m =>
 A_a 1 d (fun F =>
 A_d F m (fun G =>
 kI64 .add i G (fun H =>
 B H d m)))) (store1 2 E (A_b D) (addrOf d))) (B_h 60 [(.int .i64 (.ofNat 0)), (.int .i64 (.ofNat 0))] enE l)))) fun I =>
 cnd b
 (I j)
 (u a b i w j))) (.int .i64 (.ofNat 0)) dunno (.int .i64 (.ofNat 0)) dunno f)))) (oBox 58 (.c n) enE o)
theorem q88 (R : RnK) (N : Nat) (args : List Value) (h : Hs) : r88 R N args h = A_x Tryz.prog N R 88 args h := by kernel_rfl
noncomputable def r89 (R : RnK) (N : Nat) (args : List Value) (h : Hs) : An := unC args fun m Z => enK h fun n =>
 after (fun b a =>
 jn (fun (aa ab ac ad : Value) (o : Hs) =>
 clrK h (.int .i64 (.ofNat 0)) o) fun p =>
 A_a 2 b (fun q =>
 A_d q a (fun r =>
 kI64 .lss r (.int .i64 (.ofNat 0)) (fun f =>
 jn (fun (s t u : Value) (v : Hs) =>
 p f s t u v) fun w =>
 cnd f
 (clrK h (.int .i64 (.ofNat 0)) a)
 (A_a 0 b (fun x =>
 A_d x a (fun y =>
 kI64 .eql y (.int .i64 (.ofNat 2)) (fun g =>
 jn (fun (z A : Value) (B : Hs) =>
 w g z A B) fun C =>
 cnd g
 (A_a 2 b (fun D =>
 A_d D a (fun E =>
 clrK h E a)))
 (A_a 0 b (fun F =>
 A_d F a (fun G =>
 kI64 .eql G (.int .i64 (.ofNat 1)) (fun i =>
 jn (fun (j : Value) (d : Hs) =>
 jn (fun (H : Value) (I : Hs) =>
 C j H I) fun J =>
 cnd j
 (A_a 2 b (fun K =>
 A_d K d (fun L =>
 kI64 .quo L (.int .i64 (.ofNat 64)) (fun M =>
 A_a 2 b (fun O =>
 A_d O d (fun P =>
 kI64 .rem P (.int .i64 (.ofNat 64)) (fun Q =>
 after (fun S U =>
 kI64 .add M S (fun V =>
 clrK h V U)) (E_6 false [.c Q, .c (.int .i64 (.ofNat 1))] enE d))))))))
 (J (.int .i64 (.ofNat 0)) d)) fun l =>
 cnd i
 (l i a)
 (A_a 0 b (fun W =>
 A_d W a (fun X =>
 kI64 .eql X (.int .i64 (.ofNat 3)) (fun Y =>
 l Y a)))))))))))))))) (oBox 58 (.c m) enE n)
theorem q89 (R : RnK) (N : Nat) (args : List Value) (h : Hs) : r89 R N args h = A_x Tryz.prog N R 89 args h := by kernel_rfl
noncomputable def r90 (R : RnK) (N : Nat) (args : List Value) (h : Hs) : An := unC args fun q ba => enK h fun A =>
 B_v q (fun B =>
 jn (fun (bb bc bd be C : Value) (D : Hs) =>
 clrK h C D) fun E =>
 lpT (T := Value → Value → Value → Value → Value → Hs → An) (fun _ _ _ _ _ _ => none) N (fun F =>
 fun (b bf G H i : Value) (r : Hs) =>
 kI64 .lss b B (fun j =>
 jn (fun (s : Hs) =>
 jn (fun (I J K : Value) (L : Hs) =>
 kI64 .add b (.int .i64 (.ofNat 1)) (fun M =>
 F M j I J K L)) fun O =>
 B_e 2 q b (fun P =>
 A_g 2 P s (fun Q =>
 after (fun a S =>
 after (fun bg l =>
 A_a 1 a (fun U =>
 A_d U l (fun V =>
 kI64 .geq V (.int .i64 (.ofNat 1)) (fun d =>
 gdT d l (fun W => A_a 1 a (fun X => W X l)) (fun Y m =>
 gdT d m (fun Z => A_d Y m (fun aa => Z aa m)) (fun ab t =>
 gdT d t (fun ac => kI64 .leq ab (.int .i64 (.ofNat 1073741824)) (fun ad => ac ad t)) (fun ae af =>
 after (fun f u =>
 gdT f u (fun ag => A_a 0 a (fun ah => ag ah u)) (fun ai n =>
 gdT f n (fun aj => A_d ai n (fun ak => aj ak n)) (fun al v =>
 gdT f v (fun am => kI64 .geq al (.int .i64 (.ofNat 0)) (fun an => am an v)) (fun ao ap =>
 after (fun g w =>
 gdT g w (fun aq => A_a 0 a (fun ar => aq ar w)) (fun au o =>
 gdT g o (fun av => A_d au o (fun aw => av aw o)) (fun ax x =>
 gdT g x (fun ay => kI64 .leq ax (.int .i64 (.ofNat 1073741824)) (fun az => ay az x)) (fun a0 a1 =>
 after (fun y p =>
 jn (fun (a2 : Value) (a3 : Hs) =>
 O a y a2 a3) fun z =>
 cnd y
 (A_g 2 a p (fun a4 =>
 after (fun a5 a6 =>
 after (fun a7 a8 =>
 z a7 a8) (app0 60 2 16 a6 i a5)) (B_0 60 2 1 [(.int .i64 (.ofNat 0)), (.int .i64 (.ofNat 0))] [(0, 2, .c a4)] enE p)))
 (z i p)) (A_y (.c a0) (.c (.bool false)) enE a1 g))))) (A_y (.c ao) (.c (.bool false)) enE ap f))))) (A_y (.c ae) (.c (.bool false)) enE af d)))))))) (store1 2 S (A_b Q) (addrOf a))) (B_h 60 [(.int .i64 (.ofNat 0)), (.int .i64 (.ofNat 0))] enE s)))) fun a9 =>
 cnd j
 (a9 r)
 (E b j G H i r))) (.int .i64 (.ofNat 0)) dunno dunno dunno (.slice none 0 0) A)
theorem q90 (R : RnK) (N : Nat) (args : List Value) (h : Hs) : r90 R N args h = A_x Tryz.prog N R 90 args h := by kernel_rfl
noncomputable def r103 (R : RnK) (N : Nat) (args : List Value) (h : Hs) : An := unC args fun a c => unC c fun d n => enK h fun f =>
 kToU d (fun g =>
 kU64 .and g (.int .u64 (.ofNat 63)) (fun b =>
 kShl a b (fun i =>
 kU64 .sub (.int .u64 (.ofNat 64)) b (fun j =>
 kShr a j (fun l =>
 kU64 .or i l (fun m =>
 clrK h m f))))))
theorem q103 (R : RnK) (N : Nat) (args : List Value) (h : Hs) : r103 R N args h = A_x Tryz.prog N R 103 args h := by kernel_rfl
noncomputable def r104 (R : RnK) (N : Nat) (args : List Value) (h : Hs) : An := unC args fun c l => unC l fun m G => enK h fun n =>
 B_v c (fun o =>
 jn (fun (H I J K L : Value) (p : Hs) =>
 clrK h (.int .i64 (.negSucc 0)) p) fun q =>
 lpT (T := Value → Value → Value → Value → Value → Hs → An) (fun _ _ _ _ _ _ => none) N (fun r =>
 fun (a M s t d : Value) (f : Hs) =>
 kI64 .lss a o (fun b =>
 jn (fun (g : Hs) =>
 jn (fun (u v w : Value) (x : Hs) =>
 kI64 .add a (.int .i64 (.ofNat 1)) (fun y =>
 r y b u v w x)) fun z =>
 B_e 2 c a (fun A =>
 A_g 2 A g (fun B =>
 I_o R m [B] g (fun i j =>
 jn (fun (C : Value) (D : Hs) =>
 z a i C D) fun E =>
 cnd i
 (clrK h a j)
 (E d j))))) fun F =>
 cnd b
 (F f)
 (q a b s t d f))) (.int .i64 (.ofNat 0)) dunno dunno dunno (.int .i64 (.ofNat 0)) n)
theorem q104 (R : RnK) (N : Nat) (args : List Value) (h : Hs) : r104 R N args h = A_x Tryz.prog N R 104 args h := by kernel_rfl
noncomputable def r105 (R : RnK) (N : Nat) (args : List Value) (h : Hs) : An := unC args fun a i => unC i fun j w => enK h fun d =>
 kI64 .rem j (.int .i64 (.ofNat 64)) (fun b =>
 kI64 .lss b (.int .i64 (.ofNat 0)) (fun l =>
 jn (fun (c : Value) (f : Hs) =>
 kI64 .eql c (.int .i64 (.ofNat 0)) (fun m =>
 jn (fun (x : Value) (n : Hs) =>
 kToU c (fun o =>
 kShl a o (fun p =>
 kI64 .sub (.int .i64 (.ofNat 64)) c (fun q =>
 kToU q (fun r =>
 kShr a r (fun s =>
 kU64 .or p s (fun t =>
 clrK h t n))))))) fun u =>
 cnd m
 (clrK h a f)
 (u (.int .u64 (.ofNat 0)) f))) fun g =>
 cnd l
 (kI64 .add b (.int .i64 (.ofNat 64)) (fun v =>
 g v d))
 (g b d)))
theorem q105 (R : RnK) (N : Nat) (args : List Value) (h : Hs) : r105 R N args h = A_x Tryz.prog N R 105 args h := by kernel_rfl
noncomputable def r106 (R : RnK) (N : Nat) (args : List Value) (h : Hs) : An := unC args fun c n => unC n fun f P => enK h fun g =>
 B_v c (fun o =>
 B_v f (fun p =>
 kI64 .neq o p (fun q =>
 jn (fun (r : Value) (s : Hs) =>
 B_v c (fun t =>
 jn (fun (Q S U V W : Value) (u : Hs) =>
 clrK h (.bool true) u) fun v =>
 lpT (T := Value → Value → Value → Value → Value → Hs → An) (fun _ _ _ _ _ _ => none) N (fun w =>
 fun (b X x y j : Value) (l : Hs) =>
 kI64 .lss b t (fun d =>
 jn (fun (a : Hs) =>
 jn (fun (z A B : Value) (C : Hs) =>
 kI64 .add b (.int .i64 (.ofNat 1)) (fun D =>
 w D d z A B C)) fun E =>
 B_e 2 c b (fun F =>
 A_g 2 F (Hs.mk a.hp a.nx a.nx) (fun G =>
 B_e 2 f b (fun H =>
 A_g 2 H (Hs.mk a.hp a.nx a.nx) (fun I =>
 obK (fun m =>
 jn (fun (J : Value) (K : Hs) =>
 E b m J K) fun L =>
 cnd m
 (clrK h (.bool false) a)
 (L j a)) (e2 true (qA [.i, .i]) G I)))))) fun M =>
 cnd d
 (M l)
 (v b d x y j l))) (.int .i64 (.ofNat 0)) dunno dunno dunno r s)) fun O =>
 cnd q
 (clrK h (.bool false) g)
 (O (.bool false) g))))
theorem q106 (R : RnK) (N : Nat) (args : List Value) (h : Hs) : r106 R N args h = A_x Tryz.prog N R 106 args h := by kernel_rfl
noncomputable def entries : List (Nat × FnK) := [(3, r3), (5, r5), (6, r6), (7, r7), (8, r8), (9, r9), (10, r10), (11, r11), (16, r16), (17, r17), (18, r18), (19, r19), (20, r20), (21, r21), (22, r22), (23, r23), (24, r24), (25, r25), (26, r26), (27, r27), (28, r28), (29, r29), (30, r30), (31, r31), (32, r32), (33, r33), (34, r34), (35, r35), (36, r36), (37, r37), (38, r38), (39, r39), (40, r40), (51, r51), (52, r52), (53, r53), (54, r54), (55, r55), (56, r56), (57, r57), (58, r58), (59, r59), (61, r61), (62, r62), (63, r63), (64, r64), (65, r65), (66, r66), (68, r68), (79, r79), (80, r80), (81, r81), (82, r82), (83, r83), (84, r84), (85, r85), (86, r86), (87, r87), (88, r88), (89, r89), (90, r90), (103, r103), (104, r104), (105, r105), (106, r106)]
theorem H_t : AllOk Tryz.prog entries := ⟨q3, q5, q6, q7, q8, q9, q10, q11, q16, q17, q18, q19, q20, q21, q22, q23, q24, q25, q26, q27, q28, q29, q30, q31, q32, q33, q34, q35, q36, q37, q38, q39, q40, q51, q52, q53, q54, q55, q56, q57, q58, q59, q61, q62, q63, q64, q65, q66, q68, q79, q80, q81, q82, q83, q84, q85, q86, q87, q88, q89, q90, q103, q104, q105, q106, trivial⟩
end Go.Proofs.YtdgcebfncbmbfaaGreatDoor.imageMakes
